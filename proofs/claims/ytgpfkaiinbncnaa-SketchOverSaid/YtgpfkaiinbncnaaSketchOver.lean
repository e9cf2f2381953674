/- SketchOver: the walk. -/
import Derived.Test.YtgpfkaiinbncnaaSketchX
import Derived.Test.YtgpfkaiinbncnaaBytes
import Derived.Deep.RegionHeld3
namespace Go.Proofs.Ytgpfkaiinbncnaa
open Go.RowKit

/-- what Add in the law's loop leaves, with the variable made behind the call -/
theorem over_behind {w wr w1 w5 : World} {p d wd : Nat} {rv rv' : Value} {F : Nat → Nat → Int} (hF : Fr [] w wr) (hp : wr.heap[p]? = some (.cells #[.int .i64 wd, rv] 27 (0, 0))) (h1 : Fr [] wr w1) (hs : SkO w5 w1.heap.size rv' d wd F) (hf : Fr [] w1 w5) :
    (w5.alloc (.cells #[.int .i64 wd, rv'] 27)).heap[w5.heap.size]? = some (.cells #[.int .i64 wd, rv'] 27 (0, 0)) ∧ (w5.alloc (.cells #[.int .i64 wd, rv'] 27)).heap[p]? = some (.cells #[.int .i64 wd, rv] 27 (0, 0)) ∧
      p < w5.heap.size ∧ SkX (w5.alloc (.cells #[.int .i64 wd, rv'] 27)) [p] rv' d wd F ∧ Fr [] w (w5.alloc (.cells #[.int .i64 wd, rv'] 27)) := by
  have e1 := lt_of_blk hp
  have e2 := h1.size
  have e3 := hf.size
  have hfa : Fr [] wr (w5.alloc (.cells #[.int .i64 wd, rv'] 27)) := (h1.trans hf (by simp)).alloc _
  refine ⟨heap_alloc_new _ _, hfa.blk hp (by simp), by omega, ?_, hF.trans hfa (by simp)⟩
  exact (hs.x (S := [p]) (by simp; omega)).go ((Fr.refl [] w5).alloc _) (by simp)

/-- .. and with the variable made ahead of the call -/
theorem over_ahead {w wr w1 w5 : World} {p d wd : Nat} {rv rv' x0 y0 : Value} {F : Nat → Nat → Int} (hF : Fr [] w wr) (hp : wr.heap[p]? = some (.cells #[.int .i64 wd, rv] 27 (0, 0))) (h1 : w1 = (wr.alloc (.cells #[x0, y0] 27)).drew) (hs : SkO w5 w1.heap.size rv' d wd F) (hf : Fr [] w1 w5) :
    ((w5.setCell ⟨wr.heap.size, 0, none⟩ (.int .i64 wd)).setCell ⟨wr.heap.size, 1, none⟩ rv').heap[wr.heap.size]? = some (.cells #[.int .i64 wd, rv'] 27 (0, 0)) ∧
    ((w5.setCell ⟨wr.heap.size, 0, none⟩ (.int .i64 wd)).setCell ⟨wr.heap.size, 1, none⟩ rv').heap[p]? = some (.cells #[.int .i64 wd, rv] 27 (0, 0)) ∧
      p < wr.heap.size ∧ SkX ((w5.setCell ⟨wr.heap.size, 0, none⟩ (.int .i64 wd)).setCell ⟨wr.heap.size, 1, none⟩ rv') [p] rv' d wd F ∧ Fr [] w ((w5.setCell ⟨wr.heap.size, 0, none⟩ (.int .i64 wd)).setCell ⟨wr.heap.size, 1, none⟩ rv') := by
  have e1 := lt_of_blk hp
  have hn : w1.heap[wr.heap.size]? = some (.cells #[x0, y0] 27 (0, 0)) := by rw [h1]; exact heap_alloc_new wr (.cells #[x0, y0] 27)
  have hn5 := hf.blk hn (by simp)
  have e2 := lt_of_blk hn
  have hw1 : Fr [] wr w1 := by rw [h1]; exact ((Fr.refl [] wr).alloc _).drew
  have hq : Fr [wr.heap.size] w5 ((w5.setCell ⟨wr.heap.size, 0, none⟩ (.int .i64 wd)).setCell ⟨wr.heap.size, 1, none⟩ rv') := ((Fr.refl [wr.heap.size] w5).setCell (p := ⟨wr.heap.size, 0, none⟩) (by simp) _).setCell (p := ⟨wr.heap.size, 1, none⟩) (by simp) _
  refine ⟨blk_set2 hn5 _ _, hq.blk ((hw1.trans hf (by simp)).blk hp (by simp)) (by simp; omega), e1, ?_, ?_⟩
  · have e3 : wr.heap.size < w1.heap.size := by simpa using e2
    exact ((hs.kept hq (by simp; omega))).x (by simp; omega)
  · refine hF.trans ((hw1.trans hf (by simp)).trans hq (fun x hx => .inr (by simp at hx; omega)) : Fr [] wr _) (by simp)

set_option maxRecDepth 100000 in
set_option maxHeartbeats 4000000 in
theorem sketchOver_any (w : World) (deep wide : Int) (am : Option Addr) (M Cm : Nat) (V : Nat → Value) (A : Nat → Option Addr) (L C : Nat → Nat) (F : Nat → Nat → Int)
    (hm : RdF w (.slice am M Cm) M V) (hV : ∀ i, i < M → V i = .slice (A i) (L i) (C i)) (hr : ∀ i, i < M → RdF w (.slice (A i) (L i) (C i)) (L i) (fun j => .int .u8 (F i j)))
    (hF : ∀ i j, i < M → j < L i → 0 ≤ F i j ∧ F i j ≤ 255) (hL : ∀ i, i < M → L i ≤ 140737488351232) (hM : M ≤ 9223372036854775807)
    (an : Option Addr) (nn nc : Nat) (ns : Nat → Int) (hn : RdF w (.slice an nn nc) nn (fun j => .int .i64 (ns j))) (hnn : nn ≤ 9223372036854775807) :
    Calls Try.prog 3 #[.int .i64 deep, .int .i64 wide, .slice am M Cm, .slice an nn nc] w fun e w' => e = .returned (.bool true) ∧ Fr [] w w' := by
  have HM := Lib.hid hm; clear hm
  have HV := Lib.hid hV; clear hV
  have HR := Lib.hid hr; clear hr
  have HF := Lib.hid hF; clear hF
  have HL := Lib.hid hL; clear hL
  have HN := Lib.hid hn; clear hn
  go_enter Try.func3, Try.ntmps3
  go_wp2_with fail
  refine (sketched_any _).mono ?_
  rintro e w1 ⟨rfl, hf⟩
  have HF1 := Lib.hid hf; clear hf
  go_wp2_with fail
  by_cases hok : 1 ≤ deep ∧ deep ≤ 8 ∧ 1 ≤ wide ∧ wide ≤ 1000
  case neg =>
    refine (sketch_new_fault _ deep wide hok).mono ?_
    rintro e w2 ⟨rfl, hf⟩
    have HF2 := Lib.hid (((HF1.out.trans hf (by simp))).alloc (.cells #[.int .i64 0, .slice none 0 0] 27)); clear hf
    go_wp2
    go_ret
    exact ⟨rfl, HF2.out⟩
  refine (sketch_new _ deep wide ⟨hok.1, hok.2.1⟩ ⟨hok.2.2.1, hok.2.2.2⟩).mono ?_
  obtain ⟨d, rfl⟩ : ∃ D : Nat, deep = (D : Int) := ⟨deep.toNat, by omega⟩
  obtain ⟨wd, rfl⟩ : ∃ K : Nat, wide = (K : Int) := ⟨wide.toNat, by omega⟩
  simp only [Int.toNat_natCast]
  have hd : 1 ≤ d ∧ d ≤ 8 := by omega
  have hw : 1 ≤ wd ∧ wd ≤ 1000 := by omega
  clear hok
  rintro e w2 ⟨rv, rfl, hs, hf⟩
  have hpw := (HF1.out.trans hf (by simp) : Fr [] w w2).size
  have HF2 := Lib.hid (((HF1.out.trans hf (by simp))).alloc (.cells #[.int .i64 wd, rv] 27)); clear hf
  obtain ⟨ra, rc, hra⟩ := hs.slice
  subst hra
  by_cases hMb : 40 < M
  · go_wp2
    go_ret
    exact ⟨rfl, HF2.out⟩
  by_cases hNb : nn < M
  · go_wp2
    go_ret
    exact ⟨rfl, HF2.out⟩
  obtain ⟨SP, SK, hSP, hSPl, hSK0, hSK1, hSKb, hSK⟩ := skt_letters wd L F ns hw
  have HSPL := Lib.hid (fun (t : Nat) (w1 : World) (h1 : Fr [] w w1) (ht : t < M) rv => place_sp w1 rv wd (L t) d (A t) (C t) (F t) (SP t) (hSP t) ((HR.out t ht).fr h1 (by simp)) (fun j hj => HF.out t j ht hj) hd.2 hw (HL.out t ht))
  have HSPT := Lib.hid hSPl
  have HSK1 := Lib.hid hSK1
  have HSKB := Lib.hid hSKb
  have HTOLD := Lib.hid (fun t (hns : ∀ j, j < M → 0 ≤ ns j ∧ ns j ≤ 1000) (eqk : Nat → Bool) he => by
    have h := skt_told wd d L F ns M t (by omega) (by omega) hns eqk he
    have e : (fun i => skt wd L F ns M i (spt wd i (L t) (F t))) = (fun i => SK M i (SP t i)) := by funext i; rw [hSK, hSP]
    rw [e] at h
    exact h : ∀ t, (∀ j, j < M → 0 ≤ ns j ∧ ns j ≤ 1000) → ∀ eqk : Nat → Bool, (∀ j, j < M → eqk j = true → L j = L t ∧ ∀ x, x < L t → F j x = F t x) →
      csum ns eqk M ≤ lea (fun i => SK M i (SP t i)) d ∧ lea (fun i => SK M i (SP t i)) d ≤ csum ns (fun _ => true) M)
  have hx : SkX w2 [w2.heap.size] (.slice ra d rc) d wd (SK 0) := (hs.congr (fun i _ j _ => (hSK0 i j).symm)).x (by simp)
  have HX := Lib.hid (hx.go ((Fr.refl [] w2).alloc (.cells #[.int .i64 wd, .slice ra d rc] 27)) (by simp))
  have hb := heap_alloc_new w2 (.cells #[.int .i64 wd, .slice ra d rc] 27)
  have HB := Lib.hid hb
  clear hSP hSPl hSK0 hSK1 hSKb hSK hx hb hs
  go_wp2
  generalize w2.alloc (.cells #[.int .i64 wd, .slice ra d rc] 27) = w3 at *
  generalize w2.heap.size = p at *
  go_loopw [12, 13, 14, 15] (fun all i _ _ wr => ∃ (k : Nat) (rv : Value), k ≤ M ∧ i = .int .i64 k ∧ all = .int .i64 (csum ns (fun _ => true) k) ∧ (∀ j, j < k → 0 ≤ ns j ∧ ns j ≤ 1000) ∧ wr.heap[p]? = some (.cells #[.int .i64 wd, rv] 27 (0, 0)) ∧ SkX wr [p] rv d wd (SK k) ∧ Fr [] w wr) (fun _ i _ _ _ => M - (intOf i).toNat)
  case atStart => exact ⟨0, _, by omega, rfl, rfl, fun j hj => by omega, HB.out, HX.out, HF2.out⟩
  case round =>
    clear HB HX HF2
    obtain ⟨k, rv, hkM, rfl, rfl, hns, hb, hx, hf⟩ := hrel
    obtain ⟨ra, rc, hra⟩ := hx.now.slice
    subst hra
    have HX := Lib.hid hx; clear hx
    have HB := Lib.hid hb
    have HFR := Lib.hid hf; clear hf
    have hcs := csum_bd ns (fun _ => true) k hns
    have HCS := Lib.hid (show csum ns (fun _ => true) (k + 1) = csum ns (fun _ => true) k + ns k from rfl)
    have HNS := Lib.hid hns; clear hns
    by_cases hlt : k < M
    · obtain ⟨b, o, cm, he, _, _, _, hc⟩ := HM.out.shape (by omega)
      simp only [Value.slice.injEq, true_and] at he
      obtain ⟨rfl, rfl⟩ := he
      obtain ⟨bn, on, cn, he, _, _, _, hcn⟩ := HN.out.shape (by omega)
      simp only [Value.slice.injEq, true_and] at he
      obtain ⟨rfl, rfl⟩ := he
      have k1 : wr.cell? ⟨b, o + k, none⟩ = some (.slice (A k) (L k) (C k)) := by rw [← HV.out k hlt]; exact HFR.out.cell (hc k hlt) (by simp)
      have k2 := HFR.out.cell (hcn k (by omega)) (by simp)
      have HM0 := Lib.hid hc
      have HN0 := Lib.hid hcn
      clear hc hcn
      have k0 : (0 : Int) ≤ (k : Int) := by omega
      have k3 : (k : Int) < (M : Int) := by omega
      have k4 : (k : Int) < (nn : Int) := by omega
      by_cases hlo : ns k < 0
      · go_wp2
        go_ret
        exact ⟨rfl, HFR.out⟩
      by_cases hhi : 1000 < ns k
      · go_wp2
        go_ret
        exact ⟨rfl, HFR.out⟩
      have hok : SkOk d wd (SK k) := ⟨hd, hw, fun i _ j _ => by have := HSKB.out k i j HNS.out; omega⟩
      have HADD := Lib.hid (fun (w1 : World) (h1 : Fr [] wr w1) => sketch_add w1 (.slice ra d rc) d wd (L k) (SK k) (A k) (C k) (SP k) (ns k) (HX.out.now.fr h1) hok (fun i _ => HSPT.out k i) (by omega) (fun i _ => by have := HSKB.out k i (SP k i) HNS.out; omega)
        (HSPL.out k w1 (HFR.out.trans h1 (by simp)) hlt _))
      clear hok
      have hsum : IntKind.i64.wrap (csum ns (fun _ => true) k + ns k) = csum ns (fun _ => true) k + ns k := IntWalk.i64_in _ (by omega)
      have c0 := blk_cell hb 0 rfl
      have c1 := blk_cell hb 1 rfl
      have hpl := lt_of_blk hb
      have n0 : p ≠ wr.heap.size := by omega
      have n2 : b ≠ wr.heap.size := by have := World.block_lt_of_cell? wr _ k1; simp at this; omega
      have n3 : bn ≠ wr.heap.size := by have := World.block_lt_of_cell? wr _ k2; simp at this; omega
      clear hb
      go_upto_region 13 with fail
      go_cut [14, 15] (fun t e wy => e = .nilIface ∧ ∃ (px : Nat) (rv' : Value), t = .pointer (some ⟨px, 0, none⟩) ∧ wy.heap[px]? = some (.cells #[.int .i64 wd, rv'] 27 (0, 0)) ∧ wy.heap[p]? = some (.cells #[.int .i64 wd, .slice ra d rc] 27 (0, 0)) ∧
          p < px ∧ SkX wy [p] rv' d wd (fun i j => if j = SP k i then SK k i j + ns k else SK k i j) ∧ Fr [] w wy)
      case first =>
        go_region_held3 (fun w' => w'.cell? ⟨p, 0, none⟩ = some (.int .i64 wd) ∧ w'.cell? ⟨p, 1, none⟩ = some (.slice ra d rc) ∧ w'.cell? ⟨b, o + k, none⟩ = some (.slice (A k) (L k) (C k)) ∧ w'.cell? ⟨bn, on + k, none⟩ = some (.int .i64 (ns k)))
          (first | exact ⟨x0, x1, x2, x3⟩ | exact ⟨cell_stay (cell_stay x0 n0) n0, cell_stay (cell_stay x1 n0) n0, cell_stay (cell_stay x2 n2) n2, cell_stay (cell_stay x3 n3) n3⟩ | go_keep)
          ((go_at_call 13; refine (HADD.out _ (by first | exact (Fr.refl [] wr).drew | exact ((Fr.refl [] wr).drew).alloc _)).mono ?_; rintro e w5 ⟨rv', rfl, hs5, hf5⟩; obtain ⟨ra', rc', hra'⟩ := hs5.told.slice; subst hra'; have x0 := hf5.cell (p := ⟨p, 0, none⟩) (v := .int .i64 wd) (by first | exact c0 | exact ((Fr.refl [] wr.drew).alloc _).cell c0 (by simp)) (by simp); have x1 := hf5.cell (p := ⟨p, 1, none⟩) (v := .slice ra d rc) (by first | exact c1 | exact ((Fr.refl [] wr.drew).alloc _).cell c1 (by simp)) (by simp); have x2 := hf5.cell (p := ⟨b, o + k, none⟩) (v := .slice (A k) (L k) (C k)) (by first | exact k1 | exact ((Fr.refl [] wr.drew).alloc _).cell k1 (by simp)) (by simp); have x3 := hf5.cell (p := ⟨bn, on + k, none⟩) (v := .int .i64 (ns k)) (by first | exact k2 | exact ((Fr.refl [] wr.drew).alloc _).cell k2 (by simp)) (by simp); (try (have q0 := hf5.blk (b := wr.heap.size) (heap_alloc_new wr.drew _) (by simp); have q1 := blk_cell q0 0 rfl; have q2 := blk_cell q0 1 rfl; have q3 := blk_frozen q0 0; have q4 := blk_frozen q0 1; have q5 := lt_of_blk q0; clear q0))))
        all_goals (go_wp2_with fail; go_meet)
        all_goals first
          | exact ⟨rfl, _, _, rfl, over_behind HFR.out HB.out ((Fr.refl [] wr).drew) hs5 hf5⟩
          | exact ⟨rfl, _, _, rfl, over_ahead HFR.out HB.out rfl hs5 hf5⟩
      case rest =>
        obtain ⟨rfl, px, rv', rfl, hbx, hb, hpx, hx, hf⟩ := hcut
        obtain ⟨ra', rc', hra'⟩ := hx.now.slice
        subst hra'
        obtain ⟨⟨x0, y0, x1, y1⟩, ⟨x2, y2⟩, _, _⟩ := two_store hb (.int .i64 wd) (.slice ra' d rc')
        have hff : Fr [p] wc ((wc.setCell ⟨p, 0, none⟩ (.int .i64 wd)).setCell ⟨p, 1, none⟩ (.slice ra' d rc')) := ((Fr.refl [p] wc).setCell (p := ⟨p, 0, none⟩) (by simp) _).setCell (p := ⟨p, 1, none⟩) (by simp) _
        have c2 := blk_cell hbx 0 rfl
        have c3 := blk_cell hbx 1 rfl
        have hp2 := lt_of_blk hbx
        have HFN := Lib.hid (hf.trans hff (fun y hy => .inr (by simp at hy; omega)) : Fr [] w _)
        have k5 := HFN.out.cell (HN0.out k (by omega)) (by simp)
        have HBN := Lib.hid (blk_set2 hb (.int .i64 wd) (.slice ra' d rc'))
        have HXN := Lib.hid ((hx.go hff (by simp)).congr (G := SK (k + 1)) (fun i _ j _ => HSK1.out k i j))
        have HNS1 := Lib.hid (show ∀ j, j < k + 1 → 0 ≤ ns j ∧ ns j ≤ 1000 from fun j hj => by
          by_cases h : j < k
          · exact HNS.out j h
          · obtain rfl : j = k := by omega
            omega)
        clear hbx hb hx hf hff k1 k2 c0 c1
        go_wp2
        go_roundw
        case rel => exact ⟨k + 1, _, by omega, by go_num, by rw [HCS.out], HNS1.out, HBN.out, HXN.out, HFN.out⟩
        case measure => simp [intOf]; omega
    · obtain rfl : k = M := by omega
      clear HCS
      generalize hall : csum ns (fun _ => true) k = all at *
      have HALL := Lib.hid hall; clear hall
      have HPL := Lib.hid hpw
      clear hb
      rename World => wl
      go_wp2
      go_loopw [16, 17, 18, 19, 20, 21] (fun i _ _ _ _ _ wq => ∃ t : Nat, t ≤ k ∧ i = .int .i64 t ∧ Fr [] wl wq) (fun i _ _ _ _ _ _ => k - (intOf i).toNat)
      case atStart => exact ⟨0, by omega, rfl, Fr.refl _ _⟩
      case round =>
        obtain ⟨t, htk, rfl, hfq⟩ := hrel
        have HFQ := Lib.hid hfq; clear hfq
        by_cases hlt2 : t < k
        · go_wp2
          rename World => wq
          go_loopw [17, 18, 19] (fun own j _ wr => ∃ q : Nat, q ≤ k ∧ j = .int .i64 q ∧ own = .int .i64 (csum ns (fun u => decide (L u = L t) && eqUpTo (F u) (F t) (L u)) q) ∧ Fr [] wl wr) (fun _ j _ _ => k - (intOf j).toNat)
          case atStart => exact ⟨0, by omega, rfl, rfl, HFQ.out⟩
          case round =>
            obtain ⟨q, hqk, rfl, rfl, hfr⟩ := hrel
            have HFI := Lib.hid hfr; clear hfr
            have hcs2 := csum_bd ns (fun u => decide (L u = L t) && eqUpTo (F u) (F t) (L u)) q (fun j hj => HNS.out j (by omega))
            have hsuc : csum ns (fun u => decide (L u = L t) && eqUpTo (F u) (F t) (L u)) (q + 1) = if (decide (L q = L t) && eqUpTo (F q) (F t) (L q)) = true then csum ns (fun u => decide (L u = L t) && eqUpTo (F u) (F t) (L u)) q + ns q else csum ns (fun u => decide (L u = L t) && eqUpTo (F u) (F t) (L u)) q := rfl
            obtain ⟨b, o, cm, he, _, _, _, hc⟩ := HM.out.shape (by omega)
            simp only [Value.slice.injEq, true_and] at he
            obtain ⟨rfl, rfl⟩ := he
            have k0 : (0 : Int) ≤ (q : Int) := by omega
            have k1 : (q : Int) < (k : Int) ∨ q = k := by omega
            have k2 : (0 : Int) ≤ (t : Int) := by omega
            have k3 : (t : Int) < (k : Int) := by omega
            have x1 : wr.cell? ⟨b, o + t, none⟩ = some (.slice (A t) (L t) (C t)) := by rw [← HV.out t hlt2]; exact HFI.out.cell (HFR.out.cell (hc t hlt2) (by simp)) (by simp)
            by_cases hqm : q < k
            · have k4 : (q : Int) < (k : Int) := by omega
              have x0 : wr.cell? ⟨b, o + q, none⟩ = some (.slice (A q) (L q) (C q)) := by rw [← HV.out q hqm]; exact HFI.out.cell (HFR.out.cell (hc q hqm) (by simp)) (by simp)
              obtain ⟨bn, on, cn, he, _, _, _, hcn⟩ := HN.out.shape (by omega)
              simp only [Value.slice.injEq, true_and] at he
              obtain ⟨rfl, rfl⟩ := he
              have k5 : (q : Int) < (nn : Int) := by omega
              have hnsq := HNS.out q hqm
              have HCN := Lib.hid (fun (w' : World) (h : Fr [] wl w') => h.cell (HFR.out.cell (hcn q (by omega)) (by simp)) (by simp))
              have HBY := Lib.hid (fun u : Nat => (bytes_any (wr.drewN u) (A q) (A t) (L q) (L t) (C q) (C t) (F q) (F t) ((HR.out q hqm).fr ((HFR.out.trans HFI.out (by simp)).drewN u) (by simp)) ((HR.out t hlt2).fr ((HFR.out.trans HFI.out (by simp)).drewN u) (by simp)) (by have := HL.out q hqm; omega) (by have := HL.out t hlt2; omega)))
              clear hc hcn
              generalize (decide (L q = L t) && eqUpTo (F q) (F t) (L q)) = same at *
              have HSUC := Lib.hid hsuc; clear hsuc
              generalize csum ns (fun u => decide (L u = L t) && eqUpTo (F u) (F t) (L u)) q = own at *
              have hsum : IntKind.i64.wrap (own + ns q) = own + ns q := IntWalk.i64_in _ (by omega)
              go_wp2_with fail
              go_quiet ((go_at_call 14; exact Calls.quiet_of (HBY.out _)))
              have HF9 := Lib.hid (fun m => HFI.out.drewN m)
              have x5 := fun m => HCN.out _ (HFI.out.drewN m)
              cases same
              · go_wp2
                go_roundw
                case rel => exact ⟨q + 1, by omega, by go_num, by rw [HSUC.out]; rfl, HF9.out _⟩
                case measure => simp [intOf]; omega
              · go_wp2
                go_roundw
                case rel => exact ⟨q + 1, by omega, by go_num, by rw [HSUC.out]; rfl, HF9.out _⟩
                case measure => simp [intOf]; omega
            · obtain rfl : q = k := by omega
              have c0 := HFI.out.cell (blk_cell HB.out 0 rfl) (by simp)
              have c1 := HFI.out.cell (blk_cell HB.out 1 rfl) (by simp)
              have htold := HTOLD.out t HNS.out (fun u => decide (L u = L t) && eqUpTo (F u) (F t) (L u)) (fun j hj h => by
                rw [Bool.and_eq_true, decide_eq_true_eq, eqUpTo_iff] at h
                exact ⟨h.1, fun x hx => h.2 x (by omega)⟩)
              have HC := Lib.hid (sketch_count wr.drew (.slice ra d rc) d wd (L t) (SK q) (A t) (C t) (SP t) ((HX.out.now.fr HFI.out).fr ((Fr.refl [] wr).drew)) ⟨hd, hw, fun i _ j _ => by have := HSKB.out q i j HNS.out; omega⟩ (fun i _ => HSPT.out t i)
                (HSPL.out t wr.drew ((HFR.out.trans HFI.out (by simp)).drew) hlt2 _))
              clear hc hsuc
              generalize lea (fun i => SK q i (SP t i)) d = cc at *
              generalize csum ns (fun u => decide (L u = L t) && eqUpTo (F u) (F t) (L u)) q = own at *
              have h1 : ¬ cc < own := by omega
              have h2 : ¬ all < cc := by omega
              go_wp2_with fail
              go_region_held3 (fun w' => w'.cell? ⟨p, 0, none⟩ = some (.int .i64 wd) ∧ w'.cell? ⟨p, 1, none⟩ = some (.slice ra d rc) ∧ w'.cell? ⟨b, o + t, none⟩ = some (.slice (A t) (L t) (C t)))
                (first | exact ⟨y0, y1, y2⟩ | go_keep)
                ((go_at_call 15; refine HC.out.mono ?_; rintro e w5 ⟨rfl, hf5⟩; have hf6 := ((Fr.refl [] wr).drew).trans hf5 (by simp); have y0 := hf6.cell c0 (by simp); have y1 := hf6.cell c1 (by simp); have y2 := hf6.cell x1 (by simp)))
              all_goals
                go_wp2
                go_roundw
                case rel => exact ⟨t + 1, by omega, by go_num, HFI.out.trans hf6 (by simp)⟩
                case measure => simp [intOf]; omega
        · obtain rfl : t = k := by omega
          go_wp2
          go_ret
          exact ⟨rfl, HFR.out.trans HFQ.out (by simp)⟩

end Go.Proofs.Ytgpfkaiinbncnaa
