/- SketchJoins: the walk. -/
import Derived.Test.YtgpfkaiinbncnaaSketchJoin
import Derived.Test.YtgpfkaiinbncnaaSketches
import Derived.Deep.RegionHeld3
namespace Go.Proofs.Ytgpfkaiinbncnaa
open Go.RowKit

theorem SkO.congr {w : World} {B : Nat} {rv : Value} {d wd : Nat} {F G : Nat → Nat → Int} (h : SkO w B rv d wd F) (he : ∀ i, i < d → ∀ j, j < wd → F i j = G i j) : SkO w B rv d wd G := by
  obtain ⟨rg, rc, h1, h2⟩ := h
  exact ⟨rg, rc, h1, fun i hi => ⟨(h2 i hi).1, (h2 i hi).2.congr (fun j hj => by rw [he i hi j hj])⟩⟩

theorem sketch_add_to (w : World) (rv : Value) (d wd n : Nat) (F G : Nat → Nat → Int) (a : Option Addr) (c : Nat) (sp : Nat → Nat) (x : Int) (hs : SkF w rv d wd F) (hok : SkOk d wd F)
    (hsl : ∀ i, i < d → sp i < wd) (hx : 0 ≤ x ∧ x ≤ 1125899906842624) (hmx : ∀ i, i < d → F i (sp i) + x ≤ 1125899906842624)
    (hpl : ∀ w1, Fr [] w w1 → ∀ i, i < d → Calls Try.prog 35 #[.agg #[.int .i64 wd, rv], .int .i64 i, .slice a n c] w1 fun e w' => e = .returned (.int .i64 (sp i)) ∧ Fr [] w1 w')
    (he : ∀ i p, (if p = sp i then F i p + x else F i p) = G i p) :
    Calls Try.prog 13 #[.agg #[.int .i64 wd, rv], .slice a n c, .int .i64 x] w fun e w' =>
      ∃ rv', e = .returned (.tuple #[.agg #[.int .i64 wd, rv'], .nilIface]) ∧ SkO w' w.heap.size rv' d wd G ∧ Fr [] w w' := by
  refine (sketch_add w rv d wd n F a c sp x hs hok hsl hx hmx hpl).mono ?_
  rintro e w' ⟨rv', h1, h2, h3⟩
  exact ⟨rv', h1, h2.congr (fun i _ j _ => he i j), h3⟩

theorem sk_behind {wr w1 w5 : World} {S : List Nat} {d wd : Nat} {rv' : Value} {F : Nat → Nat → Int} (hS : ∀ x ∈ S, x < wr.heap.size) (h1 : Fr [] wr w1) (hs : SkO w5 w1.heap.size rv' d wd F) (hf : Fr [] w1 w5) :
    (w5.alloc (.cells #[.int .i64 wd, rv'] 27)).heap[w5.heap.size]? = some (.cells #[.int .i64 wd, rv'] 27 (0, 0)) ∧ wr.heap.size ≤ w5.heap.size ∧
      SkX (w5.alloc (.cells #[.int .i64 wd, rv'] 27)) S rv' d wd F ∧ Fr [] wr (w5.alloc (.cells #[.int .i64 wd, rv'] 27)) := by
  have e2 := h1.size
  have e3 := hf.size
  refine ⟨heap_alloc_new _ _, by omega, ?_, (h1.trans hf (by simp)).alloc _⟩
  exact (hs.x (S := S) (fun x hx => by have := hS x hx; omega)).go ((Fr.refl [] w5).alloc _) (by simp)

theorem sk_ahead {wr w1 w5 : World} {S : List Nat} {d wd : Nat} {rv' x0 y0 : Value} {F : Nat → Nat → Int} (hS : ∀ x ∈ S, x < wr.heap.size) (h1 : w1 = (wr.alloc (.cells #[x0, y0] 27)).drew) (hs : SkO w5 w1.heap.size rv' d wd F) (hf : Fr [] w1 w5) :
    ((w5.setCell ⟨wr.heap.size, 0, none⟩ (.int .i64 wd)).setCell ⟨wr.heap.size, 1, none⟩ rv').heap[wr.heap.size]? = some (.cells #[.int .i64 wd, rv'] 27 (0, 0)) ∧ wr.heap.size ≤ wr.heap.size ∧
      SkX ((w5.setCell ⟨wr.heap.size, 0, none⟩ (.int .i64 wd)).setCell ⟨wr.heap.size, 1, none⟩ rv') S rv' d wd F ∧ Fr [] wr ((w5.setCell ⟨wr.heap.size, 0, none⟩ (.int .i64 wd)).setCell ⟨wr.heap.size, 1, none⟩ rv') := by
  have hn : w1.heap[wr.heap.size]? = some (.cells #[x0, y0] 27 (0, 0)) := by rw [h1]; exact heap_alloc_new wr (.cells #[x0, y0] 27)
  have hn5 := hf.blk hn (by simp)
  have e2 := lt_of_blk hn
  have hw1 : Fr [] wr w1 := by rw [h1]; exact ((Fr.refl [] wr).alloc _).drew
  have hq : Fr [wr.heap.size] w5 ((w5.setCell ⟨wr.heap.size, 0, none⟩ (.int .i64 wd)).setCell ⟨wr.heap.size, 1, none⟩ rv') := ((Fr.refl [wr.heap.size] w5).setCell (p := ⟨wr.heap.size, 0, none⟩) (by simp) _).setCell (p := ⟨wr.heap.size, 1, none⟩) (by simp) _
  refine ⟨blk_set2 hn5 _ _, Nat.le_refl _, ?_, (hw1.trans hf (by simp)).trans hq (fun x hx => .inr (by simp at hx; omega))⟩
  exact (hs.kept hq (by simpa using e2)).x (fun x hx => by have := hS x hx; omega)

/-- three variables that hold sketches -/
structure J3 (w : World) (px py pz d wd : Nat) (vx vy vz : Value) (FX FY FZ : Nat → Nat → Int) : Prop where
  bx : w.heap[px]? = some (.cells #[.int .i64 wd, vx] 27 (0, 0))
  by' : w.heap[py]? = some (.cells #[.int .i64 wd, vy] 27 (0, 0))
  bz : w.heap[pz]? = some (.cells #[.int .i64 wd, vz] 27 (0, 0))
  sx : SkX w [px, py, pz] vx d wd FX
  sy : SkX w [px, py, pz] vy d wd FY
  sz : SkX w [px, py, pz] vz d wd FZ

theorem J3.fr {w w' : World} {px py pz d wd : Nat} {vx vy vz : Value} {FX FY FZ : Nat → Nat → Int} (h : J3 w px py pz d wd vx vy vz FX FY FZ) (hf : Fr [] w w') : J3 w' px py pz d wd vx vy vz FX FY FZ :=
  ⟨hf.blk h.bx (by simp), hf.blk h.by' (by simp), hf.blk h.bz (by simp), h.sx.go hf (by simp), h.sy.go hf (by simp), h.sz.go hf (by simp)⟩

def st2 (w : World) (p wd : Nat) (v : Value) : World := (w.setCell ⟨p, 0, none⟩ (.int .i64 wd)).setCell ⟨p, 1, none⟩ v

theorem st2_fr (w : World) (p wd : Nat) (v : Value) : Fr [p] w (st2 w p wd v) := ((Fr.refl [p] w).setCell (p := ⟨p, 0, none⟩) (by simp) _).setCell (p := ⟨p, 1, none⟩) (by simp) _

theorem J3.put {w : World} {px py pz d wd : Nat} {vx vy vz : Value} {FX FY FZ : Nat → Nat → Int} (h : J3 w px py pz d wd vx vy vz FX FY FZ) (h1 : px ≠ py) (h2 : py ≠ pz) (h3 : px ≠ pz) {ra rb : Value} {GA GB : Nat → Nat → Int}
    (ha : SkX w [px, py, pz] ra d wd GA) (hb : SkX w [px, py, pz] rb d wd GB) :
    J3 (st2 (st2 w px wd ra) pz wd rb) px py pz d wd ra vy rb GA FY GB ∧ J3 (st2 (st2 w py wd ra) pz wd rb) px py pz d wd vx ra rb FX GA GB := by
  have f1 := st2_fr w px wd ra
  have f2 := st2_fr (st2 w px wd ra) pz wd rb
  have g1 := st2_fr w py wd ra
  have g2 := st2_fr (st2 w py wd ra) pz wd rb
  refine ⟨⟨f2.blk (blk_set2 h.bx _ _) (by simpa using h3), f2.blk (f1.blk h.by' (by simpa using h1.symm)) (by simpa using h2), blk_set2 (f1.blk h.bz (by simpa using h3.symm)) _ _,
    (ha.go f1 (by simp)).go f2 (by simp), (h.sy.go f1 (by simp)).go f2 (by simp), (hb.go f1 (by simp)).go f2 (by simp)⟩,
   ⟨g2.blk (g1.blk h.bx (by simpa using h1)) (by simpa using h3), g2.blk (blk_set2 h.by' _ _) (by simpa using h2), blk_set2 (g1.blk h.bz (by simpa using h2.symm)) _ _,
    (h.sx.go g1 (by simp)).go g2 (by simp), (ha.go g1 (by simp)).go g2 (by simp), (hb.go g1 (by simp)).go g2 (by simp)⟩⟩

theorem sks_bd (ns : Nat → Int) (k : Nat) (hk : k ≤ 40) (h : ∀ j, ns j = j ∨ ns j = 3) : ∀ j, j < k → 0 ≤ ns j ∧ ns j ≤ 1000 := fun j hj => by
  rcases h j with h | h <;> rw [h] <;> omega

set_option maxRecDepth 100000 in
set_option maxHeartbeats 8000000 in
theorem sketchJoins_any (w : World) (deep wide : Int) (am : Option Addr) (M Cm : Nat) (V : Nat → Value) (A : Nat → Option Addr) (L C : Nat → Nat) (F : Nat → Nat → Int)
    (hm : RdF w (.slice am M Cm) M V) (hV : ∀ i, i < M → V i = .slice (A i) (L i) (C i)) (hr : ∀ i, i < M → RdF w (.slice (A i) (L i) (C i)) (L i) (fun j => .int .u8 (F i j)))
    (hF : ∀ i j, i < M → j < L i → 0 ≤ F i j ∧ F i j ≤ 255) (hL : ∀ i, i < M → L i ≤ 140737488351232) (hM : M ≤ 9223372036854775807)
    (an : Option Addr) (N Cn : Nat) (U : Nat → Value) (A2 : Nat → Option Addr) (L2 C2 : Nat → Nat) (F2 : Nat → Nat → Int)
    (hn : RdF w (.slice an N Cn) N U) (hU : ∀ i, i < N → U i = .slice (A2 i) (L2 i) (C2 i)) (hr2 : ∀ i, i < N → RdF w (.slice (A2 i) (L2 i) (C2 i)) (L2 i) (fun j => .int .u8 (F2 i j)))
    (hF2 : ∀ i j, i < N → j < L2 i → 0 ≤ F2 i j ∧ F2 i j ≤ 255) (hL2 : ∀ i, i < N → L2 i ≤ 140737488351232) (hN : N ≤ 9223372036854775807) :
    Calls Try.prog 4 #[.int .i64 deep, .int .i64 wide, .slice am M Cm, .slice an N Cn] w fun e w' => e = .returned (.bool true) ∧ Fr [] w w' := by
  have HM := Lib.hid hm; clear hm
  have HV := Lib.hid hV; clear hV
  have HR := Lib.hid hr; clear hr
  have HF := Lib.hid hF; clear hF
  have HL := Lib.hid hL; clear hL
  have HN := Lib.hid hn; clear hn
  have HU := Lib.hid hU; clear hU
  have HR2 := Lib.hid hr2; clear hr2
  have HFB := Lib.hid hF2; clear hF2
  have HL2 := Lib.hid hL2; clear hL2
  go_enter Try.func4, Try.ntmps4
  go_wp2_with fail
  refine (sketched_any _).mono ?_
  rintro e w1 ⟨rfl, hf⟩
  have HF1 := Lib.hid hf; clear hf
  go_wp2_with fail
  by_cases hok : 1 ≤ deep ∧ deep ≤ 8 ∧ 1 ≤ wide ∧ wide ≤ 1000
  case neg =>
    refine (sketch_new_fault _ deep wide hok).mono ?_
    rintro e w2 ⟨rfl, hf⟩
    have HF2 := Lib.hid (((HF1.out.trans hf (by simp))).alloc (.cells #[.int .i64 0, .slice none 0 0] 27)); clear hf
    go_wp2
    go_ret
    exact ⟨rfl, HF2.out⟩
  refine (sketch_new _ deep wide ⟨hok.1, hok.2.1⟩ ⟨hok.2.2.1, hok.2.2.2⟩).mono ?_
  obtain ⟨d, rfl⟩ : ∃ D : Nat, deep = (D : Int) := ⟨deep.toNat, by omega⟩
  obtain ⟨wd, rfl⟩ : ∃ K : Nat, wide = (K : Int) := ⟨wide.toNat, by omega⟩
  simp only [Int.toNat_natCast]
  have hd : 1 ≤ d ∧ d ≤ 8 := by omega
  have hw : 1 ≤ wd ∧ wd ≤ 1000 := by omega
  clear hok
  rintro e w2 ⟨rv, rfl, hs, hf⟩
  have hpw := (HF1.out.trans hf (by simp) : Fr [] w w2).size
  have HF2 := Lib.hid (((HF1.out.trans hf (by simp))).alloc (.cells #[.int .i64 wd, rv] 27)); clear hf
  obtain ⟨ra, rc, hra⟩ := hs.slice
  subst hra
  by_cases hMb : 40 < M
  · go_wp2
    go_ret
    exact ⟨rfl, HF2.out⟩
  by_cases hNb : 40 < N
  · go_wp2
    go_ret
    exact ⟨rfl, HF2.out⟩
  obtain ⟨SPA, SKA, hSP, hSPl, hSK0, hSK1, hSKb, hSK⟩ := skt_letters wd L F (fun j => (j : Int)) hw
  obtain ⟨SPB, SKB, hTP, hTPl, hTK0, hTK1, hTKb, hTK⟩ := skt_letters wd (fun u => L2 (N - 1 - u)) (fun u => F2 (N - 1 - u)) (fun _ => (3 : Int)) hw
  have HPLA := Lib.hid (fun (t : Nat) (w1 : World) (h1 : Fr [] w w1) (ht : t < M) rv => place_sp w1 rv wd (L t) d (A t) (C t) (F t) (SPA t) (hSP t) ((HR.out t ht).fr h1 (by simp)) (fun j hj => HF.out t j ht hj) hd.2 hw (HL.out t ht))
  have HPLB := Lib.hid (fun (q t : Nat) (w1 : World) (h1 : Fr [] w w1) (ht : t < N) (hq : N - 1 - q = t) rv => place_sp w1 rv wd (L2 t) d (A2 t) (C2 t) (F2 t) (SPB q) (fun i => by subst hq; exact hTP q i) ((HR2.out t ht).fr h1 (by simp)) (fun j hj => HFB.out t j ht hj) hd.2 hw (HL2.out t ht))
  have HBA := Lib.hid (fun (k i p : Nat) (hk : k ≤ 40) => by
    have h := hSKb k i p (fun j hj => by omega)
    exact ⟨h.1, by omega⟩ : ∀ k i p : Nat, k ≤ 40 → 0 ≤ SKA k i p ∧ SKA k i p ≤ 40000)
  have HBB := Lib.hid (fun (k i p : Nat) (hk : k ≤ 40) => by
    have h := hTKb k i p (fun j hj => by omega)
    exact ⟨h.1, by omega⟩ : ∀ k i p : Nat, k ≤ 40 → 0 ≤ SKB k i p ∧ SKB k i p ≤ 40000)
  have HS1 := Lib.hid hSK1
  have HT1 := Lib.hid hTK1
  have HSL := Lib.hid hSPl
  have HTL := Lib.hid hTPl
  have HT0 := Lib.hid hTK0
  have hsx : ∀ G : Nat → Nat → Int, (∀ i p, G i p = 0) → SkX w2 [w2.heap.size + 1, w2.heap.size + 1 + 1, w2.heap.size + 1 + 1 + 1] (.slice ra d rc) d wd G := fun G hG => (hs.congr (fun i _ j _ => (hG i j).symm)).x (by simp; omega)
  have b1 := heap_alloc_new (w2.alloc (.cells #[.int .i64 wd, .slice ra d rc] 27)) (.cells #[.int .i64 wd, .slice ra d rc] 27)
  have b2 := heap_alloc_new ((w2.alloc (.cells #[.int .i64 wd, .slice ra d rc] 27)).alloc (.cells #[.int .i64 wd, .slice ra d rc] 27)) (.cells #[.int .i64 wd, .slice ra d rc] 27)
  have b3 := heap_alloc_new (((w2.alloc (.cells #[.int .i64 wd, .slice ra d rc] 27)).alloc (.cells #[.int .i64 wd, .slice ra d rc] 27)).alloc (.cells #[.int .i64 wd, .slice ra d rc] 27)) (.cells #[.int .i64 wd, .slice ra d rc] 27)
  have f2 := (Fr.refl [] ((w2.alloc (.cells #[.int .i64 wd, .slice ra d rc] 27)).alloc (.cells #[.int .i64 wd, .slice ra d rc] 27))).alloc (.cells #[.int .i64 wd, .slice ra d rc] 27)
  have f3 := (Fr.refl [] (((w2.alloc (.cells #[.int .i64 wd, .slice ra d rc] 27)).alloc (.cells #[.int .i64 wd, .slice ra d rc] 27)).alloc (.cells #[.int .i64 wd, .slice ra d rc] 27))).alloc (.cells #[.int .i64 wd, .slice ra d rc] 27)
  have f0 := ((Fr.refl [] w2).alloc (.cells #[.int .i64 wd, .slice ra d rc] 27)).alloc (.cells #[.int .i64 wd, .slice ra d rc] 27)
  have b1' := f3.blk (f2.blk b1 (by simp)) (by simp)
  have b2' := f3.blk b2 (by simp)
  simp only [World.size_alloc] at b1' b2' b3
  have fall := (f0.trans f2 (by simp)).trans f3 (by simp)
  have HJ := Lib.hid (⟨b1', b2', b3, (hsx (SKA 0) hSK0).go fall (by simp), (hsx (SKB 0) hTK0).go fall (by simp), (hsx (SKA 0) hSK0).go fall (by simp)⟩ : J3 _ _ _ _ d wd _ _ _ _ _ _)
  have HF3 := Lib.hid (((HF2.out.alloc (.cells #[.int .i64 wd, .slice ra d rc] 27)).alloc (.cells #[.int .i64 wd, .slice ra d rc] 27)).alloc (.cells #[.int .i64 wd, .slice ra d rc] 27))
  have n1 : w2.heap.size + 1 ≠ w2.heap.size + 1 + 1 := by omega
  have n2 : w2.heap.size + 1 + 1 ≠ w2.heap.size + 1 + 1 + 1 := by omega
  have n3 : w2.heap.size + 1 ≠ w2.heap.size + 1 + 1 + 1 := by omega
  have m1 : w.heap.size ≤ w2.heap.size + 1 := by omega
  have m2 : w.heap.size ≤ w2.heap.size + 1 + 1 := by omega
  have m3 : w.heap.size ≤ w2.heap.size + 1 + 1 + 1 := by omega
  clear hSP hSPl hSK0 hSK1 hSKb hSK hTP hTPl hTK0 hTK1 hTKb hTK hs hsx b1 b2 b3 f2 f3 f0 b1' b2' fall hpw HF2
  go_wp2
  generalize (((w2.alloc (.cells #[.int .i64 wd, .slice ra d rc] 27)).alloc (.cells #[.int .i64 wd, .slice ra d rc] 27)).alloc (.cells #[.int .i64 wd, .slice ra d rc] 27)).alloc (.cells #[.int .i64 wd, .slice ra d rc] 27) = w3 at *
  generalize w2.heap.size + 1 + 1 + 1 = pz at *
  generalize w2.heap.size + 1 + 1 = py at *
  generalize w2.heap.size + 1 = px at *
  go_loopw [15, 16, 17, 18, 19] (fun i _ _ _ _ wr => ∃ (k : Nat) (vx vz : Value), k ≤ M ∧ i = .int .i64 k ∧ J3 wr px py pz d wd vx (.slice ra d rc) vz (SKA k) (SKB 0) (SKA k) ∧ Fr [] w wr) (fun i _ _ _ _ _ => M - (intOf i).toNat)
  case atStart => exact ⟨0, _, _, by omega, rfl, HJ.out, HF3.out⟩
  case round =>
    clear HJ HF3
    obtain ⟨k, vx, vz, hkM, rfl, hJ, hf⟩ := hrel
    obtain ⟨ax, cx, hax⟩ := hJ.sx.now.slice
    obtain ⟨az, cz, haz⟩ := hJ.sz.now.slice
    subst hax
    subst haz
    have HJ := Lib.hid hJ
    have HFR := Lib.hid hf; clear hf
    by_cases hlt : k < M
    · obtain ⟨b, o, cm, he, _, _, _, hc⟩ := HM.out.shape (by omega)
      simp only [Value.slice.injEq, true_and] at he
      obtain ⟨rfl, rfl⟩ := he
      have k1 : wr.cell? ⟨b, o + k, none⟩ = some (.slice (A k) (L k) (C k)) := by rw [← HV.out k hlt]; exact HFR.out.cell (hc k hlt) (by simp)
      clear hc
      have k0 : (0 : Int) ≤ (k : Int) := by omega
      have k3 : (k : Int) < (M : Int) := by omega
      have HADX := Lib.hid (fun (w1 : World) (h1 : Fr [] wr w1) => sketch_add_to w1 (.slice ax d cx) d wd (L k) (SKA k) (SKA (k + 1)) (A k) (C k) (SPA k) k (HJ.out.sx.now.fr h1) ⟨hd, hw, fun i _ j _ => by have := HBA.out k i j (by omega); omega⟩ (fun i _ => HSL.out k i) (by omega) (fun i _ => by have := HBA.out k i (SPA k i) (by omega); omega)
        (HPLA.out k w1 (HFR.out.trans h1 (by simp)) hlt _) (fun i p => HS1.out k i p))
      have HADZ := Lib.hid (fun (w1 : World) (h1 : Fr [] wr w1) => sketch_add_to w1 (.slice az d cz) d wd (L k) (SKA k) (SKA (k + 1)) (A k) (C k) (SPA k) k (HJ.out.sz.now.fr h1) ⟨hd, hw, fun i _ j _ => by have := HBA.out k i j (by omega); omega⟩ (fun i _ => HSL.out k i) (by omega) (fun i _ => by have := HBA.out k i (SPA k i) (by omega); omega)
        (HPLA.out k w1 (HFR.out.trans h1 (by simp)) hlt _) (fun i p => HS1.out k i p))
      have c0 := blk_cell hJ.bx 0 rfl
      have c1 := blk_cell hJ.bx 1 rfl
      have l1 := lt_of_blk hJ.bx
      have l2 := lt_of_blk hJ.by'
      have l3 := lt_of_blk hJ.bz
      have hlts : ∀ x ∈ [px, py, pz], x < wr.heap.size := by simp; omega
      have HLT := Lib.hid hlts; clear hlts
      have n0 : px ≠ wr.heap.size := by omega
      have n4 : b ≠ wr.heap.size := by have := World.block_lt_of_cell? wr _ k1; simp at this; omega
      clear hJ
      go_upto_region 13 with fail
      go_cut [16, 17] (fun t e wy => e = .nilIface ∧ ∃ (q : Nat) (rv' : Value), t = .pointer (some ⟨q, 0, none⟩) ∧ wy.heap[q]? = some (.cells #[.int .i64 wd, rv'] 27 (0, 0)) ∧ wr.heap.size ≤ q ∧ SkX wy [px, py, pz] rv' d wd (SKA (k + 1)) ∧ Fr [] wr wy)
      case first =>
        go_region_held3 (fun w' => w'.cell? ⟨px, 0, none⟩ = some (.int .i64 wd) ∧ w'.cell? ⟨px, 1, none⟩ = some (.slice ax d cx) ∧ w'.cell? ⟨b, o + k, none⟩ = some (.slice (A k) (L k) (C k)))
          (first | exact ⟨x0, x1, x2⟩ | exact ⟨cell_stay (cell_stay x0 n0) n0, cell_stay (cell_stay x1 n0) n0, cell_stay (cell_stay x2 n4) n4⟩ | go_keep)
          ((go_at_call 13; refine (HADX.out _ (by first | exact (Fr.refl [] wr).drew | exact ((Fr.refl [] wr).drew).alloc _)).mono ?_; rintro e w5 ⟨rv', rfl, hs5, hf5⟩; obtain ⟨ra', rc', hra'⟩ := hs5.told.slice; subst hra'; have x0 := hf5.cell (p := ⟨px, 0, none⟩) (v := .int .i64 wd) (by first | exact c0 | exact ((Fr.refl [] wr.drew).alloc _).cell c0 (by simp)) (by simp); have x1 := hf5.cell (p := ⟨px, 1, none⟩) (v := .slice ax d cx) (by first | exact c1 | exact ((Fr.refl [] wr.drew).alloc _).cell c1 (by simp)) (by simp); have x2 := hf5.cell (p := ⟨b, o + k, none⟩) (v := .slice (A k) (L k) (C k)) (by first | exact k1 | exact ((Fr.refl [] wr.drew).alloc _).cell k1 (by simp)) (by simp); (try (have q0 := hf5.blk (b := wr.heap.size) (heap_alloc_new wr.drew _) (by simp); have q1 := blk_cell q0 0 rfl; have q2 := blk_cell q0 1 rfl; have q3 := blk_frozen q0 0; have q4 := blk_frozen q0 1; have q5 := lt_of_blk q0; clear q0))))
        all_goals (go_wp2_with fail; go_meet)
        all_goals first
          | exact ⟨rfl, _, _, rfl, sk_behind HLT.out ((Fr.refl [] wr).drew) hs5 hf5⟩
          | exact ⟨rfl, _, _, rfl, sk_ahead HLT.out rfl hs5 hf5⟩
      case rest =>
        obtain ⟨rfl, q, rv', rfl, hbq, hql, hxq, hfq⟩ := hcut
        obtain ⟨a1, c1', hr1⟩ := hxq.now.slice
        subst hr1
        rename World => wa
        have HJA := Lib.hid (HJ.out.fr hfq)
        have HFA := Lib.hid hfq
        have HBQ := Lib.hid hbq
        have HXQ := Lib.hid hxq
        have z0 := blk_cell HJA.out.bz 0 rfl
        have z1 := blk_cell HJA.out.bz 1 rfl
        have z2 := hfq.cell k1 (by simp)
        have l4 := lt_of_blk HJA.out.bz
        have l5 := hfq.size
        have hlts : ∀ x ∈ [px, py, pz], x < wa.heap.size := by simp; omega
        have HLTA := Lib.hid hlts; clear hlts
        have n5 : pz ≠ wa.heap.size := by omega
        have n6 : b ≠ wa.heap.size := by have := World.block_lt_of_cell? wa _ z2; simp at this; omega
        have HADZ' := Lib.hid (fun (w1 : World) (h1 : Fr [] wa w1) => HADZ.out w1 (HFA.out.trans h1 (by simp)))
        clear hbq hxq hfq c0 c1 k1
        go_upto_region 14 with fail
        go_cut [18, 19] (fun t e wy => e = .nilIface ∧ ∃ (q : Nat) (rv' : Value), t = .pointer (some ⟨q, 0, none⟩) ∧ wy.heap[q]? = some (.cells #[.int .i64 wd, rv'] 27 (0, 0)) ∧ wa.heap.size ≤ q ∧ SkX wy [px, py, pz] rv' d wd (SKA (k + 1)) ∧ Fr [] wa wy)
        case first =>
          go_region_held3 (fun w' => w'.cell? ⟨pz, 0, none⟩ = some (.int .i64 wd) ∧ w'.cell? ⟨pz, 1, none⟩ = some (.slice az d cz) ∧ w'.cell? ⟨b, o + k, none⟩ = some (.slice (A k) (L k) (C k)))
            (first | exact ⟨x0, x1, x2⟩ | exact ⟨cell_stay (cell_stay x0 n5) n5, cell_stay (cell_stay x1 n5) n5, cell_stay (cell_stay x2 n6) n6⟩ | go_keep)
            ((go_at_call 13; refine (HADZ'.out _ (by first | exact (Fr.refl [] wa).drew | exact ((Fr.refl [] wa).drew).alloc _)).mono ?_; rintro e w5 ⟨rv', rfl, hs5, hf5⟩; obtain ⟨ra', rc', hra'⟩ := hs5.told.slice; subst hra'; have x0 := hf5.cell (p := ⟨pz, 0, none⟩) (v := .int .i64 wd) (by first | exact z0 | exact ((Fr.refl [] wa.drew).alloc _).cell z0 (by simp)) (by simp); have x1 := hf5.cell (p := ⟨pz, 1, none⟩) (v := .slice az d cz) (by first | exact z1 | exact ((Fr.refl [] wa.drew).alloc _).cell z1 (by simp)) (by simp); have x2 := hf5.cell (p := ⟨b, o + k, none⟩) (v := .slice (A k) (L k) (C k)) (by first | exact z2 | exact ((Fr.refl [] wa.drew).alloc _).cell z2 (by simp)) (by simp); (try (have q0 := hf5.blk (b := wa.heap.size) (heap_alloc_new wa.drew _) (by simp); have q1 := blk_cell q0 0 rfl; have q2 := blk_cell q0 1 rfl; have q3 := blk_frozen q0 0; have q4 := blk_frozen q0 1; have q5 := lt_of_blk q0; clear q0))))
          all_goals (go_wp2_with fail; go_meet)
          all_goals first
            | exact ⟨rfl, _, _, rfl, sk_behind HLTA.out ((Fr.refl [] wa).drew) hs5 hf5⟩
            | exact ⟨rfl, _, _, rfl, sk_ahead HLTA.out rfl hs5 hf5⟩
        case rest =>
          obtain ⟨rfl, q2, rv2, rfl, hbq2, hql2, hxq2, hfq2⟩ := hcut
          obtain ⟨a2, c2', hr2⟩ := hxq2.now.slice
          subst hr2
          rename World => wb
          have hJb := HJA.out.fr hfq2
          have hbq := hfq2.blk HBQ.out (by simp)
          have hxq := HXQ.out.go hfq2 (by simp)
          have hff : Fr [px] wb ((wb.setCell ⟨px, 0, none⟩ (.int .i64 wd)).setCell ⟨px, 1, none⟩ (.slice a1 d c1')) := st2_fr wb px wd _
          obtain ⟨⟨x0, y0, x1, y1⟩, ⟨x2, y2⟩, _, _⟩ := two_store hJb.bx (.int .i64 wd) (.slice a1 d c1')
          obtain ⟨⟨x3, y3, x4, y4⟩, ⟨x5, y5⟩, _, _⟩ := two_store (hff.blk hJb.bz (by simp; omega)) (.int .i64 wd) (.slice a2 d c2')
          have t0 := blk_cell hbq 0 rfl
          have t1 := blk_cell hbq 1 rfl
          have t2 := hff.cell (blk_cell hbq2 0 rfl) (by simp; omega)
          have t3 := hff.cell (blk_cell hbq2 1 rfl) (by simp; omega)
          have hll : px < wb.heap.size ∧ pz < wb.heap.size := ⟨lt_of_blk hJb.bx, lt_of_blk hJb.bz⟩
          have HJN := Lib.hid (hJb.put n1 n2 n3 hxq hxq2).1
          have HFN := Lib.hid ((((HFR.out.trans HFA.out (by simp)).trans hfq2 (by simp)).trans (st2_fr wb px wd (.slice a1 d c1')) (fun y hy => .inr (by simp at hy; omega))).trans (st2_fr _ pz wd (.slice a2 d c2')) (fun y hy => .inr (by simp at hy; omega)) : Fr [] w _)
          clear hJb hbq hxq hff hbq2 hxq2 hfq2 z0 z1 z2
          go_wp2
          go_roundw
          case rel => exact ⟨k + 1, _, _, by omega, by go_num, HJN.out, HFN.out⟩
          case measure => (simp [intOf]; try omega)
    · obtain rfl : k = M := by omega
      have hsub : IntKind.i64.wrap ((N : Int) - 1) = (N : Int) - 1 := IntWalk.i64_in _ (by omega)
      go_wp2
      rename World => wl
      go_loopw [20, 21, 22, 23, 24] (fun i _ _ _ _ wr => ∃ (u : Nat) (x : Int) (vy vz : Value), u ≤ N ∧ x + 1 + u = N ∧ i = .int .i64 x ∧ J3 wr px py pz d wd (.slice ax d cx) vy vz (SKA k) (SKB u) (fun i p => SKA k i p + SKB u i p) ∧ Fr [] w wr) (fun i _ _ _ _ _ => (intOf i + 1).toNat)
      case atStart =>
        have e : (fun i p => SKA k i p + SKB 0 i p) = SKA k := by funext i p; rw [HT0.out, Int.add_zero]
        exact ⟨0, (N : Int) - 1, _, _, by omega, by omega, rfl, by rw [e]; exact HJ.out, HFR.out⟩
      case round =>
        clear HJ HFR
        obtain ⟨u, x, vy, vz, huN, hxu, rfl, hJ, hf⟩ := hrel
        obtain ⟨ay, cy, hay⟩ := hJ.sy.now.slice
        obtain ⟨az, cz, haz⟩ := hJ.sz.now.slice
        subst hay
        subst haz
        have HJ := Lib.hid hJ
        have HFR := Lib.hid hf; clear hf
        by_cases hlt2 : u < N
        · obtain ⟨t, rfl⟩ : ∃ t : Nat, x = (t : Int) := ⟨x.toNat, by omega⟩
          have htN : t < N := by omega
          obtain ⟨b, o, cm, he, _, _, _, hc⟩ := HN.out.shape (by omega)
          simp only [Value.slice.injEq, true_and] at he
          obtain ⟨rfl, rfl⟩ := he
          have k1 : wr.cell? ⟨b, o + t, none⟩ = some (.slice (A2 t) (L2 t) (C2 t)) := by rw [← HU.out t htN]; exact HFR.out.cell (hc t htN) (by simp)
          clear hc
          have k0 : (0 : Int) ≤ (t : Int) := by omega
          have k3 : (t : Int) < (N : Int) := by omega
          have k5 : IntKind.i64.wrap ((t : Int) - 1) = (t : Int) - 1 := IntWalk.i64_in _ (by omega)
          have hru : N - 1 - u = t := by omega
          have HADY := Lib.hid (fun (w1 : World) (h1 : Fr [] wr w1) => sketch_add_to w1 (.slice ay d cy) d wd (L2 t) (SKB u) (SKB (u + 1)) (A2 t) (C2 t) (SPB u) 3 (HJ.out.sy.now.fr h1) ⟨hd, hw, fun i _ j _ => by have := HBB.out u i j (by omega); omega⟩ (fun i _ => HTL.out u i) (by omega) (fun i _ => by have := HBB.out u i (SPB u i) (by omega); omega)
            (HPLB.out u t w1 (HFR.out.trans h1 (by simp)) htN hru _) (fun i p => HT1.out u i p))
          have HADZ := Lib.hid (fun (w1 : World) (h1 : Fr [] wr w1) => sketch_add_to w1 (.slice az d cz) d wd (L2 t) (fun i p => SKA k i p + SKB u i p) (fun i p => SKA k i p + SKB (u + 1) i p) (A2 t) (C2 t) (SPB u) 3 (HJ.out.sz.now.fr h1) ⟨hd, hw, fun i _ j _ => by have h1 := HBB.out u i j (by omega); have h2 := HBA.out k i j (by omega); omega⟩ (fun i _ => HTL.out u i) (by omega) (fun i _ => by have h1 := HBB.out u i (SPB u i) (by omega); have h2 := HBA.out k i (SPB u i) (by omega); omega)
            (HPLB.out u t w1 (HFR.out.trans h1 (by simp)) htN hru _) (fun i p => by have h := HT1.out u i p; rw [← h]; split <;> omega))
          have c0 := blk_cell hJ.by' 0 rfl
          have c1 := blk_cell hJ.by' 1 rfl
          have l1 := lt_of_blk hJ.bx
          have l2 := lt_of_blk hJ.by'
          have l3 := lt_of_blk hJ.bz
          have hlts : ∀ x ∈ [px, py, pz], x < wr.heap.size := by simp; omega
          have HLT := Lib.hid hlts; clear hlts
          have n0 : py ≠ wr.heap.size := by omega
          have n4 : b ≠ wr.heap.size := by have := World.block_lt_of_cell? wr _ k1; simp at this; omega
          clear hJ
          go_upto_region 22 with fail
          go_cut [21, 22] (fun t e wy => e = .nilIface ∧ ∃ (q : Nat) (rv' : Value), t = .pointer (some ⟨q, 0, none⟩) ∧ wy.heap[q]? = some (.cells #[.int .i64 wd, rv'] 27 (0, 0)) ∧ wr.heap.size ≤ q ∧ SkX wy [px, py, pz] rv' d wd (SKB (u + 1)) ∧ Fr [] wr wy)
          case first =>
            go_region_held3 (fun w' => w'.cell? ⟨py, 0, none⟩ = some (.int .i64 wd) ∧ w'.cell? ⟨py, 1, none⟩ = some (.slice ay d cy) ∧ w'.cell? ⟨b, o + t, none⟩ = some (.slice (A2 t) (L2 t) (C2 t)))
              (first | exact ⟨x0, x1, x2⟩ | exact ⟨cell_stay (cell_stay x0 n0) n0, cell_stay (cell_stay x1 n0) n0, cell_stay (cell_stay x2 n4) n4⟩ | go_keep)
              ((go_at_call 13; refine (HADY.out _ (by first | exact (Fr.refl [] wr).drew | exact ((Fr.refl [] wr).drew).alloc _)).mono ?_; rintro e w5 ⟨rv', rfl, hs5, hf5⟩; obtain ⟨ra', rc', hra'⟩ := hs5.told.slice; subst hra'; have x0 := hf5.cell (p := ⟨py, 0, none⟩) (v := .int .i64 wd) (by first | exact c0 | exact ((Fr.refl [] wr.drew).alloc _).cell c0 (by simp)) (by simp); have x1 := hf5.cell (p := ⟨py, 1, none⟩) (v := .slice ay d cy) (by first | exact c1 | exact ((Fr.refl [] wr.drew).alloc _).cell c1 (by simp)) (by simp); have x2 := hf5.cell (p := ⟨b, o + t, none⟩) (v := .slice (A2 t) (L2 t) (C2 t)) (by first | exact k1 | exact ((Fr.refl [] wr.drew).alloc _).cell k1 (by simp)) (by simp); (try (have q0 := hf5.blk (b := wr.heap.size) (heap_alloc_new wr.drew _) (by simp); have q1 := blk_cell q0 0 rfl; have q2 := blk_cell q0 1 rfl; have q3 := blk_frozen q0 0; have q4 := blk_frozen q0 1; have q5 := lt_of_blk q0; clear q0))))
            all_goals (go_wp2_with fail; go_meet)
            all_goals first
              | exact ⟨rfl, _, _, rfl, sk_behind HLT.out ((Fr.refl [] wr).drew) hs5 hf5⟩
              | exact ⟨rfl, _, _, rfl, sk_ahead HLT.out rfl hs5 hf5⟩
          case rest =>
            obtain ⟨rfl, q, rv', rfl, hbq, hql, hxq, hfq⟩ := hcut
            obtain ⟨a1, c1', hr1⟩ := hxq.now.slice
            subst hr1
            rename World => wa
            have HJA := Lib.hid (HJ.out.fr hfq)
            have HFA := Lib.hid hfq
            have HBQ := Lib.hid hbq
            have HXQ := Lib.hid hxq
            have z0 := blk_cell HJA.out.bz 0 rfl
            have z1 := blk_cell HJA.out.bz 1 rfl
            have z2 := hfq.cell k1 (by simp)
            have l4 := lt_of_blk HJA.out.bz
            have l5 := hfq.size
            have hlts : ∀ x ∈ [px, py, pz], x < wa.heap.size := by simp; omega
            have HLTA := Lib.hid hlts; clear hlts
            have n5 : pz ≠ wa.heap.size := by omega
            have n6 : b ≠ wa.heap.size := by have := World.block_lt_of_cell? wa _ z2; simp at this; omega
            have HADZ' := Lib.hid (fun (w1 : World) (h1 : Fr [] wa w1) => HADZ.out w1 (HFA.out.trans h1 (by simp)))
            clear hbq hxq hfq c0 c1 k1
            go_upto_region 23 with fail
            go_cut [23, 24] (fun t e wy => e = .nilIface ∧ ∃ (q : Nat) (rv' : Value), t = .pointer (some ⟨q, 0, none⟩) ∧ wy.heap[q]? = some (.cells #[.int .i64 wd, rv'] 27 (0, 0)) ∧ wa.heap.size ≤ q ∧ SkX wy [px, py, pz] rv' d wd (fun i p => SKA k i p + SKB (u + 1) i p) ∧ Fr [] wa wy)
            case first =>
              go_region_held3 (fun w' => w'.cell? ⟨pz, 0, none⟩ = some (.int .i64 wd) ∧ w'.cell? ⟨pz, 1, none⟩ = some (.slice az d cz) ∧ w'.cell? ⟨b, o + t, none⟩ = some (.slice (A2 t) (L2 t) (C2 t)))
                (first | exact ⟨x0, x1, x2⟩ | exact ⟨cell_stay (cell_stay x0 n5) n5, cell_stay (cell_stay x1 n5) n5, cell_stay (cell_stay x2 n6) n6⟩ | go_keep)
                ((go_at_call 13; refine (HADZ'.out _ (by first | exact (Fr.refl [] wa).drew | exact ((Fr.refl [] wa).drew).alloc _)).mono ?_; rintro e w5 ⟨rv', rfl, hs5, hf5⟩; obtain ⟨ra', rc', hra'⟩ := hs5.told.slice; subst hra'; have x0 := hf5.cell (p := ⟨pz, 0, none⟩) (v := .int .i64 wd) (by first | exact z0 | exact ((Fr.refl [] wa.drew).alloc _).cell z0 (by simp)) (by simp); have x1 := hf5.cell (p := ⟨pz, 1, none⟩) (v := .slice az d cz) (by first | exact z1 | exact ((Fr.refl [] wa.drew).alloc _).cell z1 (by simp)) (by simp); have x2 := hf5.cell (p := ⟨b, o + t, none⟩) (v := .slice (A2 t) (L2 t) (C2 t)) (by first | exact z2 | exact ((Fr.refl [] wa.drew).alloc _).cell z2 (by simp)) (by simp); (try (have q0 := hf5.blk (b := wa.heap.size) (heap_alloc_new wa.drew _) (by simp); have q1 := blk_cell q0 0 rfl; have q2 := blk_cell q0 1 rfl; have q3 := blk_frozen q0 0; have q4 := blk_frozen q0 1; have q5 := lt_of_blk q0; clear q0))))
              all_goals (go_wp2_with fail; go_meet)
              all_goals first
                | exact ⟨rfl, _, _, rfl, sk_behind HLTA.out ((Fr.refl [] wa).drew) hs5 hf5⟩
                | exact ⟨rfl, _, _, rfl, sk_ahead HLTA.out rfl hs5 hf5⟩
            case rest =>
              obtain ⟨rfl, q2, rv2, rfl, hbq2, hql2, hxq2, hfq2⟩ := hcut
              obtain ⟨a2, c2', hr2⟩ := hxq2.now.slice
              subst hr2
              rename World => wb
              have hJb := HJA.out.fr hfq2
              have hbq := hfq2.blk HBQ.out (by simp)
              have hxq := HXQ.out.go hfq2 (by simp)
              have hff : Fr [py] wb ((wb.setCell ⟨py, 0, none⟩ (.int .i64 wd)).setCell ⟨py, 1, none⟩ (.slice a1 d c1')) := st2_fr wb py wd _
              obtain ⟨⟨x0, y0, x1, y1⟩, ⟨x2, y2⟩, _, _⟩ := two_store hJb.by' (.int .i64 wd) (.slice a1 d c1')
              obtain ⟨⟨x3, y3, x4, y4⟩, ⟨x5, y5⟩, _, _⟩ := two_store (hff.blk hJb.bz (by simp; omega)) (.int .i64 wd) (.slice a2 d c2')
              have t0 := blk_cell hbq 0 rfl
              have t1 := blk_cell hbq 1 rfl
              have t2 := hff.cell (blk_cell hbq2 0 rfl) (by simp; omega)
              have t3 := hff.cell (blk_cell hbq2 1 rfl) (by simp; omega)
              have hll : py < wb.heap.size ∧ pz < wb.heap.size := ⟨lt_of_blk hJb.by', lt_of_blk hJb.bz⟩
              have HJN := Lib.hid (hJb.put n1 n2 n3 hxq hxq2).2
              have HFN := Lib.hid ((((HFR.out.trans HFA.out (by simp)).trans hfq2 (by simp)).trans (st2_fr wb py wd (.slice a1 d c1')) (fun y hy => .inr (by simp at hy; omega))).trans (st2_fr _ pz wd (.slice a2 d c2')) (fun y hy => .inr (by simp at hy; omega)) : Fr [] w _)
              clear hJb hbq hxq hff hbq2 hxq2 hfq2 z0 z1 z2
              go_wp2
              go_roundw
              case rel => exact ⟨u + 1, (t : Int) - 1, _, _, by omega, by omega, by go_num, HJN.out, HFN.out⟩
              case measure => (simp [intOf]; try omega)
        · obtain rfl : u = N := by omega
          obtain rfl : x = -1 := by omega
          have g0 := blk_cell hJ.bx 0 rfl
          have g1 := blk_cell hJ.bx 1 rfl
          have g2 := blk_cell hJ.by' 0 rfl
          have g3 := blk_cell hJ.by' 1 rfl
          have oka : SkOk d wd (SKA k) := ⟨hd, hw, fun i _ j _ => by have := HBA.out k i j (by omega); omega⟩
          have okb : SkOk d wd (SKB u) := ⟨hd, hw, fun i _ j _ => by have := HBB.out u i j (by omega); omega⟩
          have HJ1 := Lib.hid (sketch_join wr _ _ d wd (SKA k) (SKB u) hJ.sx.now oka hJ.sy.now okb (fun i _ j _ => by have h1 := HBB.out u i j (by omega); have h2 := HBA.out k i j (by omega); omega))
          have HJ2 := Lib.hid (fun (w1 : World) (h1 : Fr [] wr w1) => sketch_join w1 _ _ d wd (SKB u) (SKA k) (HJ.out.sy.now.fr h1) okb (HJ.out.sx.now.fr h1) oka (fun i _ j _ => by have h1 := HBB.out u i j (by omega); have h2 := HBA.out k i j (by omega); omega))
          clear hJ oka okb
          go_wp2_with fail
          refine HJ1.out.mono ?_
          rintro e w5 ⟨rv1, rfl, hs5, hf5⟩
          obtain ⟨a1, c1', hr1⟩ := hs5.told.slice
          subst hr1
          have HF5 := Lib.hid (hf5.alloc (.cells #[.int .i64 wd, .slice a1 d c1'] 27))
          have hJ5 := HJ.out.fr HF5.out
          have HS5 := Lib.hid (hs5.told.fr ((Fr.refl [] w5).alloc (.cells #[.int .i64 wd, .slice a1 d c1'] 27)))
          have HB5 := Lib.hid (heap_alloc_new w5 (.cells #[.int .i64 wd, .slice a1 d c1'] 27))
          clear hs5 hf5 g0 g1 g2 g3
          have g0 := blk_cell hJ5.bx 0 rfl
          have g1 := blk_cell hJ5.bx 1 rfl
          have g2 := blk_cell hJ5.by' 0 rfl
          have g3 := blk_cell hJ5.by' 1 rfl
          clear hJ5
          go_wp2_with fail
          refine (HJ2.out _ HF5.out).mono ?_
          rintro e w6 ⟨rv2, rfl, hs6, hf6⟩
          obtain ⟨a2, c2', hr2⟩ := hs6.told.slice
          subst hr2
          have HF6 := Lib.hid (HF5.out.trans (hf6.alloc (.cells #[.int .i64 wd, .slice a2 d c2'] 27)) (by simp))
          have hJ6 := HJ.out.fr HF6.out
          have HJ6 := Lib.hid hJ6
          have HS6 := Lib.hid (hs6.told.fr ((Fr.refl [] w6).alloc (.cells #[.int .i64 wd, .slice a2 d c2'] 27)))
          have HS65 := Lib.hid (HS5.out.fr (hf6.alloc (.cells #[.int .i64 wd, .slice a2 d c2'] 27)))
          have hb6 := heap_alloc_new w6 (.cells #[.int .i64 wd, .slice a2 d c2'] 27)
          have hb5 := (hf6.alloc (.cells #[.int .i64 wd, .slice a2 d c2'] 27)).blk HB5.out (by simp)
          have HB6 := Lib.hid hb6
          have HB65 := Lib.hid hb5
          clear hs6 hf6 g0 g1 g2 g3
          have g0 := blk_cell hJ6.bz 0 rfl
          have g1 := blk_cell hJ6.bz 1 rfl
          have g2 := blk_cell hb5 0 rfl
          have g3 := blk_cell hb5 1 rfl
          clear hJ6 hb5 hb6
          go_wp2_with fail
          refine (sketches_same _ _ _ d wd _ _ HS65.out HJ6.out.sz.now (fun i _ j _ => rfl) (by omega) (by omega)).mono ?_
          rintro e w7 ⟨rfl, hf7⟩
          have HF7 := Lib.hid (HF6.out.trans hf7 (by simp))
          have hJ7 := HJ6.out.fr hf7
          have hb7 := hf7.blk HB6.out (by simp)
          have HJ7 := Lib.hid hJ7
          have HS7 := Lib.hid (HS6.out.fr hf7)
          clear g0 g1 g2 g3 hf7
          have g0 := blk_cell hJ7.bz 0 rfl
          have g1 := blk_cell hJ7.bz 1 rfl
          have g2 := blk_cell hb7 0 rfl
          have g3 := blk_cell hb7 1 rfl
          clear hJ7 hb7
          go_wp2_with fail
          refine (sketches_same _ _ _ d wd _ _ HS7.out HJ7.out.sz.now (fun i _ j _ => by show SKB u i j + SKA k i j = SKA k i j + SKB u i j; omega) (by omega) (by omega)).mono ?_
          rintro e w8 ⟨rfl, hf8⟩
          have HF8 := Lib.hid ((HFR.out.trans HF7.out (by simp)).trans hf8 (by simp))
          clear hf8 g0 g1 g2 g3
          go_wp2
          go_ret
          exact ⟨rfl, HF8.out⟩

end Go.Proofs.Ytgpfkaiinbncnaa
