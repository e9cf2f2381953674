/- RingOrder: the walk. -/
import Derived.Test.YtbaiaolgjlhioaaRingSub
import Derived.Test.YtbaiaolgjlhioaaRingLaw0
import Derived.Test.YtbaiaolgjlhioaaPigeon
namespace Go.Proofs.Ytbaiaolgjlhioaa
open Go.RowKit Go.Sort

theorem OwnP.apartF {w : World} {B : Nat} {E T : TypeId} {v : Value} {n m cap g : Nat} {p : Nat → Int × Int} {f : Nat → Value} (h : OwnP w B E v n p) (hr : RowF w g T m cap f) (hT : E ≠ T) : g ∉ v.ownBlock.toList := by
  obtain ⟨cur, h1, _⟩ := hr
  exact h.apart h1 hT

theorem RowP.stored2 {w : World} {g : Nat} {E : TypeId} {n cap : Nat} {p : Nat → Int × Int} (h : RowP w g E n cap p) (k : Nat) (y : Int) : RowP (w.setCell ⟨g, k * 2 + 1, none⟩ (.int .i64 y)) g E n cap (fun j => if j = k then ((p k).1, y) else p j) := by
  obtain ⟨cur, h1, h2, h3, h4, h5⟩ := h
  refine ⟨cur.setIfInBounds (k * 2 + 1) (.int .i64 y), ?_, by simpa using h2, h3, h4, fun j hj => ?_⟩
  · simp only [World.setCell]
    rw [Array.getElem?_modify, if_pos rfl, h1]
    rfl
  · have hjc : j < cur.size := by omega
    have := h5 j hj
    by_cases hjk : j = k * 2 + 1
    · subst hjk
      unfold fl2
      rw [if_neg (by omega), show (k * 2 + 1) / 2 = k by omega]
      dsimp only
      rw [if_pos rfl]
      simp [hjc]
    · rw [Array.getElem?_setIfInBounds_ne (by omega), this]
      unfold fl2
      dsimp only
      by_cases hk : j / 2 = k
      · rw [if_pos hk, if_pos (by omega), if_pos (by omega), hk]
      · rw [if_neg hk]

theorem ownp_empty (w : World) (E : TypeId) (p : Nat → Int × Int) : OwnP (w.alloc (.cells #[] E)) w.heap.size E (.slice (some ⟨w.heap.size, 0, none⟩) 0 0) 0 p :=
  .inr ⟨_, 0, rfl, Nat.le_refl _, #[], heap_alloc_new w _, rfl, Nat.le_refl _, by decide, fun j hj => by omega⟩

theorem perm_good {p : Nat → Int × Int} {n : Nat} (hp : NGood p n) (od : Nat → Nat) (h1 : ∀ j, j < n → od j < n) (h2 : ∀ j k, j < n → k < n → od j = od k → j = k) : NGood (fun j => p (od j)) n :=
  ⟨hp.n0, hp.n40, fun k hk => hp.rng _ (h1 k hk), fun j k hj hk e => h2 j k hj hk (hp.ne _ _ (h1 j hj) (h1 k hk) e)⟩

theorem perm_win {p : Nat → Int × Int} {n : Nat} {h r r' : Int} (od : Nat → Nat) (h1 : ∀ j, j < n → od j < n) (h2 : ∀ j k, j < n → k < n → od j = od k → j = k) (a : Win (pts p n) h r) (b : Win (pts (fun j => p (od j)) n) h r') : r' = r := by
  have s1 : NSub (fun j => p (od j)) n p n := fun i hi => ⟨od i, h1 i hi, rfl⟩
  have s2 : NSub p n (fun j => p (od j)) n := fun i hi => by
    obtain ⟨j, hj, e⟩ := pigeon n od h1 h2 i hi
    exact ⟨j, hj, by dsimp only; rw [e]⟩
  exact b.det (a.congr fun x => ⟨s1.ptsub x, s2.ptsub x⟩)

theorem heavy_win {p : Nat → Int × Int} {n k : Nat} {h r r' more : Int} (hk : k < n) (hm : (p k).2 ≤ more) (a : Win (pts p n) h r) (b : Win (pts (fun j => if j = k then ((p k).1, more) else p j) n) h r') : r' = r ∨ r' = (p k).1 := by
  obtain ⟨m, hm1, rfl, hm2⟩ := b
  obtain ⟨i, t, hi, ht, rfl⟩ := (pts_mem m).1 hm1
  have hin : ∀ x ∈ pts p n, x ∈ pts (fun j => if j = k then ((p k).1, more) else p j) n := fun x hx => by
    obtain ⟨i', t', hi', ht', rfl⟩ := (pts_mem x).1 hx
    refine (pts_mem _).2 ⟨i', t', hi', ?_, ?_⟩
    · by_cases e : i' = k
      · subst e; simp only [if_pos]; omega
      · simp only [if_neg e]; exact ht'
    · by_cases e : i' = k
      · subst e; simp only [if_pos]
      · simp only [if_neg e]
  by_cases e : i = k
  · subst e
    right
    simp only [if_pos]
  · simp only [if_neg e] at ht hm2 ⊢
    left
    have hw : Win (pts p n) h (p i).1 := ⟨_, (pts_mem _).2 ⟨i, t, hi, ht, rfl⟩, rfl, fun x hx => hm2 x (hin x hx)⟩
    exact hw.det a

set_option maxHeartbeats 4000000 in
set_option maxRecDepth 100000 in
theorem ringOrder_any (w : World) (a : Option Addr) (n c : Nat) (p : Nat → Int × Int) (hv : RdP w (.slice a n c) n p) (hn : n * 16 ≤ 140737488351232) (b2 : Option Addr) (m2 c2 : Nat) (f : Nat → Int) (hf : RdF w (.slice b2 m2 c2) m2 (fun j => .int .i64 (f j)))
    (k more : Int) (ka : Option Addr) (m kc : Nat) (kf : Nat → Int) (hk : RdF w (.slice ka m kc) m (fun j => .int .u8 (kf j))) (hb : ∀ j, j < m → 0 ≤ kf j ∧ kf j ≤ 255) (hm : m ≤ 9223372036854775807) :
    Calls Try.prog 5 #[.slice a n c, .slice b2 m2 c2, .int .i64 k, .int .i64 more, .slice ka m kc] w fun e w' => e = .returned (.bool true) ∧ Fr [] w w' := by
  have HV := Lib.hid hv; clear hv
  have HB := Lib.hid hf; clear hf
  have HK := Lib.hid hk; clear hk
  have HKB := Lib.hid hb; clear hb
  go_enter Try.func5, Try.ntmps5
  go_wp2_with fail
  refine (ringed_any _).mono ?_
  rintro e w1 ⟨rfl, hf1⟩
  have HF1 := Lib.hid hf1; clear hf1
  go_wp2_with fail
  refine (pick_any _ a n c p (HV.out.fr HF1.out) ka m kc kf (HK.out.fr HF1.out (by simp)) HKB.out hm).mono ?_
  rintro e w2 ⟨⟨hz, r, hW, rfl⟩ | ⟨hz, rfl⟩, hf2⟩
  case inr =>
    have HF2 := Lib.hid (HF1.out.trans hf2 (by simp))
    have e : erV (nfault p n) = .iface 59 (.int .i64 (nfault p n)) := by unfold erV; rw [if_neg hz]
    rw [e]
    clear e hz hf2
    go_wp2
    go_ret
    exact ⟨rfl, HF2.out⟩
  have HGD := Lib.hid ((nfault_iff p n).1 hz)
  have HW := Lib.hid hW
  have HF2 := Lib.hid (HF1.out.trans hf2 (by simp))
  clear hz hW hf2
  have h40 := HGD.out.n40
  have h0 := HGD.out.n0
  by_cases hml : m2 = n
  case neg =>
    have hmm : ((m2 : Int) != (n : Int)) = true := by simp; omega
    clear hml
    go_wp2
    go_ret
    exact ⟨rfl, HF2.out⟩
  subst hml
  have hmk := run_mk (P := Try.prog) 36 4 infoBool Try.underlying36 m2 (by omega) (by unfold maxLen; omega)
  have HMR := Lib.hid (row_mk w2 4 (.bool false) rfl m2 (by unfold maxLen; omega))
  have HF3 := Lib.hid (HF2.out.alloc (.cells (madeCells #[Value.bool false] m2) 4))
  rw [show (Value.bool false).cells = #[Value.bool false] from rfl] at HMR
  go_wp2
  clear hmk
  have hgm : w.heap.size ≤ w2.heap.size := HF2.out.size
  generalize w2.alloc (.cells (madeCells #[Value.bool false] m2) 4) = w3 at *
  generalize w2.heap.size = gm at *
  obtain ⟨od, hod⟩ : ∃ od : Nat → Nat, ∀ j, od j = (f j).toNat := ⟨_, fun _ => rfl⟩
  have HOD := Lib.hid hod; clear hod
  go_loopw [14, 16] (fun v vi wr => ∃ (i : Nat) (M : Nat → Bool), i ≤ m2 ∧ vi = .int .i64 i ∧ OwnP wr w.heap.size 29 v i (fun j => p (od j)) ∧ RowF wr gm 4 m2 m2 (fun j => .bool (M j)) ∧ (∀ x, M x = true ↔ ∃ j, j < i ∧ od j = x) ∧ (∀ j, j < i → od j < m2) ∧ (∀ j t, j < i → t < i → od j = od t → j = t) ∧ Fr [] w wr) (fun _ vi _ => m2 - (intOf vi).toNat)
  case atStart => exact ⟨0, fun _ => false, by omega, rfl, OwnP.nil _ _ _ _, HMR.out, fun x => ⟨fun h => (by cases h), fun ⟨j, hj, _⟩ => (by omega)⟩, fun j hj => by omega, fun j t hj => by omega, HF3.out⟩
  case round =>
    clear HMR HF3
    obtain ⟨i, M, hi, rfl, hO, hM, hMx, hod, hoi, hf⟩ := hrel
    have HO := Lib.hid hO; clear hO
    have HM := Lib.hid hM; clear hM
    have HMX := Lib.hid hMx; clear hMx
    have HODL := Lib.hid hod; clear hod
    have HOI := Lib.hid hoi; clear hoi
    have HF := Lib.hid hf; clear hf
    by_cases hlt : i < m2
    · obtain ⟨b, o, cap', he, hnc, hcm, hbw, hc⟩ := HV.out.shape (by omega)
      simp only [Value.slice.injEq, true_and] at he
      obtain ⟨rfl, rfl⟩ := he
      obtain ⟨b', o', cap2, he2, _, _, _, hc2⟩ := HB.out.shape (by omega)
      simp only [Value.slice.injEq, true_and] at he2
      obtain ⟨rfl, rfl⟩ := he2
      have d0 := HF.out.cell (hc2 i hlt) (by simp)
      clear hc2
      have z0 : (0 : Int) ≤ (i : Int) := by omega
      have z1 : (i : Int) < (m2 : Int) := by omega
      by_cases hneg : f i < 0
      · clear hc
        go_wp2
        go_ret
        exact ⟨rfl, HF.out⟩
      by_cases hbig : (m2 : Int) ≤ f i
      · clear hc
        go_wp2
        go_ret
        exact ⟨rfl, HF.out⟩
      obtain ⟨x, hx⟩ : ∃ x : Nat, f i = (x : Int) := ⟨(f i).toNat, by omega⟩
      have hxo : od i = x := by rw [HOD.out, hx]; rfl
      rw [hx] at d0 hneg hbig
      have HXO := Lib.hid hxo
      clear hx hxo
      have hxn : x < m2 := by omega
      have x0 : (0 : Int) ≤ (x : Int) := by omega
      have x1 : (x : Int) < (m2 : Int) := by omega
      have y0 : decide ((x : Int) < 0) = false := by simp
      have y1 : decide (m2 ≤ x) = false := by simp; omega
      clear hneg hbig
      have e0 := HM.out.cell x hxn
      have e1 := HM.out.frozen x
      by_cases hmx : M x = true
      · rw [hmx] at e0
        clear hc e1 hmx
        go_wp2
        go_ret
        exact ⟨rfl, HF.out⟩
      · have hmf : M x = false := by simpa using hmx
        rw [hmf] at e0
        have HMF := Lib.hid hmf
        clear hmf hmx
        obtain ⟨k0, k1⟩ := hc x hxn
        have c0 := HF.out.cell k0 (by simp)
        have c1 := HF.out.cell k1 (by simp)
        have hbg : b ≠ gm := by omega
        have c2 : (wr.setCell ⟨gm, x, none⟩ (.bool true)).cell? ⟨b, o + x * 2, none⟩ = some (.int .i64 (p x).1) := ((Fr.refl [gm] wr).setCell (p := ⟨gm, x, none⟩) (by simp) (.bool true)).cell c0 (by simpa using hbg)
        have c3 : (wr.setCell ⟨gm, x, none⟩ (.bool true)).cell? ⟨b, o + x * 2 + 1, none⟩ = some (.int .i64 (p x).2) := ((Fr.refl [gm] wr).setCell (p := ⟨gm, x, none⟩) (by simp) (.bool true)).cell c1 (by simpa using hbg)
        have hbg2 : b' ≠ gm := by omega
        have d1 : (wr.setCell ⟨gm, x, none⟩ (.bool true)).cell? ⟨b', o' + i, none⟩ = some (.int .i64 x) := ((Fr.refl [gm] wr).setCell (p := ⟨gm, x, none⟩) (by simp) (.bool true)).cell d0 (by simpa using hbg2)
        have hfs : Fr [gm] wr (wr.setCell ⟨gm, x, none⟩ (.bool true)) := (Fr.refl [gm] wr).setCell (p := ⟨gm, x, none⟩) (by simp) (.bool true)
        have HAP := Lib.hid (HO.out.apartF HM.out (by decide))
        have HOW := Lib.hid ((HO.out.kept hfs (fun g hg hmm => by simp at hmm; subst hmm; exact HAP.out (by simp [hg]))).kept ((Fr.refl [] _).alloc (.cells #[.int .i64 (p x).1, .int .i64 (p x).2] 29)) (by simp))
        have HMS := Lib.hid ((HM.out.stored x (.bool true)).alloc (.cells #[.int .i64 (p x).1, .int .i64 (p x).2] 29))
        have HFS := Lib.hid ((HF.out.setCell (p := ⟨gm, x, none⟩) (.inr hgm) (.bool true)).alloc (.cells #[.int .i64 (p x).1, .int .i64 (p x).2] 29))
        have hsz := HF.out.size
        clear hc k0 k1 hfs c0 c1
        go_wp2_with (at_builtin; (refine wpList_app2 rfl (.tmp 75) (.tmp 83) 22 rfl 29 infoNode Try.underlying22 rfl HOW.out rfl (rdp_one _ _ _ _ (by simp)) rfl (by unfold maxLen; omega) (by omega) (by simp; omega) ?_); intro v5 w5 ho5 hf5 hn5)
        have HO5 := Lib.hid (show OwnP w5 w.heap.size 29 v5 (i + 1) (fun j => p (od j)) from ho5.congr (fun j hj => by
          unfold app2
          by_cases hl : j < i
          · rw [if_pos hl]
          · have e : j = i := by omega
            rw [if_neg hl, e, HXO.out]))
        have HAP2 := Lib.hid (HOW.out.apartF HMS.out (by decide))
        have HM5 := Lib.hid ((HMS.out.kept hf5 HAP2.out).congr (f' := fun j => .bool (if j = x then true else M j)) (fun j hj => by
          show (if j = x then Value.bool true else Value.bool (M j)) = Value.bool (if j = x then true else M j)
          split <;> rfl))
        have HF5 := Lib.hid (HFS.out.trans hf5 (fun y hy => .inr (HOW.out.ge y hy)))
        clear ho5 hf5 hn5
        go_roundw
        case rel => exact ⟨i + 1, _, by omega, by go_num, HO5.out, HM5.out, fun y => by
            by_cases hy : y = x
            · subst hy
              rw [if_pos rfl]
              exact ⟨fun _ => ⟨i, by omega, HXO.out⟩, fun _ => rfl⟩
            · rw [if_neg hy, HMX.out]
              constructor
              · rintro ⟨j, hj, e⟩
                exact ⟨j, by omega, e⟩
              · rintro ⟨j, hj, e⟩
                by_cases hji : j = i
                · subst hji
                  rw [HXO.out] at e
                  exact absurd e.symm hy
                · exact ⟨j, by omega, e⟩,
          fun j hj => by
            by_cases hji : j = i
            · rw [hji, HXO.out]; exact hxn
            · exact HODL.out j (by omega),
          fun j t hj ht e => by
            have hnot : ∀ j, j < i → od j ≠ x := fun j hj e => by
              have := (HMX.out x).2 ⟨j, hj, e⟩
              rw [HMF.out] at this
              cases this
            by_cases hji : j = i
            · by_cases hti : t = i
              · omega
              · rw [hji, HXO.out] at e
                exact absurd e.symm (hnot t (by omega))
            · by_cases hti : t = i
              · rw [hti, HXO.out] at e
                exact absurd e (hnot j (by omega))
              · exact HOI.out j t (by omega) (by omega) e, HF5.out⟩
        case measure => simp [intOf]; omega
    · obtain rfl : i = m2 := by omega
      obtain ⟨a3, c3, hv3⟩ := HO.out.rd.slice
      subst hv3
      go_wp2_with fail
      refine (pick_any _ a3 i c3 (fun j => p (od j)) HO.out.rd ka m kc kf (HK.out.fr HF.out (by simp)) HKB.out hm).mono ?_
      rintro e w5 ⟨⟨hz, r', hW', rfl⟩ | ⟨hz, rfl⟩, hf5⟩
      case inr => exact absurd ((nfault_iff _ _).2 (perm_good HGD.out od HODL.out HOI.out)) hz
      obtain rfl := perm_win od HODL.out HOI.out HW.out hW'
      have HF5 := Lib.hid (HF.out.trans hf5 (by simp))
      clear hz hW' hf5 HM HMX HO
      by_cases hk0 : k < 0
      · go_wp2
        go_ret
        exact ⟨rfl, HF5.out⟩
      by_cases hk1 : (i : Int) ≤ k
      · go_wp2
        go_ret
        exact ⟨rfl, HF5.out⟩
      obtain ⟨x, rfl⟩ : ∃ x : Nat, k = (x : Int) := ⟨k.toNat, by omega⟩
      have hxn : x < i := by omega
      obtain ⟨b, o, cap', he, hnc, hcm, hbw, hc⟩ := HV.out.shape (by omega)
      simp only [Value.slice.injEq, true_and] at he
      obtain ⟨rfl, rfl⟩ := he
      obtain ⟨k0, k1⟩ := hc x hxn
      have HC0 := Lib.hid k0
      have c1 := HF5.out.cell k1 (by simp)
      clear hc k0 k1
      have x0 : (0 : Int) ≤ (x : Int) := by omega
      have x1 : (x : Int) < (i : Int) := by omega
      have y0 : decide ((x : Int) < 0) = false := by simp
      have y1 : decide (i ≤ x) = false := by simp; omega
      clear hk0 hk1
      by_cases hmore : more < (p x).2
      · go_wp2
        go_ret
        exact ⟨rfl, HF5.out⟩
      have hsz := HF5.out.size
      have HE0 := Lib.hid (ownp_empty w5 29 p)
      have HRV := Lib.hid ((HV.out.fr HF5.out).fr ((Fr.refl [] w5).alloc (.cells #[] 29)))
      go_wp2_with (at_builtin; refine wpList_app2 rfl (.tmp 115) (.tmp 116) 22 rfl 29 infoNode Try.underlying22 rfl HE0.out rfl HRV.out rfl (by unfold maxLen; omega) (by omega) (by simp) ?_; intro v6 w6 ho6 hf6 hn6; rw [Nat.zero_add] at ho6; obtain ⟨g6, cap6, hv6, hg6, hrow6⟩ := ho6.row (by omega); subst hv6; have q0 := hrow6.frozen (x * 2 + 1); have q1 := (hrow6.cells x hxn).2; have HR6 := Lib.hid (hrow6.congr (q := p) (fun j hj => by simp [app2])); have HF6 := Lib.hid ((HF5.out.alloc (.cells #[] 29)).trans hf6 (fun y hy => .inr (by have := HE0.out.ge y hy; omega))); clear ho6 hf6 hn6 hrow6)
      have HF7 := Lib.hid (HF6.out.setCell (p := ⟨g6, x * 2 + 1, none⟩) (.inr (Nat.le_trans hsz hg6)) (.int .i64 more))
      clear hg6
      refine (pick_any _ (some ⟨g6, 0, none⟩) i cap6 (fun j => if j = x then ((p x).1, more) else p j) (HR6.out.stored2 x more).rd ka m kc kf (HK.out.fr HF7.out (by simp)) HKB.out hm).mono ?_
      rintro e w8 ⟨⟨hz, r2, hW2, rfl⟩ | ⟨hz, rfl⟩, hf8⟩
      · have HF8 := Lib.hid (HF7.out.trans hf8 (by simp))
        have hor := heavy_win hxn (by omega) HW.out hW2
        have c0 := HF8.out.cell HC0.out (by simp)
        clear hz hW2 hf8 q0 q1 c1
        rcases hor with hor | hor
        · subst hor
          go_wp2
          go_ret
          exact ⟨rfl, HF8.out⟩
        · by_cases heq : r2 = r'
          · subst heq
            clear hor
            go_wp2
            go_ret
            exact ⟨rfl, HF8.out⟩
          · have h1 : (r2 == r') = false := by simpa using heq
            rw [← hor] at c0
            clear hor heq
            go_wp2
            go_ret
            exact ⟨rfl, HF8.out⟩
      · have HF8 := Lib.hid (HF7.out.trans hf8 (by simp))
        have e : erV (nfault (fun j => if j = x then ((p x).1, more) else p j) i) = .iface 59 (.int .i64 (nfault (fun j => if j = x then ((p x).1, more) else p j) i)) := by unfold erV; rw [if_neg hz]
        rw [e]
        clear e hz hf8
        generalize nfault (fun j => if j = x then ((p x).1, more) else p j) i = zz at *
        go_wp2
        go_ret
        exact ⟨rfl, HF8.out⟩

end Go.Proofs.Ytbaiaolgjlhioaa
