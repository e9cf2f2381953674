/- SketchTells: Hashed, Spot, Guessed of the reference. -/
import Derived.Test.YtgpfkaiinbncnaaDoorSkFault
import Derived.IntWalk
namespace Go.Proofs.YtgpfkaiinbncnaaDoor
open Go.RowKit

theorem xor_i64 (a b : Nat) (ha : a < 4294967296) (hb : b < 4294967296) : bits BinOp.xor IntKind.i64 (a : Int) (b : Int) = ((a ^^^ b : Nat) : Int) := by
  have hx : a ^^^ b < 2 ^ 32 := Nat.xor_lt_two_pow ha hb
  have e : (BitVec.ofInt 64 (a : Int) ^^^ BitVec.ofInt 64 (b : Int)).toNat = a ^^^ b := by
    rw [BitVec.toNat_xor, BitVec.toNat_ofInt, BitVec.toNat_ofInt]
    congr 1 <;> omega
  show IntKind.i64.wrap ((BitVec.ofInt 64 (a : Int) ^^^ BitVec.ofInt 64 (b : Int)).toNat : Int) = _
  rw [e]
  simp [IntKind.wrap, IntKind.signed, IntKind.bits]
  omega

theorem xor_u32 (a b : Nat) (ha : a < 4294967296) (hb : b < 4294967296) : bits BinOp.xor IntKind.u32 (a : Int) (b : Int) = ((a ^^^ b : Nat) : Int) := by
  have hx : a ^^^ b < 2 ^ 32 := Nat.xor_lt_two_pow ha hb
  have e : (BitVec.ofInt 32 (a : Int) ^^^ BitVec.ofInt 32 (b : Int)).toNat = a ^^^ b := by
    rw [BitVec.toNat_xor, BitVec.toNat_ofInt, BitVec.toNat_ofInt]
    congr 1 <;> omega
  show IntKind.u32.wrap ((BitVec.ofInt 32 (a : Int) ^^^ BitVec.ofInt 32 (b : Int)).toNat : Int) = _
  rw [e]
  simp [IntKind.wrap, IntKind.signed, IntKind.bits]
  omega

theorem xor_eq (h x : Int) (h0 : 0 ≤ h) (h1 : h ≤ 4294967295) (x0 : 0 ≤ x) (x1 : x ≤ 255) : bits BinOp.xor IntKind.i64 h x = bits BinOp.xor IntKind.u32 h x ∧ 0 ≤ bits BinOp.xor IntKind.i64 h x ∧ bits BinOp.xor IntKind.i64 h x ≤ 4294967295 := by
  obtain ⟨a, rfl⟩ : ∃ a : Nat, h = a := ⟨h.toNat, by omega⟩
  obtain ⟨b, rfl⟩ : ∃ b : Nat, x = b := ⟨x.toNat, by omega⟩
  have hx : a ^^^ b < 2 ^ 32 := Nat.xor_lt_two_pow (by omega) (by omega)
  rw [xor_i64 a b (by omega) (by omega), xor_u32 a b (by omega) (by omega)]
  exact ⟨rfl, by omega, by omega⟩

theorem hashed_any (w : World) (a : Option Addr) (n c : Nat) (f : Nat → Int) (hv : RdF w (.slice a n c) n (fun j => .int .u8 (f j))) (hf : ∀ j, j < n → 0 ≤ f j ∧ f j ≤ 255) (hn : n ≤ 9223372036854775807) :
    Calls Tryd.prog 63 #[.slice a n c] w fun e w' => e = .returned (.int .i64 (hsh f n)) ∧ w = w' := by
  have HV := Lib.hid hv; clear hv
  have HF := Lib.hid hf; clear hf
  go_enter Tryd.func63, Tryd.ntmps63
  go_wp2
  go_loop [3, 4] (fun h i => ∃ k : Nat, k ≤ n ∧ i = .int .i64 k ∧ h = .int .i64 (hsh f k)) (fun _ i => n - (intOf i).toNat)
  case atStart => exact ⟨0, by omega, rfl, rfl⟩
  case round =>
    obtain ⟨k, hk, rfl, rfl⟩ := hrel
    have hb := hsh_bd f k
    by_cases hlt : k < n
    · obtain ⟨b, o, cap', he, hnc, hcm, hbw, hc⟩ := HV.out.shape (by omega)
      simp only [Value.slice.injEq, true_and] at he
      obtain ⟨rfl, rfl⟩ := he
      have hcb := hc k hlt
      have hfb := HF.out k hlt
      obtain ⟨hx1, hx2, hx3⟩ := xor_eq (hsh f k) (f k) hb.1 hb.2 hfb.1 hfb.2
      have HX := Lib.hid hx1
      clear hc hx1
      have e1 : hsh f (k + 1) = bits BinOp.xor IntKind.i64 (hsh f k) (f k) * 16777619 % 4294967296 := by rw [HX.out]; rfl
      have E1 := Lib.hid e1; clear e1
      go_wp2
      go_round
      case rel => exact ⟨k + 1, by omega, by go_num, by rw [E1.out]⟩
      case measure => simp [intOf]; omega
    · obtain rfl : k = n := by omega
      go_wp2
      go_ret
      exact ⟨rfl, rfl⟩


set_option maxHeartbeats 2000000 in
set_option maxRecDepth 100000 in
theorem spot_any (w : World) (rv : Value) (wd i n : Nat) (a : Option Addr) (c : Nat) (kf : Nat → Int) (hk : RdF w (.slice a n c) n (fun j => .int .u8 (kf j))) (hb : ∀ j, j < n → 0 ≤ kf j ∧ kf j ≤ 255) (hi : i < 8) (hw : 1 ≤ wd ∧ wd ≤ 1000) (hn : n ≤ 140737488351232) :
    Calls Tryd.prog 44 #[.agg #[.int .i64 wd, rv], .int .i64 i, .slice a n c] w fun e w' => e = .returned (.int .i64 (spt wd i n kf)) ∧ Fr [] w w' := by
  have HK := Lib.hid hk; clear hk
  have HB := Lib.hid hb; clear hb
  go_enter Tryd.func44, Tryd.ntmps44
  go_wp2_with fail
  have HF1 := Lib.hid ((Fr.refl [] w).alloc (.cells #[.int .i64 wd, rv] 24))
  have hb1 := heap_alloc_new w (.cells #[.int .i64 wd, rv] 24)
  have HB1 := Lib.hid hb1
  have c0 := blk_cell hb1 0 rfl
  generalize w.alloc (.cells #[.int .i64 wd, rv] 24) = w1 at *
  have hpl := lt_of_blk hb1
  have hpl2 : w.heap.size < w1.heap.size + 1 := by omega
  have ewr : IntKind.u8.wrap (i : Int) = i := IntWalk.u8_in _ (by omega)
  have hrow := row_lit w1.drew #[.int .u8 (IntKind.u8.wrap (i : Int))] 5 1 (fun _ => .int .u8 (IntKind.u8.wrap (i : Int))) rfl (by decide) (fun j hj => match j, hj with | 0, _ => rfl)
  have HOW := Lib.hid (show OwnF (w1.drew.alloc (.cells #[.int .u8 (IntKind.u8.wrap (i : Int))] 5)) w1.heap.size 5 (.slice (some ⟨w1.heap.size, 0, none⟩) 1 1) 1 (fun _ => .int .u8 (IntKind.u8.wrap (i : Int))) from .inr ⟨_, 1, rfl, Nat.le_refl _, hrow⟩)
  have HRK := Lib.hid ((HK.out.fr HF1.out (by simp)).fr (((Fr.refl [] w1).drew).alloc (.cells #[.int .u8 (IntKind.u8.wrap (i : Int))] 5)) (by simp))
  have HHA := Lib.hid (fun (w5 : World) (v : Value) (h : OwnF w5 w1.heap.size 5 v (1 + n) (app 1 (fun _ => .int .u8 (IntKind.u8.wrap (i : Int))) (fun j => .int .u8 (kf j)))) => (by
    have h2 : RdF w5 v (1 + n) (fun j => .int .u8 (kfn i kf j)) := h.rd.congr (fun j hj => by
      unfold app kfn
      by_cases h0 : j = 0
      · subst h0
        rw [ewr]
        rfl
      · rw [if_neg (by omega), if_neg h0])
    obtain ⟨a5, c5, rfl⟩ := h2.slice
    exact hashed_any w5 a5 (1 + n) c5 (kfn i kf) h2 (fun j hj => by
      unfold kfn
      by_cases h0 : j = 0
      · rw [if_pos h0]; omega
      · rw [if_neg h0]; exact HB.out _ (by omega)) (by omega) : Calls Tryd.prog 63 #[v] w5 fun e w' => e = .returned (.int .i64 (hsh (kfn i kf) (1 + n))) ∧ w5 = w'))
  have hbd := hsh_bd (kfn i kf) (1 + n)
  have hml : 1 + n ≤ maxLen := by unfold maxLen; omega
  have hbt : (1 + n) * 1 ≤ 140737488355328 := by omega
  have hba : w1.heap.size ≤ (w1.drew.alloc (.cells #[.int .u8 (IntKind.u8.wrap (i : Int))] 5)).heap.size := by simp
  have hcx : (w1.drew.alloc (.cells #[.int .u8 (IntKind.u8.wrap (i : Int))] 5)).cell? ⟨w.heap.size, 0, none⟩ = some (.int .i64 wd) := (((Fr.refl [] w1).drew).alloc _).cell c0 (by simp)
  have hnx : w.heap.size ∉ (Value.slice (some ⟨w1.heap.size, 0, none⟩) 1 1).ownBlock.toList := by simp [Value.ownBlock]; omega
  have hres : (hsh (kfn i kf) (1 + n) % (wd : Int)) = ((spt wd i n kf : Nat) : Int) := by
    unfold spt
    rw [Nat.add_comm 1 n] at hbd ⊢
    rw [Int.natCast_emod, Int.toNat_of_nonneg hbd.1]
  have hsl := spt_lt wd i n kf (by omega)
  have hsw := HF1.out.size
  have q0 : ¬ (wd : Int) = 0 := by omega
  generalize hsp : spt wd i n kf = sp at *
  have HSP := Lib.hid hsp; clear hsp
  have q3 : ¬ wd = 0 := by omega
  generalize hsh (kfn i kf) (1 + n) = hh at *
  have q2 : IntKind.i64.wrap (sp : Int) = sp := IntWalk.i64_in _ (by omega)
  have q1 : hh.tmod (wd : Int) = (sp : Int) := by rw [Int.tmod_eq_emod_of_nonneg hbd.1]; exact hres
  clear hrow hb1 ewr hres
  go_region_held3 (fun w' => w'.cell? ⟨w.heap.size, 0, none⟩ = some (.int .i64 wd))
    (first | exact c5 | go_keep)
    (first
      | (refine step_app ?_ (.tmp 9) (.tmp 10) 25 ?_ 5 infoU8 Tryd.underlying25 ?_ HOW.out ?_ HRK.out ?_ ?_ ?_ ?_ ?_ ?_; rfl; rfl; rfl; rfl; rfl; (intro _ _; rfl); exact hml; exact hbt; exact hba; intro v5 w5 ho5 hf5 hn5; have c5 := hf5.cell (p := ⟨w.heap.size, 0, none⟩) (v := .int .i64 wd) hcx hnx)
      | (go_at_call 63; refine (HHA.out _ _ ho5).mono ?_; rintro e w6 ⟨rfl, rfl⟩))
  go_wp2
  go_ret
  refine ⟨by rw [HSP.out]; rfl, ((HF1.out.alloc _).drew).trans hf5 (fun x hx => .inr ?_)⟩
  simp [Value.ownBlock] at hx
  omega


/-- the places of one key, as numbers that are not looked into -/
theorem spot_sp (w : World) (rv : Value) (wd n d : Nat) (a : Option Addr) (c : Nat) (kf : Nat → Int) (sp : Nat → Nat) (hsp : ∀ i, sp i = spt wd i n kf) (hk : RdF w (.slice a n c) n (fun j => .int .u8 (kf j)))
    (hb : ∀ j, j < n → 0 ≤ kf j ∧ kf j ≤ 255) (hd : d ≤ 8) (hw : 1 ≤ wd ∧ wd ≤ 1000) (hn : n ≤ 140737488351232) :
    ∀ w1, Fr [] w w1 → ∀ i, i < d → Calls Tryd.prog 44 #[.agg #[.int .i64 wd, rv], .int .i64 i, .slice a n c] w1 fun e w' => e = .returned (.int .i64 (sp i)) ∧ Fr [] w1 w' := by
  intro w1 h1 i hi
  refine (spot_any w1 rv wd i n a c kf (hk.fr h1 (by simp)) hb (by omega) hw hn).mono ?_
  rintro e w' ⟨he, hf⟩
  exact ⟨by rw [he, hsp], hf⟩

set_option maxHeartbeats 4000000 in
set_option maxRecDepth 100000 in
theorem guessed_any (w : World) (rv : Value) (d wd n : Nat) (F : Nat → Nat → Int) (a : Option Addr) (c : Nat) (sp : Nat → Nat) (hs : SkF w rv d wd F) (hok : SkOk d wd F) (hsl : ∀ i, i < d → sp i < wd)
    (hpl : ∀ w1, Fr [] w w1 → ∀ i, i < d → Calls Tryd.prog 44 #[.agg #[.int .i64 wd, rv], .int .i64 i, .slice a n c] w1 fun e w' => e = .returned (.int .i64 (sp i)) ∧ Fr [] w1 w') :
    Calls Tryd.prog 14 #[.agg #[.int .i64 wd, rv], .slice a n c] w fun e w' => e = .returned (.int .i64 (lea (fun i => F i (sp i)) d)) ∧ Fr [] w w' := by
  obtain ⟨R, hr, hR⟩ := hs
  have hd := hok.deep
  have hw := hok.wide
  obtain ⟨b, o, cc, rfl, _, _, _, hc⟩ := hr.shape (by omega)
  have HC := Lib.hid hc
  have HRR := Lib.hid hR
  have HSL := Lib.hid hsl
  have HPL := Lib.hid hpl
  have HOK := Lib.hid hok
  clear hc hR hr hok hsl hpl
  have HF0 := Lib.hid ((Fr.refl [] w).alloc (.cells #[.int .i64 wd, .slice (some ⟨b, o, none⟩) d cc] 24))
  have hb0 := heap_alloc_new w (.cells #[.int .i64 wd, .slice (some ⟨b, o, none⟩) d cc] 24)
  have c0 : (w.alloc (.cells #[.int .i64 wd, .slice (some ⟨b, o, none⟩) d cc] 24)).cell? ⟨w.heap.size, 0, none⟩ = some (.int .i64 wd) := blk_cell hb0 0 rfl
  have c1 : (w.alloc (.cells #[.int .i64 wd, .slice (some ⟨b, o, none⟩) d cc] 24)).cell? ⟨w.heap.size, 1, none⟩ = some (.slice (some ⟨b, o, none⟩) d cc) := blk_cell hb0 1 rfl
  clear hb0
  go_enter Tryd.func14, Tryd.ntmps14
  go_upto_region 1 with fail
  generalize w.alloc (.cells #[.int .i64 wd, .slice (some ⟨b, o, none⟩) d cc] 24) = w1 at *
  generalize w.heap.size = p at *
  have C0 := Lib.hid c0
  have C1 := Lib.hid c1
  have hrow := HRR.out 0 (by omega)
  obtain ⟨b2, o2, c2, he2, _, _, _, hc2⟩ := hrow.shape (by omega)
  have k1 := HF0.out.cell (HC.out 0 (by omega)) (by simp)
  rw [he2, Nat.add_zero] at k1
  have hsl := HSL.out 0 (by omega)
  have k2 := HF0.out.cell (hc2 _ hsl) (by simp)
  have HP0 := Lib.hid (HPL.out w1.drew HF0.out.drew 0 (by omega))
  clear he2 hrow hc2
  have l0 : (0 : Int) < (d : Int) := by omega
  have s3 : ((sp 0 : Nat) : Int) < (wd : Int) := by omega
  go_cut [5] (fun l wy => l = .int .i64 (F 0 (sp 0)) ∧ Fr [] w1 wy)
  case first =>
    generalize F 0 (sp 0) = fv at *
    generalize sp 0 = sk at *
    go_region_with (go_at_call 44; refine (HP0.out).mono ?_; rintro e w5 ⟨rfl, hf5⟩; have hf6 := ((Fr.refl [] w1).drew).trans hf5 (S := []) (by simp); have m0 := hf6.cell c1 (by simp); have m1 := hf6.cell k1 (by simp); have m2 := hf6.cell k2 (by simp); have HF6 := Lib.hid hf6; clear hf5 hf6)
    all_goals (go_wp2_with fail; go_meet)
    all_goals exact ⟨rfl, HF6.out⟩
  case rest =>
    obtain ⟨rfl, hfc⟩ := hcut
    have HFC := Lib.hid hfc
    clear hfc c0 c1 k1 k2
    have hl1 : lea (fun i => F i (sp i)) 1 = F 0 (sp 0) := by
      have h1 := HOK.out.all 0 (by omega) (sp 0) hsl
      show min 1125899906842624 (F 0 (sp 0)) = F 0 (sp 0)
      omega
    rw [← hl1]
    have HL1 := Lib.hid hl1
    clear hl1 hsl
    go_wp2
    go_loopw [5, 6] (fun l i wr => ∃ k : Nat, 1 ≤ k ∧ k ≤ d ∧ i = .int .i64 k ∧ l = .int .i64 (lea (fun i => F i (sp i)) k) ∧ Fr [] w1 wr) (fun _ i _ => d - (intOf i).toNat)
    case atStart => exact ⟨1, by omega, by omega, rfl, rfl, HFC.out⟩
    case round =>
      obtain ⟨k, hk1, hkd, rfl, rfl, hf⟩ := hrel
      have c0 := hf.cell C0.out (by simp)
      have c1 := hf.cell C1.out (by simp)
      have HFW := Lib.hid hf
      clear hf
      by_cases hlt : k < d
      · have hrow := HRR.out k hlt
        obtain ⟨b2, o2, c2, he2, _, _, _, hc2⟩ := hrow.shape (by omega)
        have k1 := (HF0.out.trans HFW.out (S := []) (by simp)).cell (HC.out k hlt) (by simp)
        rw [he2] at k1
        have hsl := HSL.out k hlt
        have k2 := (HF0.out.trans HFW.out (S := []) (by simp)).cell (hc2 _ hsl) (by simp)
        have HPK := Lib.hid (HPL.out wr.drew ((HF0.out.trans HFW.out (S := []) (by simp)).drew) k hlt)
        have hsuc : lea (fun i => F i (sp i)) (k + 1) = min (lea (fun i => F i (sp i)) k) (F k (sp k)) := rfl
        have HSU := Lib.hid hsuc
        clear he2 hrow hc2 hsuc
        generalize lea (fun i => F i (sp i)) k = lo at *
        generalize hfv : F k (sp k) = fv at *
        generalize sp k = sk at *
        clear hfv
        have k0 : (0 : Int) ≤ (k : Int) := by omega
        have k3 : (k : Int) < (d : Int) := by omega
        have s3 : (sk : Int) < (wd : Int) := by omega
        go_upto_region 5 with fail
        go_cut [7] (fun l wy => l = .int .i64 fv ∧ Fr [] wr wy)
        case first =>
          go_region_with (go_at_call 44; refine (HPK.out).mono ?_; rintro e w5 ⟨rfl, hf5⟩; have hf6 := ((Fr.refl [] wr).drew).trans hf5 (S := []) (by simp); have m0 := hf6.cell c1 (by simp); have m1 := hf6.cell k1 (by simp); have m2 := hf6.cell k2 (by simp); have HF6 := Lib.hid hf6; clear hf5 hf6)
          all_goals (go_wp2_with fail; go_meet)
          all_goals exact ⟨rfl, HF6.out⟩
        case rest =>
          obtain ⟨rfl, hfc⟩ := hcut
          have HF9 := Lib.hid (HFW.out.trans hfc (by simp))
          clear hfc c0 c1 k1 k2
          by_cases hlf : fv < lo
          · go_wp2
            go_roundw
            case rel => exact ⟨k + 1, by omega, by omega, by go_num, by rw [HSU.out, show min lo fv = fv by omega], HF9.out⟩
            case measure => simp [intOf]; omega
          · go_wp2
            go_roundw
            case rel => exact ⟨k + 1, by omega, by omega, by go_num, by rw [HSU.out, show min lo fv = lo by omega], HF9.out⟩
            case measure => simp [intOf]; omega
      · obtain rfl : k = d := by omega
        go_wp2
        go_ret
        exact ⟨rfl, HF0.out.trans HFW.out (by simp)⟩

end Go.Proofs.YtgpfkaiinbncnaaDoor
