/- TopLetters: the walk. -/
import Derived.Test.YtcfdlilhhfaaaaaDoorZbase5
import Derived.Test.YtcfdlilhhfaaaaaDoorZFindAll
import Derived.Test.YtcfdlilhhfaaaaaDoorZbase4
import Derived.Test.YtcfdlilhhfaaaaaDoorZbase1
import Derived.Test.YtcfdlilhhfaaaaaDoorZbase3
import Derived.Test.YtcfdlilhhfaaaaaDoorZRingPick
namespace Go.Proofs.YtcfdlilhhfaaaaaDoor
open Go.RowKit

/-- two errors that are one -/
theorem toldSame_any (w : World) (x : Option Int) (hg : Hand w) :
    Calls Tryd.prog 19 #[errOf x, errOf x] w fun e w' => e = .returned (.bool true) ∧ Fr [] w w' := by
  have HG := Lib.hid hg; clear hg
  go_enter Tryd.func19, Tryd.ntmps19
  go_wp2_with fail
  refine (told_any _ x HG.out).mono ?_
  rintro e w1 ⟨rfl, hf⟩
  have HG1 := Lib.hid (HG.out.fr hf (by simp))
  have HF1 := Lib.hid hf; clear hf
  go_wp2_with fail
  refine (told_any _ x HG1.out).mono ?_
  rintro e w2 ⟨rfl, hf⟩
  have HF2 := Lib.hid (HF1.out.trans hf (by simp)); clear hf
  go_wp2
  go_ret
  exact ⟨by simp, HF2.out⟩

theorem eqUpTo_self (f : Nat → Int) (n : Nat) : eqUpTo f f n = true := by
  induction n with
  | zero => rfl
  | succ n ih => simp [eqUpTo, ih]

/-- what Pick answers: one number, one error -/
def PickD (p : Nat → Int × Int) (n : Nat) (h : Int) (r : Int) (x : Option Int) : Prop := (nfault p n = 0 ∧ Win (pts p n) h r ∧ x = none) ∨ (nfault p n ≠ 0 ∧ r = 0 ∧ x = some (nfault p n))

theorem PickD.det {p : Nat → Int × Int} {n : Nat} {h r r' : Int} {x x' : Option Int} (a : PickD p n h r x) (b : PickD p n h r' x') : r' = r ∧ x' = x := by
  rcases a with ⟨a1, a2, rfl⟩ | ⟨a1, rfl, rfl⟩ <;> rcases b with ⟨b1, b2, rfl⟩ | ⟨b1, rfl, rfl⟩
  · exact ⟨(a2.det b2).symm, rfl⟩
  · exact absurd a1 b1
  · exact absurd b1 a1
  · exact ⟨rfl, rfl⟩

theorem pick_one (w : World) (a : Option Addr) (n c : Nat) (p : Nat → Int × Int) (hv : RdP w (.slice a n c) n p) (ka : Option Addr) (m kc : Nat) (kf : Nat → Int) (hk : RdF w (.slice ka m kc) m (fun j => .int .u8 (kf j))) (hb : ∀ j, j < m → 0 ≤ kf j ∧ kf j ≤ 255) (hm : m ≤ 9223372036854775807) :
    Calls Tryd.prog 18 #[.slice a n c, .slice ka m kc] w fun e w' => (∃ r x, e = .returned (.tuple #[.int .i64 r, errOf x]) ∧ PickD p n (hsh kf m) r x) ∧ Fr [] w w' := by
  refine (pick_any w a n c p hv ka m kc kf hk hb hm).mono ?_
  rintro e w' ⟨⟨h0, r, hW, rfl⟩ | ⟨h0, rfl⟩, hf⟩
  · exact ⟨⟨r, none, rfl, .inl ⟨h0, hW, rfl⟩⟩, hf⟩
  · exact ⟨⟨0, some (nfault p n), by rw [show erV (nfault p n) = errOf (some (nfault p n)) by simp [erV, errOf, h0]], .inr ⟨h0, rfl, rfl⟩⟩, hf⟩

set_option maxHeartbeats 8000000 in
set_option maxRecDepth 100000 in
theorem topLetters_any (w : World) (hg : Hand w) (B : HB) (hS : ∀ x ∈ B.s, x < w.heap.size) (m : Ms) (vq va vu vm : Value) (hm : MsOk B w m vq va vu vm) (hsm : ∀ i, i < m.mn → (m.M i).dl ≤ 1099511627776)
    (ab : Option Addr) (nb cb : Nat) (bit : Nat → Bool) (hb : RdF w (.slice ab nb cb) nb (fun j => .bool (bit j))) (hnb : nb ≤ 140737488355328) (na : Option Addr) (nn nc : Nat) (p : Nat → Int × Int) (hv : RdP w (.slice na nn nc) nn p) :
    Calls Tryd.prog 4 #[msgV m.h vq va vu vm, .slice ab nb cb, .slice na nn nc] w fun e w' => e = .returned (.bool true) ∧ Fr [] w w' := by
  have HG := Lib.hid hg
  have HNV := Lib.hid hv
  clear hv
  have HM := Lib.hid hm
  have HBT := Lib.hid hb
  have HSM := Lib.hid hsm
  have HSS := Lib.hid hS
  clear hg hb hsm hS
  obtain ⟨_, hq'⟩ := hm.hq
  obtain ⟨qa, qc, rfl⟩ := hq'.rd.slice
  obtain ⟨_, ha'⟩ := hm.ha
  obtain ⟨aa, ac, rfl⟩ := ha'.rd.slice
  obtain ⟨_, hu'⟩ := hm.hu
  obtain ⟨ua, uc, rfl⟩ := hu'.rd.slice
  obtain ⟨_, hm'⟩ := hm.hm
  obtain ⟨ma, mc, rfl⟩ := hm'.rd.slice
  clear hq' ha' hu' hm' hm
  have HFS := Lib.hid (findAll_any w B m (.slice qa m.qn qc) (.slice aa m.an ac) (.slice ua m.un uc) (.slice ma m.mn mc) HM.out HSM.out)
  have HKY := Lib.hid (fun (wx : World) (hx : Fr [] w wx) => key_any wx B m (.slice qa m.qn qc) (.slice aa m.an ac) (.slice ua m.un uc) (.slice ma m.mn mc) (optDo m) (optZ m) (HM.out.frH (hx.hot0 B)) (HFS.out.fr hx))
  have HBX := Lib.hid (fun (wx : World) => heap_alloc_new wx (.cells #[.int .i64 m.h.id, .bool m.h.an, .int .i64 m.h.op, .bool m.h.aa, .bool m.h.tc, .bool m.h.rd, .bool m.h.ra, .bool m.h.z, .bool m.h.ad, .bool m.h.cd, .int .i64 m.h.code, .slice qa m.qn qc, .slice aa m.an ac, .slice ua m.un uc, .slice ma m.mn mc] 43))
  unfold msgV at HKY
  unfold msgV
  generalize hh : m.h = h at *
  have HH := Lib.hid hh
  clear hh
  obtain ⟨id, an, op, h3, tc, rd, ra, z, ad, cd, code⟩ := h
  simp only at HKY HBX
  generalize hqn : m.qn = qn at *
  generalize han : m.an = nan at *
  generalize hun : m.un = nun at *
  generalize hmn : m.mn = nmn at *
  have HQN := Lib.hid hqn
  have HAN := Lib.hid han
  have HUN := Lib.hid hun
  have HMN := Lib.hid hmn
  clear hqn han hun hmn
  go_enter Tryd.func4, Tryd.ntmps4
  have HF0 := Lib.hid (show Fr [] w (w.alloc (.cells #[.int .i64 id, .bool an, .int .i64 op, .bool h3, .bool tc, .bool rd, .bool ra, .bool z, .bool ad, .bool cd, .int .i64 code, .slice qa qn qc, .slice aa nan ac, .slice ua nun uc, .slice ma nmn mc] 43)) from (Fr.refl [] w).alloc _)
  go_wp2_with fail
  refine (tsent_any _).mono ?_
  rintro e w1 ⟨rfl, hf1⟩
  have HB1 := Lib.hid (hf1.blk (HBX.out w) (by simp))
  have HF1 := Lib.hid (HF0.out.trans hf1 (by simp))
  clear hf1
  obtain ⟨c0, c1, c2, c3, c4, c5, c6, c7, c8, c9, c10, c11, c12, c13, c14⟩ := msg_cells (h := ⟨id, an, op, h3, tc, rd, ra, z, ad, cd, code⟩) HB1.out
  simp only at c0 c1 c2 c3 c4 c5 c6 c7 c8 c9 c10
  go_wp2_with fail
  refine (HKY.out _ HF1.out).mono ?_
  rintro e w2 ⟨⟨hz, v1, rfl, ho1⟩ | ⟨hz, rfl⟩, hf2⟩
  case inr =>
    have HF2 := Lib.hid (HF1.out.trans hf2 (by simp))
    clear hz hf2 c0 c1 c2 c3 c4 c5 c6 c7 c8 c9 c10 c11 c12 c13 c14
    go_wp2
    go_ret
    exact ⟨rfl, HF2.out⟩
  clear c0 c1 c2 c3 c4 c5 c6 c7 c8 c9 c10 c11 c12 c13 c14
  obtain ⟨hq1, hnf, hok, hzz⟩ := keyFault_ok hz
  have HF2 := Lib.hid (HF1.out.trans hf2 (by simp))
  have HB2 := Lib.hid (hf2.blk HB1.out (by simp))
  have HO1 := Lib.hid (OwnF.mono ho1 HF1.out.size)
  have HZ := Lib.hid hz
  have HNF := Lib.hid hnf
  have HOK := Lib.hid hok
  have HZZ := Lib.hid hzz
  have e1 : qn = 1 := by rw [← HQN.out]; exact hq1
  clear hf2 hz hnf hok hzz hq1 ho1 HF1 HB1
  subst e1
  obtain ⟨F, hQ⟩ := HM.out.hq
  rw [HQN.out] at hQ
  have HQW := Lib.hid (hQ.wf 0 (by decide))
  have HONE := Lib.hid (show ∀ j, j < 1 * 3 → (fls 3 F j).oneCell' = true from fun j hj => hQ.one _ _ (div_lt' hj) (Nat.mod_lt _ (by decide)))
  obtain ⟨n0, k0, hF, hrn, _⟩ := hQ.at_ 0 (by decide)
  have HRN := Lib.hid hrn
  have HFF := Lib.hid hF
  have HRD := Lib.hid hQ.rd
  obtain ⟨va1, vc1, rfl⟩ := HO1.out.rd.slice
  clear hQ hrn hF
  obtain ⟨c0, c1, c2, c3, c4, c5, c6, c7, c8, c9, c10, c11, c12, c13, c14⟩ := msg_cells (h := ⟨id, an, op, h3, tc, rd, ra, z, ad, cd, code⟩) HB2.out
  simp only at c0 c1 c2 c3 c4 c5 c6 c7 c8 c9 c10
  have hfa : Fr [] w2 (w2.alloc (.cells #[.int .i64 id, .bool an, .int .i64 op, .bool h3, .bool tc, .bool rd, .bool ra, .bool z, .bool ad, .bool cd, .int .i64 code, .slice qa 1 qc, .slice aa nan ac, .slice ua nun uc, .slice ma nmn mc] 43)) := (Fr.refl [] w2).alloc _
  have HFA := Lib.hid hfa
  have HBQ := Lib.hid (HBX.out w2)
  have d11 := hfa.cell c11 (by simp)
  clear hfa
  go_upto_region 8 with fail
  clear c0 c1 c2 c3 c4 c5 c6 c7 c8 c9 c10 c11 c12 c13 c14
  have HB3 := Lib.hid (HFA.out.blk HB2.out (by simp))
  have HO3 := Lib.hid (OwnF.kept HO1.out HFA.out (fun _ _ => by simp))
  have HF3 := Lib.hid (HF2.out.trans HFA.out (by simp))
  have HGB := Lib.hid (show w.heap.size < w2.heap.size from lt_of_blk HB2.out)
  clear HFA HB2 HO1 HF2
  generalize w2.alloc (.cells #[.int .i64 id, .bool an, .int .i64 op, .bool h3, .bool tc, .bool rd, .bool ra, .bool z, .bool ad, .bool cd, .int .i64 code, .slice qa 1 qc, .slice aa nan ac, .slice ua nun uc, .slice ma nmn mc] 43) = W3 at *
  generalize w2.heap.size = bq at *
  have HE := Lib.hid (show Fr [] W3 (W3.alloc (.cells #[] 62)) from (Fr.refl [] W3).alloc _)
  have d12 := HE.out.cell (blk_cell HB3.out 11 (v := .slice qa 1 qc) rfl) (by simp)
  have HRQ := Lib.hid (show RdC (W3.alloc (.cells #[] 62)) (.slice qa 1 qc) 3 1 F from HRD.out.fr (HF3.out.trans HE.out (by simp)))
  clear d11
  go_upto_region 9 with (
    at_builtin
    refine wpList_appC rfl (.tmp 38) (.tmp 40) 40 rfl 62 infoQue Tryd.underlying40 rfl (by decide) HONE.out (rowc_new (w := W3) (E := 62) (s := 3) (F := F)) rfl HRQ.out rfl (by decide) (by decide) (by simp) ?_
    intro v3 w5 hown3 hfr3 _
    obtain ⟨g, gc, rfl, hgl, hrow⟩ := OwnC.row hown3 (by decide)
    have HRW := Lib.hid (hrow.congr (by decide) (G := F) (fun i c hi _ => by simp [appC]))
    have HF5 := Lib.hid (show Fr [] W3 w5 from HE.out.trans hfr3 (by intro x hx; simp [Value.ownBlock] at hx; omega))
    have HGL := Lib.hid hgl
    clear hown3 hfr3 hrow hgl
    have HQ5 := Lib.hid (HF5.out.blk HBQ.out (by simp))
    have q11 := blk_cell HQ5.out 11 (v := .slice qa 1 qc) rfl
    have z11 := blk_frozen HQ5.out 11
    go_upto_region 9 with fail)
  clear d12 HRQ q11 z11
  have HS6 := Lib.hid (show Fr [bq] w5 (w5.setCell ⟨bq, 11, none⟩ (.slice (some ⟨g, 0, none⟩) 1 gc)) from (Fr.refl [bq] w5).setCell (p := ⟨bq, 11, none⟩) (.inl (by simp)) _)
  have HQ6 := Lib.hid (show (w5.setCell ⟨bq, 11, none⟩ (.slice (some ⟨g, 0, none⟩) 1 gc)).heap[bq]? = some (.cells #[.int .i64 id, .bool an, .int .i64 op, .bool h3, .bool tc, .bool rd, .bool ra, .bool z, .bool ad, .bool cd, .int .i64 code, .slice (some ⟨g, 0, none⟩) 1 gc, .slice aa nan ac, .slice ua nun uc, .slice ma nmn mc] 43 (0, 0)) from blk_setk HQ5.out 11 _)
  have HB6 := Lib.hid (HS6.out.blk (HF5.out.blk HB3.out (by simp)) (by have := HGB.out; simp; omega))
  have HF6 := Lib.hid ((HF3.out.trans HF5.out (by simp)).trans HS6.out (by have := HGB.out; simp; omega))
  have HO6 := Lib.hid (OwnF.keptB (OwnF.kept HO3.out HF5.out (fun _ _ => by simp)) HS6.out HQ5.out (by decide))
  have HR6 := Lib.hid (HRW.out.kept HS6.out (by
    obtain ⟨cur, h1, _⟩ := HRW.out
    simp only [List.mem_singleton]
    rintro rfl
    rw [HQ5.out] at h1
    simp at h1))
  have HGG := Lib.hid (show w.heap.size ≤ g from Nat.le_trans HF3.out.size HGL.out)
  clear HS6 HQ5 HB3 HF5 HF3 HO3 HRW HE HBQ
  generalize w5.setCell ⟨bq, 11, none⟩ (.slice (some ⟨g, 0, none⟩) 1 gc) = W6 at *
  generalize W3.heap.size = n3 at *
  generalize hKL : keyL (m.Q 0) m.h.rd (optDo m) = KL at *
  have HKL := Lib.hid hKL
  clear hKL HKY HBX HF0 HONE
  generalize hq0 : m.Q 0 = q0 at *
  obtain ⟨nl, s, ty, cl⟩ := q0
  have HQ0 := Lib.hid hq0
  clear hq0
  have hsz : (∀ j, j < nl → (s j).size ≤ 63) ∧ lbad s nl = false ∧ nsz s nl ≤ 255 := nmFault_ok HNF.out
  have hn254 : nl ≤ 254 := by have := (nsz_len (s := s) (k := nl) hsz.2.2).1; omega
  have HS63 := Lib.hid hsz.1
  have HMX := Lib.hid (fun (wx : World) (hx : Fr [] w wx) => mix_any wx n0 nl k0 s ab nb cb bit (HRN.out.fr hx (by simp)) (HBT.out.fr hx (by simp)) hsz.1 hn254 (Nat.le_trans (lets_bd s nl 63 hsz.1) (by omega)) hnb)
  clear hsz
  have f0 := HFF.out 0 (by decide)
  have f1 := HFF.out 1 (by decide)
  have f2 := HFF.out 2 (by decide)
  simp only [Qs.F] at f0 f1 f2
  have q11 := blk_cell HQ6.out 11 (v := .slice (some ⟨g, 0, none⟩) 1 gc) rfl
  have r0 := HR6.out.cell 0 0 (by decide) (by decide)
  rw [f0] at r0
  simp only [Nat.zero_mul, Nat.add_zero] at r0
  go_wp2_with fail
  refine (HMX.out _ HF6.out).mono ?_
  rintro e w7 ⟨⟨v7, t, rfl, ho7, hal⟩ | rfl, hf7⟩
  case inr =>
    have HF7 := Lib.hid (HF6.out.trans hf7 (by simp))
    clear hf7
    go_wp2
    go_ret
    exact ⟨rfl, HF7.out⟩
  have HF7 := Lib.hid (HF6.out.trans hf7 (by simp))
  have HT7 := Lib.hid (show ∃ t' : Nat → ByteArray, (∀ j, smB (t' j) = smB (s j)) ∧ OwnF w7 w.heap.size 9 v7 nl (fun j => .string (t' j)) from
    ⟨fun j => if j < nl then t j else s j, fun j => by by_cases h : j < nl <;> simp [h, hal], (OwnF.mono ho7 HF6.out.size).congr (fun j hj => by simp [hj])⟩)
  have HQ7 := Lib.hid (hf7.blk HQ6.out (by simp))
  have HB7 := Lib.hid (hf7.blk HB6.out (by simp))
  have HO7 := Lib.hid (OwnF.kept HO6.out hf7 (fun _ _ => by simp))
  have HR7 := Lib.hid (HR6.out.kept hf7 (by simp))
  clear hf7 ho7 hal HF6 HQ6 HB6 HO6 HR6 q11 r0 HMX
  obtain ⟨t', hal, hot⟩ := HT7.out
  have HAL := Lib.hid hal
  obtain ⟨v7a, v7c, rfl⟩ := hot.rd.slice
  have HOT := Lib.hid hot
  clear hal hot HT7
  have q11 := blk_cell HQ7.out 11 (v := .slice (some ⟨g, 0, none⟩) 1 gc) rfl
  have z0 := HR7.out.frozen 0
  have r0 := HR7.out.cell 0 0 (by decide) (by decide)
  simp only [Nat.zero_mul, Nat.add_zero] at r0
  go_upto_region 13 with fail
  have HS8 := Lib.hid (show Fr [g] w7 (w7.setCell ⟨g, 0, none⟩ (.slice v7a nl v7c)) from (Fr.refl [g] w7).setCell (p := ⟨g, 0, none⟩) (.inl (by simp)) _)
  have HR8 := Lib.hid (show RowC (w7.setCell ⟨g, 0, none⟩ (.slice v7a nl v7c)) g 62 3 1 gc (fun i' c' => if i' = 0 ∧ c' = 0 then .slice v7a nl v7c else F i' c') from HR7.out.stored 0 0 (by decide) (by decide) _)
  obtain ⟨cur, hgb⟩ : ∃ cur, w7.heap[g]? = some (.cells cur 62 (0, 0)) := by
    obtain ⟨cur, h1, _⟩ := HR7.out
    exact ⟨cur, h1⟩
  have HQ8 := Lib.hid (HS8.out.blk HQ7.out (by
    simp only [List.mem_singleton]
    rintro rfl
    rw [HQ7.out] at hgb
    simp at hgb))
  have HB8 := Lib.hid (HS8.out.blk HB7.out (by
    simp only [List.mem_singleton]
    intro e
    have h1 := HB7.out
    rw [e, hgb] at h1
    simp at h1))
  have HO8 := Lib.hid (OwnF.keptB HO7.out HS8.out hgb (by decide))
  have HT8 := Lib.hid (OwnF.keptB HOT.out HS8.out hgb (by decide))
  have HF8 := Lib.hid (HF7.out.trans HS8.out (by have := HGG.out; simp; omega))
  clear q11 z0 r0 HS8 HR7 HQ7 HB7 HO7 HOT hgb HF7
  generalize w7.setCell ⟨g, 0, none⟩ (.slice v7a nl v7c) = W8 at *
  obtain ⟨c0, c1, c2, c3, c4, c5, c6, c7, c8, c9, c10, c11, c12, c13, c14⟩ := msg_cells (h := ⟨id, an, op, h3, tc, rd, ra, z, ad, cd, code⟩) HQ8.out
  simp only at c0 c1 c2 c3 c4 c5 c6 c7 c8 c9 c10
  have HM8 := Lib.hid (mix_ok (t := t') HSS.out HM.out HF8.out HR8.out HGG.out (by rw [HQ0.out]; exact HT8.out) (by rw [HQ0.out]; rfl) (by rw [HQ0.out]; exact f1) (by rw [HQ0.out]; exact f2) (by rw [HQ0.out]; exact HQW.out) (by rw [HQ0.out]; exact HAL.out))
  have HFS8 := Lib.hid (findAll_any W8 B (mixM m t') (.slice (some ⟨g, 0, none⟩) 1 gc) (.slice aa nan ac) (.slice ua nun uc) (.slice ma nmn mc) HM8.out (by
    show ∀ i, i < m.mn → (m.M i).dl ≤ 1099511627776
    rw [HMN.out]
    exact HSM.out))
  have HKY8 := Lib.hid (key_any W8 B (mixM m t') (.slice (some ⟨g, 0, none⟩) 1 gc) (.slice aa nan ac) (.slice ua nun uc) (.slice ma nmn mc) (optDo m) (optZ m) HM8.out HFS8.out)
  have HV8 := Lib.hid (show msgV (mixM m t').h (.slice (some ⟨g, 0, none⟩) 1 gc) (.slice aa nan ac) (.slice ua nun uc) (.slice ma nmn mc) = .agg #[.int .i64 id, .bool an, .int .i64 op, .bool h3, .bool tc, .bool rd, .bool ra, .bool z, .bool ad, .bool cd, .int .i64 code, .slice (some ⟨g, 0, none⟩) 1 gc, .slice aa nan ac, .slice ua nun uc, .slice ma nmn mc] by
    show msgV m.h _ _ _ _ = _
    rw [HH.out]
    rfl)
  rw [HV8.out] at HKY8
  have HK8 := Lib.hid (show keyFault (mixM m t') (optZ m) = 0 from mix_fault HZ.out (by rw [HQ0.out]; exact HAL.out))
  have HL8 := Lib.hid (show keyL ((mixM m t').Q 0) (mixM m t').h.rd (optDo m) = KL from (mix_key (by rw [HQ0.out]; exact HAL.out) _ _).trans (by rw [HQ0.out]; exact HKL.out))
  clear HFS8 HFS HV8
  go_wp2_with fail
  clear c0 c1 c2 c3 c4 c5 c6 c7 c8 c9 c10 c11 c12 c13 c14
  refine HKY8.out.mono ?_
  rintro e w9 ⟨⟨_, v9, rfl, ho9⟩ | ⟨hno, rfl⟩, hf9⟩
  case inr => exact absurd HK8.out hno
  rw [HL8.out] at ho9
  obtain ⟨va9, vc9, rfl⟩ := ho9.rd.slice
  have HO9 := Lib.hid (OwnF.mono ho9 HF8.out.size)
  have HF9 := Lib.hid (HF8.out.trans hf9 (by simp))
  have HQ9 := Lib.hid (hf9.blk HQ8.out (by simp))
  have HB9 := Lib.hid (hf9.blk HB8.out (by simp))
  have HP9 := Lib.hid (OwnF.kept HO8.out hf9 (fun _ _ => by simp))
  have HR9 := Lib.hid (HR8.out.kept hf9 (by simp))
  have HT9 := Lib.hid (OwnF.kept HT8.out hf9 (fun _ _ => by simp))
  clear ho9 hf9 HO8 HQ8 HB8 HR8 HT8 HF8 HKY8
  have HKB := Lib.hid (show ∀ j, j < KL.length → (0 : Int) ≤ ((KL.getD j 0).toNat : Int) ∧ ((KL.getD j 0).toNat : Int) ≤ 255 from fun j _ => by
    have := (KL.getD j 0).toNat_lt
    omega)
  have HRK1 := Lib.hid (show RdF w9 (.slice va1 KL.length vc1) KL.length (fun j => .int .u8 ((KL.getD j 0).toNat : Int)) from HP9.out.rd)
  have HRK2 := Lib.hid (show RdF w9 (.slice va9 KL.length vc9) KL.length (fun j => .int .u8 ((KL.getD j 0).toNat : Int)) from HO9.out.rd)
  have HKN := Lib.hid (show KL.length ≤ 9223372036854775807 by
    have h1 := HRK1.out.le_cap
    rcases HRK1.out with ⟨_, h⟩ | ⟨_, _, e, _, h2, _⟩
    · omega
    · unfold maxLen at h2; omega)
  clear HP9 HO9
  generalize hkf : (fun j => ((KL.getD j 0).toNat : Int)) = kf at *
  have HKF := Lib.hid hkf
  clear hkf
  have HRK1 := Lib.hid (show RdF w9 (.slice va1 KL.length vc1) KL.length (fun j => .int .u8 (kf j)) by rw [← HKF.out]; exact HRK1.out)
  have HRK2 := Lib.hid (show RdF w9 (.slice va9 KL.length vc9) KL.length (fun j => .int .u8 (kf j)) by rw [← HKF.out]; exact HRK2.out)
  have HKB := Lib.hid (show ∀ j, j < KL.length → 0 ≤ kf j ∧ kf j ≤ 255 by rw [← HKF.out]; exact HKB.out)
  generalize KL.length = kl at *
  go_wp2_with fail
  refine (bytes_any w9 va1 va9 kl kl vc1 vc9 kf kf HRK1.out HRK2.out HKN.out HKN.out).mono ?_
  rintro e w10 ⟨rfl, q10, rfl⟩
  rw [eqUpTo_self, Bool.and_true, decide_eq_true rfl]
  have hf10 : Fr [] w9 (w9.drewN q10) := (Fr.refl [] w9).drewN q10
  have HF10 := Lib.hid hf10
  clear hf10
  generalize w9.drewN q10 = w10 at *
  go_wp2_with fail
  refine (pick_one w10 na nn nc p (HNV.out.fr (HF9.out.trans HF10.out (by simp))) va1 kl vc1 kf (HRK1.out.fr HF10.out (by simp)) HKB.out HKN.out).mono ?_
  rintro e w11 ⟨⟨r1, x1, rfl, hd1⟩, hf11⟩
  have HD1 := Lib.hid hd1
  have HF11 := Lib.hid (HF10.out.trans hf11 (by simp))
  clear hd1 hf11 HF10
  go_wp2_with fail
  refine (pick_one w11 na nn nc p (HNV.out.fr (HF9.out.trans HF11.out (by simp))) va9 kl vc9 kf (HRK2.out.fr HF11.out (by simp)) HKB.out HKN.out).mono ?_
  rintro e w12 ⟨⟨r2, x2, rfl, hd2⟩, hf12⟩
  obtain ⟨rfl, rfl⟩ := HD1.out.det hd2
  have HF12 := Lib.hid (HF11.out.trans hf12 (by simp))
  clear hd2 hf12 HF11
  have HTS := Lib.hid (fun (wx : World) (hx : Fr [] w wx) => toldSame_any wx x2 (HG.out.fr hx (by simp)))
  generalize errOf x2 = ex at *
  go_wp2_with fail
  refine (HTS.out _ (HF9.out.trans HF12.out (by simp))).mono ?_
  rintro e w13 ⟨rfl, hf13⟩
  have HF13 := Lib.hid (HF12.out.trans hf13 (by simp))
  have HB13 := Lib.hid (HF13.out.blk HB9.out (by simp))
  have HQ13 := Lib.hid (HF13.out.blk HQ9.out (by simp))
  have HR13 := Lib.hid (HR9.out.kept HF13.out (by simp))
  have HT13 := Lib.hid (OwnF.kept HT9.out HF13.out (fun _ _ => by simp))
  have HFF13 := Lib.hid (HF9.out.trans HF13.out (by simp))
  clear hf13 HF12 HTS HD1 HB9 HQ9 HR9 HT9 HF13 HF9 HRK1 HRK2
  have HW := Lib.hid (show (⟨id, an, op, h3, tc, rd, ra, z, ad, cd, code⟩ : Hd).Wf by rw [← HH.out]; exact HM.out.hh)
  have HOK1 := Lib.hid (show 0 ≤ ty ∧ ty ≤ 65535 ∧ 0 ≤ cl ∧ cl ≤ 65535 from HOK.out)
  have HQO1 := Lib.hid (show QOne w qa 1 n0 nl k0 s ty cl from ⟨by decide, fun _ => by
    obtain ⟨b, o, c, e, _, _, _, hc⟩ := HRD.out.shape (by decide) (by decide)
    simp only [Value.slice.injEq, true_and] at e
    obtain ⟨rfl, rfl⟩ := e
    have h0 := hc 0 0 (by decide) (by decide)
    have h1 := hc 0 1 (by decide) (by decide)
    have h2 := hc 0 2 (by decide) (by decide)
    rw [f0] at h0
    rw [f1] at h1
    rw [f2] at h2
    exact ⟨⟨b, o, rfl, by simpa using h0, by simpa using h1, by simpa using h2⟩, HRN.out, HNF.out, HOK1.out⟩⟩)
  have HQO2 := Lib.hid (show QOne w13 (some ⟨g, 0, none⟩) 1 v7a nl v7c t' ty cl from ⟨by decide, fun _ => by
    have h0 := HR13.out.cell 0 0 (by decide) (by decide)
    have h1 := HR13.out.cell 0 1 (by decide) (by decide)
    have h2 := HR13.out.cell 0 2 (by decide) (by decide)
    simp [f1, f2] at h0 h1 h2
    exact ⟨⟨g, 0, rfl, h0, h1, h2⟩, HT13.out.rd, by rw [alike_fault HAL.out]; exact HNF.out, HOK1.out⟩⟩)
  have HW1 := Lib.hid (fun (wx : World) (hx : Fr [] w wx) => write_any wx ⟨id, an, op, h3, tc, rd, ra, z, ad, cd, code⟩ HW.out qa 1 qc n0 nl k0 s ty cl (HQO1.out.fr hx))
  have HW2 := Lib.hid (fun (wx : World) (hx : Fr [] w13 wx) => write_any wx ⟨id, an, op, h3, tc, rd, ra, z, ad, cd, code⟩ HW.out (some ⟨g, 0, none⟩) 1 gc v7a nl v7c t' ty cl (HQO2.out.fr hx))
  have hlen := alike_len HAL.out nl
  rw [hlen] at HW2
  unfold msgV WriteGood at HW1 HW2
  simp only at HW1 HW2
  have HTS := Lib.hid (fun (wx : World) (hx : Fr [] w wx) (x : Option Int) => toldSame_any wx x (HG.out.fr hx (by simp)))
  clear hlen HQO1 HQO2 HR13 HT13 HRD HRN HNF HOK HQW HM HAL f0 f1 f2 HW HBT HNV HFF
  generalize hdOk ⟨id, an, op, h3, tc, rd, ra, z, ad, cd, code⟩ = OK at *
  obtain ⟨c0, c1, c2, c3, c4, c5, c6, c7, c8, c9, c10, c11, c12, c13, c14⟩ := msg_cells (h := ⟨id, an, op, h3, tc, rd, ra, z, ad, cd, code⟩) HB13.out
  simp only at c0 c1 c2 c3 c4 c5 c6 c7 c8 c9 c10
  have q11 := blk_cell HQ13.out 11 (v := .slice (some ⟨g, 0, none⟩) 1 gc) rfl
  have hfa : Fr [] w13 (w13.alloc (.cells #[.int .i64 id, .bool an, .int .i64 op, .bool h3, .bool tc, .bool rd, .bool ra, .bool z, .bool ad, .bool cd, .int .i64 code, .slice qa 1 qc, .slice none 0 0, .slice none 0 0, .slice none 0 0] 43)) := (Fr.refl [] w13).alloc _
  have HFA := Lib.hid hfa
  have a0 := hfa.cell c0 (by simp)
  have a1 := hfa.cell c1 (by simp)
  have a2 := hfa.cell c2 (by simp)
  have a3 := hfa.cell c3 (by simp)
  have a4 := hfa.cell c4 (by simp)
  have a5 := hfa.cell c5 (by simp)
  have a6 := hfa.cell c6 (by simp)
  have a7 := hfa.cell c7 (by simp)
  have a8 := hfa.cell c8 (by simp)
  have a9 := hfa.cell c9 (by simp)
  have a10 := hfa.cell c10 (by simp)
  have a11 := hfa.cell q11 (by simp)
  clear hfa
  go_upto_region 21 with fail
  clear c0 c1 c2 c3 c4 c5 c6 c7 c8 c9 c10 c11 c12 c13 c14 q11
  have HBO := Lib.hid (heap_alloc_new w13 (.cells #[.int .i64 id, .bool an, .int .i64 op, .bool h3, .bool tc, .bool rd, .bool ra, .bool z, .bool ad, .bool cd, .int .i64 code, .slice qa 1 qc, .slice none 0 0, .slice none 0 0, .slice none 0 0] 43))
  generalize w13.alloc (.cells #[.int .i64 id, .bool an, .int .i64 op, .bool h3, .bool tc, .bool rd, .bool ra, .bool z, .bool ad, .bool cd, .int .i64 code, .slice qa 1 qc, .slice none 0 0, .slice none 0 0, .slice none 0 0] 43) = W14 at *
  generalize w13.heap.size = bo at *
  go_upto_region 22 with fail
  clear a0 a1 a2 a3 a4 a5 a6 a7 a8 a9 a10 a11
  have HBM := Lib.hid (heap_alloc_new W14 (.cells #[.int .i64 id, .bool an, .int .i64 op, .bool h3, .bool tc, .bool rd, .bool ra, .bool z, .bool ad, .bool cd, .int .i64 code, .slice (some ⟨g, 0, none⟩) 1 gc, .slice none 0 0, .slice none 0 0, .slice none 0 0] 43))
  have hfb : Fr [] W14 (W14.alloc (.cells #[.int .i64 id, .bool an, .int .i64 op, .bool h3, .bool tc, .bool rd, .bool ra, .bool z, .bool ad, .bool cd, .int .i64 code, .slice (some ⟨g, 0, none⟩) 1 gc, .slice none 0 0, .slice none 0 0, .slice none 0 0] 43)) := (Fr.refl [] W14).alloc _
  have HBO2 := Lib.hid (hfb.blk HBO.out (by simp))
  have HFB := Lib.hid (HFA.out.trans hfb (by simp))
  clear hfb HBO HFA
  generalize W14.alloc (.cells #[.int .i64 id, .bool an, .int .i64 op, .bool h3, .bool tc, .bool rd, .bool ra, .bool z, .bool ad, .bool cd, .int .i64 code, .slice (some ⟨g, 0, none⟩) 1 gc, .slice none 0 0, .slice none 0 0, .slice none 0 0] 43) = W15 at *
  generalize W14.heap.size = bm at *
  obtain ⟨c0, c1, c2, c3, c4, c5, c6, c7, c8, c9, c10, c11, c12, c13, c14⟩ := msg_cells (h := ⟨id, an, op, h3, tc, rd, ra, z, ad, cd, code⟩) HBO2.out
  simp only at c0 c1 c2 c3 c4 c5 c6 c7 c8 c9 c10
  go_wp2_with fail
  clear c0 c1 c2 c3 c4 c5 c6 c7 c8 c9 c10 c11 c12 c13 c14
  refine (HW1.out W15 (HFF13.out.trans HFB.out (by simp))).mono ?_
  rintro e w16 ⟨hr1, hf16⟩
  have HR1 := Lib.hid hr1
  have HBM2 := Lib.hid (hf16.blk HBM.out (by simp))
  have HF16 := Lib.hid (HFB.out.trans hf16 (by simp))
  clear hr1 hf16 HBM HFB HBO2
  obtain ⟨c0, c1, c2, c3, c4, c5, c6, c7, c8, c9, c10, c11, c12, c13, c14⟩ := msg_cells (h := ⟨id, an, op, h3, tc, rd, ra, z, ad, cd, code⟩) HBM2.out
  simp only at c0 c1 c2 c3 c4 c5 c6 c7 c8 c9 c10
  rcases HR1.out with ⟨hok, v1, L1, rfl, ho1, hl1⟩ | ⟨hok, rfl⟩
  · obtain ⟨l1a, l1c, rfl⟩ := ho1.rd.slice
    rw [hl1]
    have HOKK := Lib.hid hok
    clear ho1 hl1 hok HR1
    go_wp2_with fail
    clear c0 c1 c2 c3 c4 c5 c6 c7 c8 c9 c10 c11 c12 c13 c14
    refine (HW2.out w16 HF16.out).mono ?_
    rintro e w17 ⟨⟨hok2, v2, L2, rfl, ho2, hl2⟩ | ⟨hok2, rfl⟩, hf17⟩
    case inr => exact absurd HOKK.out hok2
    obtain ⟨l2a, l2c, rfl⟩ := ho2.rd.slice
    rw [hl2]
    have HF17 := Lib.hid (HFF13.out.trans (HF16.out.trans hf17 (by simp)) (by simp))
    clear ho2 hl2 hok2 hf17
    go_wp2_with fail
    refine (HTS.out w17 HF17.out none).mono ?_
    rintro e w18 ⟨rfl, hf18⟩
    have HF18 := Lib.hid (HF17.out.trans hf18 (by simp))
    clear hf18
    go_wp2
    go_ret
    exact ⟨by first | rfl | simp, HF18.out⟩
  · have HOKK := Lib.hid hok
    clear hok HR1
    go_wp2_with fail
    clear c0 c1 c2 c3 c4 c5 c6 c7 c8 c9 c10 c11 c12 c13 c14
    refine (HW2.out w16 HF16.out).mono ?_
    rintro e w17 ⟨⟨hok2, v2, L2, rfl, ho2, hl2⟩ | ⟨hok2, rfl⟩, hf17⟩
    case inl => exact absurd hok2 HOKK.out
    have HF17 := Lib.hid (HFF13.out.trans (HF16.out.trans hf17 (by simp)) (by simp))
    clear hok2 hf17
    go_wp2_with fail
    refine (HTS.out w17 HF17.out (some 6)).mono ?_
    rintro e w18 ⟨rfl, hf18⟩
    have HF18 := Lib.hid (HF17.out.trans hf18 (by simp))
    clear hf18
    go_wp2
    go_ret
    exact ⟨by first | rfl | simp, HF18.out⟩

end Go.Proofs.YtcfdlilhhfaaaaaDoor
