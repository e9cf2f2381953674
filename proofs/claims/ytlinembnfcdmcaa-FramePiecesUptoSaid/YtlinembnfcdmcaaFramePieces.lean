/- FramePieces: the walk. -/
import Derived.Test.YtlinembnfcdmcaaFramePlain
namespace Go.Proofs.Ytlinembnfcdmcaa
open Go.RowKit

/-- the first loop: the stream is made -/
def FP1 (w : World) (p B M : Nat) (L : Nat → Nat) (F : Nat → Nat → Int) (va ve i : Value) (wr : World) : Prop :=
  ∃ k : Nat, k ≤ M ∧ i = .int .i64 k ∧ OwnF wr B 5 va (ed L k) (fun j => .int .u8 (str L F k j)) ∧ OwnF wr B 3 ve k (fun j => .int .i64 (ed L (j + 1))) ∧
    (∀ x ∈ va.ownBlock.toList, x ∉ ve.ownBlock.toList) ∧ (∀ j, j < k → L j ≤ 65535) ∧ wr.heap[p]? = some (.cells #[.slice none 0 0] 59 (0, 0)) ∧ Fr [] w wr ∧ B ≤ wr.heap.size

/-- between two pieces: at of the stream are fed, n messages have come out -/
def FPst (w : World) (p B M : Nat) (L : Nat → Nat) (F : Nat → Nat → Int) (va ve : Value) (at' n : Nat) (wr : World) : Prop :=
  at' ≤ ed L M ∧ n ≤ M ∧ ed L n ≤ at' ∧ (n < M → at' < ed L (n + 1)) ∧ OwnF wr B 5 va (ed L M) (fun j => .int .u8 (str L F M j)) ∧ OwnF wr B 3 ve M (fun j => .int .i64 (ed L (j + 1))) ∧
    (∃ rv, wr.heap[p]? = some (.cells #[rv] 59 (0, 0)) ∧ OwnF wr B 5 rv (at' - ed L n) (fun j => .int .u8 (str L F M (ed L n + j))) ∧
      (∀ x ∈ rv.ownBlock.toList, x ∉ va.ownBlock.toList ∧ x ∉ ve.ownBlock.toList)) ∧ Fr [] w wr ∧ B ≤ wr.heap.size

def FP2 (w : World) (p B M cn : Nat) (L : Nat → Nat) (F : Nat → Nat → Int) (va ve a n i : Value) (wr : World) : Prop :=
  ∃ at' n' i' : Nat, a = .int .i64 at' ∧ n = .int .i64 n' ∧ i = .int .i64 i' ∧ i' ≤ cn + 1 ∧ (i' = cn + 1 → at' = ed L M) ∧ FPst w p B M L F va ve at' n' wr

/-- the bytes from message n on, as far as the stream goes -/
def hS (L : Nat → Nat) (F : Nat → Nat → Int) (M n j : Nat) : Int := if ed L n + j < ed L M then str L F M (ed L n + j) else 0

theorem hS_bd (L : Nat → Nat) (F : Nat → Nat → Int) (M n : Nat) (hF : ∀ i j, i < M → j < L i → 0 ≤ F i j ∧ F i j ≤ 255) (hL0 : ∀ i, M ≤ i → L i = 0) (j : Nat) : 0 ≤ hS L F M n j ∧ hS L F M n j ≤ 255 := by
  unfold hS
  split
  · rename_i h
    refine str_bd L F (fun i j hj => ?_) M _ h
    by_cases hi : i < M
    · exact hF i j hi hj
    · rw [hL0 i (by omega)] at hj; omega
  · omega

/-- what came out of a piece -/
def FPgot (w : World) (p B M : Nat) (L : Nat → Nat) (F : Nat → Nat → Int) (va ve : Value) (nx n : Nat) (got : Value) (wy : World) : Prop :=
  ∃ (kk : Nat) (V : Nat → Value), FPst w p B M L F va ve nx (n + kk) wy ∧ OwnF wy B 22 got kk V ∧ ∀ i, i < kk → OwnF wy B 5 (V i) (L (n + i)) (fun j => .int .u8 (F (n + i) j))

theorem fp_got {w wr w' : World} {p B M : Nat} {L : Nat → Nat} {F : Nat → Nat → Int} {va ve rv : Value} {at' n nx : Nat} {e : Ending}
    (hL : ∀ i, i < M → L i ≤ 65535) (hst : FPst w p B M L F va ve at' n wr) (hx1 : at' ≤ nx) (hx2 : nx ≤ ed L M) (hpB : p < B) (hwB : w.heap.size ≤ p) (hrvB : ∀ x ∈ rv.ownBlock.toList, B ≤ x)
    (hrva : ∀ x ∈ rv.ownBlock.toList, x ∉ va.ownBlock.toList ∧ x ∉ ve.ownBlock.toList)
    (hp : FeedPost wr (p :: rv.ownBlock.toList) p (hS L F M n) (nx - ed L n) e w') : ∃ got, e = .returned got ∧ FPgot w p B M L F va ve nx n got w' := by
  obtain ⟨h1, h2, h3, h4, hA, hE, _, hF, hsz⟩ := hst
  obtain ⟨k, out, rest, V, q1, q2, rfl, q3, q4, q5, q6, q7, q8⟩ := hp
  have hh : ∀ j, ed L n + j < nx → hS L F M n j = str L F M (ed L n + j) := fun j hj => by unfold hS; rw [if_pos (by omega)]
  obtain ⟨r1, r2⟩ := pos_ed L F M hL n nx h2 hx2 (hS L F M n) hh k (by omega)
  have hnl : ∀ x, x ∈ va.ownBlock.toList → x ∉ (p :: rv.ownBlock.toList) := fun x hx hx2 => by
    rcases List.mem_cons.1 hx2 with h | h
    · have := hA.ge x hx; omega
    · exact (hrva x h).1 hx
  have hnl2 : ∀ x, x ∈ ve.ownBlock.toList → x ∉ (p :: rv.ownBlock.toList) := fun x hx hx2 => by
    rcases List.mem_cons.1 hx2 with h | h
    · have := hE.ge x hx; omega
    · exact (hrva x h).2 hx
  refine ⟨out, rfl, k, V, ⟨hx2, r1, by omega, fun hlt => ?_, hA.kept q8 (fun g hg => hnl g (by simp [hg])), hE.kept q8 (fun g hg => hnl2 g (by simp [hg])), ⟨rest, q5, ?_, fun x hx => ⟨fun hx2 => ?_, fun hx2 => ?_⟩⟩, ?_, Nat.le_trans hsz q8.size⟩, q3.mono hsz, fun i hi => ?_⟩
  · exact pos_last L F M hL n nx h2 hx2 (hS L F M n) hh k (by omega) (by omega) hlt
  · rw [show nx - ed L (n + k) = nx - ed L n - pos (hS L F M n) k by omega]
    refine (q6.mono hsz).congr (fun j hj => ?_)
    rw [hh _ (by omega), ← Nat.add_assoc, r2]
  · have h5 := q6.ge x hx
    have h6 := hA.lt x hx2
    omega
  · have h5 := q6.ge x hx
    have h6 := hE.lt x hx2
    omega
  · exact hF.trans q8 (fun x hx => by
      rcases List.mem_cons.1 hx with h | h
      · right; omega
      · right; have := hrvB x h; omega)
  · obtain ⟨s1, s2⟩ := pos_ed L F M hL n nx h2 hx2 (hS L F M n) hh i (by have := pos_mono (hS L F M n) i (k - i); rw [show i + (k - i) = k by omega] at this; omega)
    obtain ⟨s3, s4⟩ := pos_ed L F M hL n nx h2 hx2 (hS L F M n) hh (i + 1) (by have := pos_mono (hS L F M n) (i + 1) (k - (i + 1)); rw [show i + 1 + (k - (i + 1)) = k by omega] at this; omega)
    have hle : pos (hS L F M n) (i + 1) ≤ pos (hS L F M n) k := by have := pos_mono (hS L F M n) (i + 1) (k - (i + 1)); rwa [show i + 1 + (k - (i + 1)) = k by omega] at this
    have e1 : ed L (n + (i + 1)) = ed L (n + i) + (2 + L (n + i)) := rfl
    have e2 : pos (hS L F M n) (i + 1) - pos (hS L F M n) i - 2 = L (n + i) := by omega
    have h5 := (q4 i hi).1.mono hsz
    rw [e2] at h5
    refine h5.congr (fun j hj => ?_)
    rw [hh _ (by omega), show ed L n + (pos (hS L F M n) i + 2 + j) = ed L (n + i) + (2 + j) by omega, str_at L F M (n + i) (2 + j) (by omega) (by omega)]
    unfold frm
    rw [if_neg (by omega), if_neg (by omega), show 2 + j - 2 = j by omega]

theorem FP2.fr {w wc wr : World} {p B M cn : Nat} {L : Nat → Nat} {F : Nat → Nat → Int} {va ve a n i : Value} (h : FP2 w p B M cn L F va ve a n i wc) (hf : Fr [] wc wr) : FP2 w p B M cn L F va ve a n i wr := by
  obtain ⟨at', n', i', h1, h2, h3, h4, h5, g1, g2, g3, g4, g5, g6, ⟨rv, r1, r2, r3⟩, g7, g8⟩ := h
  exact ⟨at', n', i', h1, h2, h3, h4, h5, g1, g2, g3, g4, g5.kept hf (by simp), g6.kept hf (by simp), ⟨rv, hf.blk r1 (by simp), r2.kept hf (by simp), r3⟩, g7.trans hf (by simp), Nat.le_trans g8 hf.size⟩

set_option maxRecDepth 100000 in
set_option maxHeartbeats 4000000 in
theorem framePieces_any (w : World) (am : Option Addr) (M Cm : Nat) (V : Nat → Value) (A : Nat → Option Addr) (L C : Nat → Nat) (F : Nat → Nat → Int)
    (hm : RdF w (.slice am M Cm) M V) (hV : ∀ i, i < M → V i = .slice (A i) (L i) (C i)) (hr : ∀ i, i < M → RdF w (.slice (A i) (L i) (C i)) (L i) (fun j => .int .u8 (F i j)))
    (hF : ∀ i j, i < M → j < L i → 0 ≤ F i j ∧ F i j ≤ 255) (hL0 : ∀ i, M ≤ i → L i = 0)
    (hb : ∀ i, i ≤ M → ed L i ≤ 4194304) (hM : M ≤ 1048576)
    (ac : Option Addr) (cn cc : Nat) (cf : Nat → Int) (hc : RdF w (.slice ac cn cc) cn (fun j => .int .i64 (cf j))) (hcn : cn ≤ 1048576) :
    Calls Try.prog 4 #[.slice am M Cm, .slice ac cn cc] w fun e w' => e = .returned (.bool true) ∧ Fr [] w w' := by
  have HM := Lib.hid hm; clear hm
  have HV := Lib.hid hV; clear hV
  have HR := Lib.hid hr; clear hr
  have HF := Lib.hid hF; clear hF
  have HL0 := Lib.hid hL0; clear hL0
  have HB := Lib.hid hb; clear hb
  have HC := Lib.hid hc; clear hc
  go_enter Try.func4, Try.ntmps4
  go_wp2_with fail
  refine (framed_any _).mono ?_
  rintro e w1 ⟨rfl, hf⟩
  have HF1 := Lib.hid hf; clear hf
  go_wp2_with fail
  refine (stream_new _).mono ?_
  rintro e w2 ⟨rfl, hw2⟩
  have hb2 : w2.heap[w1.heap.size]? = some (.cells #[.slice none 0 0] 59 (0, 0)) := by rw [← hw2]; exact heap_alloc_new w1 _
  have hf2 : Fr [] w w2 := by rw [← hw2]; exact HF1.out.alloc _
  clear hw2
  have HB2 := Lib.hid hb2; clear hb2
  have HF2 := Lib.hid hf2; clear hf2
  have hlp := lt_of_blk HB2.out
  have hsz1 := HF1.out.size
  have hsz2 := HF2.out.size
  generalize w1.heap.size = p at *
  go_wp2
  go_loopw [7, 8, 9] (fun va ve i wr => FP1 w p w2.heap.size M L F va ve i wr) (fun _ _ i _ => M - (intOf i).toNat)
  case atStart => exact ⟨0, by omega, rfl, OwnF.nil _ _ _ _, OwnF.nil _ _ _ _, by simp [Value.ownBlock], fun j hj => by omega, HB2.out, HF2.out, Nat.le_refl _⟩
  case round =>
    obtain ⟨k, hk, rfl, ha, he, hdis, hl, hbp, hf, hsz⟩ := hrel
    have HA := Lib.hid ha; clear ha
    have HE := Lib.hid he; clear he
    have HD := Lib.hid hdis; clear hdis
    have HLL := Lib.hid hl; clear hl
    have HBP := Lib.hid hbp; clear hbp
    have HFF := Lib.hid hf; clear hf
    by_cases hkM : k < M
    · obtain ⟨b, o, cp, hq, hnc, hcm, hbw, hcell⟩ := HM.out.shape (by omega)
      simp only [Value.slice.injEq, true_and] at hq
      obtain ⟨rfl, rfl⟩ := hq
      have hck : wr.cell? ⟨b, o + k, none⟩ = some (.slice (A k) (L k) (C k)) := by rw [← HV.out k hkM]; exact HFF.out.cell (hcell k hkM) (by simp)
      have HCK := Lib.hid (by rw [← HV.out k hkM]; exact hcell k hkM : w.cell? ⟨b, o + k, none⟩ = some (.slice (A k) (L k) (C k)))
      clear hcell
      have hrk := (HR.out k hkM).fr HFF.out (by simp)
      have HRK := Lib.hid hrk; clear hrk
      have hbk := HB.out k (by omega)
      have hbk1 := HB.out (k + 1) (by omega)
      have hed : ed L (k + 1) = ed L k + (2 + L k) := rfl
      have HED := Lib.hid hed; clear hed
      rw [HED.out] at hbk1
      by_cases hbig : 65535 < L k
      · go_wp2_with fail
        refine (frame_big _ _ (L k) _ hbig (by omega)).mono ?_
        rintro e w3 ⟨rfl, rfl⟩
        go_wp2
        go_ret
        exact ⟨congrArg (fun b => Ending.returned (.bool b)) (decide_eq_true (by omega)), HFF.out⟩
      · go_wp2_with fail
        refine (frame_ok _ _ (L k) _ (F k) HRK.out (by omega)).mono ?_
        rintro e w3 ⟨g3, c3, rfl, hg3, hr3, hf3⟩
        have HR3 := Lib.hid hr3.rd
        have HA3 := Lib.hid (HA.out.kept hf3 (by simp))
        have HE3 := Lib.hid (HE.out.kept hf3 (by simp))
        have HB3 := Lib.hid (hf3.blk HBP.out (by simp))
        have HF3 := Lib.hid (HFF.out.trans hf3 (by simp))
        have hs3 := hf3.size
        clear hr3 hf3
        go_wp2_with (first
          | (at_builtin; refine wpList_app rfl (.tmp 49) (.tmp 50) 22 rfl 5 infoU8 Try.underlying22 rfl HA3.out rfl HR3.out rfl (fun _ _ => rfl) (by unfold maxLen; omega) (by omega) (by omega) ?_; intro v4 w4 ho4 hf4 hn4; obtain ⟨a4, c4, hv4⟩ := ho4.rd.slice; subst hv4; have HE4 := Lib.hid (HE3.out.kept hf4 (fun g hg hx => HD.out g hx (by simp [hg]))); have hs4 := hf4.size)
          | (at_builtin; refine wpList_app rfl (.tmp 52) (.tmp 55) 28 rfl 3 infoInt Try.underlying28 rfl (HE4.out.alloc _) rfl (rd_one _ _ _ (by simp)) rfl (fun _ _ => rfl) (by unfold maxLen; omega) (by omega) (by simp; omega) ?_; intro v5 w5 ho5 hf5 hn5))
        have hrel : FP1 w p w2.heap.size M L F (.slice a4 (ed L k + (2 + L k)) c4) v5 (.int .i64 ((k : Int) + 1)) w5 := by
          have hf35 : Fr u8.ownBlock.toList w4 w5 := ((Fr.refl _ w4).alloc _).trans hf5 (fun x hx => .inl hx)
          have ge8 := HE3.out.ge
          have ge4 := ho4.ge
          have ge7 := HA3.out.ge
          have d4 : ∀ x ∈ (Value.slice a4 (ed L k + (2 + L k)) c4).ownBlock.toList, x ∉ u8.ownBlock.toList := fun x hx hx2 => by
            rcases hn4 x hx with h | h
            · exact HD.out x h hx2
            · have := HE3.out.lt x hx2; omega
          refine ⟨k + 1, by omega, by go_num, ?_, ?_, ?_, ?_, ?_, ?_, ?_⟩
          · rw [HED.out]
            refine (ho4.kept hf35 (fun g hg hx => d4 g (by simp [hg]) hx)).congr (fun j hj => ?_)
            unfold app
            simp only [str]
            by_cases hjk : j < ed L k
            · rw [if_pos hjk, if_pos hjk]
            · rw [if_neg hjk, if_neg hjk]
          · refine ho5.congr (fun j hj => ?_)
            unfold app
            by_cases hjk : j < k
            · rw [if_pos hjk]
            · rw [if_neg hjk, show j = k by omega, HED.out]
              simp
          · intro x hx hx2
            rcases hn5 x hx2 with h | h
            · exact d4 x hx h
            · have := ho4.lt x hx; simp at h; omega
          · intro j hj
            by_cases hjk : j < k
            · exact HLL.out j hjk
            · rw [show j = k by omega]; omega
          · exact hf35.blk (hf4.blk HB3.out (fun hx => by have := ge7 p hx; omega)) (fun hx => by have := ge8 p hx; omega)
          · exact (HF3.out.trans hf4 (fun x hx => .inr (by have := ge7 x hx; omega))).trans hf35 (fun x hx => .inr (by have := ge8 x hx; omega))
          · have := hf35.size; omega
        have HREL := Lib.hid hrel
        clear hrel ho4 ho5 hf4 hf5 hn4 hn5
        go_wp2
        go_roundw
        case rel => exact HREL.out
        case measure => simp [intOf]; omega
    · obtain rfl : k = M := by omega
      obtain ⟨aa, ca, hva⟩ := HA.out.rd.slice
      obtain ⟨ae, ce, hve⟩ := HE.out.rd.slice
      subst hva
      subst hve
      have hst0 : FP2 w p w2.heap.size k cn L F (.slice aa (ed L k) ca) (.slice ae k ce) (.int .i64 0) (.int .i64 0) (.int .i64 0) wr :=
        ⟨0, 0, 0, rfl, rfl, rfl, by omega, by omega, by omega, by omega, by simp [ed], fun h => by simp only [ed]; omega, HA.out, HE.out, ⟨_, HBP.out, OwnF.nil _ _ _ _, by simp [Value.ownBlock]⟩, HFF.out, hsz⟩
      have HST0 := Lib.hid hst0; clear hst0
      have HDIS := HD
      have hEM := HB.out k (Nat.le_refl _)
      go_wp2
      go_loopw [12, 13, 14] (fun a n i wr => FP2 w p w2.heap.size k cn L F (.slice aa (ed L k) ca) (.slice ae k ce) a n i wr) (fun _ _ i _ => cn + 1 - (intOf i).toNat)
      case atStart => exact HST0.out
      case round =>
        obtain ⟨at', n', i', rfl, rfl, rfl, hi, hend, hst⟩ := hrel
        have HST := Lib.hid hst; clear hst
        have HEND := Lib.hid hend; clear hend
        have hat := HST.out.1
        have hn := HST.out.2.1
        by_cases hic : i' ≤ cn
        · have hle : (i' : Int) ≤ (cn : Int) := by omega
          have hwr : Fr [] w wr := HST.out.2.2.2.2.2.2.2.1
          have HWR := Lib.hid hwr; clear hwr
          have hcc : i' < cn → ∃ b o, ac = some ⟨b, o, none⟩ ∧ wr.cell? ⟨b, o + i', none⟩ = some (.int .i64 (cf i')) := fun hlt => by
            obtain ⟨b, o, cp, hq, _, _, _, hcell⟩ := HC.out.shape (by omega)
            simp only [Value.slice.injEq, true_and] at hq
            exact ⟨b, o, hq.1, HWR.out.cell (hcell i' hlt) (by simp)⟩
          have HCC := Lib.hid hcc; clear hcc
          obtain ⟨cb, hcb⟩ : ∃ cb : Bool, cb = decide (i' < cn ∧ (at' : Int) ≤ cf i' ∧ cf i' < (ed L k : Nat)) := ⟨_, rfl⟩
          have HCB := Lib.hid hcb; clear hcb
          go_upto_region 21 with fail
          go_cut [84] (fun s wy => s = .bool cb ∧ wy = wr)
          case first =>
            by_cases h1 : i' < cn
            · obtain ⟨b, o, hac, hcell⟩ := HCC.out h1
              subst hac
              by_cases h2 : (at' : Int) ≤ cf i'
              · by_cases h3 : cf i' < (ed L k : Nat)
                · have e : cb = true := by rw [HCB.out]; simp [h1, h2, h3]
                  have E1 := Lib.hid e; clear e
                  go_wp2_with fail
                  go_meet
                  exact ⟨by rw [E1.out], rfl⟩
                · have e : cb = false := by rw [HCB.out]; simp [h3]
                  have E1 := Lib.hid e; clear e
                  go_wp2_with fail
                  go_meet
                  exact ⟨by rw [E1.out], rfl⟩
              · have e : cb = false := by rw [HCB.out]; simp [h2]
                have E1 := Lib.hid e; clear e
                go_wp2_with fail
                go_meet
                exact ⟨by rw [E1.out], rfl⟩
            · have e : cb = false := by rw [HCB.out]; simp [h1]
              have E1 := Lib.hid e; clear e
              go_wp2_with fail
              go_meet
              exact ⟨by rw [E1.out], rfl⟩
          case rest =>
            obtain ⟨rfl, rfl⟩ := hcut
            go_upto_if 84 with fail
            go_cut [15] (fun s wy => wy = wc ∧ ∃ nx : Nat, s = .int .i64 nx ∧ at' ≤ nx ∧ nx ≤ ed L k ∧ (i' = cn → nx = ed L k))
            case first =>
              cases cb with
              | true =>
                have h123 : i' < cn ∧ (at' : Int) ≤ cf i' ∧ cf i' < (ed L k : Nat) := of_decide_eq_true HCB.out.symm
                obtain ⟨h1, h2, h3⟩ := h123
                obtain ⟨b, o, hac, hcell⟩ := HCC.out h1
                subst hac
                obtain ⟨nx, hnx⟩ : ∃ nx : Nat, cf i' = nx := ⟨(cf i').toNat, by omega⟩
                have HNX := Lib.hid hnx
                have hb1 : at' ≤ nx := by omega
                have hb2 : nx ≤ ed L k := by omega
                clear hnx
                go_wp2_with fail
                go_meet
                exact ⟨rfl, nx, by rw [HNX.out], hb1, hb2, fun h => by omega⟩
              | false =>
                go_wp2_with fail
                go_meet
                exact ⟨rfl, ed L k, rfl, hat, Nat.le_refl _, fun _ => rfl⟩
            case rest =>
              obtain ⟨rfl, nx, rfl, hx1, hx2, hx3⟩ := hcut
              have HX3 := Lib.hid hx3; clear hx3
              obtain ⟨rv, hrv, hro, hrd⟩ := HST.out.2.2.2.2.2.2.1
              have hA := HST.out.2.2.2.2.1
              have HRV := Lib.hid hrv; clear hrv
              have HRO := Lib.hid hro; clear hro
              have HRD := Lib.hid hrd; clear hrd
              have HAA := Lib.hid hA; clear hA
              have hedn := HST.out.2.2.1
              go_upto_region 23 with fail
              go_cut [16] (fun got wy => FPgot w p w2.heap.size k L F (.slice aa (ed L k) ca) (.slice ae k ce) nx n' got wy)
              case first =>
                have hca := (HAA.out.rd.le_cap).1
                have hpiece : ∀ (b : Option Addr) (cb : Nat), RdF wc (.slice b (nx - at') cb) (nx - at') (fun j => .int .u8 (str L F k (at' + j))) →
                    Calls Try.prog 14 #[.pointer (some ⟨p, 0, none⟩), .slice b (nx - at') cb] wc (fun e w' => ∃ got, e = .returned got ∧ FPgot w p w2.heap.size k L F (.slice aa (ed L k) ca) (.slice ae k ce) nx n' got w') := fun b cb hb => by
                  have hrvB := HRO.out.ge
                  refine (feed_any wc p rv (at' - ed L n') (nx - at') b cb (fun j => str L F k (ed L n' + j)) (fun j => str L F k (at' + j)) (hS L F k n') (nx - ed L n') HRV.out w2.heap.size HRO.out (fun hx => by have := hrvB p hx; omega) (HST.out.2.2.2.2.2.2.2.2) hb (by omega) (fun j hj => ?_) (hS_bd L F k n' HF.out HL0.out) (by omega)).mono ?_
                  · unfold hS
                    rw [if_pos (by omega)]
                    by_cases hj2 : j < at' - ed L n'
                    · rw [if_pos hj2]
                    · rw [if_neg hj2, show at' + (j - (at' - ed L n')) = ed L n' + j by omega]
                  · intro e w' hp
                    exact fp_got HLL.out HST.out hx1 hx2 hlp (by omega) hrvB HRD.out hp
                have HP := Lib.hid hpiece; clear hpiece
                by_cases hcat : ca ≤ at'
                · go_wp2_with fail
                  refine (HP.out _ _ ?_).mono ?_
                  · rw [show nx - at' = 0 by omega]
                    exact HAA.out.rd.empty _
                  · rintro e w7 ⟨got, rfl, hg⟩
                    have HG := Lib.hid hg; clear hg
                    go_wp2_with fail
                    go_meet
                    exact HG.out
                · go_wp2_with fail
                  refine (HP.out _ _ (HAA.out.rd.part at' nx hx1 hx2)).mono ?_
                  rintro e w7 ⟨got, rfl, hg⟩
                  have HG := Lib.hid hg; clear hg
                  go_wp2_with fail
                  go_meet
                  exact HG.out
              case rest =>
                obtain ⟨kk, Vg, hst2, hog, hVg⟩ := hcut
                obtain ⟨ag, cg, hgg⟩ := hog.rd.slice
                subst hgg
                have hn2 := hst2.2.1
                have hx4 := hst2.2.2.1
                have hrel2 : FP2 w p w2.heap.size k cn L F (.slice aa (ed L k) ca) (.slice ae k ce) (.int .i64 nx) (.int .i64 ((n' + kk : Nat) : Int)) (.int .i64 ((i' + 1 : Nat) : Int)) wc :=
                  ⟨nx, n' + kk, i' + 1, rfl, rfl, rfl, by omega, fun h => HX3.out (by omega), hst2⟩
                have HREL2 := Lib.hid hrel2; clear hrel2
                have HST2 := Lib.hid hst2; clear hst2
                have HOG := Lib.hid hog; clear hog
                have HVG := Lib.hid hVg; clear hVg
                clear HST HRV HRO HRD HAA HCC HCB HWR
                go_wp2
                go_loopw [13, 17] (fun n i wx => ∃ q : Nat, q ≤ kk ∧ i = .int .i64 q ∧ n = .int .i64 ((n' + q : Nat) : Int) ∧ Hid (∃ r, wx = wc.drewN r)) (fun _ i _ => kk - (intOf i).toNat)
                case atStart => exact ⟨0, by omega, rfl, rfl, 0, rfl⟩
                case round =>
                  obtain ⟨q, hq, rfl, rfl, HW⟩ := hrel
                  have hfr : Fr [] wc wr := by obtain ⟨r, rfl⟩ := HW.out; exact (Fr.refl _ _).drewN r
                  have HFR := Lib.hid hfr; clear hfr
                  by_cases hqk : q < kk
                  · obtain ⟨gg, cgg, hgg, _, hrg⟩ := HOG.out.row (by omega)
                    simp only [Value.slice.injEq, true_and] at hgg
                    obtain ⟨rfl, rfl⟩ := hgg
                    obtain ⟨ge, cge, hge, _, hre⟩ := HST2.out.2.2.2.2.2.1.row (by omega)
                    simp only [Value.slice.injEq, true_and] at hge
                    obtain ⟨rfl, rfl⟩ := hge
                    obtain ⟨bm, om, cm, hm2, _, _, _, hcm⟩ := HM.out.shape (by omega)
                    simp only [Value.slice.injEq, true_and] at hm2
                    obtain ⟨rfl, rfl⟩ := hm2
                    have hvq := HVG.out q hqk
                    obtain ⟨av, cv, hav⟩ := hvq.rd.slice
                    have k1 : wr.cell? ⟨gg, q, none⟩ = some (.slice av (L (n' + q)) cv) := by rw [← hav]; exact HFR.out.cell (hrg.cell q hqk) (by simp)
                    have k2 : wr.cell? ⟨ge, n' + q, none⟩ = some (.int .i64 (ed L (n' + q + 1) : Nat)) := HFR.out.cell (hre.cell (n' + q) (by omega)) (by simp)
                    have k3 : wr.cell? ⟨bm, om + (n' + q), none⟩ = some (.slice (A (n' + q)) (L (n' + q)) (C (n' + q))) := by
                      have h := hcm (n' + q) (by omega)
                      rw [HV.out (n' + q) (by omega)] at h
                      exact HFR.out.cell (HST2.out.2.2.2.2.2.2.2.1.cell h (by simp)) (by simp)
                    have hbig : ed L (n' + q + 1) ≤ nx := Nat.le_trans (ed_le L (show n' + q + 1 ≤ n' + kk by omega)) hx4
                    have hlq := HLL.out (n' + q) (by omega)
                    have hbyt : ∀ u : Nat, Calls Try.prog 15 #[.slice av (L (n' + q)) cv, .slice (A (n' + q)) (L (n' + q)) (C (n' + q))] (wr.drewN u) fun e w' => e = .returned (.bool true) ∧ ∃ m, w' = (wr.drewN u).drewN m := fun u => by
                      have r1 : RdF (wr.drewN u) (.slice av (L (n' + q)) cv) (L (n' + q)) (fun j => .int .u8 (F (n' + q) j)) := by rw [← hav]; exact hvq.rd.fr (HFR.out.drewN u) (by simp)
                      have r2 : RdF (wr.drewN u) (.slice (A (n' + q)) (L (n' + q)) (C (n' + q))) (L (n' + q)) (fun j => .int .u8 (F (n' + q) j)) := ((HR.out (n' + q) (by omega)).fr HST2.out.2.2.2.2.2.2.2.1 (by simp)).fr (HFR.out.drewN u) (by simp)
                      refine (bytes_any _ _ _ _ _ _ _ _ _ r1 r2 (by omega) (by omega)).mono ?_
                      rintro e w' ⟨rfl, hq⟩
                      exact ⟨by rw [(eqUpTo_iff _ _ _).2 (fun _ _ => rfl)]; simp, hq⟩
                    have HBY := Lib.hid hbyt; clear hbyt
                    have k0 : (0 : Int) ≤ (q : Int) := by omega
                    have k4 : (q : Int) < (kk : Int) := by omega
                    have k5 : (0 : Int) ≤ ((n' + q : Nat) : Int) := by omega
                    have k6 : ((n' + q : Nat) : Int) < (k : Int) := by omega
                    have k7 : n' + q ≤ 1048576 := by omega
                    clear hrg hre hcm hvq hav
                    generalize hnq : n' + q = nq0 at *
                    have HNQ := Lib.hid hnq; clear hnq
                    go_wp2_with fail
                    go_quiet ((go_at_call 15; exact Calls.quiet_of (HBY.out _)))
                    go_wp2
                    go_roundw
                    case rel => exact ⟨q + 1, by omega, by go_num, by have := HNQ.out; go_num, Lib.hid (by obtain ⟨r, rfl⟩ := HW.out; exact ⟨_, World.drewN_drewN ..⟩)⟩
                    case measure => simp [intOf]; omega
                  · obtain rfl : q = kk := by omega
                    have hrel3 := HREL2.out.fr HFR.out
                    have HREL3 := Lib.hid hrel3; clear hrel3
                    by_cases hlt : n' + q < k
                    · obtain ⟨ge, cge, hge, _, hre⟩ := HST2.out.2.2.2.2.2.1.row (by omega)
                      simp only [Value.slice.injEq, true_and] at hge
                      obtain ⟨rfl, rfl⟩ := hge
                      have k2 : wr.cell? ⟨ge, n' + q, none⟩ = some (.int .i64 (ed L (n' + q + 1) : Nat)) := HFR.out.cell (hre.cell (n' + q) (by omega)) (by simp)
                      have k3 := HST2.out.2.2.2.1 hlt
                      have k4 : ¬ ((ed L (n' + q + 1) : Nat) : Int) ≤ (nx : Int) := by omega
                      have k5 : (0 : Int) ≤ ((n' + q : Nat) : Int) := by omega
                      have k6 : ((n' + q : Nat) : Int) < (k : Int) := by omega
                      clear hre HST2 HREL2
                      generalize n' + q = nq0 at *
                      go_wp2_with fail
                      go_roundw
                      case rel => exact HREL3.out
                      case measure => simp [intOf]; omega
                    · have k6 : ¬ ((n' + q : Nat) : Int) < (k : Int) := by omega
                      clear HST2 HREL2
                      generalize n' + q = nq0 at *
                      go_wp2_with fail
                      go_roundw
                      case rel => exact HREL3.out
                      case measure => simp [intOf]; omega
        · have e1 : at' = ed L k := HEND.out (by omega)
          have e2 : n' = k := by
            by_cases hlt : n' < k
            · have h5 := HST.out.2.2.2.1 hlt
              have h6 := ed_le L (show n' + 1 ≤ k by omega)
              omega
            · omega
          subst e2
          obtain ⟨rv, hrv, hro, _⟩ := HST.out.2.2.2.2.2.2.1
          rw [e1, Nat.sub_self] at hro
          obtain ⟨ar, cr, hvr⟩ := hro.rd.slice
          subst hvr
          have hfr : Fr [] w wr := HST.out.2.2.2.2.2.2.2.1
          have HFR := Lib.hid hfr; clear hfr
          have HRV := Lib.hid hrv; clear hrv
          clear hro HST HEND
          go_wp2_with fail
          refine (rest_any _ p 0 ar cr HRV.out (by omega)).mono ?_
          rintro e w7 ⟨rfl, rfl⟩
          go_wp2
          go_ret
          exact ⟨rfl, HFR.out⟩

end Go.Proofs.Ytlinembnfcdmcaa
