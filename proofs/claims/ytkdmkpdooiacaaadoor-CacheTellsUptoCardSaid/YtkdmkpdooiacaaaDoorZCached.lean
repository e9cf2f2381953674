/- cached: a question that is answered is answered. -/
import Derived.Test.YtkdmkpdooiacaaaDoorZbase7
import Derived.Test.YtkdmkpdooiacaaaDoorZPutW
import Derived.Test.YtkdmkpdooiacaaaDoorZGetAll
namespace Go.Proofs.YtkdmkpdooiacaaaDoor
open Go.RowKit

/-- the world by what holds of it alone -/
theorem calls_gen {P : Program} {f : FuncId} {args : Array Value} {w : World} {R : Ending → World → Prop} (Q : World → Prop) (hQ : Q w) (h : ∀ W, Q W → Calls P f args W R) : Calls P f args w R := h w hQ

theorem four_new (w : World) (x y z u : Obj) : ((((w.alloc x).alloc y).alloc z).alloc u).heap[w.heap.size]? = some x ∧ ((((w.alloc x).alloc y).alloc z).alloc u).heap[w.heap.size + 1]? = some y ∧ ((((w.alloc x).alloc y).alloc z).alloc u).heap[w.heap.size + 1 + 1]? = some z ∧
    ((((w.alloc x).alloc y).alloc z).alloc u).heap[w.heap.size + 1 + 1 + 1]? = some u ∧ Fr [] w ((((w.alloc x).alloc y).alloc z).alloc u) ∧ ((((w.alloc x).alloc y).alloc z).alloc u).heap.size = w.heap.size + 1 + 1 + 1 + 1 := by
  obtain ⟨h1, h2, h3, h4⟩ := three_new w x y z
  have hf := (Fr.refl [] (((w.alloc x).alloc y).alloc z)).alloc u
  refine ⟨hf.blk h1 (by simp), hf.blk h2 (by simp), hf.blk h3 (by simp), ?_, (((Fr.refl [] w).alloc x).alloc y).alloc z |>.alloc u, by simp⟩
  have := heap_alloc_new (((w.alloc x).alloc y).alloc z) u
  rw [h4] at this
  exact this

theorem NmAt.nil (B : HB) (w : World) (nm : Nat → ByteArray) : NmAt B w none 0 0 nm := ⟨.inl ⟨rfl, rfl⟩, Cold.nil _ _, fun j hj => by omega, by decide⟩

theorem lone (e : En) (key : List UInt8) (h : e.key = key) : frL e 1 [] = [e] ∧ fIx key [e] = 0 := by
  refine ⟨rfl, ?_⟩
  simp only [fIx]
  rw [if_pos ((kEq_iff _ _).2 h)]

/-- where Get finds one that is fresh -/
theorem GetGood.told {w w' : World} {B : HB} {p : Nat} {n : Int} {v : Value} {l : List En} {q : Ms} {dob : Bool} {z now : Int} {e : Ending} (h : GetGood w w' B p n v l q dob z now e) (hk : keyFault q z = 0) (x : En) (hi : fIx (keyL (q.Q 0) q.h.rd dob) l < l.length) (hx : l[fIx (keyL (q.Q 0) q.h.rd dob) l] = x) (hf : fresh now x = true) :
    ∃ vq va vu vm, e = .returned (.tuple #[msgV (tolM q x.m (now - x.at_)).h vq va vu vm, .bool true, .nilIface]) ∧ MsOk B w' (tolM q x.m (now - x.at_)) vq va vu vm ∧ ∃ v', Ca B w' p n v' (frL x n l) ∧ FrH B w w' := by
  rcases h with ⟨h, _⟩ | ⟨_, h, _⟩ | ⟨_, h1, h2, vq, va, vu, vm, h3, h4, v', h5, h6⟩
  · exact absurd hk h
  · have := h hi
    rw [hx, hf] at this
    cases this
  · rw [hx] at h3 h4 h5
    exact ⟨vq, va, vu, vm, h3, h4, v', h5, h6⟩

/-- where it finds none, or one that is not fresh -/
theorem GetGood.none {w w' : World} {B : HB} {p : Nat} {n : Int} {v : Value} {l : List En} {q : Ms} {dob : Bool} {z now : Int} {e : Ending} (h : GetGood w w' B p n v l q dob z now e) (hk : keyFault q z = 0) (hi : ∀ (h : fIx (keyL (q.Q 0) q.h.rd dob) l < l.length), fresh now l[fIx (keyL (q.Q 0) q.h.rd dob) l] = false) :
    e = .returned (.tuple #[zMsg, .bool false, .nilIface]) ∧ Fr [] w w' := by
  rcases h with ⟨h, _⟩ | ⟨_, _, h1, h2⟩ | ⟨_, h1, h2, _⟩
  · exact absurd hk h
  · exact ⟨h1, h2⟩
  · rw [hi h1] at h2
    cases h2

def e0 : Nat → ByteArray := fun _ => ⟨#[]⟩

theorem putE_aM (nl : Nat) (nm : Nat → ByteArray) (t now : Int) (ht : 0 < t ∧ t ≤ 4294967295) : (putE (qM nl nm) (aM nl nm t) false now).key = keyL ⟨nl, nm, 1, 1⟩ false false ∧ (putE (qM nl nm) (aM nl nm t) false now).at_ = now ∧ (putE (qM nl nm) (aM nl nm t) false now).life = t :=
  ⟨rfl, rfl, (aM_lifeZ nl nm t ht).2⟩

set_option maxHeartbeats 4000000 in
set_option maxRecDepth 100000 in
theorem cached_any (w : World) : Calls Tryd.prog 4 #[] w fun e w' => e = .returned (.bool true) ∧ FrH ⟨w.heap.size, []⟩ w w' := by
  go_enter Tryd.func4, Tryd.ntmps4
  go_wp2_with fail
  refine (new_ok w 1 (by decide)).mono ?_
  rintro e w1 ⟨rfl, hC, hf1⟩
  have HC := Lib.hid hC
  have HF1 := Lib.hid hf1
  clear hC hf1
  go_wp2_with fail
  refine calls_gen (fun W => W.heap[w1.heap.size]? = some (.cells #[.slice none 0 0, .int .i64 1, .int .i64 1] 58) ∧ W.heap[w1.heap.size + 1]? = some (.cells (msgCs zHd (.slice (some ⟨w1.heap.size, 0, none⟩) 1 1) (.slice none 0 0) (.slice none 0 0) (.slice none 0 0)) 43) ∧ W.heap[w1.heap.size + 1 + 1 + 1]? = some (.cells #[.slice none 0 0, .int .i64 1, .int .i64 1, .int .i64 9, .slice none 0 0] 60) ∧ Fr [] w1 W ∧ W.heap.size = w1.heap.size + 1 + 1 + 1 + 1)
    (by obtain ⟨h1, h2, h3, h4, h5, h6⟩ := four_new w1 _ _ _ _; exact ⟨h1, h2, h4, h5, h6⟩) ?_
  rintro W ⟨hb1, hb2, hb4, hfW, hsz⟩
  have HW := Lib.hid hfW
  have HSZ := Lib.hid hsz
  have HB2 := Lib.hid hb2
  have HB1 := Lib.hid hb1
  have HCW := Lib.hid (HC.out.fr0 hfW)
  have hqm : MsOk ⟨w.heap.size, []⟩ W (qM 0 e0) (.slice (some ⟨w1.heap.size, 0, none⟩) 1 1) (.slice none 0 0) (.slice none 0 0) (.slice none 0 0) := qM_ok hb1 (by simp) (NmAt.nil _ _ _)
  have ham : MsOk ⟨w.heap.size, []⟩ W (aM 0 e0 9) (.slice (some ⟨w1.heap.size, 0, none⟩) 1 1) (.slice (some ⟨w1.heap.size + 1 + 1 + 1, 0, none⟩) 1 1) (.slice none 0 0) (.slice none 0 0) := aM_ok hb1 (by simp) hb4 (by simp) (NmAt.nil _ _ _) (NmAt.nil _ _ _) (by decide)
  refine (put_any W ⟨w.heap.size, []⟩ w.heap.size 1 (.slice none 0 0) [] (qM 0 e0) (aM 0 e0 9) _ _ _ _ _ _ _ _ 5 false 0 HCW.out hqm ham (qM_find hqm) (by decide) ⟨by have := HF1.out.size; show w.heap.size ≤ _; omega, by simp⟩ (by decide)).mono ?_
  clear hb1 hb2 hb4 hfW hsz ham
  have HQM := Lib.hid hqm
  clear hqm
  rintro e w2 h2
  have hz0 : putZ (qM 0 e0) (aM 0 e0 9) 0 5 = 0 := (putZ_same 0 e0 9 5 (by decide) (by decide)).trans rfl
  rcases h2 with ⟨h2, _⟩ | ⟨_, rfl, v', hca, hfh, hfo⟩
  · exact absurd hz0 h2
  have HCA := Lib.hid hca
  have HFH := Lib.hid hfh
  have hpne : w1.heap.size + 1 ≠ w.heap.size := by
    have := HF1.out.size
    omega
  have HB2' := Lib.hid (hfo.blk HB2.out (by simp [Value.ownBlock]; omega))
  have HQ2 := Lib.hid (HQM.out.frH hfh)
  clear hca hfh hfo HB2 HQM hz0 HCW
  obtain ⟨hk1, hk2, hk3⟩ := putE_aM 0 e0 9 5 (by decide)
  have hpm : (putE (qM 0 e0) (aM 0 e0 9) false 5).m = tolM (qM 0 e0) (aM 0 e0 9) 0 := rfl
  have HTT := Lib.hid (show ((tolM (qM 0 e0) (tolM (qM 0 e0) (aM 0 e0 9) 0) (7 - 5)).A 0).tt = 7 by
    show wrap64 (wrap64 ((9 : Int) - 0) - (7 - 5)) = 7
    unfold wrap64
    omega)
  generalize putE (qM 0 e0) (aM 0 e0 9) false 5 = E at *
  obtain ⟨h1, h2⟩ := lone E _ hk1
  rw [h1] at HCA
  obtain ⟨x0, x1, x2, x3, x4, x5, x6, x7, x8, x9, x10, x11, x12, x13, x14⟩ := msg_cells (h := zHd) HB2'.out
  simp only [zHd] at x0 x1 x2 x3 x4 x5 x6 x7 x8 x9 x10
  have HGT := Lib.hid (get_any w2 ⟨w.heap.size, []⟩ w.heap.size 1 v' [E] (qM 0 e0) _ _ _ _ 7 false 0 HCA.out HQ2.out (qM_find HQ2.out) ⟨by have h8 := HF1.out.size; have h9 := HFH.out.size; have h7 := HSZ.out; show w.heap.size ≤ _; omega, by simp⟩ (by decide) (by simp [hk2]))
  have hix : fIx (keyL ((qM 0 e0).Q 0) (qM 0 e0).h.rd false) [E] < [E].length := by
    have : fIx (keyL ((qM 0 e0).Q 0) (qM 0 e0).h.rd false) [E] = 0 := h2
    rw [this]
    exact Nat.zero_lt_one
  have hfr : fresh 7 E = true := by unfold fresh; rw [hk2, hk3]; decide
  have HTOLD := Lib.hid (fun (w' : World) (e : Ending) (h : GetGood w2 w' ⟨w.heap.size, []⟩ w.heap.size 1 v' [E] (qM 0 e0) false 0 7 e) => GetGood.told h ((qM_fault 0 e0).trans rfl) E hix (by
    have : fIx (keyL ((qM 0 e0).Q 0) (qM 0 e0).h.rd false) [E] = 0 := h2
    simp [this]) hfr)
  rw [hk2, hpm] at HTOLD
  clear hk1 hk2 hk3 h1 h2 hix hfr HCA HB1
  unfold msgV at HGT
  go_wp2_with fail
  refine HGT.out.mono ?_
  rintro e w3 h3
  obtain ⟨vq, va, vu, vm, rfl, hms, v2, hca3, hfh3⟩ := HTOLD.out _ _ h3
  obtain ⟨_, j0⟩ := hms.hq
  obtain ⟨FA, j1⟩ := hms.ha
  obtain ⟨_, j2⟩ := hms.hu
  obtain ⟨_, j3⟩ := hms.hm
  obtain ⟨s0, t0, rfl⟩ := j0.rd.slice
  obtain ⟨s2, t2, rfl⟩ := j2.rd.slice
  obtain ⟨s3, t3, rfl⟩ := j3.rd.slice
  have hn1 : (tolM (qM 0 e0) (tolM (qM 0 e0) (aM 0 e0 9) 0) (7 - 5)).an = 1 := rfl
  obtain ⟨b1, o1, c1, rfl, hx1, hx2, _, hc1⟩ := j1.rd.shape (by rw [hn1]; exact Nat.zero_lt_one) (by decide)
  obtain ⟨na, nc, da, dc, hF, _⟩ := j1.at_ 0 (by rw [hn1]; exact Nat.zero_lt_one)
  have k3 : w3.cell? ⟨b1, o1 + 3, none⟩ = some (.int .i64 7) := by
    have h9 := hc1 0 3 (by rw [hn1]; exact Nat.zero_lt_one) (by decide)
    rw [hF 3 (by decide)] at h9
    simp only [Rs.F, HTT.out, Nat.zero_mul, Nat.add_zero] at h9
    exact h9
  rw [hn1]
  have HFZ := Lib.hid (((HF1.out.trans HW.out (by simp)).hot0 ⟨w.heap.size, []⟩).trans (HFH.out.trans hfh3))
  clear hms h3 HGT HTOLD HTT j0 j1 j2 j3 hc1 hF hca3 hfh3 x0 x1 x2 x3 x4 x5 x6 x7 x8 x9 x10 x11 x12 x13 x14 hn1 HQ2 HB2' HFH HW HSZ
  generalize (tolM (qM 0 e0) (tolM (qM 0 e0) (aM 0 e0 9) 0) (7 - 5)).h = hh
  obtain ⟨i0, i1, i2, i3, i4, i5, i6, i7, i8, i9, i10⟩ := hh
  simp only [msgV]
  generalize (tolM (qM 0 e0) (tolM (qM 0 e0) (aM 0 e0 9) 0) (7 - 5)) = mm at *
  go_wp2_with fail
  go_ret
  exact ⟨rfl, HFZ.out.trans (((Fr.refl [] w3).alloc _).hot0 _)⟩

end Go.Proofs.YtkdmkpdooiacaaaDoor
