/- rule.read, walked. -/
import Derived.Test.YtgpfkaiinbncnaaDoorReadDefs
import Derived.Test.YtgpfkaiinbncnaaDoorCloneN
import Derived.Test.YtgpfkaiinbncnaaDoorHoldsAny
namespace Go.Proofs.YtgpfkaiinbncnaaDoor
open Go.RowKit

theorem blkSet {w : World} {p : Nat} {cs : Array Value} {T : TypeId} (h : w.heap[p]? = some (.cells cs T (0, 0))) (j : Nat) (u : Value) {cs' : Array Value} (hc : cs.setIfInBounds j u = cs') :
    (w.setCell ⟨p, j, none⟩ u).heap[p]? = some (.cells cs' T (0, 0)) := by
  subst hc
  simp only [World.setCell]
  rw [Array.getElem?_modify, if_pos rfl, h]
  rfl

theorem fiveStore {w : World} {r : Nat} {x0 x1 x2 x3 x4 : Value} {T : TypeId} (h : w.heap[r]? = some (.cells #[x0, x1, x2, x3, x4] T (0, 0))) (u0 u1 u2 u3 u4 : Value) {w5 : World}
    (he : ((((w.setCell ⟨r, 0, none⟩ u0).setCell ⟨r, 1, none⟩ u1).setCell ⟨r, 2, none⟩ u2).setCell ⟨r, 3, none⟩ u3).setCell ⟨r, 4, none⟩ u4 = w5) :
    (w.cell? ⟨r, 0, none⟩ = some x0 ∧ w.frozen? ⟨r, 0, none⟩ = false) ∧
    ((w.setCell ⟨r, 0, none⟩ u0).cell? ⟨r, 1, none⟩ = some x1 ∧ (w.setCell ⟨r, 0, none⟩ u0).frozen? ⟨r, 1, none⟩ = false) ∧
    (((w.setCell ⟨r, 0, none⟩ u0).setCell ⟨r, 1, none⟩ u1).cell? ⟨r, 2, none⟩ = some x2 ∧ ((w.setCell ⟨r, 0, none⟩ u0).setCell ⟨r, 1, none⟩ u1).frozen? ⟨r, 2, none⟩ = false) ∧
    ((((w.setCell ⟨r, 0, none⟩ u0).setCell ⟨r, 1, none⟩ u1).setCell ⟨r, 2, none⟩ u2).cell? ⟨r, 3, none⟩ = some x3 ∧ (((w.setCell ⟨r, 0, none⟩ u0).setCell ⟨r, 1, none⟩ u1).setCell ⟨r, 2, none⟩ u2).frozen? ⟨r, 3, none⟩ = false) ∧
    (((((w.setCell ⟨r, 0, none⟩ u0).setCell ⟨r, 1, none⟩ u1).setCell ⟨r, 2, none⟩ u2).setCell ⟨r, 3, none⟩ u3).cell? ⟨r, 4, none⟩ = some x4 ∧ ((((w.setCell ⟨r, 0, none⟩ u0).setCell ⟨r, 1, none⟩ u1).setCell ⟨r, 2, none⟩ u2).setCell ⟨r, 3, none⟩ u3).frozen? ⟨r, 4, none⟩ = false) ∧
    w5.heap[r]? = some (.cells #[u0, u1, u2, u3, u4] T (0, 0)) ∧ Fr [r] w w5 := by
  subst he
  have h1 := blkSet h 0 u0 rfl
  have h2 := blkSet h1 1 u1 rfl
  have h3 := blkSet h2 2 u2 rfl
  have h4 := blkSet h3 3 u3 rfl
  have h5 := blkSet h4 4 u4 rfl
  exact ⟨⟨blk_cell h 0 rfl, blk_frozen h 0⟩, ⟨blk_cell h1 1 rfl, blk_frozen h1 1⟩, ⟨blk_cell h2 2 rfl, blk_frozen h2 2⟩, ⟨blk_cell h3 3 rfl, blk_frozen h3 3⟩, ⟨blk_cell h4 4 rfl, blk_frozen h4 4⟩, h5,
    (((((Fr.refl [r] w).setCell (p := ⟨r, 0, none⟩) (by simp) u0).setCell (p := ⟨r, 1, none⟩) (by simp) u1).setCell (p := ⟨r, 2, none⟩) (by simp) u2).setCell (p := ⟨r, 3, none⟩) (by simp) u3).setCell (p := ⟨r, 4, none⟩) (by simp) u4⟩

def zNd : Value := .agg #[.int .i64 0, .int .i64 0, .slice none 0 0, .slice none 0 0, .slice none 0 0]

/-- what read gives -/
def rdPost (W : World) (M : Nat → Mt) (n : Nat) : Ending → World → Prop := fun e w' =>
  (rdFault M n ≠ 0 ∧ e = .returned (.tuple #[zNd, .iface 27 (.int .i64 (rdFault M n))]) ∨
   rdFault M n = 0 ∧ ∃ m v, e = .returned (.tuple #[ndAgg m v, .nilIface]) ∧ ∀ q, NRep W w' (fun g => W.heap.size ≤ g) q m v (stB M q n 0)) ∧ Fr [] W w'

theorem node1_bad {W : World} {m : Mt} (hm : m.Ok W) (hz : n1Fault m ≠ 0) (w : World) (hf : Fr [] W w) :
    Calls Tryd.prog 88 #[.agg #[.int .i64 m.op, .int .i64 m.k, .slice m.na m.nl m.nc, .slice m.aa m.al m.ac]] w fun e w' => e = .returned (.iface 27 (.int .i64 (n1Fault m))) ∧ Fr [] w w' := by
  refine (node1_any w m (hm.fr hf)).mono ?_
  rintro e w' ⟨rfl, h⟩
  exact ⟨by unfold erVn; rw [if_neg hz], h⟩
theorem node1_good {W : World} {m : Mt} (hm : m.Ok W) (hz : n1Fault m = 0) (w : World) (hf : Fr [] W w) :
    Calls Tryd.prog 88 #[.agg #[.int .i64 m.op, .int .i64 m.k, .slice m.na m.nl m.nc, .slice m.aa m.al m.ac]] w fun e w' => e = .returned .nilIface ∧ Fr [] w w' := by
  refine (node1_any w m (hm.fr hf)).mono ?_
  rintro e w' ⟨rfl, h⟩
  exact ⟨by unfold erVn; rw [if_pos hz], h⟩

theorem takes_at (w : World) (op : Int) : Calls Tryd.prog 89 #[.int .i64 op] w fun e w' => e = .returned (.int .i64 ((tkN op : Nat) : Int)) ∧ w = w' := by
  rw [← tk_eq]; exact takes_any w op

theorem takes_fr (w : World) (op : Int) : Calls Tryd.prog 89 #[.int .i64 op] w fun e w' => e = .returned (.int .i64 ((tkN op : Nat) : Int)) ∧ Fr [] w w' := by
  refine (takes_at w op).mono ?_
  rintro e w' ⟨rfl, rfl⟩
  exact ⟨rfl, Fr.refl _ _⟩

theorem OwnC.upto {w : World} {B : Nat} {E : TypeId} {a : Option Addr} {c s n : Nat} {F : Nat → Nat → Value} (h : OwnC w B E (.slice a n c) s n F) (m : Nat) (hm : m ≤ n) : OwnC w B E (.slice a m c) s m F := by
  rcases h with ⟨e, h0⟩ | ⟨g, cap, e, hb, h⟩
  · simp only [Value.slice.injEq] at e
    obtain ⟨rfl, _, rfl⟩ := e
    rw [show m = 0 by omega]
    exact .inl ⟨rfl, rfl⟩
  · simp only [Value.slice.injEq, true_and] at e
    obtain ⟨rfl, rfl⟩ := e
    exact .inr ⟨g, c, rfl, hb, h.take m hm⟩

theorem OwnC.fr {w w' : World} {B : Nat} {E : TypeId} {v : Value} {s n : Nat} {F : Nat → Nat → Value} (h : OwnC w B E v s n F) (hf : Fr [] w w') : OwnC w' B E v s n F := h.kept hf (by simp)

theorem rdc_one5 (w : World) (E : TypeId) (m : Mt) (v' : Value) {b : Nat} (hb : w.heap.size = b) : RdC (w.alloc (.cells #[.int .i64 m.op, .int .i64 m.k, .slice m.na m.nl m.nc, .slice m.aa m.al m.ac, v'] E)) (.slice (some ⟨b, 0, none⟩) 1 1) 5 1 (fun _ => ndF m v') := by
  subst hb
  refine .inr ⟨_, 1, rfl, Nat.le_refl _, by decide, fun j hj => ?_⟩
  have e : (⟨w.heap.size, 0, none⟩ : Addr).add j = ⟨w.heap.size, j, none⟩ := by unfold Addr.add; split <;> simp_all
  rw [e]
  have h := heap_alloc_new w (.cells #[.int .i64 m.op, .int .i64 m.k, .slice m.na m.nl m.nc, .slice m.aa m.al m.ac, v'] E)
  match j, hj with
  | 0, _ => exact blk_cell h 0 rfl
  | 1, _ => exact blk_cell h 1 rfl
  | 2, _ => exact blk_cell h 2 rfl
  | 3, _ => exact blk_cell h 3 rfl
  | 4, _ => exact blk_cell h 4 rfl

theorem ndF_one (m : Mt) (a : Option Addr) (n c : Nat) : ∀ j, j < 1 * 5 → (fls 5 (fun _ => ndF m (.slice a n c)) j).oneCell' = true := fun j hj => by
  unfold fls
  have : j % 5 = 0 ∨ j % 5 = 1 ∨ j % 5 = 2 ∨ j % 5 = 3 ∨ j % 5 = 4 := by omega
  rcases this with h | h | h | h | h <;> rw [h] <;> rfl

abbrev zW (W : World) : World := W.alloc (.cells #[.int .i64 0, .int .i64 0, .slice none 0 0, .slice none 0 0, .slice none 0 0] 125)

theorem zW_blk {W wr : World} (h : Fr [] (zW W) wr) : wr.heap[W.heap.size]? = some (.cells #[.int .i64 0, .int .i64 0, .slice none 0 0, .slice none 0 0, .slice none 0 0] 125 (0, 0)) := h.blk (heap_alloc_new W _) (by simp)

/-- the stack behind k parts -/
def StkRel (W wr : World) (M : Nat → Mt) (k : Nat) (v : Value) : Prop :=
  ∃ (ms : Nat → Mt) (vs : Nat → Value), OwnC wr (W.heap.size + 1) 125 v 5 (dps M k) (fun j => ndF (ms j) (vs j)) ∧
    (∀ j, j < dps M k → ∀ q, NRep W wr (fun g => W.heap.size < g ∧ g < wr.heap.size ∧ v.ownBlock ≠ some g) q (ms j) (vs j) (stB M q k j)) ∧ Fr [] (zW W) wr

theorem Fr.pre {S : List Nat} {a b c : World} (h : Fr [] a b) (k : Fr S b c) : Fr S a c := (h.mono (S' := S) (by simp)).trans k (fun x hx => .inl hx)

theorem NRep.isSlice {W w : World} {D : Nat → Prop} {q : Qt} {m : Mt} {v : Value} {b : Bool} (h : NRep W w D q m v b) : ∃ a n c, v = .slice a n c := by
  cases h
  exact ⟨_, _, _, rfl⟩

theorem ownB_e (a : Option Addr) (n m c d : Nat) : (Value.slice a n c).ownBlock = (Value.slice a m d).ownBlock := by cases a <;> rfl

theorem stk_step {W wr wc w5 w6 : World} {M : Nat → Mt} {k e : Nat} {a : Option Addr} {c : Nat} {ms : Nat → Mt} {vs : Nat → Value} {v' v6 : Value} (he : dps M k = e + tkN (M k).op)
    (hO : OwnC wr (W.heap.size + 1) 125 (.slice a (e + tkN (M k).op) c) 5 (e + tkN (M k).op) (fun j => ndF (ms j) (vs j)))
    (hN : ∀ j, j < e + tkN (M k).op → ∀ q, NRep W wr (fun g => W.heap.size < g ∧ g < wr.heap.size ∧ (Value.slice a (e + tkN (M k).op) c).ownBlock ≠ some g) q (ms j) (vs j) (stB M q k j))
    (hF : Fr [] (zW W) wr) (hfc : Fr [] wr wc) (hcl : OwnC wc wr.heap.size 125 v' 5 (tkN (M k).op) (fun j => ndF (ms (e + j)) (vs (e + j)))) (hok : (M k).Ok W) (hn1 : n1Fault (M k) = 0) (hw5 : Fr [] wc w5)
    (ho : OwnC w6 (W.heap.size + 1) 125 v6 5 (e + 1) (appC e (fun j => ndF (ms j) (vs j)) (fun _ => ndF (M k) v'))) (hf6 : Fr (Value.slice a e c).ownBlock.toList w5 w6) (hsn : SameOrNew w5 (.slice a e c) v6) :
    StkRel W w6 M (k + 1) v6 := by
  have hz : W.heap.size < wr.heap.size := by have := hF.size; simp [zW] at this; omega
  have h5 : wr.heap.size ≤ w5.heap.size := Nat.le_trans hfc.size hw5.size
  have h6 : w5.heap.size ≤ w6.heap.size := hf6.size
  have hlt := hO.lt
  rw [ownB_e a (e + tkN (M k).op) e c c] at hlt
  have hb6 : ∀ g, v6.ownBlock = some g → (Value.slice a e c).ownBlock = some g ∨ w5.heap.size ≤ g := fun g hg => by
    have := hsn g (by rw [hg]; simp)
    rcases this with h | h
    · exact .inl (by simpa using h)
    · exact .inr h
  have hfa : Fr (Value.slice a e c).ownBlock.toList wr w6 := (hfc.trans hw5 (by simp)).pre hf6
  have hold : ∀ j, j < e + tkN (M k).op → ∀ q, NRep W w6 (fun g => W.heap.size < g ∧ g < w6.heap.size ∧ v6.ownBlock ≠ some g) q (ms j) (vs j) (stB M q k j) := fun j hj q => by
    refine ((hN j hj q).kept hfa ?_).mono ?_
    · rintro g ⟨_, _, h3⟩ hm
      refine h3 ?_
      rw [ownB_e a (e + tkN (M k).op) e c c]
      simpa using hm
    · rintro g ⟨h1, h2, h3⟩
      refine ⟨h1, by omega, fun h => ?_⟩
      rcases hb6 g h with h | h
      · exact h3 (by rw [ownB_e a (e + tkN (M k).op) e c c]; exact h)
      · omega
  have hd : dps M (k + 1) = e + 1 := by simp only [dps]; omega
  refine ⟨fun j => if j < e then ms j else M k, fun j => if j < e then vs j else v', ?_, ?_, ?_⟩
  · rw [hd]
    refine ho.congr (by decide) (fun j cc hj _ => ?_)
    unfold appC
    by_cases h : j < e
    · simp only [if_pos h]
    · simp only [if_neg h]
  · intro j hj q
    rw [hd] at hj
    by_cases h : j < e
    · simp only [if_pos h]
      have e1 : stB M q (k + 1) j = stB M q k j := by simp only [stB]; rw [if_pos (by omega)]
      rw [e1]
      exact hold j (by omega) q
    · simp only [if_neg h]
      obtain rfl : j = e := by omega
      have e1 : stB M q (k + 1) j = nodeH (M k) q (fun i => stB M q k (j + i)) := by
        have e2 : dps M k - tkN (M k).op = j := by omega
        simp only [stB]
        rw [e2, if_neg h]
      rw [e1]
      have hge := hcl.ge
      have hlc := hcl.lt
      have hrd : RdC w6 v' 5 (tkN (M k).op) (fun i => ndF (ms (j + i)) (vs (j + i))) := by
        refine hcl.rd.frs (S := (Value.slice a j c).ownBlock.toList) (by decide) (hw5.pre hf6) ?_
        intro b o c' _ hv hm
        subst hv
        have h1 := hge b (by simp [Value.ownBlock])
        have h2 := hlt b hm
        omega
      obtain ⟨a', c', rfl⟩ := hrd.slice
      refine .mk (fun i => ms (j + i)) (fun i => vs (j + i)) (fun i => stB M q k (j + i)) hok hn1 ?_ hrd (fun i hi => hold (j + i) (by omega) q)
      intro g hg
      have hg' : (Value.slice a' (tkN (M k).op) c').ownBlock = some g := by cases a' <;> simp_all [Value.ownBlock]
      have h1 := hge g (by rw [hg']; simp)
      have h2 := hlc g (by rw [hg']; simp)
      have h3 := hw5.size
      refine ⟨by omega, by omega, fun h => ?_⟩
      rcases hb6 g h with h | h
      · have := hlt g (by rw [h]; simp)
        omega
      · omega
  · exact (hF.trans hfc (by simp)).trans (hw5.pre hf6) (fun x hx => .inr (by
      have := hO.ge x (by rw [ownB_e a (e + tkN (M k).op) e c c]; exact hx)
      simp [zW]; omega))

theorem rd_post_bad {W w' : World} {M : Nat → Mt} {n : Nat} {z : Int} (h : rdFault M n = z) (hz : z ≠ 0) (hf : Fr [] W w') : rdPost W M n (.returned (.tuple #[zNd, .iface 27 (.int .i64 z)])) w' := by
  subst h
  exact ⟨.inl ⟨hz, rfl⟩, hf⟩

theorem rdF_200 {M : Nat → Mt} {n : Nat} (h : 200 < n) : rdFault M n = 7 := by unfold rdFault; rw [if_pos h]
theorem rdF_n1 {M : Nat → Mt} {n k : Nat} (h : ¬ 200 < n) (hk : k < n) (h0 : fstN M k = 0) (hz : n1Fault (M k) ≠ 0) : rdFault M n = n1Fault (M k) := by
  have e1 : fstN M (k + 1) = n1Fault (M k) := by simp only [fstN]; rw [if_pos h0]
  have e2 := fstN_keep (M := M) (i := k + 1) (n := n) (by omega) (by rw [e1]; exact hz)
  unfold rdFault
  rw [if_neg h, if_pos (by rw [e2, e1]; exact hz), e2, e1]
theorem rdF_fed {M : Nat → Mt} {n k : Nat} (h : ¬ 200 < n) (h0 : fstN M n = 0) (hk : k < n) (hz : ¬ tkN (M k).op ≤ dps M k) : rdFault M n = 1 := by
  unfold rdFault
  rw [if_neg h, if_neg (by simp [h0]), if_neg (by rw [fed_false hk hz]; simp)]
theorem rdF_dps {M : Nat → Mt} {n : Nat} (h : ¬ 200 < n) (h0 : fstN M n = 0) (hz : dps M n ≠ 1) : rdFault M n = 1 := by
  unfold rdFault
  rw [if_neg h, if_neg (by simp [h0]), if_neg (by rintro ⟨_, h1⟩; exact hz h1)]
theorem rdF_ok {M : Nat → Mt} {n : Nat} (h : ¬ 200 < n) (h0 : fstN M n = 0) (hf : fed M n = true) (hz : dps M n = 1) : rdFault M n = 0 := by
  unfold rdFault
  rw [if_neg h, if_neg (by simp [h0]), if_pos ⟨hf, hz⟩]

set_option maxHeartbeats 4000000 in
set_option maxRecDepth 100000 in
theorem read_full (W : World) (a : Option Addr) (n c : Nat) (M : Nat → Mt) (h200 : 200 < n) (hc : n ≤ c ∧ c ≤ maxLen) :
    Calls Tryd.prog 75 #[.slice a n c] W (rdPost W M n) := by
  have hc2 := hc
  unfold maxLen at hc2
  have HP := Lib.hid (rd_post_bad (W := W) (w' := zW W) (rdF_200 (M := M) h200) (by decide) ((Fr.refl [] W).alloc _))
  unfold zNd at HP
  generalize rdPost W M n = POST at HP ⊢
  go_enter Tryd.func75, Tryd.ntmps75
  go_wp2
  refine bodyPost_ret (v := .tuple #[.agg #[.int .i64 0, .int .i64 0, .slice none 0 0, .slice none 0 0, .slice none 0 0], .iface 27 (.int .i64 7)]) (by simp [results, Tryd.results75, go_sem]) rfl HP.out

set_option maxHeartbeats 8000000 in
set_option maxRecDepth 100000 in
theorem read_any (W : World) (a : Option Addr) (n c : Nat) (M : Nat → Mt) (hr : RdC W (.slice a n c) 4 n (fun j => (M j).F)) (hok : ∀ j, j < n → (M j).Ok W) (hc : n ≤ c ∧ c ≤ maxLen) :
    Calls Tryd.prog 75 #[.slice a n c] W (rdPost W M n) := by
  by_cases h200 : 200 < n
  · exact read_full W a n c M h200 hc
  have HN := Lib.hid h200
  have hn : n ≤ 200 := by omega
  clear hc h200
  have HR := Lib.hid hr; clear hr
  have HOK := Lib.hid hok; clear hok
  go_enter Tryd.func75, Tryd.ntmps75
  go_wp2
  go_loopw [19] (fun vi wr => ∃ k : Nat, k ≤ n ∧ vi = .int .i64 k ∧ fstN M k = 0 ∧ Fr [] (zW W) wr) (fun vi _ => n - (intOf vi).toNat)
  case atStart => exact ⟨0, by omega, rfl, rfl, Fr.refl _ _⟩
  case round =>
    obtain ⟨k, hk, rfl, hfst, hfr⟩ := hrel
    have HFST := Lib.hid hfst; clear hfst
    have HFR := Lib.hid hfr; clear hfr
    have HFW := Lib.hid (((Fr.refl [] W).alloc _).trans HFR.out (by simp))
    by_cases hlt : k < n
    · obtain ⟨bb, oo, cc, he, _, _, _, hcell⟩ := (HR.out.fr HFW.out).shape (by omega) (by decide)
      simp only [Value.slice.injEq, true_and] at he
      obtain ⟨rfl, rfl⟩ := he
      have c0 : wr.cell? ⟨bb, oo + k * 4, none⟩ = some (.int .i64 (M k).op) := hcell k 0 hlt (by decide)
      have c1 : wr.cell? ⟨bb, oo + k * 4 + 1, none⟩ = some (.int .i64 (M k).k) := hcell k 1 hlt (by decide)
      have c2 : wr.cell? ⟨bb, oo + k * 4 + 2, none⟩ = some (.slice (M k).na (M k).nl (M k).nc) := hcell k 2 hlt (by decide)
      have c3 : wr.cell? ⟨bb, oo + k * 4 + 3, none⟩ = some (.slice (M k).aa (M k).al (M k).ac) := hcell k 3 hlt (by decide)
      clear hcell
      have k0 : (0 : Int) ≤ (k : Int) := by omega
      have k1 : (k : Int) < (n : Int) := by omega
      by_cases hz : n1Fault (M k) = 0
      · have HC := Lib.hid (fun w hf => node1_good (HOK.out k hlt) hz w hf)
        have HS := Lib.hid (show fstN M (k + 1) = 0 by simp only [fstN]; rw [if_pos HFST.out]; exact hz)
        clear hz
        go_wp2_with (go_at_call 88; refine (HC.out _ (HFW.out.alloc _)).mono ?_; rintro e wx ⟨rfl, hfx⟩)
        go_roundw
        case rel => exact ⟨k + 1, by omega, by go_num, HS.out, (HFR.out.alloc _).trans hfx (by simp)⟩
        case measure => simp [intOf]; omega
      · have HC := Lib.hid (fun w hf => node1_bad (HOK.out k hlt) hz w hf)
        have HZ := Lib.hid (rdF_n1 HN.out hlt HFST.out hz)
        have HZ0 := Lib.hid hz
        clear hz
        generalize n1Fault (M k) = z at *
        go_wp2_with (go_at_call 88; refine (HC.out _ (HFW.out.alloc _)).mono ?_; rintro e wx ⟨rfl, hfx⟩; have HFX := Lib.hid ((HFW.out.alloc _).trans hfx (by simp)); have zb := zW_blk ((HFR.out.alloc _).trans hfx (by simp)); clear hfx; obtain ⟨w7, hw7⟩ : ∃ w7, ((((wx.setCell ⟨W.heap.size, 0, none⟩ (.int .i64 0)).setCell ⟨W.heap.size, 1, none⟩ (.int .i64 0)).setCell ⟨W.heap.size, 2, none⟩ (.slice none 0 0)).setCell ⟨W.heap.size, 3, none⟩ (.slice none 0 0)).setCell ⟨W.heap.size, 4, none⟩ (.slice none 0 0) = w7 := ⟨_, rfl⟩; obtain ⟨⟨m0, n0⟩, ⟨m1, n1⟩, ⟨m2, n2⟩, ⟨m3, n3⟩, ⟨m4, n4⟩, hb7, f7⟩ := fiveStore zb (.int .i64 0) (.int .i64 0) (.slice none 0 0) (.slice none 0 0) (.slice none 0 0) hw7; have HB7 := Lib.hid hb7; have HF7 := Lib.hid (HFX.out.trans f7 (by simp)); clear hb7 f7 zb)
        have e0 := blk_cell HB7.out 0 rfl
        have e1 := blk_cell HB7.out 1 rfl
        have e2 := blk_cell HB7.out 2 rfl
        have e3 := blk_cell HB7.out 3 rfl
        have e4 := blk_cell HB7.out 4 rfl
        refine bodyPost_ret (v := .tuple #[zNd, .iface 27 (.int .i64 z)]) (by simp [results, Tryd.results75, go_sem, zNd, e0, e1, e2, e3, e4]) rfl (rd_post_bad HZ.out HZ0.out HF7.out)
    · obtain rfl : k = n := by omega
      clear hlt hk
      have HFST := Lib.hid HFST.out
      go_wp2
      obtain ⟨wo, rfl⟩ : ∃ wo : World, wo = wr := ⟨_, rfl⟩
      go_loopw [7, 32] (fun v vi wr => ∃ i : Nat, i ≤ k ∧ vi = .int .i64 i ∧ fed M i = true ∧ StkRel W wr M i v) (fun _ vi _ => k - (intOf vi).toNat)
      case atStart => exact ⟨0, by omega, rfl, rfl, fun _ => M 0, fun _ => .slice none 0 0, OwnC.nil _ _ _ _ _, fun j hj => absurd hj (by simp [dps]), HFR.out⟩
      case round =>
        clear HFR HFW
        obtain ⟨i, hi, rfl, hfed, ms, vs, hO, hN, hF⟩ := hrel
        have HO := Lib.hid hO
        have HNR := Lib.hid hN
        have HF := Lib.hid hF
        clear hO hN hF
        have HFED := Lib.hid hfed; clear hfed
        have hz : W.heap.size < wr.heap.size := by have := HF.out.size; simp [zW] at this; omega
        have HFW := Lib.hid (((Fr.refl [] W).alloc _).trans HF.out (by simp))
        obtain ⟨a', c', rfl⟩ := HO.out.rd.slice
        have hdk := dps_le M i
        by_cases hlt : i < k
        · obtain ⟨bb, oo, cc, he, _, _, _, hcell⟩ := (HR.out.fr HFW.out).shape (by omega) (by decide)
          simp only [Value.slice.injEq, true_and] at he
          obtain ⟨rfl, rfl⟩ := he
          have c0 : wr.cell? ⟨bb, oo + i * 4, none⟩ = some (.int .i64 (M i).op) := hcell i 0 hlt (by decide)
          have c1 : wr.cell? ⟨bb, oo + i * 4 + 1, none⟩ = some (.int .i64 (M i).k) := hcell i 1 hlt (by decide)
          have c2 : wr.cell? ⟨bb, oo + i * 4 + 2, none⟩ = some (.slice (M i).na (M i).nl (M i).nc) := hcell i 2 hlt (by decide)
          have c3 : wr.cell? ⟨bb, oo + i * 4 + 3, none⟩ = some (.slice (M i).aa (M i).al (M i).ac) := hcell i 3 hlt (by decide)
          clear hcell
          have k0 : (0 : Int) ≤ (i : Int) := by omega
          have k1 : (i : Int) < (k : Int) := by omega
          have htk := tkN_le (M i).op
          by_cases hle : tkN (M i).op ≤ dps M i
          · obtain ⟨e, he⟩ : ∃ e, dps M i = e + tkN (M i).op := ⟨_, (Nat.sub_add_cancel hle).symm⟩
            have HFE := Lib.hid (show fed M (i + 1) = true by simp only [fed]; rw [HFED.out, decide_eq_true hle]; rfl)
            have HN1 := Lib.hid (show n1Fault (M i) = 0 by
              have := fstN_keep (M := M) (i := i + 1) (n := k) (by omega)
              by_cases h : fstN M (i + 1) = 0
              · simp only [fstN] at h
                split at h
                · exact h
                · contradiction
              · rw [HFST.out] at this
                exact absurd (this h).symm h)
            have HOKI := Lib.hid (HOK.out i hlt)
            have HST := Lib.hid (fun (wc w5 w6 : World) (v' v6 : Value) hfc hcl hw5 ho hf6 hsn => stk_step (W := W) (wr := wr) (wc := wc) (w5 := w5) (w6 := w6) (M := M) (k := i) (e := e) (a := a') (c := c') (ms := ms) (vs := vs) (v' := v') (v6 := v6) he (by rw [← he]; exact HO.out) (by rw [← he]; exact HNR.out) HF.out hfc hcl HOKI.out HN1.out hw5 ho hf6 hsn)
            have HDP := Lib.hid he
            clear hle
            rw [he] at hdk
            rw [show OwnC wr (W.heap.size + 1) 125 (.slice a' (dps M i) c') 5 (dps M i) (fun j => ndF (ms j) (vs j)) = OwnC wr (W.heap.size + 1) 125 (.slice a' (e + tkN (M i).op) c') 5 (e + tkN (M i).op) (fun j => ndF (ms j) (vs j)) by rw [he]] at HO
            have HVS := Lib.hid (show ∀ j, j < e + tkN (M i).op → ∃ a9 n9 c9, vs j = .slice a9 n9 c9 from fun j hj => by
              rw [he] at HNR
              exact (HNR.out j hj ⟨none, 0, 0, fun _ => .empty, 0, 0, 0, false, none, 0, 0, fun _ => 0⟩).isSlice)
            clear HNR
            rw [he]
            clear he
            have HT := Lib.hid (fun w => takes_at w (M i).op)
            generalize htt : tkN (M i).op = t at *
            clear htt
            have HM := Lib.hid (rfl : M i = M i)
            generalize hmm : M i = m at *
            clear hmm
            have hsub : ((e + t : Nat) : Int) - (t : Int) = (e : Int) := by omega
            go_upto_region 17 with (go_at_call 89; refine (HT.out _).mono ?_; rintro e wx ⟨rfl, rfl⟩)
            have HONE := Lib.hid (show ∀ j c, j < t → c < 5 → (ndF (ms (e + j)) (vs (e + j)) c).oneCell' = true from fun j c hj hc => by
              have h1 := HVS.out (e + j) (by omega)
              obtain ⟨a9, n9, c9, h9⟩ := h1
              rw [h9]
              match c, hc with
              | 0, _ => rfl
              | 1, _ => rfl
              | 2, _ => rfl
              | 3, _ => rfl
              | 4, _ => rfl)
            have HCL := Lib.hid (fun (w1 : World) (a1 : Option Addr) (c1 : Nat) (h : RdC w1 (.slice a1 t c1) 5 t (fun j => ndF (ms (e + j)) (vs (e + j)))) => clone_nodes w1 (.slice a1 t c1) t _ h HONE.out (by omega))
            have HPT := Lib.hid (HO.out.rd.part (by decide) e (e + t) (by omega) (Nat.le_refl _))
            rw [show e + t - e = t by omega] at HPT
            have HCC := Lib.hid (show e + t ≤ c' from by
              rcases HO.out with ⟨h9, h8⟩ | ⟨g, cap, h9, _, hrow⟩
              · omega
              · simp only [Value.slice.injEq, true_and] at h9
                rw [h9.2]; exact hrow.le)
            have HP0 := Lib.hid (fun (h : t = 0) => HO.out.rd)
            go_cut [11] (fun p wx => ∃ b v', p = .pointer (some ⟨b, 0, none⟩) ∧ wx.heap[b]? = some (.cells #[.int .i64 m.op, .int .i64 m.k, .slice m.na m.nl m.nc, .slice m.aa m.al m.ac, v'] 125 (0, 0)) ∧ OwnC wx wr.heap.size 125 v' 5 t (fun j => ndF (ms (e + j)) (vs (e + j))) ∧ Fr [] wr wx)
            case first =>
              have FW3 := Lib.hid (show Fr [] wr (wr.alloc (.cells #[.int .i64 m.op, .int .i64 m.k, .slice m.na m.nl m.nc, .slice m.aa m.al m.ac] 105)) from (Fr.refl [] wr).alloc _)
              have HF0 := Lib.hid (show ∀ w4, Fr [] (wr.alloc (.cells #[.int .i64 m.op, .int .i64 m.k, .slice m.na m.nl m.nc, .slice m.aa m.al m.ac] 105)) w4 → (w4.cell? ⟨wr.heap.size, 0, none⟩ = some (.int .i64 m.op)) ∧ (w4.cell? ⟨wr.heap.size, 1, none⟩ = some (.int .i64 m.k)) ∧ (w4.cell? ⟨wr.heap.size, 2, none⟩ = some (.slice m.na m.nl m.nc)) ∧ (w4.cell? ⟨wr.heap.size, 3, none⟩ = some (.slice m.aa m.al m.ac)) from fun w4 h4 => by
                have hA := h4.blk (heap_alloc_new wr (.cells #[.int .i64 m.op, .int .i64 m.k, .slice m.na m.nl m.nc, .slice m.aa m.al m.ac] 105)) (by simp)
                exact ⟨blk_cell hA 0 rfl, blk_cell hA 1 rfl, blk_cell hA 2 rfl, blk_cell hA 3 rfl⟩)
              generalize wr.alloc (.cells #[.int .i64 m.op, .int .i64 m.k, .slice m.na m.nl m.nc, .slice m.aa m.al m.ac] 105) = w3 at *
              have FD0 := Lib.hid ((Fr.refl [] w3).drew)
              have FDA := Lib.hid (((Fr.refl [] w3).alloc (.cells #[.int .i64 0, .int .i64 0, .slice none 0 0, .slice none 0 0, .slice none 0 0] 125)).drew)
              have HBA := Lib.hid (show (w3.alloc (.cells #[.int .i64 0, .int .i64 0, .slice none 0 0, .slice none 0 0, .slice none 0 0] 125)).drew.heap[w3.heap.size]? = _ from heap_alloc_new w3 (.cells #[.int .i64 0, .int .i64 0, .slice none 0 0, .slice none 0 0, .slice none 0 0] 125))
              obtain ⟨g0, g1, g2, g3⟩ := HF0.out w3 (Fr.refl _ _)
              have hle2 := HCC.out
              have hi0 : (0 : Int) ≤ (e : Int) := by omega
              have hi1 : (e : Int) ≤ (c' : Int) := by omega
              have hi2 : (e : Int) ≤ (e : Int) + (t : Int) := by omega
              have hi3 : (e : Int) + (t : Int) ≤ (c' : Int) := by omega
              have HPE := Lib.hid (show RdC wr (.slice (if c' = e then a' else Option.map (fun x => x.add (e * 5)) a') t (c' - e)) 5 t (fun j => ndF (ms (e + j)) (vs (e + j))) by
                by_cases hcap : c' = e
                · rw [if_pos hcap]
                  have ht0 : t = 0 := by omega
                  have hc0 : c' - e = 0 := by omega
                  subst ht0
                  rw [hc0]
                  cases a' with
                  | none => exact .inl ⟨rfl, rfl⟩
                  | some ad => exact .inr ⟨ad, 0, rfl, Nat.le_refl _, by decide, fun j hj => by simp at hj⟩
                · rw [if_neg hcap]
                  exact HPT.out)
              obtain ⟨a9, h9⟩ : ∃ a9, (if c' = e then a' else Option.map (fun x => x.add (e * 5)) a') = a9 := ⟨_, rfl⟩
              rw [h9] at HPE
              go_region_held3 (fun w4 => (w4.cell? ⟨wr.heap.size, 0, none⟩ = some (.int .i64 m.op)) ∧ (w4.cell? ⟨wr.heap.size, 1, none⟩ = some (.int .i64 m.k)) ∧ (w4.cell? ⟨wr.heap.size, 2, none⟩ = some (.slice m.na m.nl m.nc)) ∧ (w4.cell? ⟨wr.heap.size, 3, none⟩ = some (.slice m.aa m.al m.ac)))
                (first | exact HF0.out _ FD0.out | exact HF0.out _ FDA.out | exact HF0.out _ HX.out | exact HF0.out _ (HX.out.alloc _) | exact HF0.out _ HX7.out | fail)
                (first
                  | (go_at_call 90; (with_reducible refine (HCL.out _ _ _ (HPE.out.fr (FW3.out.trans FD0.out (by simp)))).mono ?_); rintro e5 wx ⟨v', rfl, hov, hfx⟩; obtain ⟨a5, c5, rfl⟩ := hov.rd.slice; have HX := Lib.hid (FD0.out.trans hfx (by simp)); have HOV := Lib.hid hov; clear hov hfx)
                  | (go_at_call 90; (with_reducible refine (HCL.out _ _ _ (HPE.out.fr (FW3.out.trans FDA.out (by simp)))).mono ?_); rintro e5 wx ⟨v', rfl, hov, hfx⟩; obtain ⟨a5, c5, rfl⟩ := hov.rd.slice; have HX := Lib.hid (FDA.out.trans hfx (by simp)); have HOV := Lib.hid hov; have zb := hfx.blk HBA.out (by simp); clear hov hfx; obtain ⟨w7, hw7⟩ : ∃ w7, ((((wx.setCell ⟨w3.heap.size, 0, none⟩ (.int .i64 m.op)).setCell ⟨w3.heap.size, 1, none⟩ (.int .i64 m.k)).setCell ⟨w3.heap.size, 2, none⟩ (.slice m.na m.nl m.nc)).setCell ⟨w3.heap.size, 3, none⟩ (.slice m.aa m.al m.ac)).setCell ⟨w3.heap.size, 4, none⟩ (.slice a5 t c5) = w7 := ⟨_, rfl⟩; obtain ⟨⟨m0, n0⟩, ⟨m1, n1⟩, ⟨m2, n2⟩, ⟨m3, n3⟩, ⟨m4, n4⟩, hb7, f7⟩ := fiveStore zb (.int .i64 m.op) (.int .i64 m.k) (.slice m.na m.nl m.nc) (.slice m.aa m.al m.ac) (.slice a5 t c5) hw7; have HB7 := Lib.hid hb7; have HX7 := Lib.hid (show Fr [] w3 w7 from HX.out.trans f7 (fun x hx => .inr (by simp at hx; omega))); have HF7 := Lib.hid f7; clear hb7 f7 zb)
                  | fail)
              all_goals go_wp2_with fail
              all_goals go_meet
              · exact ⟨_, _, rfl, heap_alloc_new wx _, (HOV.out.mono (B' := wr.heap.size) FW3.out.size).fr ((Fr.refl [] wx).alloc _), FW3.out.trans (HX.out.alloc _) (by simp)⟩
              · refine ⟨_, _, rfl, HB7.out, (HOV.out.kept HF7.out ?_).mono (B' := wr.heap.size) (Nat.le_trans FW3.out.size (by simp)), FW3.out.trans HX7.out (by simp)⟩
                intro g hg hm
                have := HOV.out.ge g (by rw [hg]; simp)
                simp at this hm
                omega
            case rest =>
              obtain ⟨b, v', rfl, hblk, hov, hfc⟩ := hcut
              have HOV := Lib.hid hov
              have HFC := Lib.hid hfc
              obtain ⟨a5, c5, rfl⟩ := hov.rd.slice
              have x0 := blk_cell hblk 0 rfl
              have x1 := blk_cell hblk 1 rfl
              have x2 := blk_cell hblk 2 rfl
              have x3 := blk_cell hblk 3 rfl
              have x4 := blk_cell hblk 4 rfl
              have HOW := Lib.hid (fun (o : Obj) => (HO.out.upto e (by omega)).fr ((hfc.drew).alloc o))
              have HON := Lib.hid (ndF_one m a5 t c5)
              have hsz : W.heap.size + 1 ≤ wc.heap.size := by have := hfc.size; omega
              clear hblk hov hfc
              have hle2 := HCC.out
              have hi0 : (0 : Int) ≤ (e : Int) := by omega
              have hi1 : (e : Int) ≤ (c' : Int) := by omega
              have hi2 : (e : Int) ≤ (e : Int) + (t : Int) := by omega
              go_wp2_with fail
              go_region_law (refine step_appC rfl (.tmp 54) (.tmp 56) 123 rfl 125 infoNode Tryd.underlying123 rfl (by decide) HON.out (HOW.out _) rfl (rdc_one5 wc.drew 125 m (.slice a5 t c5) (by simp)) rfl (by unfold maxLen; omega) (by omega) (by simp; omega) ?_; intro v6 w6 ho6 hf6 hn6; obtain ⟨a6, c6, hv6⟩ := ho6.rd.slice; subst hv6; have HS6 := Lib.hid (HST.out _ _ _ _ _ HFC.out HOV.out (((Fr.refl [] wc).drew).alloc _) ho6 hf6 hn6); clear ho6 hf6 hn6)
              all_goals go_wp2
              all_goals go_roundw
              case rel => exact ⟨i + 1, by omega, by go_num, HFE.out, HS6.out⟩
              case measure => simp [intOf]; omega
          · have HZ := Lib.hid (rdF_fed HN.out HFST.out hlt hle)
            have hlt2 : dps M i < tkN (M i).op := by omega
            clear hle
            go_wp2_with (go_at_call 89; refine (takes_fr _ _).mono ?_; rintro e wx ⟨rfl, hfx⟩; have HFX := Lib.hid ((HFW.out.alloc _).trans hfx (by simp)); have zb := zW_blk ((HF.out.alloc _).trans hfx (by simp)); clear hfx; obtain ⟨w7, hw7⟩ : ∃ w7, ((((wx.setCell ⟨W.heap.size, 0, none⟩ (.int .i64 0)).setCell ⟨W.heap.size, 1, none⟩ (.int .i64 0)).setCell ⟨W.heap.size, 2, none⟩ (.slice none 0 0)).setCell ⟨W.heap.size, 3, none⟩ (.slice none 0 0)).setCell ⟨W.heap.size, 4, none⟩ (.slice none 0 0) = w7 := ⟨_, rfl⟩; obtain ⟨⟨m0, n0⟩, ⟨m1, n1⟩, ⟨m2, n2⟩, ⟨m3, n3⟩, ⟨m4, n4⟩, hb7, f7⟩ := fiveStore zb (.int .i64 0) (.int .i64 0) (.slice none 0 0) (.slice none 0 0) (.slice none 0 0) hw7; have HB7 := Lib.hid hb7; have HF7 := Lib.hid (HFX.out.trans f7 (by simp)); clear hb7 f7 zb)
            have e0 := blk_cell HB7.out 0 rfl
            have e1 := blk_cell HB7.out 1 rfl
            have e2 := blk_cell HB7.out 2 rfl
            have e3 := blk_cell HB7.out 3 rfl
            have e4 := blk_cell HB7.out 4 rfl
            refine bodyPost_ret (v := .tuple #[zNd, .iface 27 (.int .i64 1)]) (by simp [results, Tryd.results75, go_sem, zNd, e0, e1, e2, e3, e4]) rfl (rd_post_bad HZ.out (by decide) HF7.out)
        · obtain rfl : i = k := by omega
          clear hi hlt hdk
          have zb := zW_blk HF.out
          by_cases hd : dps M i = 1
          · have HZ := Lib.hid (rdF_ok HN.out HFST.out HFED.out hd)
            rw [hd] at HO HNR
            obtain ⟨g, cap, he, hge, hrow⟩ := HO.out.row (by decide)
            simp only [Value.slice.injEq, true_and] at he
            obtain ⟨rfl, rfl⟩ := he
            have x0 : wr.cell? ⟨g, 0, none⟩ = some (.int .i64 (ms 0).op) := hrow.cell 0 0 (by decide) (by decide)
            have x1 : wr.cell? ⟨g, 1, none⟩ = some (.int .i64 (ms 0).k) := hrow.cell 0 1 (by decide) (by decide)
            have x2 : wr.cell? ⟨g, 2, none⟩ = some (.slice (ms 0).na (ms 0).nl (ms 0).nc) := hrow.cell 0 2 (by decide) (by decide)
            have x3 : wr.cell? ⟨g, 3, none⟩ = some (.slice (ms 0).aa (ms 0).al (ms 0).ac) := hrow.cell 0 3 (by decide) (by decide)
            have x4 : wr.cell? ⟨g, 4, none⟩ = some (vs 0) := hrow.cell 0 4 (by decide) (by decide)
            have HNR0 := Lib.hid (HNR.out 0 (by decide))
            have h7 := (HNR.out 0 (by decide) ⟨none, 0, 0, fun _ => .empty, 0, 0, 0, false, none, 0, 0, fun _ => 0⟩).isSlice
            clear HNR hrow HO
            generalize ms 0 = m at *
            obtain ⟨av, nv, cv, hv⟩ := h7
            rw [hv] at x4 HNR0
            clear hv
            obtain ⟨w7, hw7⟩ : ∃ w7, ((((wr.setCell ⟨W.heap.size, 0, none⟩ (.int .i64 m.op)).setCell ⟨W.heap.size, 1, none⟩ (.int .i64 m.k)).setCell ⟨W.heap.size, 2, none⟩ (.slice m.na m.nl m.nc)).setCell ⟨W.heap.size, 3, none⟩ (.slice m.aa m.al m.ac)).setCell ⟨W.heap.size, 4, none⟩ (.slice av nv cv) = w7 := ⟨_, rfl⟩
            obtain ⟨⟨m0, n0⟩, ⟨m1, n1⟩, ⟨m2, n2⟩, ⟨m3, n3⟩, ⟨m4, n4⟩, hb7, f7⟩ := fiveStore zb (.int .i64 m.op) (.int .i64 m.k) (.slice m.na m.nl m.nc) (.slice m.aa m.al m.ac) (.slice av nv cv) hw7
            have HB7 := Lib.hid hb7
            have HF7 := Lib.hid (HFW.out.trans f7 (by simp))
            have F7 := Lib.hid f7
            clear hb7 f7 zb
            go_wp2
            have e0 := blk_cell HB7.out 0 rfl
            have e1 := blk_cell HB7.out 1 rfl
            have e2 := blk_cell HB7.out 2 rfl
            have e3 := blk_cell HB7.out 3 rfl
            have e4 := blk_cell HB7.out 4 rfl
            refine bodyPost_ret (v := .tuple #[.agg #[.int .i64 m.op, .int .i64 m.k, .slice m.na m.nl m.nc, .slice m.aa m.al m.ac, .slice av nv cv], .nilIface]) (by simp [results, Tryd.results75, go_sem, e0, e1, e2, e3, e4]) rfl ⟨.inr ⟨HZ.out, m, .slice av nv cv, rfl, fun q => ?_⟩, HF7.out⟩
            refine ((HNR0.out q).kept F7.out ?_).mono (fun g hg => by omega)
            rintro g9 ⟨hg9, _⟩ hm
            simp at hm
            omega
          · have HZ := Lib.hid (rdF_dps HN.out HFST.out hd)
            have hdI : ((dps M i : Int) != 1) = true := by simp; omega
            obtain ⟨w7, hw7⟩ : ∃ w7, ((((wr.setCell ⟨W.heap.size, 0, none⟩ (.int .i64 0)).setCell ⟨W.heap.size, 1, none⟩ (.int .i64 0)).setCell ⟨W.heap.size, 2, none⟩ (.slice none 0 0)).setCell ⟨W.heap.size, 3, none⟩ (.slice none 0 0)).setCell ⟨W.heap.size, 4, none⟩ (.slice none 0 0) = w7 := ⟨_, rfl⟩
            obtain ⟨⟨m0, n0⟩, ⟨m1, n1⟩, ⟨m2, n2⟩, ⟨m3, n3⟩, ⟨m4, n4⟩, hb7, f7⟩ := fiveStore zb (.int .i64 0) (.int .i64 0) (.slice none 0 0) (.slice none 0 0) (.slice none 0 0) hw7
            have HB7 := Lib.hid hb7
            have HF7 := Lib.hid (HFW.out.trans f7 (by simp))
            clear hb7 f7 zb
            go_wp2
            have e0 := blk_cell HB7.out 0 rfl
            have e1 := blk_cell HB7.out 1 rfl
            have e2 := blk_cell HB7.out 2 rfl
            have e3 := blk_cell HB7.out 3 rfl
            have e4 := blk_cell HB7.out 4 rfl
            refine bodyPost_ret (v := .tuple #[zNd, .iface 27 (.int .i64 1)]) (by simp [results, Tryd.results75, go_sem, zNd, e0, e1, e2, e3, e4]) rfl (rd_post_bad HZ.out (by decide) HF7.out)

end Go.Proofs.YtgpfkaiinbncnaaDoor
