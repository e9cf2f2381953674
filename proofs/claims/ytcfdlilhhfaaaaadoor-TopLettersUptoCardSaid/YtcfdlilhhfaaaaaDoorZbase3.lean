/- What the texts below need: Told, Find0. -/
import Derived.Test.YtcfdlilhhfaaaaaDoorZAgedW
import Derived.Test.YtcfdlilhhfaaaaaDoorZbase2
import Derived.Test.YtcfdlilhhfaaaaaDoorZbase1
namespace Go.Proofs.YtcfdlilhhfaaaaaDoor
open Go.RowKit

theorem infoQue : (Tryd.prog.info? 62).map (fun i => (i.zero, i.size, i.bytes)) = some (some (.agg #[.slice none 0 0, .int .i64 0, .int .i64 0]), 3, 40) := by kernel_rfl

theorem rowc_new {w : World} {E : TypeId} {s : Nat} {F : Nat → Nat → Value} : OwnC (w.alloc (.cells #[] E)) w.heap.size E (.slice (some ⟨w.heap.size, 0, none⟩) 0 0) s 0 F :=
  .inr ⟨w.heap.size, 0, rfl, Nat.le_refl _, #[], heap_alloc_new w _, by simp, Nat.le_refl _, by decide, fun j hj => by omega⟩

set_option maxHeartbeats 400000 in
theorem clone_ques (w : World) (v : Value) (n : Nat) (F : Nat → Nat → Value) (hv : RdC w v 3 n F) (hone : ∀ i c, i < n → c < 3 → (F i c).oneCell' = true) (hn : n * 40 ≤ 140737488355328) :
    Calls Tryd.prog 69 #[v] w fun e w' => ∃ v', e = .returned v' ∧ OwnC w' w.heap.size 62 v' 3 n F ∧ Fr [] w w' := by
  have hq := fun (wx : World) (a : Option Addr) (n c : Nat) => Lib.run_eql_slice_nil (P := Tryd.prog) wx 40 62 a n c 0 0 Tryd.underlying40
  rcases hv with ⟨rfl, rfl⟩ | ⟨a, cap, rfl, hnc, hcm, hc⟩
  · go_enter Tryd.func69, Tryd.ntmps69
    go_wp2
    go_ret
    exact ⟨_, rfl, .inl ⟨rfl, rfl⟩, Fr.refl _ _⟩
  · have hr : RdC (w.alloc (.cells #[] 62)) (.slice (some a) n cap) 3 n F := .inr ⟨a, cap, rfl, hnc, hcm, fun j hj => ((Fr.refl [] w).alloc _).cell (hc j hj) (by simp)⟩
    have HR := Lib.hid hr; clear hr hc
    have HO := Lib.hid (show ∀ j, j < n * 3 → (fls 3 F j).oneCell' = true from fun j hj => hone _ _ (div_lt' hj) (Nat.mod_lt _ (by decide))); clear hone
    have H0 := Lib.hid (rowc_new (w := w) (E := 62) (s := 3) (F := F))
    go_enter Tryd.func69, Tryd.ntmps69
    go_wp2_with (at_builtin; refine wpList_appC rfl (.tmp 5) (.tmp 6) 40 rfl 62 infoQue Tryd.underlying40 rfl (by decide) HO.out H0.out rfl HR.out rfl (by unfold maxLen; omega) (by omega) (by simp) ?_; intro v' w1 hown' hfr _)
    go_ret
    rw [Nat.zero_add] at hown'
    exact ⟨_, rfl, hown'.congr (by decide) (fun j c hj _ => by simp [appC]), ((Fr.refl [] w).alloc _).trans hfr (by intro x hx; simp [Value.ownBlock] at hx; omega)⟩

theorem RowC.stored {w : World} {g : Nat} {E : TypeId} {s n cap : Nat} {F : Nat → Nat → Value} (h : RowC w g E s n cap F) (i c : Nat) (hi : i < n) (hc : c < s) (u : Value) :
    RowC (w.setCell ⟨g, i * s + c, none⟩ u) g E s n cap (fun i' c' => if i' = i ∧ c' = c then u else F i' c') := by
  obtain ⟨cur, h1, h2, h3, h4, h5⟩ := h
  refine ⟨cur.setIfInBounds (i * s + c) u, ?_, by simpa using h2, h3, h4, fun j hj => ?_⟩
  · simp only [World.setCell]
    rw [Array.getElem?_modify, if_pos rfl, h1]
    rfl
  · have hjc : j < cur.size := by rw [h2]; exact Nat.lt_of_lt_of_le hj (Nat.mul_le_mul_right _ h3)
    have h6 := h5 j hj
    have hs : 0 < s := by omega
    unfold fls
    by_cases hjk : j = i * s + c
    · subst hjk
      have e1 : (i * s + c) / s = i := by rw [Nat.mul_comm, Nat.mul_add_div hs, Nat.div_eq_of_lt hc, Nat.add_zero]
      have e2 : (i * s + c) % s = c := by rw [Nat.mul_comm, Nat.mul_add_mod, Nat.mod_eq_of_lt hc]
      dsimp only
      rw [if_pos ⟨e1, e2⟩]
      simp [hjc]
    · dsimp only
      rw [if_neg (fun ⟨e1, e2⟩ => hjk (by rw [← e1, ← e2, Nat.mul_comm]; exact (Nat.div_add_mod j s).symm)), Array.getElem?_setIfInBounds_ne (by omega), h6]
      rfl

/-- three cells hold a question whose names are the call's own -/
def QsOwn (w : World) (B : Nat) (F : Nat → Value) (r : Qs) : Prop :=
  ∃ vn, F 0 = vn ∧ F 1 = .int .i64 r.ty ∧ F 2 = .int .i64 r.cl ∧ OwnF w B 9 vn r.nl (fun j => .string (r.nm j))

theorem QsOwn.at_ {w : World} {B0 : Nat} {B : HB} {F : Nat → Value} {r : Qs} (h : QsOwn w B0 F r) (hS : ∀ x ∈ B.s, x < B0) : QsAt B w F r := by
  obtain ⟨vn, e0, e1, e2, h1⟩ := h
  obtain ⟨na, nc, rfl⟩ := h1.rd.slice
  refine ⟨na, nc, fun c hc => ?_, h1.rd, h1.cold (by decide) B hS⟩
  match c, hc with
  | 0, _ => exact e0
  | 1, _ => exact e1
  | 2, _ => exact e2

theorem blk_setk {w : World} {p : Nat} {cs : Array Value} {T : TypeId} (h : w.heap[p]? = some (.cells cs T (0, 0))) (k : Nat) (u : Value) : (w.setCell ⟨p, k, none⟩ u).heap[p]? = some (.cells (cs.setIfInBounds k u) T (0, 0)) := by
  simp only [World.setCell]
  rw [Array.getElem?_modify, if_pos rfl, h]
  rfl

theorem blk_set_ne {w : World} {p b : Nat} {k : Nat} {o : Obj} (h : w.heap[b]? = some o) (hb : b ≠ p) (u : Value) : (w.setCell ⟨p, k, none⟩ u).heap[b]? = some o := by
  simp only [World.setCell]
  rw [Array.getElem?_modify, if_neg (fun e => hb e.symm)]
  exact h

theorem OwnC.stored {w : World} {B : Nat} {E : TypeId} {v : Value} {s n : Nat} {F : Nat → Nat → Value} (h : OwnC w B E v s n F) (i c : Nat) (hi : i < n) (hc : c < s) (u : Value) {g : Nat} (hg : v.ownBlock = some g) :
    OwnC (w.setCell ⟨g, i * s + c, none⟩ u) B E v s n (fun i' c' => if i' = i ∧ c' = c then u else F i' c') := by
  rcases h with ⟨rfl, rfl⟩ | ⟨g1, cap, rfl, hb, hr⟩
  · omega
  · simp only [Value.ownBlock, Option.some.injEq] at hg
    subst hg
    exact .inr ⟨g1, cap, rfl, hb, hr.stored i c hi hc u⟩

theorem QsOwn.kept {w w' : World} {B : Nat} {F : Nat → Value} {r : Qs} {S : List Nat} (h : QsOwn w B F r) (hf : Fr S w w') (hS : ∀ b, b ∈ S → ∃ cs T, w.heap[b]? = some (.cells cs T (0, 0)) ∧ 9 ≠ T) : QsOwn w' B F r := by
  obtain ⟨vn, e0, e1, e2, h1⟩ := h
  refine ⟨vn, e0, e1, e2, h1.kept hf (fun g hg hm => ?_)⟩
  obtain ⟨cs, T, hb, hT⟩ := hS g hm
  exact h1.ne_blk hb hT g hg (by simp)

/-- how the loop stands -/
structure TolLp (w wr : World) (cs1 cs2 : Array Value) (v5 : Value) (pq : Nat) (QQ : Nat → Qs) (FQ : Nat → Nat → Value) (k : Nat) (G : Nat → Nat → Value) : Prop where
  b1 : wr.heap[w.heap.size + 1]? = some (.cells cs1 43 (0, 0))
  b2 : wr.heap[w.heap.size + 1 + 1]? = some (.cells cs2 43 (0, 0))
  ho : OwnC wr w.heap.size 62 v5 3 pq G
  hown : ∀ i, i < k → QsOwn wr w.heap.size (G i) (QQ i)
  hold : ∀ i, k ≤ i → i < pq → G i = FQ i
  hf : Fr [] w wr

/-- records of the call's own -/
structure SecOwn (w : World) (B : Nat) (v : Value) (n : Nat) (R : Nat → Rs) (G : Nat → Nat → Value) : Prop where
  ho : OwnC w B 68 v 5 n G
  hown : ∀ i, i < n → RsOwn w B (G i) (R i)

theorem SecOwn.fr0 {w w' : World} {B : Nat} {v : Value} {n : Nat} {R : Nat → Rs} {G : Nat → Nat → Value} (h : SecOwn w B v n R G) (hf : Fr [] w w') : SecOwn w' B v n R G :=
  ⟨h.ho.kept hf (fun _ _ => by simp), fun i hi => (h.hown i hi).fr0 hf⟩

theorem OwnF.ge' {w : World} {B B' : Nat} {E : TypeId} {v : Value} {n : Nat} {f : Nat → Value} (h : OwnF w B E v n f) (hb : B' ≤ B) : OwnF w B' E v n f := h.mono hb

theorem RsOwn.mono {w : World} {B B' : Nat} {F : Nat → Value} {r : Rs} (h : RsOwn w B F r) (hb : B' ≤ B) : RsOwn w B' F r := by
  obtain ⟨vn, vd, e0, e1, e2, e3, e4, h1, h2⟩ := h
  exact ⟨vn, vd, e0, e1, e2, e3, e4, h1.mono hb, h2.mono hb⟩

theorem SecOwn.mono {w : World} {B B' : Nat} {v : Value} {n : Nat} {R : Nat → Rs} {G : Nat → Nat → Value} (h : SecOwn w B v n R G) (hb : B' ≤ B) : SecOwn w B' v n R G :=
  ⟨h.ho.mono hb, fun i hi => (h.hown i hi).mono hb⟩

theorem OwnC.ne_blk {w : World} {B b : Nat} {E T : TypeId} {v : Value} {s n : Nat} {F : Nat → Nat → Value} {cs : Array Value} (h : OwnC w B E v s n F) (hb : w.heap[b]? = some (.cells cs T (0, 0))) (hE : E ≠ T) : ∀ g, v.ownBlock = some g → g ∉ [b] := fun g hg hm => by
  simp only [List.mem_singleton] at hm
  subst hm
  exact h.apart hb hE (by simp [hg])

/-- kept where one block of another type is written -/
theorem SecOwn.keptM {w w' : World} {B b : Nat} {v : Value} {n : Nat} {R : Nat → Rs} {G : Nat → Nat → Value} {cs : Array Value} (h : SecOwn w B v n R G) (hf : Fr [b] w w') (hb : w.heap[b]? = some (.cells cs 43 (0, 0))) : SecOwn w' B v n R G := by
  refine ⟨h.ho.kept hf (h.ho.ne_blk hb (by decide)), fun i hi => ?_⟩
  obtain ⟨vn, vd, e0, e1, e2, e3, e4, h1, h2⟩ := h.hown i hi
  exact ⟨vn, vd, e0, e1, e2, e3, e4, h1.kept hf (h1.ne_blk hb (by decide)), h2.kept hf (h2.ne_blk hb (by decide))⟩

theorem SecOwn.sec {w : World} {B0 : Nat} {B : HB} {v : Value} {n : Nat} {R : Nat → Rs} {G : Nat → Nat → Value} (h : SecOwn w B0 v n R G) (hwf : ∀ i, i < n → (R i).Wf) (hn : n * 72 ≤ 140737488355328) (hS : ∀ x ∈ B.s, x < B0) : Sec B w v n R G :=
  ⟨h.ho.rd, h.ho.cold (by decide) B hS, fun i hi => (h.hown i hi).at_ hS, hwf, hn⟩

/-- questions of the call's own -/
structure QSecOwn (w : World) (B : Nat) (v : Value) (n : Nat) (R : Nat → Qs) (G : Nat → Nat → Value) : Prop where
  ho : OwnC w B 62 v 3 n G
  hown : ∀ i, i < n → QsOwn w B (G i) (R i)

theorem QSecOwn.fr0 {w w' : World} {B : Nat} {v : Value} {n : Nat} {R : Nat → Qs} {G : Nat → Nat → Value} (h : QSecOwn w B v n R G) (hf : Fr [] w w') : QSecOwn w' B v n R G :=
  ⟨h.ho.kept hf (fun _ _ => by simp), fun i hi => (h.hown i hi).kept hf (by simp)⟩

theorem QSecOwn.keptM {w w' : World} {B b : Nat} {v : Value} {n : Nat} {R : Nat → Qs} {G : Nat → Nat → Value} {cs : Array Value} (h : QSecOwn w B v n R G) (hf : Fr [b] w w') (hb : w.heap[b]? = some (.cells cs 43 (0, 0))) : QSecOwn w' B v n R G :=
  ⟨h.ho.kept hf (h.ho.ne_blk hb (by decide)), fun i hi => (h.hown i hi).kept hf (fun b' hb' => by
    simp only [List.mem_singleton] at hb'
    subst hb'
    exact ⟨_, _, hb, by decide⟩)⟩

theorem QSecOwn.sec {w : World} {B0 : Nat} {B : HB} {v : Value} {n : Nat} {R : Nat → Qs} {G : Nat → Nat → Value} (h : QSecOwn w B0 v n R G) (hwf : ∀ i, i < n → (R i).Wf) (hn : n * 40 ≤ 140737488355328) (hS : ∀ x ∈ B.s, x < B0) : QSec B w v n R G :=
  ⟨h.ho.rd, h.ho.cold (by decide) B hS, fun i hi => (h.hown i hi).at_ hS, hwf, hn⟩

/-- what is told of m for q, so much later -/
def tolM (q m : Ms) (age : Int) : Ms :=
  { h := { m.h with id := q.h.id, rd := q.h.rd }, qn := q.qn, Q := q.Q, an := m.an, A := fun i => agR age false (m.A i), un := m.un, U := fun i => agR age false (m.U i), mn := m.mn, M := fun i => agR age true (m.M i) }

theorem agR_wf {r : Rs} (h : r.Wf) (age : Int) (more : Bool) : (agR age more r).Wf := by
  unfold agR
  split
  · exact h
  · exact ⟨h.ty0, h.cl0, by show -9223372036854775808 ≤ wrap64 _ ∧ wrap64 _ ≤ _; unfold wrap64; omega, h.dt0, h.nms, h.nlb, h.dlb⟩

theorem setCells_blk {p : Nat} {T : TypeId} : ∀ (vs : List Value) (o : Nat) (w : World) (cs : Array Value), w.heap[p]? = some (.cells cs T (0, 0)) → o + vs.length ≤ cs.size →
    ∃ cs', (w.setCells p o vs).heap[p]? = some (.cells cs' T (0, 0)) ∧ cs'.size = cs.size ∧ (∀ j, j < o → cs'[j]? = cs[j]?) ∧ (∀ j, j < vs.length → cs'[o + j]? = vs[j]?)
  | [], o, w, cs, h, _ => ⟨cs, h, rfl, fun _ _ => rfl, fun j hj => by simp at hj⟩
  | v :: r, o, w, cs, h, hl => by
    simp only [List.length_cons] at hl
    obtain ⟨cs', h1, h2, h3, h4⟩ := setCells_blk r (o + 1) (w.setCell ⟨p, o, none⟩ v) (cs.setIfInBounds o v) (blk_setk h o v) (by simp; omega)
    refine ⟨cs', h1, by rw [h2]; simp, fun j hj => ?_, fun j hj => ?_⟩
    · rw [h3 j (by omega), Array.getElem?_setIfInBounds_ne (by omega)]
    · rcases j with _ | j
      · rw [Nat.add_zero, h3 o (by omega)]
        simp [show o < cs.size by omega]
      · simp only [List.length_cons] at hj
        rw [show o + (j + 1) = o + 1 + j by omega, h4 j (by omega)]
        simp

theorem setCells_all {p : Nat} {T : TypeId} {w : World} {cs : Array Value} (vs : List Value) (h : w.heap[p]? = some (.cells cs T (0, 0))) (hl : vs.length = cs.size) : (w.setCells p 0 vs).heap[p]? = some (.cells vs.toArray T (0, 0)) := by
  obtain ⟨cs', h1, h2, _, h4⟩ := setCells_blk vs 0 w cs h (by omega)
  rw [h1]
  have e : cs' = vs.toArray := by
    apply Array.ext_getElem?
    intro j
    by_cases hj : j < vs.length
    · have := h4 j hj
      rw [Nat.zero_add] at this
      rw [this]
      simp
    · rw [Array.getElem?_eq_none (by omega), Array.getElem?_eq_none (by simp; omega)]
  rw [e]

theorem setCells_fr {p : Nat} : ∀ (vs : List Value) (o : Nat) (w : World), Fr [p] w (w.setCells p o vs)
  | [], _, w => Fr.refl _ w
  | v :: r, o, w => ((Fr.refl [p] w).setCell (p := ⟨p, o, none⟩) (.inl (by simp)) v).trans (setCells_fr r (o + 1) _) (fun x hx => .inl hx)

/-- fifteen cells -/
def msgCs (h : Hd) (q a u m : Value) : Array Value := #[.int .i64 h.id, .bool h.an, .int .i64 h.op, .bool h.aa, .bool h.tc, .bool h.rd, .bool h.ra, .bool h.z, .bool h.ad, .bool h.cd, .int .i64 h.code, q, a, u, m]

/-- behind the records -/
def TolPost (w wx : World) (h : Hd) (vq : Value) (k na nu nm : Nat) (QQ : Nat → Qs) (A U M : Nat → Rs) (age : Int) (G : Nat → Nat → Value) : Prop :=
  ∃ (a7 a8 a9 : Option Addr) (c7 c8 c9 : Nat) (GA GU GM : Nat → Nat → Value), wx.heap[w.heap.size + 1]? = some (.cells (msgCs h vq (.slice a7 na c7) (.slice a8 nu c8) (.slice a9 nm c9)) 43 (0, 0)) ∧
    wx.heap[w.heap.size + 1 + 1]? = some (.cells #[.int .i64 0, .bool false, .int .i64 0, .bool false, .bool false, .bool false, .bool false, .bool false, .bool false, .bool false, .int .i64 0, .slice none 0 0, .slice none 0 0, .slice none 0 0, .slice none 0 0] 43 (0, 0)) ∧
    SecOwn wx w.heap.size (.slice a7 na c7) na (fun i => agR age false (A i)) GA ∧ SecOwn wx w.heap.size (.slice a8 nu c8) nu (fun i => agR age false (U i)) GU ∧ SecOwn wx w.heap.size (.slice a9 nm c9) nm (fun i => agR age true (M i)) GM ∧ QSecOwn wx w.heap.size vq k QQ G ∧ Fr [] w wx

end Go.Proofs.YtcfdlilhhfaaaaaDoor

namespace Go.Proofs.YtcfdlilhhfaaaaaDoor
open Go.RowKit

theorem six_cells {w : World} {p : Nat} {T : TypeId} {x0 x1 x2 x3 x4 x5 : Value} (hb : w.heap[p]? = some (.cells #[x0, x1, x2, x3, x4, x5] T (0, 0))) :
    w.cell? ⟨p, 0, none⟩ = some x0 ∧ w.cell? ⟨p, 1, none⟩ = some x1 ∧ w.cell? ⟨p, 2, none⟩ = some x2 ∧ w.cell? ⟨p, 3, none⟩ = some x3 ∧ w.cell? ⟨p, 4, none⟩ = some x4 ∧ w.cell? ⟨p, 5, none⟩ = some x5 :=
  ⟨blk_cell hb 0 rfl, blk_cell hb 1 rfl, blk_cell hb 2 rfl, blk_cell hb 3 rfl, blk_cell hb 4 rfl, blk_cell hb 5 rfl⟩

theorem two_new' (w : World) (x y : Obj) : ((w.alloc x).alloc y).heap[w.heap.size]? = some x ∧ ((w.alloc x).alloc y).heap[w.heap.size + 1]? = some y := by
  have s1 : (w.alloc x).heap.size = w.heap.size + 1 := by simp
  refine ⟨((Fr.refl [] _).alloc y).blk (heap_alloc_new w x) (by simp), ?_⟩
  rw [← s1]
  exact heap_alloc_new _ y

set_option maxHeartbeats 4000000 in
set_option maxRecDepth 100000 in
theorem find_none (w : World) (B : HB) (m : Ms) (vq va vu vm : Value) (hm : MsOk B w m vq va vu vm) (hi : optIx m.M m.mn = m.mn) : FindSays m vq va vu vm false 0 w := fun wx hx => by
  obtain ⟨_, hm1⟩ := hm.hq
  obtain ⟨_, hm2⟩ := hm.ha
  obtain ⟨_, hm3⟩ := hm.hu
  obtain ⟨FM, hM⟩ := hm.hm
  obtain ⟨mb, mc, rfl⟩ := hm1.rd.slice
  obtain ⟨ab, ac, rfl⟩ := hm2.rd.slice
  obtain ⟨ub, uc, rfl⟩ := hm3.rd.slice
  obtain ⟨nb, nc, rfl⟩ := hM.rd.slice
  have HI := Lib.hid (show optI m.M m.mn = -1 by unfold optI; rw [hi, if_neg (by omega)])
  have HC := Lib.hid (fun (wz : World) (h : Fr [] w wz) => idxRec_any wz B nb m.mn nc m.M FM (hM.frH (h.hot0 B)))
  rw [HI.out] at HC
  have HX := Lib.hid hx
  clear hm hm1 hm2 hm3 hM hi HI hx
  generalize m.h = h at *
  generalize m.qn = nq at *
  generalize m.an = na at *
  generalize m.un = nu at *
  generalize m.mn = nm at *
  obtain ⟨h0, h1, h2, h3, h4, h5, h6, h7, h8, h9, h10⟩ := h
  simp only [msgV]
  go_enter Tryd.func28, Tryd.ntmps28
  go_wp2_with fail
  obtain ⟨hb0, hb1⟩ := two_new' wx (.cells #[.int .i64 h0, .bool h1, .int .i64 h2, .bool h3, .bool h4, .bool h5, .bool h6, .bool h7, .bool h8, .bool h9, .int .i64 h10, .slice mb nq mc, .slice ab na ac, .slice ub nu uc, .slice nb nm nc] 43) (.cells #[.int .i64 0, .int .i64 0, .int .i64 0, .bool false, .int .i64 0, .slice none 0 0] 76)
  have HB1 := Lib.hid hb1
  have HF2 := Lib.hid (show Fr [] wx ((wx.alloc (.cells #[.int .i64 h0, .bool h1, .int .i64 h2, .bool h3, .bool h4, .bool h5, .bool h6, .bool h7, .bool h8, .bool h9, .int .i64 h10, .slice mb nq mc, .slice ab na ac, .slice ub nu uc, .slice nb nm nc] 43)).alloc (.cells #[.int .i64 0, .int .i64 0, .int .i64 0, .bool false, .int .i64 0, .slice none 0 0] 76)) from ((Fr.refl [] _).alloc _).alloc _)
  clear hb0 hb1
  generalize (wx.alloc (.cells #[.int .i64 h0, .bool h1, .int .i64 h2, .bool h3, .bool h4, .bool h5, .bool h6, .bool h7, .bool h8, .bool h9, .int .i64 h10, .slice mb nq mc, .slice ab na ac, .slice ub nu uc, .slice nb nm nc] 43)).alloc (.cells #[.int .i64 0, .int .i64 0, .int .i64 0, .bool false, .int .i64 0, .slice none 0 0] 76) = W2 at *
  refine (HC.out W2 (HX.out.trans HF2.out (by simp))).mono ?_
  rintro e w3 ⟨rfl, hf3⟩
  have HB3 := Lib.hid (hf3.blk HB1.out (by simp))
  have HF3 := Lib.hid (HF2.out.trans hf3 (by simp))
  obtain ⟨x0, x1, x2, x3, x4, x5⟩ := six_cells HB3.out
  have hz : ∀ j, w3.frozen? ⟨wx.heap.size + 1, j, none⟩ = false := fun j => blk_frozen HB3.out j
  clear hf3
  go_wp2_with fail
  have HBF := Lib.hid (setCells_all (w := w3) (p := wx.heap.size + 1) [.int .i64 0, .int .i64 0, .int .i64 0, .bool false, .int .i64 0, .slice none 0 0] HB3.out rfl)
  have HFF := Lib.hid (setCells_fr (p := wx.heap.size + 1) [.int .i64 0, .int .i64 0, .int .i64 0, .bool false, .int .i64 0, .slice none 0 0] 0 w3)
  change bodyPost _ _ _ _ _ (w3.setCells (wx.heap.size + 1) 0 [.int .i64 0, .int .i64 0, .int .i64 0, .bool false, .int .i64 0, .slice none 0 0])
  generalize w3.setCells (wx.heap.size + 1) 0 [.int .i64 0, .int .i64 0, .int .i64 0, .bool false, .int .i64 0, .slice none 0 0] = wF at *
  obtain ⟨r0, r1, r2, r3, r4, r5⟩ := six_cells HBF.out
  refine bodyPost_ret (v := .tuple #[.agg #[.int .i64 0, .int .i64 0, .int .i64 0, .bool false, .int .i64 0, .slice none 0 0], .bool false, .nilIface]) (by simp [results, Tryd.results28, go_sem, r0, r1, r2, r3, r4, r5]) rfl ?_
  exact ⟨⟨0, 0, 0, 0, false, none, 0, 0, rfl⟩, HF3.out.trans HFF.out (fun x hx => by simp only [List.mem_singleton] at hx; exact .inr (by omega))⟩

end Go.Proofs.YtcfdlilhhfaaaaaDoor
