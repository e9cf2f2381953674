/- What the texts below need: Told, Ca, EnLib, EnDel, Find0, SameLaw. -/
import Derived.Deep.RegionLaw
import Derived.Lib.SliceRun
import Derived.Laws.IdiomCopy
import Derived.Shelf.RegionOpenPlain
import Derived.Test.YtcfdlilhhfaaaaaZAgedW
import Derived.Test.YtcfdlilhhfaaaaaZbase1
namespace Go.Proofs.Ytcfdlilhhfaaaaa
open Go.RowKit

theorem infoQue : (Try.prog.info? 48).map (fun i => (i.zero, i.size, i.bytes)) = some (some (.agg #[.slice none 0 0, .int .i64 0, .int .i64 0]), 3, 40) := by kernel_rfl

theorem rowc_new {w : World} {E : TypeId} {s : Nat} {F : Nat → Nat → Value} : OwnC (w.alloc (.cells #[] E)) w.heap.size E (.slice (some ⟨w.heap.size, 0, none⟩) 0 0) s 0 F :=
  .inr ⟨w.heap.size, 0, rfl, Nat.le_refl _, #[], heap_alloc_new w _, by simp, Nat.le_refl _, by decide, fun j hj => by omega⟩

set_option maxHeartbeats 400000 in
theorem clone_ques (w : World) (v : Value) (n : Nat) (F : Nat → Nat → Value) (hv : RdC w v 3 n F) (hone : ∀ i c, i < n → c < 3 → (F i c).oneCell' = true) (hn : n * 40 ≤ 140737488355328) :
    Calls Try.prog 54 #[v] w fun e w' => ∃ v', e = .returned v' ∧ OwnC w' w.heap.size 48 v' 3 n F ∧ Fr [] w w' := by
  have hq := fun (wx : World) (a : Option Addr) (n c : Nat) => Lib.run_eql_slice_nil (P := Try.prog) wx 24 48 a n c 0 0 Try.underlying24
  rcases hv with ⟨rfl, rfl⟩ | ⟨a, cap, rfl, hnc, hcm, hc⟩
  · go_enter Try.func54, Try.ntmps54
    go_wp2
    go_ret
    exact ⟨_, rfl, .inl ⟨rfl, rfl⟩, Fr.refl _ _⟩
  · have hr : RdC (w.alloc (.cells #[] 48)) (.slice (some a) n cap) 3 n F := .inr ⟨a, cap, rfl, hnc, hcm, fun j hj => ((Fr.refl [] w).alloc _).cell (hc j hj) (by simp)⟩
    have HR := Lib.hid hr; clear hr hc
    have HO := Lib.hid (show ∀ j, j < n * 3 → (fls 3 F j).oneCell' = true from fun j hj => hone _ _ (div_lt' hj) (Nat.mod_lt _ (by decide))); clear hone
    have H0 := Lib.hid (rowc_new (w := w) (E := 48) (s := 3) (F := F))
    go_enter Try.func54, Try.ntmps54
    go_wp2_with (at_builtin; refine wpList_appC rfl (.tmp 5) (.tmp 6) 24 rfl 48 infoQue Try.underlying24 rfl (by decide) HO.out H0.out rfl HR.out rfl (by unfold maxLen; omega) (by omega) (by simp) ?_; intro v' w1 hown' hfr _)
    go_ret
    rw [Nat.zero_add] at hown'
    exact ⟨_, rfl, hown'.congr (by decide) (fun j c hj _ => by simp [appC]), ((Fr.refl [] w).alloc _).trans hfr (by intro x hx; simp [Value.ownBlock] at hx; omega)⟩

theorem RowC.stored {w : World} {g : Nat} {E : TypeId} {s n cap : Nat} {F : Nat → Nat → Value} (h : RowC w g E s n cap F) (i c : Nat) (hi : i < n) (hc : c < s) (u : Value) :
    RowC (w.setCell ⟨g, i * s + c, none⟩ u) g E s n cap (fun i' c' => if i' = i ∧ c' = c then u else F i' c') := by
  obtain ⟨cur, h1, h2, h3, h4, h5⟩ := h
  refine ⟨cur.setIfInBounds (i * s + c) u, ?_, by simpa using h2, h3, h4, fun j hj => ?_⟩
  · simp only [World.setCell]
    rw [Array.getElem?_modify, if_pos rfl, h1]
    rfl
  · have hjc : j < cur.size := by rw [h2]; exact Nat.lt_of_lt_of_le hj (Nat.mul_le_mul_right _ h3)
    have h6 := h5 j hj
    have hs : 0 < s := by omega
    unfold fls
    by_cases hjk : j = i * s + c
    · subst hjk
      have e1 : (i * s + c) / s = i := by rw [Nat.mul_comm, Nat.mul_add_div hs, Nat.div_eq_of_lt hc, Nat.add_zero]
      have e2 : (i * s + c) % s = c := by rw [Nat.mul_comm, Nat.mul_add_mod, Nat.mod_eq_of_lt hc]
      dsimp only
      rw [if_pos ⟨e1, e2⟩]
      simp [hjc]
    · dsimp only
      rw [if_neg (fun ⟨e1, e2⟩ => hjk (by rw [← e1, ← e2, Nat.mul_comm]; exact (Nat.div_add_mod j s).symm)), Array.getElem?_setIfInBounds_ne (by omega), h6]
      rfl

/-- three cells hold a question whose names are the call's own -/
def QsOwn (w : World) (B : Nat) (F : Nat → Value) (r : Qs) : Prop :=
  ∃ vn, F 0 = vn ∧ F 1 = .int .i64 r.ty ∧ F 2 = .int .i64 r.cl ∧ OwnF w B 9 vn r.nl (fun j => .string (r.nm j))

theorem QsOwn.at_ {w : World} {B0 : Nat} {B : HB} {F : Nat → Value} {r : Qs} (h : QsOwn w B0 F r) (hS : ∀ x ∈ B.s, x < B0) : QsAt B w F r := by
  obtain ⟨vn, e0, e1, e2, h1⟩ := h
  obtain ⟨na, nc, rfl⟩ := h1.rd.slice
  refine ⟨na, nc, fun c hc => ?_, h1.rd, h1.cold (by decide) B hS⟩
  match c, hc with
  | 0, _ => exact e0
  | 1, _ => exact e1
  | 2, _ => exact e2

theorem blk_setk {w : World} {p : Nat} {cs : Array Value} {T : TypeId} (h : w.heap[p]? = some (.cells cs T (0, 0))) (k : Nat) (u : Value) : (w.setCell ⟨p, k, none⟩ u).heap[p]? = some (.cells (cs.setIfInBounds k u) T (0, 0)) := by
  simp only [World.setCell]
  rw [Array.getElem?_modify, if_pos rfl, h]
  rfl

theorem blk_set_ne {w : World} {p b : Nat} {k : Nat} {o : Obj} (h : w.heap[b]? = some o) (hb : b ≠ p) (u : Value) : (w.setCell ⟨p, k, none⟩ u).heap[b]? = some o := by
  simp only [World.setCell]
  rw [Array.getElem?_modify, if_neg (fun e => hb e.symm)]
  exact h

theorem OwnC.stored {w : World} {B : Nat} {E : TypeId} {v : Value} {s n : Nat} {F : Nat → Nat → Value} (h : OwnC w B E v s n F) (i c : Nat) (hi : i < n) (hc : c < s) (u : Value) {g : Nat} (hg : v.ownBlock = some g) :
    OwnC (w.setCell ⟨g, i * s + c, none⟩ u) B E v s n (fun i' c' => if i' = i ∧ c' = c then u else F i' c') := by
  rcases h with ⟨rfl, rfl⟩ | ⟨g1, cap, rfl, hb, hr⟩
  · omega
  · simp only [Value.ownBlock, Option.some.injEq] at hg
    subst hg
    exact .inr ⟨g1, cap, rfl, hb, hr.stored i c hi hc u⟩

theorem QsOwn.kept {w w' : World} {B : Nat} {F : Nat → Value} {r : Qs} {S : List Nat} (h : QsOwn w B F r) (hf : Fr S w w') (hS : ∀ b, b ∈ S → ∃ cs T, w.heap[b]? = some (.cells cs T (0, 0)) ∧ 9 ≠ T) : QsOwn w' B F r := by
  obtain ⟨vn, e0, e1, e2, h1⟩ := h
  refine ⟨vn, e0, e1, e2, h1.kept hf (fun g hg hm => ?_)⟩
  obtain ⟨cs, T, hb, hT⟩ := hS g hm
  exact h1.ne_blk hb hT g hg (by simp)

/-- how the loop stands -/
structure TolLp (w wr : World) (cs1 cs2 : Array Value) (v5 : Value) (pq : Nat) (QQ : Nat → Qs) (FQ : Nat → Nat → Value) (k : Nat) (G : Nat → Nat → Value) : Prop where
  b1 : wr.heap[w.heap.size + 1]? = some (.cells cs1 27 (0, 0))
  b2 : wr.heap[w.heap.size + 1 + 1]? = some (.cells cs2 27 (0, 0))
  ho : OwnC wr w.heap.size 48 v5 3 pq G
  hown : ∀ i, i < k → QsOwn wr w.heap.size (G i) (QQ i)
  hold : ∀ i, k ≤ i → i < pq → G i = FQ i
  hf : Fr [] w wr

/-- records of the call's own -/
structure SecOwn (w : World) (B : Nat) (v : Value) (n : Nat) (R : Nat → Rs) (G : Nat → Nat → Value) : Prop where
  ho : OwnC w B 44 v 5 n G
  hown : ∀ i, i < n → RsOwn w B (G i) (R i)

theorem SecOwn.fr0 {w w' : World} {B : Nat} {v : Value} {n : Nat} {R : Nat → Rs} {G : Nat → Nat → Value} (h : SecOwn w B v n R G) (hf : Fr [] w w') : SecOwn w' B v n R G :=
  ⟨h.ho.kept hf (fun _ _ => by simp), fun i hi => (h.hown i hi).fr0 hf⟩

theorem OwnF.ge' {w : World} {B B' : Nat} {E : TypeId} {v : Value} {n : Nat} {f : Nat → Value} (h : OwnF w B E v n f) (hb : B' ≤ B) : OwnF w B' E v n f := h.mono hb

theorem RsOwn.mono {w : World} {B B' : Nat} {F : Nat → Value} {r : Rs} (h : RsOwn w B F r) (hb : B' ≤ B) : RsOwn w B' F r := by
  obtain ⟨vn, vd, e0, e1, e2, e3, e4, h1, h2⟩ := h
  exact ⟨vn, vd, e0, e1, e2, e3, e4, h1.mono hb, h2.mono hb⟩

theorem SecOwn.mono {w : World} {B B' : Nat} {v : Value} {n : Nat} {R : Nat → Rs} {G : Nat → Nat → Value} (h : SecOwn w B v n R G) (hb : B' ≤ B) : SecOwn w B' v n R G :=
  ⟨h.ho.mono hb, fun i hi => (h.hown i hi).mono hb⟩

theorem OwnC.ne_blk {w : World} {B b : Nat} {E T : TypeId} {v : Value} {s n : Nat} {F : Nat → Nat → Value} {cs : Array Value} (h : OwnC w B E v s n F) (hb : w.heap[b]? = some (.cells cs T (0, 0))) (hE : E ≠ T) : ∀ g, v.ownBlock = some g → g ∉ [b] := fun g hg hm => by
  simp only [List.mem_singleton] at hm
  subst hm
  exact h.apart hb hE (by simp [hg])

/-- kept where one block of another type is written -/
theorem SecOwn.keptM {w w' : World} {B b : Nat} {v : Value} {n : Nat} {R : Nat → Rs} {G : Nat → Nat → Value} {cs : Array Value} (h : SecOwn w B v n R G) (hf : Fr [b] w w') (hb : w.heap[b]? = some (.cells cs 27 (0, 0))) : SecOwn w' B v n R G := by
  refine ⟨h.ho.kept hf (h.ho.ne_blk hb (by decide)), fun i hi => ?_⟩
  obtain ⟨vn, vd, e0, e1, e2, e3, e4, h1, h2⟩ := h.hown i hi
  exact ⟨vn, vd, e0, e1, e2, e3, e4, h1.kept hf (h1.ne_blk hb (by decide)), h2.kept hf (h2.ne_blk hb (by decide))⟩

theorem SecOwn.sec {w : World} {B0 : Nat} {B : HB} {v : Value} {n : Nat} {R : Nat → Rs} {G : Nat → Nat → Value} (h : SecOwn w B0 v n R G) (hwf : ∀ i, i < n → (R i).Wf) (hn : n * 72 ≤ 140737488355328) (hS : ∀ x ∈ B.s, x < B0) : Sec B w v n R G :=
  ⟨h.ho.rd, h.ho.cold (by decide) B hS, fun i hi => (h.hown i hi).at_ hS, hwf, hn⟩

/-- questions of the call's own -/
structure QSecOwn (w : World) (B : Nat) (v : Value) (n : Nat) (R : Nat → Qs) (G : Nat → Nat → Value) : Prop where
  ho : OwnC w B 48 v 3 n G
  hown : ∀ i, i < n → QsOwn w B (G i) (R i)

theorem QSecOwn.fr0 {w w' : World} {B : Nat} {v : Value} {n : Nat} {R : Nat → Qs} {G : Nat → Nat → Value} (h : QSecOwn w B v n R G) (hf : Fr [] w w') : QSecOwn w' B v n R G :=
  ⟨h.ho.kept hf (fun _ _ => by simp), fun i hi => (h.hown i hi).kept hf (by simp)⟩

theorem QSecOwn.keptM {w w' : World} {B b : Nat} {v : Value} {n : Nat} {R : Nat → Qs} {G : Nat → Nat → Value} {cs : Array Value} (h : QSecOwn w B v n R G) (hf : Fr [b] w w') (hb : w.heap[b]? = some (.cells cs 27 (0, 0))) : QSecOwn w' B v n R G :=
  ⟨h.ho.kept hf (h.ho.ne_blk hb (by decide)), fun i hi => (h.hown i hi).kept hf (fun b' hb' => by
    simp only [List.mem_singleton] at hb'
    subst hb'
    exact ⟨_, _, hb, by decide⟩)⟩

theorem QSecOwn.sec {w : World} {B0 : Nat} {B : HB} {v : Value} {n : Nat} {R : Nat → Qs} {G : Nat → Nat → Value} (h : QSecOwn w B0 v n R G) (hwf : ∀ i, i < n → (R i).Wf) (hn : n * 40 ≤ 140737488355328) (hS : ∀ x ∈ B.s, x < B0) : QSec B w v n R G :=
  ⟨h.ho.rd, h.ho.cold (by decide) B hS, fun i hi => (h.hown i hi).at_ hS, hwf, hn⟩

/-- what is told of m for q, so much later -/
def tolM (q m : Ms) (age : Int) : Ms :=
  { h := { m.h with id := q.h.id, rd := q.h.rd }, qn := q.qn, Q := q.Q, an := m.an, A := fun i => agR age false (m.A i), un := m.un, U := fun i => agR age false (m.U i), mn := m.mn, M := fun i => agR age true (m.M i) }

theorem agR_wf {r : Rs} (h : r.Wf) (age : Int) (more : Bool) : (agR age more r).Wf := by
  unfold agR
  split
  · exact h
  · exact ⟨h.ty0, h.cl0, by show -9223372036854775808 ≤ wrap64 _ ∧ wrap64 _ ≤ _; unfold wrap64; omega, h.dt0, h.nms, h.nlb, h.dlb⟩

theorem setCells_blk {p : Nat} {T : TypeId} : ∀ (vs : List Value) (o : Nat) (w : World) (cs : Array Value), w.heap[p]? = some (.cells cs T (0, 0)) → o + vs.length ≤ cs.size →
    ∃ cs', (w.setCells p o vs).heap[p]? = some (.cells cs' T (0, 0)) ∧ cs'.size = cs.size ∧ (∀ j, j < o → cs'[j]? = cs[j]?) ∧ (∀ j, j < vs.length → cs'[o + j]? = vs[j]?)
  | [], o, w, cs, h, _ => ⟨cs, h, rfl, fun _ _ => rfl, fun j hj => by simp at hj⟩
  | v :: r, o, w, cs, h, hl => by
    simp only [List.length_cons] at hl
    obtain ⟨cs', h1, h2, h3, h4⟩ := setCells_blk r (o + 1) (w.setCell ⟨p, o, none⟩ v) (cs.setIfInBounds o v) (blk_setk h o v) (by simp; omega)
    refine ⟨cs', h1, by rw [h2]; simp, fun j hj => ?_, fun j hj => ?_⟩
    · rw [h3 j (by omega), Array.getElem?_setIfInBounds_ne (by omega)]
    · rcases j with _ | j
      · rw [Nat.add_zero, h3 o (by omega)]
        simp [show o < cs.size by omega]
      · simp only [List.length_cons] at hj
        rw [show o + (j + 1) = o + 1 + j by omega, h4 j (by omega)]
        simp

theorem setCells_all {p : Nat} {T : TypeId} {w : World} {cs : Array Value} (vs : List Value) (h : w.heap[p]? = some (.cells cs T (0, 0))) (hl : vs.length = cs.size) : (w.setCells p 0 vs).heap[p]? = some (.cells vs.toArray T (0, 0)) := by
  obtain ⟨cs', h1, h2, _, h4⟩ := setCells_blk vs 0 w cs h (by omega)
  rw [h1]
  have e : cs' = vs.toArray := by
    apply Array.ext_getElem?
    intro j
    by_cases hj : j < vs.length
    · have := h4 j hj
      rw [Nat.zero_add] at this
      rw [this]
      simp
    · rw [Array.getElem?_eq_none (by omega), Array.getElem?_eq_none (by simp; omega)]
  rw [e]

theorem setCells_fr {p : Nat} : ∀ (vs : List Value) (o : Nat) (w : World), Fr [p] w (w.setCells p o vs)
  | [], _, w => Fr.refl _ w
  | v :: r, o, w => ((Fr.refl [p] w).setCell (p := ⟨p, o, none⟩) (.inl (by simp)) v).trans (setCells_fr r (o + 1) _) (fun x hx => .inl hx)

/-- fifteen cells -/
def msgCs (h : Hd) (q a u m : Value) : Array Value := #[.int .i64 h.id, .bool h.an, .int .i64 h.op, .bool h.aa, .bool h.tc, .bool h.rd, .bool h.ra, .bool h.z, .bool h.ad, .bool h.cd, .int .i64 h.code, q, a, u, m]

/-- behind the records -/
def TolPost (w wx : World) (h : Hd) (vq : Value) (k na nu nm : Nat) (QQ : Nat → Qs) (A U M : Nat → Rs) (age : Int) (G : Nat → Nat → Value) : Prop :=
  ∃ (a7 a8 a9 : Option Addr) (c7 c8 c9 : Nat) (GA GU GM : Nat → Nat → Value), wx.heap[w.heap.size + 1]? = some (.cells (msgCs h vq (.slice a7 na c7) (.slice a8 nu c8) (.slice a9 nm c9)) 27 (0, 0)) ∧
    wx.heap[w.heap.size + 1 + 1]? = some (.cells #[.int .i64 0, .bool false, .int .i64 0, .bool false, .bool false, .bool false, .bool false, .bool false, .bool false, .bool false, .int .i64 0, .slice none 0 0, .slice none 0 0, .slice none 0 0, .slice none 0 0] 27 (0, 0)) ∧
    SecOwn wx w.heap.size (.slice a7 na c7) na (fun i => agR age false (A i)) GA ∧ SecOwn wx w.heap.size (.slice a8 nu c8) nu (fun i => agR age false (U i)) GU ∧ SecOwn wx w.heap.size (.slice a9 nm c9) nm (fun i => agR age true (M i)) GM ∧ QSecOwn wx w.heap.size vq k QQ G ∧ Fr [] w wx

end Go.Proofs.Ytcfdlilhhfaaaaa

namespace Go.Proofs.Ytcfdlilhhfaaaaa
open Go.RowKit

/-- an entry -/
structure En where
  key : List UInt8
  m : Ms
  at_ : Int
  life : Int

def keyB (k : List UInt8) : ByteArray := ⟨k.toArray⟩

def enF (e : En) (q a u m : Value) : Nat → Value
  | 0 => .string (keyB e.key)
  | 1 => .int .i64 e.m.h.id
  | 2 => .bool e.m.h.an
  | 3 => .int .i64 e.m.h.op
  | 4 => .bool e.m.h.aa
  | 5 => .bool e.m.h.tc
  | 6 => .bool e.m.h.rd
  | 7 => .bool e.m.h.ra
  | 8 => .bool e.m.h.z
  | 9 => .bool e.m.h.ad
  | 10 => .bool e.m.h.cd
  | 11 => .int .i64 e.m.h.code
  | 12 => q
  | 13 => a
  | 14 => u
  | 15 => m
  | 16 => .int .i64 e.at_
  | _ => .int .i64 e.life

/-- an entry as a value -/
def enV (e : En) (q a u m : Value) : Value :=
  .agg #[.string (keyB e.key), .int .i64 e.m.h.id, .bool e.m.h.an, .int .i64 e.m.h.op, .bool e.m.h.aa, .bool e.m.h.tc, .bool e.m.h.rd, .bool e.m.h.ra, .bool e.m.h.z, .bool e.m.h.ad, .bool e.m.h.cd, .int .i64 e.m.h.code, q, a, u, m, .int .i64 e.at_, .int .i64 e.life]

def enCs (e : En) (q a u m : Value) : Array Value :=
  #[.string (keyB e.key), .int .i64 e.m.h.id, .bool e.m.h.an, .int .i64 e.m.h.op, .bool e.m.h.aa, .bool e.m.h.tc, .bool e.m.h.rd, .bool e.m.h.ra, .bool e.m.h.z, .bool e.m.h.ad, .bool e.m.h.cd, .int .i64 e.m.h.code, q, a, u, m, .int .i64 e.at_, .int .i64 e.life]

/-- eighteen cells hold an entry -/
def EnAt (B : HB) (w : World) (F : Nat → Value) (e : En) : Prop :=
  ∃ (qa aa ua ma : Option Addr) (qc ac uc mc : Nat), (∀ c, c < 18 → F c = enF e (.slice qa e.m.qn qc) (.slice aa e.m.an ac) (.slice ua e.m.un uc) (.slice ma e.m.mn mc) c) ∧
    MsOk B w e.m (.slice qa e.m.qn qc) (.slice aa e.m.an ac) (.slice ua e.m.un uc) (.slice ma e.m.mn mc) ∧ (-9223372036854775808 ≤ e.at_ ∧ e.at_ ≤ 9223372036854775807) ∧ (-9223372036854775808 ≤ e.life ∧ e.life ≤ 9223372036854775807)

theorem EnAt.frH {B : HB} {w w' : World} {F : Nat → Value} {e : En} (h : EnAt B w F e) (hf : FrH B w w') : EnAt B w' F e := by
  obtain ⟨qa, aa, ua, ma, qc, ac, uc, mc, h1, h2, h3, h4⟩ := h
  exact ⟨qa, aa, ua, ma, qc, ac, uc, mc, h1, h2.frH hf, h3, h4⟩

theorem enF_one (e : En) (qa aa ua ma : Option Addr) (qn an un mn qc ac uc mc : Nat) (c : Nat) (hc : c < 18) : (enF e (.slice qa qn qc) (.slice aa an ac) (.slice ua un uc) (.slice ma mn mc) c).oneCell' = true := by
  match c, hc with
  | 0, _ => rfl
  | 1, _ => rfl
  | 2, _ => rfl
  | 3, _ => rfl
  | 4, _ => rfl
  | 5, _ => rfl
  | 6, _ => rfl
  | 7, _ => rfl
  | 8, _ => rfl
  | 9, _ => rfl
  | 10, _ => rfl
  | 11, _ => rfl
  | 12, _ => rfl
  | 13, _ => rfl
  | 14, _ => rfl
  | 15, _ => rfl
  | 16, _ => rfl
  | 17, _ => rfl
  | c + 18, h => omega

theorem EnAt.one {B : HB} {w : World} {F : Nat → Value} {e : En} (h : EnAt B w F e) (c : Nat) (hc : c < 18) : (F c).oneCell' = true := by
  obtain ⟨qa, aa, ua, ma, qc, ac, uc, mc, h1, _⟩ := h
  rw [h1 c hc]
  exact enF_one _ _ _ _ _ _ _ _ _ _ _ _ _ c hc

/-- are two keys one? -/
def kEq (a b : List UInt8) : Bool := (keyB a).toList == (keyB b).toList

theorem kEq_iff (a b : List UInt8) : kEq a b = true ↔ a = b := by
  unfold kEq keyB
  rw [beq_iff_eq, ByteArray.toList_eq, ByteArray.toList_eq]

/-- the place of a key among the entries; how many there are where it is none of theirs -/
def fIx (key : List UInt8) : List En → Nat
  | [] => 0
  | e :: r => if kEq e.key key = true then 0 else fIx key r + 1

theorem fIx_le (key : List UInt8) (l : List En) : fIx key l ≤ l.length := by
  induction l with
  | nil => exact Nat.le_refl _
  | cons e r ih => simp only [fIx, List.length_cons]; split <;> omega

theorem fIx_hit {key : List UInt8} {l : List En} {k : Nat} (hk : k < l.length) (hn : ∀ j (hj : j < k), kEq (l[j]'(by omega)).key key = false) (h : kEq l[k].key key = true) : fIx key l = k := by
  induction l generalizing k with
  | nil => simp at hk
  | cons e r ih =>
    simp only [fIx]
    rcases k with _ | k
    · rw [if_pos (by simpa using h)]
    · have h0 := hn 0 (by omega)
      simp only [List.getElem_cons_zero] at h0
      rw [if_neg (by rw [h0]; decide)]
      rw [ih (k := k) (by simpa using hk) (fun j hj => by have := hn (j + 1) (by omega); simpa using this) (by simpa using h)]

theorem fIx_miss {key : List UInt8} {l : List En} (hn : ∀ j (hj : j < l.length), kEq l[j].key key = false) : fIx key l = l.length := by
  induction l with
  | nil => rfl
  | cons e r ih =>
    simp only [fIx, List.length_cons]
    have h0 := hn 0 (by simp)
    simp only [List.getElem_cons_zero] at h0
    rw [if_neg (by rw [h0]; decide), ih (fun j hj => by have := hn (j + 1) (by simpa using hj); simpa using this)]

/-- what find tells -/
def fI (key : List UInt8) (l : List En) : Int := if fIx key l < l.length then (fIx key l : Int) else -1

/-- the entries' row -/
structure EnRow (B : HB) (w : World) (v : Value) (l : List En) (F : Nat → Nat → Value) : Prop where
  ho : OwnC w B 81 v 18 l.length F
  at_ : ∀ i (hi : i < l.length), EnAt B w (F i) l[i]

theorem EnRow.fr0 {B : HB} {w w' : World} {v : Value} {l : List En} {F : Nat → Nat → Value} (h : EnRow B w v l F) (hf : Fr [] w w') : EnRow B w' v l F :=
  ⟨h.ho.kept hf (fun _ _ => by simp), fun i hi => (h.at_ i hi).frH (hf.hot0 B)⟩

/-- a cache in memory -/
structure Ca (B : HB) (w : World) (p : Nat) (n : Int) (v : Value) (l : List En) : Prop where
  blk : w.heap[p]? = some (.cells #[v, .int .i64 n] 67 (0, 0))
  pB : B ≤ p
  row : ∃ F, EnRow B w v l F
  len : (l.length : Int) ≤ n
  n0 : 1 ≤ n ∧ n ≤ 64

theorem Ca.fr0 {B : HB} {w w' : World} {p : Nat} {n : Int} {v : Value} {l : List En} (h : Ca B w p n v l) (hf : Fr [] w w') : Ca B w' p n v l :=
  ⟨hf.blk h.blk (by simp), h.pB, h.row.imp fun _ x => x.fr0 hf, h.len, h.n0⟩

end Go.Proofs.Ytcfdlilhhfaaaaa

namespace Go.Proofs.Ytcfdlilhhfaaaaa
open Go.RowKit

/-- copy of elements of s cells each -/
theorem run_copyK {P : Program} (w : World) (dT sT ty elem : TypeId) (s b o dLen dCap : Nat) (a : Addr) (sLen sCap m : Nat) (cs : List Value)
    (hu : P.underlying dT = some (.slice elem)) (hs : (P.info? elem).map (·.size) = some s) (hm : Nat.min sLen dLen = m) (hn : cs.length = m * s)
    (hsrc : ∀ j v, cs[j]? = some v → w.cell? (a.add j) = some v) (hc : ∀ j, j < cs.length → (w.cell? ⟨b, o + j, none⟩).isSome = true) (hf : ∀ j, j < cs.length → w.frozen? ⟨b, o + j, none⟩ = false) (h1 : ∀ v ∈ cs, v.oneCell' = true) :
    (Builtin.copy_ #[dT, sT] ty #[.slice (some ⟨b, o, none⟩) dLen dCap, .slice (some a) sLen sCap]).run P w = .ok (goInt m) (w.setCells b o cs) := by
  have hl := run_loadCells_list (P := P) w a cs hsrc
  have hst := run_storeCells_cells (P := P) b o cs 0 w (by simpa using hc) (by simpa using hf) h1
  cases hq : P.info? elem with
  | none => simp [hq] at hs
  | some i =>
    have hi : i.size = s := by simpa [hq] using hs
    have hm' : min sLen dLen = m := hm
    simp [Builtin.copy_, run_underlying hu, Builtin.lenOf, Builtin.firstCells, sizeOf, typeInfo, hq, hi, hm', ← hn, hl, hst]

/-- clear of elements of s cells each -/
theorem run_clearK {P : Program} (w : World) (t e ty : TypeId) (z : Value) (ht : P.underlying t = some (.slice e)) (hv : ∀ w, (zeroValue e).run P w = .ok z w) (b o n c : Nat) (hn : 0 < n) (zs : List Value) (hz : (Builtin.zeroCells z.cells n).toList = zs)
    (h1 : ∀ v ∈ zs, v.oneCell' = true) (hc : ∀ j, j < zs.length → (w.cell? ⟨b, o + j, none⟩).isSome = true) (hf : ∀ j, j < zs.length → w.frozen? ⟨b, o + j, none⟩ = false) :
    (Builtin.clear_ #[t] ty #[.slice (some ⟨b, o, none⟩) n c]).run P w = .ok (.tuple #[]) (w.setCells b o zs) := by
  have hst := run_storeCells_cells (P := P) b o zs 0 w (by simpa using hc) (by simpa using hf) h1
  simp only [Nat.add_zero] at hst
  obtain ⟨m, rfl⟩ : ∃ m, n = m + 1 := ⟨n - 1, by omega⟩
  simp [Builtin.clear_, run_underlying ht, hv, hz, hst]

theorem setCells_blk2 {p : Nat} {T : TypeId} : ∀ (vs : List Value) (o : Nat) (w : World) (cs : Array Value), w.heap[p]? = some (.cells cs T (0, 0)) → o + vs.length ≤ cs.size →
    ∃ cs', (w.setCells p o vs).heap[p]? = some (.cells cs' T (0, 0)) ∧ cs'.size = cs.size ∧ (∀ j, j < o ∨ o + vs.length ≤ j → cs'[j]? = cs[j]?) ∧ (∀ j, j < vs.length → cs'[o + j]? = vs[j]?)
  | [], o, w, cs, h, _ => ⟨cs, h, rfl, fun _ _ => rfl, fun j hj => by simp at hj⟩
  | v :: r, o, w, cs, h, hl => by
    simp only [List.length_cons] at hl
    obtain ⟨cs', h1, h2, h3, h4⟩ := setCells_blk2 r (o + 1) (w.setCell ⟨p, o, none⟩ v) (cs.setIfInBounds o v) (blk_setk h o v) (by simp; omega)
    refine ⟨cs', h1, by rw [h2]; simp, fun j hj => ?_, fun j hj => ?_⟩
    · simp only [List.length_cons] at hj
      rw [h3 j (by omega), Array.getElem?_setIfInBounds_ne (by omega)]
    · rcases j with _ | j
      · rw [Nat.add_zero, h3 o (by omega)]
        simp [show o < cs.size by omega]
      · simp only [List.length_cons] at hj
        rw [show o + (j + 1) = o + 1 + j by omega, h4 j (by omega)]
        simp

/-- m elements are laid from element i on -/
theorem RowC.setEls {w : World} {g : Nat} {E : TypeId} {s n cap : Nat} {F : Nat → Nat → Value} (h : RowC w g E s n cap F) (hs : 0 < s) (i m : Nat) (G : Nat → Nat → Value) (hi : i + m ≤ cap) (n' : Nat) (hn' : n' ≤ cap) (hcov : ∀ j, j < n' → j < n ∨ (i ≤ j ∧ j < i + m)) :
    RowC (w.setCells g (i * s) (vals (m * s) (fls s G))) g E s n' cap (fun j => if i ≤ j ∧ j < i + m then G (j - i) else F j) := by
  obtain ⟨cur, h1, h2, h3, h4, h5⟩ := h
  have him : i * s + m * s = (i + m) * s := (Nat.add_mul _ _ _).symm
  have hle : (i + m) * s ≤ cap * s := Nat.mul_le_mul_right _ hi
  obtain ⟨cs', e1, e2, e3, e4⟩ := setCells_blk2 (vals (m * s) (fls s G)) (i * s) w cur h1 (by rw [vals_len, h2]; omega)
  rw [vals_len] at e3 e4
  refine ⟨cs', e1, e2.trans h2, hn', h4, fun j hj => ?_⟩
  have hdm : j = j / s * s + j % s := by rw [Nat.mul_comm]; exact (Nat.div_add_mod j s).symm
  have hmod : j % s < s := Nat.mod_lt _ hs
  have hd : j / s < n' := div_lt' hj
  show cs'[j]? = some ((if i ≤ j / s ∧ j / s < i + m then G (j / s - i) else F (j / s)) (j % s))
  by_cases hin : i ≤ j / s ∧ j / s < i + m
  · rw [if_pos hin]
    have hge : i * s ≤ j / s * s := Nat.mul_le_mul_right _ hin.1
    have hlt : j < (i + m) * s := by
      have : (j / s + 1) * s ≤ (i + m) * s := Nat.mul_le_mul_right _ (by omega)
      rw [Nat.add_mul] at this
      omega
    obtain ⟨t, rfl⟩ : ∃ t, j = i * s + t := ⟨j - i * s, by omega⟩
    rw [e4 t (by omega), vals_get _ _ _ (by omega)]
    have e5 : (i * s + t) / s = i + t / s := by rw [Nat.mul_comm, Nat.mul_add_div hs]
    have e6 : (i * s + t) % s = t % s := by rw [Nat.mul_comm, Nat.mul_add_mod]
    rw [e5, e6, Nat.add_sub_cancel_left]
    rfl
  · rw [if_neg hin]
    have hjn : j / s < n := by rcases hcov _ hd with h | h; exact h; exact absurd h hin
    have hjlt : j < n * s := by
      have : (j / s + 1) * s ≤ n * s := Nat.mul_le_mul_right _ (by omega)
      rw [Nat.add_mul] at this
      omega
    rw [e3 j (by
      by_cases hlo : j / s < i
      · left
        have : (j / s + 1) * s ≤ i * s := Nat.mul_le_mul_right _ (by omega)
        rw [Nat.add_mul] at this
        omega
      · right
        have : (i + m) * s ≤ j / s * s := Nat.mul_le_mul_right _ (by omega)
        omega)]
    exact h5 j hjlt

theorem infoEn : (Try.prog.info? 81).map (fun i => (i.zero, i.size, i.bytes)) = some (some (.agg #[.string ⟨#[]⟩, .int .i64 0, .bool false, .int .i64 0, .bool false, .bool false, .bool false, .bool false, .bool false, .bool false, .bool false, .int .i64 0, .slice none 0 0, .slice none 0 0, .slice none 0 0, .slice none 0 0, .int .i64 0, .int .i64 0]), 18, 168) := by kernel_rfl

end Go.Proofs.Ytcfdlilhhfaaaaa

namespace Go.Proofs.Ytcfdlilhhfaaaaa
open Go.RowKit

theorem vals_one {n s : Nat} {G : Nat → Nat → Value} (h : ∀ i c, i < n → c < s → (G i c).oneCell' = true) (hs : 0 < s) : ∀ u ∈ vals (n * s) (fls s G), u.oneCell' = true := fun u hu => by
  simp only [vals, List.mem_map, List.mem_range] at hu
  obtain ⟨j, hj, rfl⟩ := hu
  exact h _ _ (div_lt' hj) (Nat.mod_lt _ hs)

theorem RowC.spare {w : World} {g : Nat} {E : TypeId} {s n cap : Nat} {F : Nat → Nat → Value} (h : RowC w g E s n cap F) (j : Nat) (hj : j < cap * s) : (w.cell? ⟨g, j, none⟩).isSome = true := by
  obtain ⟨cur, h1, h2, _⟩ := h
  simp [World.cell?, h1, show j < cur.size by omega]

set_option maxHeartbeats 4000000 in
set_option maxRecDepth 1000000 in
theorem delete_en (w : World) (g n cap i : Nat) (F : Nat → Nat → Value) (h : RowC w g 81 18 n cap F) (hone : ∀ i c, i < n → c < 18 → (F i c).oneCell' = true) (hi : i < n) :
    Calls Try.prog 52 #[.slice (some ⟨g, 0, none⟩) n cap, .int .i64 i, .int .i64 ((i : Int) + 1)] w fun e w' =>
      e = .returned (.slice (some ⟨g, 0, none⟩) (n - 1) cap) ∧ RowC w' g 81 18 (n - 1) cap (fun j => if j < i then F j else F (j + 1)) ∧ Fr [g] w w' := by
  obtain ⟨q, hq⟩ : ∃ q, q = i + 1 := ⟨_, rfl⟩
  have hqi : ((i : Int) + 1) = (q : Int) := by omega
  rw [hqi]
  have hnc := h.le
  have hcm := h.cap_le
  unfold maxLen at hcm
  obtain ⟨i0, hi0, hz0, hz1, hz2⟩ := info_parts infoEn
  obtain ⟨news, hnews⟩ : ∃ news, news = vals ((n - q) * 18) (fls 18 (fun j => F (q + j))) := ⟨_, rfl⟩
  have hlen : news.length = (n - q) * 18 := by rw [hnews, vals_len]
  obtain ⟨A, hA, hsrc⟩ : ∃ A : Addr, (if cap = q then some (⟨g, 0, none⟩ : Addr) else some ⟨g, q * 18, none⟩) = some A ∧ Hid (∀ t u, news[t]? = some u → w.drew.cell? (A.add t) = some u) := by
    by_cases hc : cap = q
    · refine ⟨⟨g, 0, none⟩, by simp [hc], fun t u hu => ?_⟩
      have h0 : news.length = 0 := by rw [hlen]; omega
      rw [List.length_eq_zero_iff.1 h0] at hu
      simp at hu
    · refine ⟨⟨g, q * 18, none⟩, by simp [hc], fun t u hu => ?_⟩
      rw [hnews] at hu
      obtain ⟨ht, rfl⟩ := vals_get' hu
      rw [Addr.add_lit]
      have e := h.cell (q + t / 18) (t % 18) (by have := div_lt' (s := 18) ht; omega) (Nat.mod_lt _ (by decide))
      rw [show (q + t / 18) * 18 + t % 18 = q * 18 + t by omega] at e
      exact e
  have s1 : Hid (news.length = (n - q) * 18) := hlen
  have s2 : Hid (∀ u ∈ news, u.oneCell' = true) := by
    rw [hnews]
    exact vals_one (fun i c hi hc => hone _ _ (by omega) hc) (by decide)
  have s3 : Hid (∀ t, t < news.length → (w.drew.cell? ⟨g, 0 + i * 18 + t, none⟩).isSome = true ∧ w.drew.frozen? ⟨g, 0 + i * 18 + t, none⟩ = false) := by
    intro t ht
    rw [hlen] at ht
    exact ⟨h.spare _ (by omega), h.frozen _⟩
  obtain ⟨W1, hW1⟩ : ∃ W1, W1 = w.drew.setCells g (0 + i * 18) news := ⟨_, rfl⟩
  have hR1 : RowC W1 g 81 18 n cap (fun j => if i ≤ j ∧ j < i + (n - q) then F (q + (j - i)) else F j) := by
    rw [hW1, hnews, Nat.zero_add]
    exact RowC.setEls (w := w.drew) (h.kept ((Fr.refl [] w).drew) (by simp)) (by decide) i (n - q) (fun j => F (q + j)) (by omega) n hnc (fun j hj => .inl hj)
  have hF1 : Fr [g] w W1 := by rw [hW1]; exact ((Fr.refl [g] w).drew).trans (setCells_fr news _ _) (fun x hx => .inl hx)
  obtain ⟨zs, hzs⟩ : ∃ zs, (Builtin.zeroCells (Value.agg #[.string ⟨#[]⟩, .int .i64 0, .bool false, .int .i64 0, .bool false, .bool false, .bool false, .bool false, .bool false, .bool false, .bool false, .int .i64 0, .slice none 0 0, .slice none 0 0, .slice none 0 0, .slice none 0 0, .int .i64 0, .int .i64 0]).cells (n - (i + (n - q)))).toList = zs := ⟨_, rfl⟩
  have hzl : zs.length = (n - (i + (n - q))) * 18 := by
    rw [← hzs, Array.length_toList, size_zeroCells]
    rfl
  have hz1' : ∀ v ∈ zs, v.oneCell' = true := by
    rw [← hzs]
    intro v hv
    have hz18 : n - (i + (n - q)) = 1 := by omega
    rw [hz18] at hv
    simp [Builtin.zeroCells, Value.cells, List.range, List.range.loop] at hv
    rcases hv with rfl | rfl | rfl | rfl | rfl | rfl | rfl | rfl | rfl | rfl | rfl | rfl | rfl | rfl | rfl | rfl | rfl | rfl <;> rfl
  have hcl : ∀ ty, (Builtin.clear_ #[65] ty #[.slice (some ⟨g, (i + (n - q)) * 18, none⟩) (n - (i + (n - q))) (cap - (i + (n - q)))]).run Try.prog W1 = .ok (.tuple #[]) (W1.setCells g ((i + (n - q)) * 18) zs) :=
    fun ty => run_clearK W1 _ 81 ty _ Try.underlying65 (fun w => Try.zeroValue81 w) g _ _ _ (by omega) zs hzs hz1' (fun t ht => hR1.spare _ (by rw [hzl] at ht; omega)) (fun t ht => hR1.frozen _)
  have HR1 := Lib.hid hR1
  have HF1 := Lib.hid hF1
  have HZL := Lib.hid hzl
  clear hR1 hF1 hzl
  have hW : Hid (W1 = w.drew.setCells g (0 + i * 18) news) := hW1
  have hij : ¬ i = q := by omega
  have hic : i ≤ cap := by omega
  have hjc : q ≤ cap := by omega
  have hqn : q ≤ n := by omega
  have hiq : i ≤ q := by omega
  have HQ := Lib.hid hq
  clear hW1 h hnews hlen hq hqi hzs hz1' hone
  go_enter Try.func52, Try.ntmps52
  go_wp2_with fail
  go_region_law (refine step_append_room rfl (.tmp 22) (.tmp 25) 65 rfl 81 i0 18 Try.underlying65 hi0 hz1 g 0 i cap (by simp [Act.eval, Act.put]) A (n - q) (cap - q) news (by simp [Act.eval, Act.put, hA]) s1.out hsrc.out s2.out (by omega) s3.out ?_; rw [← hW.out])
  go_wp2
  go_ret
  have e1 : i + (n - q) = n - 1 := by have := HQ.out; omega
  refine ⟨by rw [← e1]; rfl, ?_, HF1.out.trans (setCells_fr zs _ _) (fun x hx => .inl hx)⟩
  obtain ⟨cur, b1, b2, b3, b4, b5⟩ := HR1.out
  obtain ⟨cs', f1, f2, f3, f4⟩ := setCells_blk2 zs ((i + (n - q)) * 18) W1 cur b1 (by rw [HZL.out, b2]; omega)
  refine ⟨cs', f1, f2.trans b2, by omega, b4, fun j hj => ?_⟩
  rw [f3 j (.inl (by rw [e1]; exact hj)), b5 j (by omega)]
  show some ((if i ≤ j / 18 ∧ j / 18 < i + (n - q) then F (q + (j / 18 - i)) else F (j / 18)) (j % 18)) = some ((if j / 18 < i then F (j / 18) else F (j / 18 + 1)) (j % 18))
  have hd : j / 18 < n - 1 := div_lt' hj
  by_cases h2 : j / 18 < i
  · rw [if_neg (by omega), if_pos h2]
  · rw [if_pos (by omega), if_neg h2, show q + (j / 18 - i) = j / 18 + 1 by have := HQ.out; omega]

end Go.Proofs.Ytcfdlilhhfaaaaa

namespace Go.Proofs.Ytcfdlilhhfaaaaa
open Go.RowKit

theorem six_cells {w : World} {p : Nat} {T : TypeId} {x0 x1 x2 x3 x4 x5 : Value} (hb : w.heap[p]? = some (.cells #[x0, x1, x2, x3, x4, x5] T (0, 0))) :
    w.cell? ⟨p, 0, none⟩ = some x0 ∧ w.cell? ⟨p, 1, none⟩ = some x1 ∧ w.cell? ⟨p, 2, none⟩ = some x2 ∧ w.cell? ⟨p, 3, none⟩ = some x3 ∧ w.cell? ⟨p, 4, none⟩ = some x4 ∧ w.cell? ⟨p, 5, none⟩ = some x5 :=
  ⟨blk_cell hb 0 rfl, blk_cell hb 1 rfl, blk_cell hb 2 rfl, blk_cell hb 3 rfl, blk_cell hb 4 rfl, blk_cell hb 5 rfl⟩

theorem two_new' (w : World) (x y : Obj) : ((w.alloc x).alloc y).heap[w.heap.size]? = some x ∧ ((w.alloc x).alloc y).heap[w.heap.size + 1]? = some y := by
  have s1 : (w.alloc x).heap.size = w.heap.size + 1 := by simp
  refine ⟨((Fr.refl [] _).alloc y).blk (heap_alloc_new w x) (by simp), ?_⟩
  rw [← s1]
  exact heap_alloc_new _ y

set_option maxHeartbeats 4000000 in
set_option maxRecDepth 100000 in
theorem find_none (w : World) (B : HB) (m : Ms) (vq va vu vm : Value) (hm : MsOk B w m vq va vu vm) (hi : optIx m.M m.mn = m.mn) : FindSays m vq va vu vm false 0 w := fun wx hx => by
  obtain ⟨_, hm1⟩ := hm.hq
  obtain ⟨_, hm2⟩ := hm.ha
  obtain ⟨_, hm3⟩ := hm.hu
  obtain ⟨FM, hM⟩ := hm.hm
  obtain ⟨mb, mc, rfl⟩ := hm1.rd.slice
  obtain ⟨ab, ac, rfl⟩ := hm2.rd.slice
  obtain ⟨ub, uc, rfl⟩ := hm3.rd.slice
  obtain ⟨nb, nc, rfl⟩ := hM.rd.slice
  have HI := Lib.hid (show optI m.M m.mn = -1 by unfold optI; rw [hi, if_neg (by omega)])
  have HC := Lib.hid (fun (wz : World) (h : Fr [] w wz) => idxRec_any wz B nb m.mn nc m.M FM (hM.frH (h.hot0 B)))
  rw [HI.out] at HC
  have HX := Lib.hid hx
  clear hm hm1 hm2 hm3 hM hi HI hx
  generalize m.h = h at *
  generalize m.qn = nq at *
  generalize m.an = na at *
  generalize m.un = nu at *
  generalize m.mn = nm at *
  obtain ⟨h0, h1, h2, h3, h4, h5, h6, h7, h8, h9, h10⟩ := h
  simp only [msgV]
  go_enter Try.func26, Try.ntmps26
  go_wp2_with fail
  obtain ⟨hb0, hb1⟩ := two_new' wx (.cells #[.int .i64 h0, .bool h1, .int .i64 h2, .bool h3, .bool h4, .bool h5, .bool h6, .bool h7, .bool h8, .bool h9, .int .i64 h10, .slice mb nq mc, .slice ab na ac, .slice ub nu uc, .slice nb nm nc] 27) (.cells #[.int .i64 0, .int .i64 0, .int .i64 0, .bool false, .int .i64 0, .slice none 0 0] 72)
  have HB1 := Lib.hid hb1
  have HF2 := Lib.hid (show Fr [] wx ((wx.alloc (.cells #[.int .i64 h0, .bool h1, .int .i64 h2, .bool h3, .bool h4, .bool h5, .bool h6, .bool h7, .bool h8, .bool h9, .int .i64 h10, .slice mb nq mc, .slice ab na ac, .slice ub nu uc, .slice nb nm nc] 27)).alloc (.cells #[.int .i64 0, .int .i64 0, .int .i64 0, .bool false, .int .i64 0, .slice none 0 0] 72)) from ((Fr.refl [] _).alloc _).alloc _)
  clear hb0 hb1
  generalize (wx.alloc (.cells #[.int .i64 h0, .bool h1, .int .i64 h2, .bool h3, .bool h4, .bool h5, .bool h6, .bool h7, .bool h8, .bool h9, .int .i64 h10, .slice mb nq mc, .slice ab na ac, .slice ub nu uc, .slice nb nm nc] 27)).alloc (.cells #[.int .i64 0, .int .i64 0, .int .i64 0, .bool false, .int .i64 0, .slice none 0 0] 72) = W2 at *
  refine (HC.out W2 (HX.out.trans HF2.out (by simp))).mono ?_
  rintro e w3 ⟨rfl, hf3⟩
  have HB3 := Lib.hid (hf3.blk HB1.out (by simp))
  have HF3 := Lib.hid (HF2.out.trans hf3 (by simp))
  obtain ⟨x0, x1, x2, x3, x4, x5⟩ := six_cells HB3.out
  have hz : ∀ j, w3.frozen? ⟨wx.heap.size + 1, j, none⟩ = false := fun j => blk_frozen HB3.out j
  clear hf3
  go_wp2_with fail
  have HBF := Lib.hid (setCells_all (w := w3) (p := wx.heap.size + 1) [.int .i64 0, .int .i64 0, .int .i64 0, .bool false, .int .i64 0, .slice none 0 0] HB3.out rfl)
  have HFF := Lib.hid (setCells_fr (p := wx.heap.size + 1) [.int .i64 0, .int .i64 0, .int .i64 0, .bool false, .int .i64 0, .slice none 0 0] 0 w3)
  change bodyPost _ _ _ _ _ (w3.setCells (wx.heap.size + 1) 0 [.int .i64 0, .int .i64 0, .int .i64 0, .bool false, .int .i64 0, .slice none 0 0])
  generalize w3.setCells (wx.heap.size + 1) 0 [.int .i64 0, .int .i64 0, .int .i64 0, .bool false, .int .i64 0, .slice none 0 0] = wF at *
  obtain ⟨r0, r1, r2, r3, r4, r5⟩ := six_cells HBF.out
  refine bodyPost_ret (v := .tuple #[.agg #[.int .i64 0, .int .i64 0, .int .i64 0, .bool false, .int .i64 0, .slice none 0 0], .bool false, .nilIface]) (by simp [results, Try.results26, go_sem, r0, r1, r2, r3, r4, r5]) rfl ?_
  exact ⟨⟨0, 0, 0, 0, false, none, 0, 0, rfl⟩, HF3.out.trans HFF.out (fun x hx => by simp only [List.mem_singleton] at hx; exact .inr (by omega))⟩

end Go.Proofs.Ytcfdlilhhfaaaaa

namespace Go.Proofs.Ytcfdlilhhfaaaaa
open Go.RowKit

/-- is the i-th record one that lives? -/
def Ms.lv (m : Ms) (i : Nat) : Prop := i < m.an + m.un ∨ (m.R i).ty ≠ 41
instance (m : Ms) (i : Nat) : Decidable (m.lv i) := by unfold Ms.lv; infer_instance

theorem lv_low {m : Ms} {i : Nat} (h : i < m.an + m.un) : m.lv i := .inl h

/-- the least TTL of those of the first i that live; -1 where there is none -/
def lngF (m : Ms) : Nat → Int
  | 0 => -1
  | i + 1 => if m.lv i then (if lngF m i < 0 ∨ (m.R i).tt < lngF m i then (m.R i).tt else lngF m i) else lngF m i

theorem lmn_congr {S T : Nat → Int} {k : Nat} (h : ∀ j, j < k → S j = T j) : lmn S k = lmn T k := by
  induction k with
  | zero => rfl
  | succ k ih =>
    simp only [lmn]
    rw [ih (fun j hj => h j (by omega)), h k (by omega)]

theorem R_low (m : Ms) {i : Nat} (h : i < m.an + m.un) : (m.R i).tt = m.T0 i := by
  unfold Ms.R Ms.T0 catT
  by_cases h1 : i < m.an
  · rw [if_pos h1, if_pos h1]
  · rw [if_neg h1, if_neg h1, if_pos h]

theorem R_more (m : Ms) (k : Nat) : m.R (m.an + m.un + k) = m.M k := by
  unfold Ms.R
  rw [if_neg (by omega), if_neg (by omega), Nat.add_sub_cancel_left]

theorem lng_low (m : Ms) (i : Nat) (hi : i ≤ m.an + m.un) : lngF m i = lmn m.T0 i := by
  induction i with
  | zero => rfl
  | succ i ih =>
    simp only [lngF, lmn]
    rw [if_pos (lv_low (by omega)), ih (by omega), R_low m (by omega)]

theorem lifT_low (base : Nat) (T0 : Nat → Int) (M : Nat → Rs) (k j : Nat) (hj : j < base) : lifT base T0 M k j = T0 j := by
  induction k with
  | zero => rfl
  | succ k ih =>
    simp only [lifT]
    split
    · exact ih
    · show (if j = base + nopN M k then _ else _) = _
      rw [if_neg (by omega)]
      exact ih

theorem lng_more (m : Ms) (k : Nat) : lngF m (m.an + m.un + k) = lmn (lifT (m.an + m.un) m.T0 m.M k) (m.an + m.un + nopN m.M k) := by
  induction k with
  | zero => exact lng_low m _ (Nat.le_refl _)
  | succ k ih =>
    have e : lngF m (m.an + m.un + (k + 1)) = if m.lv (m.an + m.un + k) then (if lngF m (m.an + m.un + k) < 0 ∨ (m.R (m.an + m.un + k)).tt < lngF m (m.an + m.un + k) then (m.R (m.an + m.un + k)).tt else lngF m (m.an + m.un + k)) else lngF m (m.an + m.un + k) := rfl
    rw [e]
    by_cases h : (m.M k).ty = 41
    · have hl : ¬ m.lv (m.an + m.un + k) := by
        unfold Ms.lv
        rw [R_more]
        omega
      rw [if_neg hl, ih]
      simp only [lifT, nopN, if_pos h]
    · have hl : m.lv (m.an + m.un + k) := .inr (by rw [R_more]; exact h)
      rw [if_pos hl, R_more, ih]
      simp only [lifT, nopN, if_neg h]
      have e2 : m.an + m.un + (nopN m.M k + 1) = (m.an + m.un + nopN m.M k) + 1 := by omega
      rw [e2]
      simp only [lmn]
      rw [lmn_congr (S := fun j => if j = m.an + m.un + nopN m.M k then (m.M k).tt else lifT (m.an + m.un) m.T0 m.M k j) (T := lifT (m.an + m.un) m.T0 m.M k) (fun j hj => by
        show (if j = m.an + m.un + nopN m.M k then _ else _) = _
        rw [if_neg (by omega)])]
      simp only [if_true]

/-- the least TTL is how long it lives -/
theorem lng_life (m : Ms) (h : lifeZ m = 0) : lngF m m.N = lifeV m := by
  have e : lngF m m.N = lmn m.T1 m.N1 := lng_more m m.mn
  rw [e]
  unfold lifeV
  rw [if_pos h]

theorem lng_le (m : Ms) {i n : Nat} (hi : i < n) (hl : m.lv i) (h0 : ∀ j, j < n → 0 ≤ (m.R j).tt) : lngF m n ≤ (m.R i).tt ∧ 0 ≤ lngF m n := by
  induction n with
  | zero => omega
  | succ n ih =>
    have e : lngF m (n + 1) = if m.lv n then (if lngF m n < 0 ∨ (m.R n).tt < lngF m n then (m.R n).tt else lngF m n) else lngF m n := rfl
    rw [e]
    have hn := h0 n (by omega)
    by_cases hin : i = n
    · subst hin
      rw [if_pos hl]
      split <;> omega
    · obtain ⟨h1, h2⟩ := ih (by omega) (fun j hj => h0 j (by omega))
      split
      · split <;> omega
      · exact ⟨h1, h2⟩

/-- no TTL is out of reach -/
theorem tt_ok (m : Ms) (h : tbad m.T2 (m.N1 + m.mn) = false) (i : Nat) (hi : i < m.N) : 0 ≤ (m.R i).tt ∧ (m.R i).tt ≤ 4294967295 := by
  have ha : ∀ j, j < m.N1 + m.mn → 0 ≤ m.T2 j ∧ m.T2 j ≤ 4294967295 := fun j hj => by
    by_cases h1 : 0 ≤ m.T2 j ∧ m.T2 j ≤ 4294967295
    · exact h1
    · rw [tbad_hit hj (by omega)] at h
      cases h
  by_cases h1 : i < m.an + m.un
  · have h2 := ha i (by unfold Ms.N1; omega)
    have e : m.T2 i = m.T0 i := by
      unfold Ms.T2 catT
      rw [if_pos (by unfold Ms.N1; omega)]
      unfold Ms.T1
      exact lifT_low _ _ _ _ _ h1
    rw [R_low m h1, ← e]
    exact h2
  · obtain ⟨k, rfl⟩ : ∃ k, i = m.an + m.un + k := ⟨i - (m.an + m.un), by omega⟩
    have hk : k < m.mn := by unfold Ms.N at hi; omega
    have h2 := ha (m.N1 + k) (by omega)
    have e : m.T2 (m.N1 + k) = (m.M k).tt := by
      unfold Ms.T2 catT
      rw [if_neg (by omega), Nat.add_sub_cancel_left]
    rw [R_more, ← e]
    exact h2

/-- a record of what is told -/
theorem tolM_R (o m : Ms) (age : Int) (i : Nat) : (tolM o m age).R i = if m.lv i then { m.R i with tt := wrap64 ((m.R i).tt - age) } else m.R i := by
  by_cases h1 : i < m.an
  · have e : (tolM o m age).R i = agR age false (m.A i) := by
      show (if i < m.an then agR age false (m.A i) else _) = _
      rw [if_pos h1]
    have e2 : m.R i = m.A i := by unfold Ms.R; rw [if_pos h1]
    rw [e, e2, if_pos (lv_low (by omega))]
    rfl
  · by_cases h2 : i < m.an + m.un
    · have e : (tolM o m age).R i = agR age false (m.U (i - m.an)) := by
        show (if i < m.an then agR age false (m.A i) else if i < m.an + m.un then agR age false (m.U (i - m.an)) else _) = _
        rw [if_neg h1, if_pos h2]
      have e2 : m.R i = m.U (i - m.an) := by unfold Ms.R; rw [if_neg h1, if_pos h2]
      rw [e, e2, if_pos (lv_low h2)]
      rfl
    · have e : (tolM o m age).R i = agR age true (m.M (i - (m.an + m.un))) := by
        show (if i < m.an then agR age false (m.A i) else if i < m.an + m.un then agR age false (m.U (i - m.an)) else agR age true (m.M (i - (m.an + m.un)))) = _
        rw [if_neg h1, if_neg h2]
      have e2 : m.R i = m.M (i - (m.an + m.un)) := by unfold Ms.R; rw [if_neg h1, if_neg h2]
      rw [e, e2]
      unfold agR
      by_cases h3 : (m.M (i - (m.an + m.un))).ty = 41
      · have hl : ¬ m.lv i := by unfold Ms.lv; rw [e2]; omega
        rw [if_pos ⟨rfl, h3⟩, if_neg hl]
      · have hl : m.lv i := .inr (by rw [e2]; exact h3)
        rw [if_neg (fun h => h3 h.2), if_pos hl]

theorem tolM_lv (o m : Ms) (age : Int) (i : Nat) : (tolM o m age).lv i ↔ m.lv i := by
  unfold Ms.lv
  rw [tolM_R]
  show (i < m.an + m.un ∨ _) ↔ (i < m.an + m.un ∨ _)
  split <;> exact Iff.rfl

/-- told twice: what is told again -/
theorem tolM_twice (q o m : Ms) (age : Int) (i : Nat) (h0 : 0 ≤ (m.R i).tt ∧ (m.R i).tt ≤ 4294967295) : (tolM o (tolM q m 0) age).R i = if m.lv i then { m.R i with tt := wrap64 ((m.R i).tt - age) } else m.R i := by
  rw [tolM_R]
  by_cases h : m.lv i
  · rw [if_pos ((tolM_lv q m 0 i).2 h), if_pos h, tolM_R, if_pos h]
    have e : wrap64 ((m.R i).tt - 0) = (m.R i).tt := by unfold wrap64; omega
    simp only [e]
  · rw [if_neg (fun hh => h ((tolM_lv q m 0 i).1 hh)), if_neg h, tolM_R, if_neg h]

theorem rsEq_refl (x : Rs) : rsEq x x = true := (rsEq_iff x x).2 ⟨⟨rfl, fun _ _ => rfl⟩, ⟨rfl, fun _ _ => rfl⟩, rfl, rfl, rfl⟩

end Go.Proofs.Ytcfdlilhhfaaaaa
