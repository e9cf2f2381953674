/- What the texts below need: Told, Ca, EnLib, EnDel, Find0, Older, RCa, SameLaw. -/
import Derived.Deep.RegionLaw
import Derived.Lib.SliceRun
import Derived.Laws.IdiomCopy
import Derived.Shelf.RegionOpenPlain
import Derived.Test.YtkdmkpdooiacaaaDoorZAgedW
import Derived.Test.YtkdmkpdooiacaaaDoorZbase1
import Derived.Test.YtkdmkpdooiacaaaDoorZbase2
namespace Go.Proofs.YtkdmkpdooiacaaaDoor
open Go.RowKit

set_option maxHeartbeats 400000 in
theorem clone_ques (w : World) (v : Value) (n : Nat) (F : Nat → Nat → Value) (hv : RdC w v 3 n F) (hone : ∀ i c, i < n → c < 3 → (F i c).oneCell' = true) (hn : n * 40 ≤ 140737488355328) :
    Calls Tryd.prog 52 #[v] w fun e w' => ∃ v', e = .returned v' ∧ OwnC w' w.heap.size 58 v' 3 n F ∧ Fr [] w w' := by
  have hq := fun (wx : World) (a : Option Addr) (n c : Nat) => Lib.run_eql_slice_nil (P := Tryd.prog) wx 40 58 a n c 0 0 Tryd.underlying40
  rcases hv with ⟨rfl, rfl⟩ | ⟨a, cap, rfl, hnc, hcm, hc⟩
  · go_enter Tryd.func52, Tryd.ntmps52
    go_wp2
    go_ret
    exact ⟨_, rfl, .inl ⟨rfl, rfl⟩, Fr.refl _ _⟩
  · have hr : RdC (w.alloc (.cells #[] 58)) (.slice (some a) n cap) 3 n F := .inr ⟨a, cap, rfl, hnc, hcm, fun j hj => ((Fr.refl [] w).alloc _).cell (hc j hj) (by simp)⟩
    have HR := Lib.hid hr; clear hr hc
    have HO := Lib.hid (show ∀ j, j < n * 3 → (fls 3 F j).oneCell' = true from fun j hj => hone _ _ (div_lt' hj) (Nat.mod_lt _ (by decide))); clear hone
    have H0 := Lib.hid (rowc_new (w := w) (E := 58) (s := 3) (F := F))
    go_enter Tryd.func52, Tryd.ntmps52
    go_wp2_with (at_builtin; refine wpList_appC rfl (.tmp 5) (.tmp 6) 40 rfl 58 infoQue Tryd.underlying40 rfl (by decide) HO.out H0.out rfl HR.out rfl (by unfold maxLen; omega) (by omega) (by simp) ?_; intro v' w1 hown' hfr _)
    go_ret
    rw [Nat.zero_add] at hown'
    exact ⟨_, rfl, hown'.congr (by decide) (fun j c hj _ => by simp [appC]), ((Fr.refl [] w).alloc _).trans hfr (by intro x hx; simp [Value.ownBlock] at hx; omega)⟩

/-- how the loop stands -/
structure TolLp (w wr : World) (cs1 cs2 : Array Value) (v5 : Value) (pq : Nat) (QQ : Nat → Qs) (FQ : Nat → Nat → Value) (k : Nat) (G : Nat → Nat → Value) : Prop where
  b1 : wr.heap[w.heap.size + 1]? = some (.cells cs1 43 (0, 0))
  b2 : wr.heap[w.heap.size + 1 + 1]? = some (.cells cs2 43 (0, 0))
  ho : OwnC wr w.heap.size 58 v5 3 pq G
  hown : ∀ i, i < k → QsOwn wr w.heap.size (G i) (QQ i)
  hold : ∀ i, k ≤ i → i < pq → G i = FQ i
  hf : Fr [] w wr

/-- what is told of m for q, so much later -/
def tolM (q m : Ms) (age : Int) : Ms :=
  { h := { m.h with id := q.h.id, rd := q.h.rd }, qn := q.qn, Q := q.Q, an := m.an, A := fun i => agR age false (m.A i), un := m.un, U := fun i => agR age false (m.U i), mn := m.mn, M := fun i => agR age true (m.M i) }

theorem agR_wf {r : Rs} (h : r.Wf) (age : Int) (more : Bool) : (agR age more r).Wf := by
  unfold agR
  split
  · exact h
  · exact ⟨h.ty0, h.cl0, by show -9223372036854775808 ≤ wrap64 _ ∧ wrap64 _ ≤ _; unfold wrap64; omega, h.dt0, h.nms, h.nlb, h.dlb⟩

/-- behind the records -/
def TolPost (w wx : World) (h : Hd) (vq : Value) (k na nu nm : Nat) (QQ : Nat → Qs) (A U M : Nat → Rs) (age : Int) (G : Nat → Nat → Value) : Prop :=
  ∃ (a7 a8 a9 : Option Addr) (c7 c8 c9 : Nat) (GA GU GM : Nat → Nat → Value), wx.heap[w.heap.size + 1]? = some (.cells (msgCs h vq (.slice a7 na c7) (.slice a8 nu c8) (.slice a9 nm c9)) 43 (0, 0)) ∧
    wx.heap[w.heap.size + 1 + 1]? = some (.cells #[.int .i64 0, .bool false, .int .i64 0, .bool false, .bool false, .bool false, .bool false, .bool false, .bool false, .bool false, .int .i64 0, .slice none 0 0, .slice none 0 0, .slice none 0 0, .slice none 0 0] 43 (0, 0)) ∧
    SecOwn wx w.heap.size (.slice a7 na c7) na (fun i => agR age false (A i)) GA ∧ SecOwn wx w.heap.size (.slice a8 nu c8) nu (fun i => agR age false (U i)) GU ∧ SecOwn wx w.heap.size (.slice a9 nm c9) nm (fun i => agR age true (M i)) GM ∧ QSecOwn wx w.heap.size vq k QQ G ∧ Fr [] w wx

end Go.Proofs.YtkdmkpdooiacaaaDoor

namespace Go.Proofs.YtkdmkpdooiacaaaDoor
open Go.RowKit

/-- an entry -/
structure En where
  key : List UInt8
  m : Ms
  at_ : Int
  life : Int

def keyB (k : List UInt8) : ByteArray := ⟨k.toArray⟩

def enF (e : En) (q a u m : Value) : Nat → Value
  | 0 => .string (keyB e.key)
  | 1 => .int .i64 e.m.h.id
  | 2 => .bool e.m.h.an
  | 3 => .int .i64 e.m.h.op
  | 4 => .bool e.m.h.aa
  | 5 => .bool e.m.h.tc
  | 6 => .bool e.m.h.rd
  | 7 => .bool e.m.h.ra
  | 8 => .bool e.m.h.z
  | 9 => .bool e.m.h.ad
  | 10 => .bool e.m.h.cd
  | 11 => .int .i64 e.m.h.code
  | 12 => q
  | 13 => a
  | 14 => u
  | 15 => m
  | 16 => .int .i64 e.at_
  | _ => .int .i64 e.life

/-- an entry as a value -/
def enV (e : En) (q a u m : Value) : Value :=
  .agg #[.string (keyB e.key), .int .i64 e.m.h.id, .bool e.m.h.an, .int .i64 e.m.h.op, .bool e.m.h.aa, .bool e.m.h.tc, .bool e.m.h.rd, .bool e.m.h.ra, .bool e.m.h.z, .bool e.m.h.ad, .bool e.m.h.cd, .int .i64 e.m.h.code, q, a, u, m, .int .i64 e.at_, .int .i64 e.life]

def enCs (e : En) (q a u m : Value) : Array Value :=
  #[.string (keyB e.key), .int .i64 e.m.h.id, .bool e.m.h.an, .int .i64 e.m.h.op, .bool e.m.h.aa, .bool e.m.h.tc, .bool e.m.h.rd, .bool e.m.h.ra, .bool e.m.h.z, .bool e.m.h.ad, .bool e.m.h.cd, .int .i64 e.m.h.code, q, a, u, m, .int .i64 e.at_, .int .i64 e.life]

/-- eighteen cells hold an entry -/
def EnAt (B : HB) (w : World) (F : Nat → Value) (e : En) : Prop :=
  ∃ (qa aa ua ma : Option Addr) (qc ac uc mc : Nat), (∀ c, c < 18 → F c = enF e (.slice qa e.m.qn qc) (.slice aa e.m.an ac) (.slice ua e.m.un uc) (.slice ma e.m.mn mc) c) ∧
    MsOk B w e.m (.slice qa e.m.qn qc) (.slice aa e.m.an ac) (.slice ua e.m.un uc) (.slice ma e.m.mn mc) ∧ (-9223372036854775808 ≤ e.at_ ∧ e.at_ ≤ 9223372036854775807) ∧ (-9223372036854775808 ≤ e.life ∧ e.life ≤ 9223372036854775807)

theorem EnAt.frH {B : HB} {w w' : World} {F : Nat → Value} {e : En} (h : EnAt B w F e) (hf : FrH B w w') : EnAt B w' F e := by
  obtain ⟨qa, aa, ua, ma, qc, ac, uc, mc, h1, h2, h3, h4⟩ := h
  exact ⟨qa, aa, ua, ma, qc, ac, uc, mc, h1, h2.frH hf, h3, h4⟩

theorem enF_one (e : En) (qa aa ua ma : Option Addr) (qn an un mn qc ac uc mc : Nat) (c : Nat) (hc : c < 18) : (enF e (.slice qa qn qc) (.slice aa an ac) (.slice ua un uc) (.slice ma mn mc) c).oneCell' = true := by
  match c, hc with
  | 0, _ => rfl
  | 1, _ => rfl
  | 2, _ => rfl
  | 3, _ => rfl
  | 4, _ => rfl
  | 5, _ => rfl
  | 6, _ => rfl
  | 7, _ => rfl
  | 8, _ => rfl
  | 9, _ => rfl
  | 10, _ => rfl
  | 11, _ => rfl
  | 12, _ => rfl
  | 13, _ => rfl
  | 14, _ => rfl
  | 15, _ => rfl
  | 16, _ => rfl
  | 17, _ => rfl
  | c + 18, h => omega

theorem EnAt.one {B : HB} {w : World} {F : Nat → Value} {e : En} (h : EnAt B w F e) (c : Nat) (hc : c < 18) : (F c).oneCell' = true := by
  obtain ⟨qa, aa, ua, ma, qc, ac, uc, mc, h1, _⟩ := h
  rw [h1 c hc]
  exact enF_one _ _ _ _ _ _ _ _ _ _ _ _ _ c hc

/-- are two keys one? -/
def kEq (a b : List UInt8) : Bool := (keyB a).toList == (keyB b).toList

theorem kEq_iff (a b : List UInt8) : kEq a b = true ↔ a = b := by
  unfold kEq keyB
  rw [beq_iff_eq, ByteArray.toList_eq, ByteArray.toList_eq]

/-- the place of a key among the entries; how many there are where it is none of theirs -/
def fIx (key : List UInt8) : List En → Nat
  | [] => 0
  | e :: r => if kEq e.key key = true then 0 else fIx key r + 1

theorem fIx_le (key : List UInt8) (l : List En) : fIx key l ≤ l.length := by
  induction l with
  | nil => exact Nat.le_refl _
  | cons e r ih => simp only [fIx, List.length_cons]; split <;> omega

theorem fIx_hit {key : List UInt8} {l : List En} {k : Nat} (hk : k < l.length) (hn : ∀ j (hj : j < k), kEq (l[j]'(by omega)).key key = false) (h : kEq l[k].key key = true) : fIx key l = k := by
  induction l generalizing k with
  | nil => simp at hk
  | cons e r ih =>
    simp only [fIx]
    rcases k with _ | k
    · rw [if_pos (by simpa using h)]
    · have h0 := hn 0 (by omega)
      simp only [List.getElem_cons_zero] at h0
      rw [if_neg (by rw [h0]; decide)]
      rw [ih (k := k) (by simpa using hk) (fun j hj => by have := hn (j + 1) (by omega); simpa using this) (by simpa using h)]

theorem fIx_miss {key : List UInt8} {l : List En} (hn : ∀ j (hj : j < l.length), kEq l[j].key key = false) : fIx key l = l.length := by
  induction l with
  | nil => rfl
  | cons e r ih =>
    simp only [fIx, List.length_cons]
    have h0 := hn 0 (by simp)
    simp only [List.getElem_cons_zero] at h0
    rw [if_neg (by rw [h0]; decide), ih (fun j hj => by have := hn (j + 1) (by simpa using hj); simpa using this)]

/-- what find tells -/
def fI (key : List UInt8) (l : List En) : Int := if fIx key l < l.length then (fIx key l : Int) else -1

/-- the entries' row -/
structure EnRow (B : HB) (w : World) (v : Value) (l : List En) (F : Nat → Nat → Value) : Prop where
  ho : OwnC w B 88 v 18 l.length F
  at_ : ∀ i (hi : i < l.length), EnAt B w (F i) l[i]

theorem EnRow.fr0 {B : HB} {w w' : World} {v : Value} {l : List En} {F : Nat → Nat → Value} (h : EnRow B w v l F) (hf : Fr [] w w') : EnRow B w' v l F :=
  ⟨h.ho.kept hf (fun _ _ => by simp), fun i hi => (h.at_ i hi).frH (hf.hot0 B)⟩

/-- a cache in memory -/
structure Ca (B : HB) (w : World) (p : Nat) (n : Int) (v : Value) (l : List En) : Prop where
  blk : w.heap[p]? = some (.cells #[v, .int .i64 n] 63 (0, 0))
  pB : B ≤ p
  row : ∃ F, EnRow B w v l F
  len : (l.length : Int) ≤ n
  n0 : 1 ≤ n ∧ n ≤ 64

theorem Ca.fr0 {B : HB} {w w' : World} {p : Nat} {n : Int} {v : Value} {l : List En} (h : Ca B w p n v l) (hf : Fr [] w w') : Ca B w' p n v l :=
  ⟨hf.blk h.blk (by simp), h.pB, h.row.imp fun _ x => x.fr0 hf, h.len, h.n0⟩

end Go.Proofs.YtkdmkpdooiacaaaDoor

namespace Go.Proofs.YtkdmkpdooiacaaaDoor
open Go.RowKit

/-- copy of elements of s cells each -/
theorem run_copyK {P : Program} (w : World) (dT sT ty elem : TypeId) (s b o dLen dCap : Nat) (a : Addr) (sLen sCap m : Nat) (cs : List Value)
    (hu : P.underlying dT = some (.slice elem)) (hs : (P.info? elem).map (·.size) = some s) (hm : Nat.min sLen dLen = m) (hn : cs.length = m * s)
    (hsrc : ∀ j v, cs[j]? = some v → w.cell? (a.add j) = some v) (hc : ∀ j, j < cs.length → (w.cell? ⟨b, o + j, none⟩).isSome = true) (hf : ∀ j, j < cs.length → w.frozen? ⟨b, o + j, none⟩ = false) (h1 : ∀ v ∈ cs, v.oneCell' = true) :
    (Builtin.copy_ #[dT, sT] ty #[.slice (some ⟨b, o, none⟩) dLen dCap, .slice (some a) sLen sCap]).run P w = .ok (goInt m) (w.setCells b o cs) := by
  have hl := run_loadCells_list (P := P) w a cs hsrc
  have hst := run_storeCells_cells (P := P) b o cs 0 w (by simpa using hc) (by simpa using hf) h1
  cases hq : P.info? elem with
  | none => simp [hq] at hs
  | some i =>
    have hi : i.size = s := by simpa [hq] using hs
    have hm' : min sLen dLen = m := hm
    simp [Builtin.copy_, run_underlying hu, Builtin.lenOf, Builtin.firstCells, sizeOf, typeInfo, hq, hi, hm', ← hn, hl, hst]

/-- clear of elements of s cells each -/
theorem run_clearK {P : Program} (w : World) (t e ty : TypeId) (z : Value) (ht : P.underlying t = some (.slice e)) (hv : ∀ w, (zeroValue e).run P w = .ok z w) (b o n c : Nat) (hn : 0 < n) (zs : List Value) (hz : (Builtin.zeroCells z.cells n).toList = zs)
    (h1 : ∀ v ∈ zs, v.oneCell' = true) (hc : ∀ j, j < zs.length → (w.cell? ⟨b, o + j, none⟩).isSome = true) (hf : ∀ j, j < zs.length → w.frozen? ⟨b, o + j, none⟩ = false) :
    (Builtin.clear_ #[t] ty #[.slice (some ⟨b, o, none⟩) n c]).run P w = .ok (.tuple #[]) (w.setCells b o zs) := by
  have hst := run_storeCells_cells (P := P) b o zs 0 w (by simpa using hc) (by simpa using hf) h1
  simp only [Nat.add_zero] at hst
  obtain ⟨m, rfl⟩ : ∃ m, n = m + 1 := ⟨n - 1, by omega⟩
  simp [Builtin.clear_, run_underlying ht, hv, hz, hst]

theorem setCells_blk2 {p : Nat} {T : TypeId} : ∀ (vs : List Value) (o : Nat) (w : World) (cs : Array Value), w.heap[p]? = some (.cells cs T (0, 0)) → o + vs.length ≤ cs.size →
    ∃ cs', (w.setCells p o vs).heap[p]? = some (.cells cs' T (0, 0)) ∧ cs'.size = cs.size ∧ (∀ j, j < o ∨ o + vs.length ≤ j → cs'[j]? = cs[j]?) ∧ (∀ j, j < vs.length → cs'[o + j]? = vs[j]?)
  | [], o, w, cs, h, _ => ⟨cs, h, rfl, fun _ _ => rfl, fun j hj => by simp at hj⟩
  | v :: r, o, w, cs, h, hl => by
    simp only [List.length_cons] at hl
    obtain ⟨cs', h1, h2, h3, h4⟩ := setCells_blk2 r (o + 1) (w.setCell ⟨p, o, none⟩ v) (cs.setIfInBounds o v) (blk_setk h o v) (by simp; omega)
    refine ⟨cs', h1, by rw [h2]; simp, fun j hj => ?_, fun j hj => ?_⟩
    · simp only [List.length_cons] at hj
      rw [h3 j (by omega), Array.getElem?_setIfInBounds_ne (by omega)]
    · rcases j with _ | j
      · rw [Nat.add_zero, h3 o (by omega)]
        simp [show o < cs.size by omega]
      · simp only [List.length_cons] at hj
        rw [show o + (j + 1) = o + 1 + j by omega, h4 j (by omega)]
        simp

/-- m elements are laid from element i on -/
theorem RowC.setEls {w : World} {g : Nat} {E : TypeId} {s n cap : Nat} {F : Nat → Nat → Value} (h : RowC w g E s n cap F) (hs : 0 < s) (i m : Nat) (G : Nat → Nat → Value) (hi : i + m ≤ cap) (n' : Nat) (hn' : n' ≤ cap) (hcov : ∀ j, j < n' → j < n ∨ (i ≤ j ∧ j < i + m)) :
    RowC (w.setCells g (i * s) (vals (m * s) (fls s G))) g E s n' cap (fun j => if i ≤ j ∧ j < i + m then G (j - i) else F j) := by
  obtain ⟨cur, h1, h2, h3, h4, h5⟩ := h
  have him : i * s + m * s = (i + m) * s := (Nat.add_mul _ _ _).symm
  have hle : (i + m) * s ≤ cap * s := Nat.mul_le_mul_right _ hi
  obtain ⟨cs', e1, e2, e3, e4⟩ := setCells_blk2 (vals (m * s) (fls s G)) (i * s) w cur h1 (by rw [vals_len, h2]; omega)
  rw [vals_len] at e3 e4
  refine ⟨cs', e1, e2.trans h2, hn', h4, fun j hj => ?_⟩
  have hdm : j = j / s * s + j % s := by rw [Nat.mul_comm]; exact (Nat.div_add_mod j s).symm
  have hmod : j % s < s := Nat.mod_lt _ hs
  have hd : j / s < n' := div_lt' hj
  show cs'[j]? = some ((if i ≤ j / s ∧ j / s < i + m then G (j / s - i) else F (j / s)) (j % s))
  by_cases hin : i ≤ j / s ∧ j / s < i + m
  · rw [if_pos hin]
    have hge : i * s ≤ j / s * s := Nat.mul_le_mul_right _ hin.1
    have hlt : j < (i + m) * s := by
      have : (j / s + 1) * s ≤ (i + m) * s := Nat.mul_le_mul_right _ (by omega)
      rw [Nat.add_mul] at this
      omega
    obtain ⟨t, rfl⟩ : ∃ t, j = i * s + t := ⟨j - i * s, by omega⟩
    rw [e4 t (by omega), vals_get _ _ _ (by omega)]
    have e5 : (i * s + t) / s = i + t / s := by rw [Nat.mul_comm, Nat.mul_add_div hs]
    have e6 : (i * s + t) % s = t % s := by rw [Nat.mul_comm, Nat.mul_add_mod]
    rw [e5, e6, Nat.add_sub_cancel_left]
    rfl
  · rw [if_neg hin]
    have hjn : j / s < n := by rcases hcov _ hd with h | h; exact h; exact absurd h hin
    have hjlt : j < n * s := by
      have : (j / s + 1) * s ≤ n * s := Nat.mul_le_mul_right _ (by omega)
      rw [Nat.add_mul] at this
      omega
    rw [e3 j (by
      by_cases hlo : j / s < i
      · left
        have : (j / s + 1) * s ≤ i * s := Nat.mul_le_mul_right _ (by omega)
        rw [Nat.add_mul] at this
        omega
      · right
        have : (i + m) * s ≤ j / s * s := Nat.mul_le_mul_right _ (by omega)
        omega)]
    exact h5 j hjlt

theorem infoEn : (Tryd.prog.info? 88).map (fun i => (i.zero, i.size, i.bytes)) = some (some (.agg #[.string ⟨#[]⟩, .int .i64 0, .bool false, .int .i64 0, .bool false, .bool false, .bool false, .bool false, .bool false, .bool false, .bool false, .int .i64 0, .slice none 0 0, .slice none 0 0, .slice none 0 0, .slice none 0 0, .int .i64 0, .int .i64 0]), 18, 168) := by kernel_rfl

end Go.Proofs.YtkdmkpdooiacaaaDoor

namespace Go.Proofs.YtkdmkpdooiacaaaDoor
open Go.RowKit

theorem vals_one {n s : Nat} {G : Nat → Nat → Value} (h : ∀ i c, i < n → c < s → (G i c).oneCell' = true) (hs : 0 < s) : ∀ u ∈ vals (n * s) (fls s G), u.oneCell' = true := fun u hu => by
  simp only [vals, List.mem_map, List.mem_range] at hu
  obtain ⟨j, hj, rfl⟩ := hu
  exact h _ _ (div_lt' hj) (Nat.mod_lt _ hs)

theorem RowC.spare {w : World} {g : Nat} {E : TypeId} {s n cap : Nat} {F : Nat → Nat → Value} (h : RowC w g E s n cap F) (j : Nat) (hj : j < cap * s) : (w.cell? ⟨g, j, none⟩).isSome = true := by
  obtain ⟨cur, h1, h2, _⟩ := h
  simp [World.cell?, h1, show j < cur.size by omega]

set_option maxHeartbeats 4000000 in
set_option maxRecDepth 1000000 in
theorem delete_en (w : World) (g n cap i : Nat) (F : Nat → Nat → Value) (h : RowC w g 88 18 n cap F) (hone : ∀ i c, i < n → c < 18 → (F i c).oneCell' = true) (hi : i < n) :
    Calls Tryd.prog 50 #[.slice (some ⟨g, 0, none⟩) n cap, .int .i64 i, .int .i64 ((i : Int) + 1)] w fun e w' =>
      e = .returned (.slice (some ⟨g, 0, none⟩) (n - 1) cap) ∧ RowC w' g 88 18 (n - 1) cap (fun j => if j < i then F j else F (j + 1)) ∧ Fr [g] w w' := by
  obtain ⟨q, hq⟩ : ∃ q, q = i + 1 := ⟨_, rfl⟩
  have hqi : ((i : Int) + 1) = (q : Int) := by omega
  rw [hqi]
  have hnc := h.le
  have hcm := h.cap_le
  unfold maxLen at hcm
  obtain ⟨i0, hi0, hz0, hz1, hz2⟩ := info_parts infoEn
  obtain ⟨news, hnews⟩ : ∃ news, news = vals ((n - q) * 18) (fls 18 (fun j => F (q + j))) := ⟨_, rfl⟩
  have hlen : news.length = (n - q) * 18 := by rw [hnews, vals_len]
  obtain ⟨A, hA, hsrc⟩ : ∃ A : Addr, (if cap = q then some (⟨g, 0, none⟩ : Addr) else some ⟨g, q * 18, none⟩) = some A ∧ Hid (∀ t u, news[t]? = some u → w.drew.cell? (A.add t) = some u) := by
    by_cases hc : cap = q
    · refine ⟨⟨g, 0, none⟩, by simp [hc], fun t u hu => ?_⟩
      have h0 : news.length = 0 := by rw [hlen]; omega
      rw [List.length_eq_zero_iff.1 h0] at hu
      simp at hu
    · refine ⟨⟨g, q * 18, none⟩, by simp [hc], fun t u hu => ?_⟩
      rw [hnews] at hu
      obtain ⟨ht, rfl⟩ := vals_get' hu
      rw [Addr.add_lit]
      have e := h.cell (q + t / 18) (t % 18) (by have := div_lt' (s := 18) ht; omega) (Nat.mod_lt _ (by decide))
      rw [show (q + t / 18) * 18 + t % 18 = q * 18 + t by omega] at e
      exact e
  have s1 : Hid (news.length = (n - q) * 18) := hlen
  have s2 : Hid (∀ u ∈ news, u.oneCell' = true) := by
    rw [hnews]
    exact vals_one (fun i c hi hc => hone _ _ (by omega) hc) (by decide)
  have s3 : Hid (∀ t, t < news.length → (w.drew.cell? ⟨g, 0 + i * 18 + t, none⟩).isSome = true ∧ w.drew.frozen? ⟨g, 0 + i * 18 + t, none⟩ = false) := by
    intro t ht
    rw [hlen] at ht
    exact ⟨h.spare _ (by omega), h.frozen _⟩
  obtain ⟨W1, hW1⟩ : ∃ W1, W1 = w.drew.setCells g (0 + i * 18) news := ⟨_, rfl⟩
  have hR1 : RowC W1 g 88 18 n cap (fun j => if i ≤ j ∧ j < i + (n - q) then F (q + (j - i)) else F j) := by
    rw [hW1, hnews, Nat.zero_add]
    exact RowC.setEls (w := w.drew) (h.kept ((Fr.refl [] w).drew) (by simp)) (by decide) i (n - q) (fun j => F (q + j)) (by omega) n hnc (fun j hj => .inl hj)
  have hF1 : Fr [g] w W1 := by rw [hW1]; exact ((Fr.refl [g] w).drew).trans (setCells_fr news _ _) (fun x hx => .inl hx)
  obtain ⟨zs, hzs⟩ : ∃ zs, (Builtin.zeroCells (Value.agg #[.string ⟨#[]⟩, .int .i64 0, .bool false, .int .i64 0, .bool false, .bool false, .bool false, .bool false, .bool false, .bool false, .bool false, .int .i64 0, .slice none 0 0, .slice none 0 0, .slice none 0 0, .slice none 0 0, .int .i64 0, .int .i64 0]).cells (n - (i + (n - q)))).toList = zs := ⟨_, rfl⟩
  have hzl : zs.length = (n - (i + (n - q))) * 18 := by
    rw [← hzs, Array.length_toList, size_zeroCells]
    rfl
  have hz1' : ∀ v ∈ zs, v.oneCell' = true := by
    rw [← hzs]
    intro v hv
    have hz18 : n - (i + (n - q)) = 1 := by omega
    rw [hz18] at hv
    simp [Builtin.zeroCells, Value.cells, List.range, List.range.loop] at hv
    rcases hv with rfl | rfl | rfl | rfl | rfl | rfl | rfl | rfl | rfl | rfl | rfl | rfl | rfl | rfl | rfl | rfl | rfl | rfl <;> rfl
  have hcl : ∀ ty, (Builtin.clear_ #[61] ty #[.slice (some ⟨g, (i + (n - q)) * 18, none⟩) (n - (i + (n - q))) (cap - (i + (n - q)))]).run Tryd.prog W1 = .ok (.tuple #[]) (W1.setCells g ((i + (n - q)) * 18) zs) :=
    fun ty => run_clearK W1 _ 88 ty _ Tryd.underlying61 (fun w => Tryd.zeroValue88 w) g _ _ _ (by omega) zs hzs hz1' (fun t ht => hR1.spare _ (by rw [hzl] at ht; omega)) (fun t ht => hR1.frozen _)
  have HR1 := Lib.hid hR1
  have HF1 := Lib.hid hF1
  have HZL := Lib.hid hzl
  clear hR1 hF1 hzl
  have hW : Hid (W1 = w.drew.setCells g (0 + i * 18) news) := hW1
  have hij : ¬ i = q := by omega
  have hic : i ≤ cap := by omega
  have hjc : q ≤ cap := by omega
  have hqn : q ≤ n := by omega
  have hiq : i ≤ q := by omega
  have HQ := Lib.hid hq
  clear hW1 h hnews hlen hq hqi hzs hz1' hone
  go_enter Tryd.func50, Tryd.ntmps50
  go_wp2_with fail
  go_region_law (refine step_append_room rfl (.tmp 22) (.tmp 25) 61 rfl 88 i0 18 Tryd.underlying61 hi0 hz1 g 0 i cap (by simp [Act.eval, Act.put]) A (n - q) (cap - q) news (by simp [Act.eval, Act.put, hA]) s1.out hsrc.out s2.out (by omega) s3.out ?_; rw [← hW.out])
  go_wp2
  go_ret
  have e1 : i + (n - q) = n - 1 := by have := HQ.out; omega
  refine ⟨by rw [← e1]; rfl, ?_, HF1.out.trans (setCells_fr zs _ _) (fun x hx => .inl hx)⟩
  obtain ⟨cur, b1, b2, b3, b4, b5⟩ := HR1.out
  obtain ⟨cs', f1, f2, f3, f4⟩ := setCells_blk2 zs ((i + (n - q)) * 18) W1 cur b1 (by rw [HZL.out, b2]; omega)
  refine ⟨cs', f1, f2.trans b2, by omega, b4, fun j hj => ?_⟩
  rw [f3 j (.inl (by rw [e1]; exact hj)), b5 j (by omega)]
  show some ((if i ≤ j / 18 ∧ j / 18 < i + (n - q) then F (q + (j / 18 - i)) else F (j / 18)) (j % 18)) = some ((if j / 18 < i then F (j / 18) else F (j / 18 + 1)) (j % 18))
  have hd : j / 18 < n - 1 := div_lt' hj
  by_cases h2 : j / 18 < i
  · rw [if_neg (by omega), if_pos h2]
  · rw [if_pos (by omega), if_neg h2, show q + (j / 18 - i) = j / 18 + 1 by have := HQ.out; omega]

end Go.Proofs.YtkdmkpdooiacaaaDoor

namespace Go.Proofs.YtkdmkpdooiacaaaDoor
open Go.RowKit

theorem six_cells {w : World} {p : Nat} {T : TypeId} {x0 x1 x2 x3 x4 x5 : Value} (hb : w.heap[p]? = some (.cells #[x0, x1, x2, x3, x4, x5] T (0, 0))) :
    w.cell? ⟨p, 0, none⟩ = some x0 ∧ w.cell? ⟨p, 1, none⟩ = some x1 ∧ w.cell? ⟨p, 2, none⟩ = some x2 ∧ w.cell? ⟨p, 3, none⟩ = some x3 ∧ w.cell? ⟨p, 4, none⟩ = some x4 ∧ w.cell? ⟨p, 5, none⟩ = some x5 :=
  ⟨blk_cell hb 0 rfl, blk_cell hb 1 rfl, blk_cell hb 2 rfl, blk_cell hb 3 rfl, blk_cell hb 4 rfl, blk_cell hb 5 rfl⟩

theorem two_new' (w : World) (x y : Obj) : ((w.alloc x).alloc y).heap[w.heap.size]? = some x ∧ ((w.alloc x).alloc y).heap[w.heap.size + 1]? = some y := by
  have s1 : (w.alloc x).heap.size = w.heap.size + 1 := by simp
  refine ⟨((Fr.refl [] _).alloc y).blk (heap_alloc_new w x) (by simp), ?_⟩
  rw [← s1]
  exact heap_alloc_new _ y

set_option maxHeartbeats 4000000 in
set_option maxRecDepth 100000 in
theorem find_none (w : World) (B : HB) (m : Ms) (vq va vu vm : Value) (hm : MsOk B w m vq va vu vm) (hi : optIx m.M m.mn = m.mn) : FindSays m vq va vu vm false 0 w := fun wx hx => by
  obtain ⟨_, hm1⟩ := hm.hq
  obtain ⟨_, hm2⟩ := hm.ha
  obtain ⟨_, hm3⟩ := hm.hu
  obtain ⟨FM, hM⟩ := hm.hm
  obtain ⟨mb, mc, rfl⟩ := hm1.rd.slice
  obtain ⟨ab, ac, rfl⟩ := hm2.rd.slice
  obtain ⟨ub, uc, rfl⟩ := hm3.rd.slice
  obtain ⟨nb, nc, rfl⟩ := hM.rd.slice
  have HI := Lib.hid (show optI m.M m.mn = -1 by unfold optI; rw [hi, if_neg (by omega)])
  have HC := Lib.hid (fun (wz : World) (h : Fr [] w wz) => idxRec_any wz B nb m.mn nc m.M FM (hM.frH (h.hot0 B)))
  rw [HI.out] at HC
  have HX := Lib.hid hx
  clear hm hm1 hm2 hm3 hM hi HI hx
  generalize m.h = h at *
  generalize m.qn = nq at *
  generalize m.an = na at *
  generalize m.un = nu at *
  generalize m.mn = nm at *
  obtain ⟨h0, h1, h2, h3, h4, h5, h6, h7, h8, h9, h10⟩ := h
  simp only [msgV]
  go_enter Tryd.func22, Tryd.ntmps22
  go_wp2_with fail
  obtain ⟨hb0, hb1⟩ := two_new' wx (.cells #[.int .i64 h0, .bool h1, .int .i64 h2, .bool h3, .bool h4, .bool h5, .bool h6, .bool h7, .bool h8, .bool h9, .int .i64 h10, .slice mb nq mc, .slice ab na ac, .slice ub nu uc, .slice nb nm nc] 43) (.cells #[.int .i64 0, .int .i64 0, .int .i64 0, .bool false, .int .i64 0, .slice none 0 0] 68)
  have HB1 := Lib.hid hb1
  have HF2 := Lib.hid (show Fr [] wx ((wx.alloc (.cells #[.int .i64 h0, .bool h1, .int .i64 h2, .bool h3, .bool h4, .bool h5, .bool h6, .bool h7, .bool h8, .bool h9, .int .i64 h10, .slice mb nq mc, .slice ab na ac, .slice ub nu uc, .slice nb nm nc] 43)).alloc (.cells #[.int .i64 0, .int .i64 0, .int .i64 0, .bool false, .int .i64 0, .slice none 0 0] 68)) from ((Fr.refl [] _).alloc _).alloc _)
  clear hb0 hb1
  generalize (wx.alloc (.cells #[.int .i64 h0, .bool h1, .int .i64 h2, .bool h3, .bool h4, .bool h5, .bool h6, .bool h7, .bool h8, .bool h9, .int .i64 h10, .slice mb nq mc, .slice ab na ac, .slice ub nu uc, .slice nb nm nc] 43)).alloc (.cells #[.int .i64 0, .int .i64 0, .int .i64 0, .bool false, .int .i64 0, .slice none 0 0] 68) = W2 at *
  refine (HC.out W2 (HX.out.trans HF2.out (by simp))).mono ?_
  rintro e w3 ⟨rfl, hf3⟩
  have HB3 := Lib.hid (hf3.blk HB1.out (by simp))
  have HF3 := Lib.hid (HF2.out.trans hf3 (by simp))
  obtain ⟨x0, x1, x2, x3, x4, x5⟩ := six_cells HB3.out
  have hz : ∀ j, w3.frozen? ⟨wx.heap.size + 1, j, none⟩ = false := fun j => blk_frozen HB3.out j
  clear hf3
  go_wp2_with fail
  have HBF := Lib.hid (setCells_all (w := w3) (p := wx.heap.size + 1) [.int .i64 0, .int .i64 0, .int .i64 0, .bool false, .int .i64 0, .slice none 0 0] HB3.out rfl)
  have HFF := Lib.hid (setCells_fr (p := wx.heap.size + 1) [.int .i64 0, .int .i64 0, .int .i64 0, .bool false, .int .i64 0, .slice none 0 0] 0 w3)
  change bodyPost _ _ _ _ _ (w3.setCells (wx.heap.size + 1) 0 [.int .i64 0, .int .i64 0, .int .i64 0, .bool false, .int .i64 0, .slice none 0 0])
  generalize w3.setCells (wx.heap.size + 1) 0 [.int .i64 0, .int .i64 0, .int .i64 0, .bool false, .int .i64 0, .slice none 0 0] = wF at *
  obtain ⟨r0, r1, r2, r3, r4, r5⟩ := six_cells HBF.out
  refine bodyPost_ret (v := .tuple #[.agg #[.int .i64 0, .int .i64 0, .int .i64 0, .bool false, .int .i64 0, .slice none 0 0], .bool false, .nilIface]) (by simp [results, Tryd.results22, go_sem, r0, r1, r2, r3, r4, r5]) rfl ?_
  exact ⟨⟨0, 0, 0, 0, false, none, 0, 0, rfl⟩, HF3.out.trans HFF.out (fun x hx => by simp only [List.mem_singleton] at hx; exact .inr (by omega))⟩

end Go.Proofs.YtkdmkpdooiacaaaDoor

namespace Go.Proofs.YtkdmkpdooiacaaaDoor
open Go.RowKit

/-- a record's cells, so much later -/
def oF (age : Int) (more : Bool) (R : Nat → Rs) (F : Nat → Nat → Value) (i c : Nat) : Value := if c = 3 then .int .i64 (agR age more (R i)).tt else F i c

theorem agR_F (age : Int) (more : Bool) (r : Rs) (na da : Option Addr) (nc dc c : Nat) (hc : c < 5) : (agR age more r).F na nc da dc c = if c = 3 then .int .i64 (agR age more r).tt else r.F na nc da dc c := by
  unfold agR
  split
  · match c, hc with
    | 0, _ => rfl
    | 1, _ => rfl
    | 2, _ => rfl
    | 3, _ => rfl
    | 4, _ => rfl
  · match c, hc with
    | 0, _ => rfl
    | 1, _ => rfl
    | 2, _ => rfl
    | 3, _ => rfl
    | 4, _ => rfl

theorem RsAt.aged {B : HB} {w : World} {F : Nat → Value} {r : Rs} (h : RsAt B w F r) (age : Int) (more : Bool) : RsAt B w (fun c => if c = 3 then .int .i64 (agR age more r).tt else F c) (agR age more r) := by
  obtain ⟨na, nc, da, dc, h1, h2⟩ := h
  refine ⟨na, nc, da, dc, fun c hc => ?_, ?_⟩
  · rw [agR_F _ _ _ _ _ _ _ _ hc]
    show (if c = 3 then _ else F c) = _
    rw [h1 c hc]
  · have e1 : (agR age more r).nl = r.nl := by unfold agR; split <;> rfl
    have e2 : (agR age more r).nm = r.nm := by unfold agR; split <;> rfl
    have e3 : (agR age more r).dl = r.dl := by unfold agR; split <;> rfl
    have e4 : (agR age more r).dt = r.dt := by unfold agR; split <;> rfl
    exact ⟨by rw [e1, e2]; exact h2.rdn, by rw [e3, e4]; exact h2.rdd, by rw [e1]; exact h2.cdn, by rw [e3]; exact h2.cdd⟩

set_option maxHeartbeats 4000000 in
set_option maxRecDepth 100000 in
theorem older_any (w : World) (B : HB) (a : Option Addr) (n c : Nat) (R : Nat → Rs) (F : Nat → Nat → Value) (age : Int) (more : Bool) (hs : Sec B w (.slice a n c) n R F) :
    Calls Tryd.prog 55 #[.slice a n c, .int .i64 age, .bool more] w fun e w' => ∃ v', e = .returned v' ∧ OwnC w' w.heap.size 60 v' 5 n (oF age more R F) ∧ (∀ i, i < n → RsAt B w' (oF age more R F i) (agR age more (R i))) ∧ Fr [] w w' := by
  have hnb := hs.nb
  have HS := Lib.hid hs; clear hs
  go_enter Tryd.func55, Tryd.ntmps55
  go_wp2_with fail
  go_loopw [7, 8] (fun vo vi wr => ∃ k : Nat, k ≤ n ∧ vi = .int .i64 k ∧ OwnC wr w.heap.size 60 vo 5 k (oF age more R F) ∧ Fr [] w wr) (fun _ vi _ => n - (intOf vi).toNat)
  case atStart => exact ⟨0, by omega, rfl, OwnC.nil _ _ _ _ _, Fr.refl _ _⟩
  case round =>
    obtain ⟨k, hk, rfl, ho, hf⟩ := hrel
    obtain ⟨oa, oc, rfl⟩ := ho.rd.slice
    have HO := Lib.hid ho; clear ho
    have HF := Lib.hid hf; clear hf
    by_cases hlt : k < n
    · obtain ⟨b1, o1, c1, he1, _, _, _, hc1⟩ := HS.out.rd.shape (by omega) (by decide)
      simp only [Value.slice.injEq, true_and] at he1
      obtain ⟨rfl, rfl⟩ := he1
      obtain ⟨na, nc, da, dc, hF, _⟩ := HS.out.at_ k hlt
      have k1 := HF.out.cell (hc1 k 0 hlt (by decide)) (by simp)
      have k2 := HF.out.cell (hc1 k 1 hlt (by decide)) (by simp)
      have k3 := HF.out.cell (hc1 k 2 hlt (by decide)) (by simp)
      have k4 := HF.out.cell (hc1 k 3 hlt (by decide)) (by simp)
      have k5 := HF.out.cell (hc1 k 4 hlt (by decide)) (by simp)
      rw [hF 0 (by decide)] at k1
      rw [hF 1 (by decide)] at k2
      rw [hF 2 (by decide)] at k3
      rw [hF 3 (by decide)] at k4
      rw [hF 4 (by decide)] at k5
      simp only [Rs.F, Nat.add_zero] at k1 k2 k3 k4 k5
      clear hc1
      have k0 : (0 : Int) ≤ (k : Int) := by omega
      have k9 : (k : Int) < (n : Int) := by omega
      have HSZ := Lib.hid (show w.heap.size ≤ wr.heap.size from HF.out.size)
      have HAG := Lib.hid (show agR age more (R k) = if more = true ∧ (R k).ty = 41 then R k else { R k with tt := wrap64 ((R k).tt - age) } from rfl)
      have HCG := Lib.hid (fun (t : Int) (ht : (agR age more (R k)).tt = t) => show ∀ i c, i < k + 1 → c < 5 → appC k (oF age more R F) (fun _ => f5 (.slice na (R k).nl nc) (.int .i64 (R k).ty) (.int .i64 (R k).cl) (.int .i64 t) (.slice da (R k).dl dc)) i c = oF age more R F i c from fun i c hi hc => by
        unfold appC
        by_cases hik : i < k
        · rw [if_pos hik]
        · obtain rfl : i = k := by omega
          rw [if_neg hik]
          unfold oF
          match c, hc with
          | 0, _ => rw [if_neg (by decide), hF 0 (by decide)]; rfl
          | 1, _ => rw [if_neg (by decide), hF 1 (by decide)]; rfl
          | 2, _ => rw [if_neg (by decide), hF 2 (by decide)]; rfl
          | 3, _ => rw [if_pos rfl, ht]; rfl
          | 4, _ => rw [if_neg (by decide), hF 4 (by decide)]; rfl)
      clear hF
      have HT1 := Lib.hid (fun (h : more = true ∧ (R k).ty = 41) => show (agR age more (R k)).tt = (R k).tt by rw [HAG.out, if_pos h])
      have HT2 := Lib.hid (fun (h : ¬ (more = true ∧ (R k).ty = 41)) => show (agR age more (R k)).tt = wrap64 ((R k).tt - age) by rw [HAG.out, if_neg h])
      clear HAG
      generalize R k = r at *
      by_cases hmt : more = true ∧ r.ty = 41
      · have HC := Lib.hid (HCG.out r.tt (HT1.out hmt))
        obtain ⟨rfl, h41⟩ := hmt
        have hne : (r.ty != 41) = false := by simp [h41]
        clear HT1 HT2 HCG h41
        go_wp2_with (at_builtin; refine wpList_appC rfl (.tmp 32) (.tmp 34) 41 rfl 60 infoRec Tryd.underlying41 rfl (by decide) (f5_one na da r.nl nc r.dl dc r.ty r.cl r.tt) (HO.out.kept (((Fr.refl [] _).alloc _).alloc _) (fun _ _ => by simp)) rfl (rdc_five _ _ _ _ _ _ _ (by simp) trivial) rfl (by unfold maxLen; omega) (by omega) ((HF.out.alloc _).alloc _).size ?_; intro v7 w7 ho7 hf7 _)
        have HO7 := Lib.hid (ho7.congr (by decide) (fun j c hj hc => HC.out j c hj hc))
        have HF7 := Lib.hid ((HF.out.alloc (.cells #[.slice na r.nl nc, .int .i64 r.ty, .int .i64 r.cl, .int .i64 r.tt, .slice da r.dl dc] 60)).app _ hf7 (fun x hx => HO.out.ge x hx))
        clear ho7 hf7
        go_roundw
        case rel => exact ⟨k + 1, by omega, by go_num, HO7.out, HF7.out⟩
        case measure => (simp [intOf] <;> omega)
      · have HC := Lib.hid (HCG.out _ (HT2.out hmt))
        have hcase : more = false ∨ (more = true ∧ (r.ty != 41) = true) := by
          cases more
          · exact .inl rfl
          · exact .inr ⟨rfl, by simpa using hmt⟩
        clear HT1 HT2 HCG hmt
        rcases hcase with rfl | ⟨rfl, hne⟩
        all_goals
          go_wp2_with (at_builtin; refine wpList_appC rfl (.tmp 32) (.tmp 34) 41 rfl 60 infoRec Tryd.underlying41 rfl (by decide) (f5_one na da r.nl nc r.dl dc r.ty r.cl (wrap64 (r.tt - age))) (HO.out.kept (((Fr.refl [] _).alloc _).alloc _) (fun _ _ => by simp)) rfl (rdc_five _ _ _ _ _ _ _ (by simp) trivial) rfl (by unfold maxLen; omega) (by omega) ((HF.out.alloc _).alloc _).size ?_; intro v7 w7 ho7 hf7 _)
          have HO7 := Lib.hid (ho7.congr (by decide) (fun j c hj hc => HC.out j c hj hc))
          have HF7 := Lib.hid ((HF.out.alloc (.cells #[.slice na r.nl nc, .int .i64 r.ty, .int .i64 r.cl, .int .i64 (wrap64 (r.tt - age)), .slice da r.dl dc] 60)).app _ hf7 (fun x hx => HO.out.ge x hx))
          clear ho7 hf7
          go_roundw
          case rel => exact ⟨k + 1, by omega, by go_num, HO7.out, HF7.out⟩
          case measure => (simp [intOf] <;> omega)
    · obtain rfl : k = n := by omega
      go_wp2_with fail
      go_ret
      exact ⟨_, rfl, HO.out, fun i hi => ((HS.out.at_ i hi).frH (HF.out.hot0 B)).aged age more, HF.out⟩

end Go.Proofs.YtkdmkpdooiacaaaDoor

namespace Go.Proofs.YtkdmkpdooiacaaaDoor
open Go.RowKit

/-- an entry's cells: the key is a slice -/
def reF (e : En) (k q a u m : Value) : Nat → Value
  | 0 => k
  | 1 => .int .i64 e.m.h.id
  | 2 => .bool e.m.h.an
  | 3 => .int .i64 e.m.h.op
  | 4 => .bool e.m.h.aa
  | 5 => .bool e.m.h.tc
  | 6 => .bool e.m.h.rd
  | 7 => .bool e.m.h.ra
  | 8 => .bool e.m.h.z
  | 9 => .bool e.m.h.ad
  | 10 => .bool e.m.h.cd
  | 11 => .int .i64 e.m.h.code
  | 12 => q
  | 13 => a
  | 14 => u
  | 15 => m
  | 16 => .int .i64 e.at_
  | _ => .int .i64 e.life

def reCs (e : En) (k q a u m : Value) : Array Value :=
  #[k, .int .i64 e.m.h.id, .bool e.m.h.an, .int .i64 e.m.h.op, .bool e.m.h.aa, .bool e.m.h.tc, .bool e.m.h.rd, .bool e.m.h.ra, .bool e.m.h.z, .bool e.m.h.ad, .bool e.m.h.cd, .int .i64 e.m.h.code, q, a, u, m, .int .i64 e.at_, .int .i64 e.life]

theorem reCs_get (e : En) (k q a u m : Value) (c : Nat) (hc : c < 18) : (reCs e k q a u m)[c]? = some (reF e k q a u m c) := by
  match c, hc with
  | 0, _ => rfl
  | 1, _ => rfl
  | 2, _ => rfl
  | 3, _ => rfl
  | 4, _ => rfl
  | 5, _ => rfl
  | 6, _ => rfl
  | 7, _ => rfl
  | 8, _ => rfl
  | 9, _ => rfl
  | 10, _ => rfl
  | 11, _ => rfl
  | 12, _ => rfl
  | 13, _ => rfl
  | 14, _ => rfl
  | 15, _ => rfl
  | 16, _ => rfl
  | 17, _ => rfl
  | c + 18, h => omega

/-- where an entry's rows lie -/
structure RV where
  ka : Option Addr
  qa : Option Addr
  aa : Option Addr
  ua : Option Addr
  ma : Option Addr
  kc : Nat
  qc : Nat
  ac : Nat
  uc : Nat
  mc : Nat

def RV.k (r : RV) (e : En) : Value := .slice r.ka e.key.length r.kc
def RV.q (r : RV) (e : En) : Value := .slice r.qa e.m.qn r.qc
def RV.a (r : RV) (e : En) : Value := .slice r.aa e.m.an r.ac
def RV.u (r : RV) (e : En) : Value := .slice r.ua e.m.un r.uc
def RV.m (r : RV) (e : En) : Value := .slice r.ma e.m.mn r.mc

/-- the cells -/
def RV.F (r : RV) (e : En) : Nat → Value := reF e (r.k e) (r.q e) (r.a e) (r.u e) (r.m e)
def RV.V (r : RV) (e : En) : Value := .agg (reCs e (r.k e) (r.q e) (r.a e) (r.u e) (r.m e))

/-- an entry's rows in memory -/
structure REn (B : HB) (w : World) (e : En) (r : RV) : Prop where
  key : RdF w (r.k e) e.key.length (fun j => u8V (e.key.getD j 0))
  cold : Cold B w (r.k e)
  ms : MsOk B w e.m (r.q e) (r.a e) (r.u e) (r.m e)
  at_ : -9223372036854775808 ≤ e.at_ ∧ e.at_ ≤ 9223372036854775807
  life : -9223372036854775808 ≤ e.life ∧ e.life ≤ 9223372036854775807

theorem REn.frH {B : HB} {w w' : World} {e : En} {r : RV} (h : REn B w e r) (hf : FrH B w w') : REn B w' e r :=
  ⟨h.key.frH h.cold hf, h.cold.frH hf, h.ms.frH hf, h.at_, h.life⟩

theorem RV.one (r : RV) (e : En) (c : Nat) (hc : c < 18) : (r.F e c).oneCell' = true := by
  match c, hc with
  | 0, _ => rfl
  | 1, _ => rfl
  | 2, _ => rfl
  | 3, _ => rfl
  | 4, _ => rfl
  | 5, _ => rfl
  | 6, _ => rfl
  | 7, _ => rfl
  | 8, _ => rfl
  | 9, _ => rfl
  | 10, _ => rfl
  | 11, _ => rfl
  | 12, _ => rfl
  | 13, _ => rfl
  | 14, _ => rfl
  | 15, _ => rfl
  | 16, _ => rfl
  | 17, _ => rfl
  | c + 18, h => omega

/-- an entry and where it lies -/
abbrev REV := En × RV

/-- the reference's cache reads -/
structure RCa (B : HB) (w : World) (v : Value) (l : List (En × RV)) : Prop where
  rd : RdC w v 18 l.length (fun i => ((l[i]?.map (fun x => x.2.F x.1)).getD (fun _ => undef)))
  cd : Cold B w v
  all : ∀ x ∈ l, REn B w x.1 x.2

theorem RCa.frH {B : HB} {w w' : World} {v : Value} {l : List (En × RV)} (h : RCa B w v l) (hf : FrH B w w') : RCa B w' v l :=
  ⟨h.rd.frH (by decide) h.cd hf, h.cd.frH hf, fun x hx => (h.all x hx).frH hf⟩

theorem RCa.nil (B : HB) (w : World) : RCa B w (.slice none 0 0) [] := ⟨.inl ⟨rfl, rfl⟩, Cold.nil _ _, fun x hx => by simp at hx⟩

/-- with an entry: it first, then the others of other keys while there is room -/
def withGo (n : Nat) (k : List UInt8) (out : List (En × RV)) : List (En × RV) → List (En × RV)
  | [] => out
  | x :: r => withGo n k (if kEq x.1.key k = false ∧ out.length < n then out ++ [x] else out) r

theorem withGo_snoc (n : Nat) (k : List UInt8) (out r : List (En × RV)) (x : En × RV) : withGo n k out (r ++ [x]) = (if kEq x.1.key k = false ∧ (withGo n k out r).length < n then withGo n k out r ++ [x] else withGo n k out r) := by
  induction r generalizing out with
  | nil => rfl
  | cons y r ih => exact ih _

theorem withGo_mem (n : Nat) (k : List UInt8) (out r : List (En × RV)) : ∀ x ∈ withGo n k out r, x ∈ out ∨ x ∈ r := by
  induction r generalizing out with
  | nil => exact fun x hx => .inl hx
  | cons y r ih =>
    intro x hx
    rcases ih _ x hx with h | h
    · split at h
      · rcases List.mem_append.1 h with h | h
        · exact .inl h
        · exact .inr (by simp at h; simp [h])
      · exact .inl h
    · exact .inr (List.mem_cons_of_mem _ h)

theorem withGo_len (n : Nat) (k : List UInt8) (out r : List (En × RV)) (h : out.length ≤ n) : (withGo n k out r).length ≤ n := by
  induction r generalizing out with
  | nil => exact h
  | cons y r ih =>
    refine ih _ ?_
    split
    · rename_i h1; simp; omega
    · exact h

theorem sameB_kEq (a b : List UInt8) : (decide (a.length = b.length) && eqUpTo (fun j => ((a.getD j 0).toNat : Int)) (fun j => ((b.getD j 0).toNat : Int)) a.length) = kEq a b := by
  rw [Bool.eq_iff_iff, kEq_iff, Bool.and_eq_true, decide_eq_true_iff, eqUpTo_iff]
  constructor
  · rintro ⟨h1, h2⟩
    apply List.ext_getElem h1
    intro i ha hb
    have := h2 i ha
    rw [List.getD_eq_getElem?_getD, List.getElem?_eq_getElem ha, List.getD_eq_getElem?_getD, List.getElem?_eq_getElem hb] at this
    simp only [Option.getD_some] at this
    exact UInt8.toNat_inj.1 (by omega)
  · rintro rfl
    exact ⟨rfl, fun _ _ => rfl⟩

end Go.Proofs.YtkdmkpdooiacaaaDoor

namespace Go.Proofs.YtkdmkpdooiacaaaDoor
open Go.RowKit

/-- is the i-th record one that lives? -/
def Ms.lv (m : Ms) (i : Nat) : Prop := i < m.an + m.un ∨ (m.R i).ty ≠ 41
instance (m : Ms) (i : Nat) : Decidable (m.lv i) := by unfold Ms.lv; infer_instance

theorem lv_low {m : Ms} {i : Nat} (h : i < m.an + m.un) : m.lv i := .inl h

/-- the least TTL of those of the first i that live; -1 where there is none -/
def lngF (m : Ms) : Nat → Int
  | 0 => -1
  | i + 1 => if m.lv i then (if lngF m i < 0 ∨ (m.R i).tt < lngF m i then (m.R i).tt else lngF m i) else lngF m i

theorem lmn_congr {S T : Nat → Int} {k : Nat} (h : ∀ j, j < k → S j = T j) : lmn S k = lmn T k := by
  induction k with
  | zero => rfl
  | succ k ih =>
    simp only [lmn]
    rw [ih (fun j hj => h j (by omega)), h k (by omega)]

theorem R_low (m : Ms) {i : Nat} (h : i < m.an + m.un) : (m.R i).tt = m.T0 i := by
  unfold Ms.R Ms.T0 catT
  by_cases h1 : i < m.an
  · rw [if_pos h1, if_pos h1]
  · rw [if_neg h1, if_neg h1, if_pos h]

theorem R_more (m : Ms) (k : Nat) : m.R (m.an + m.un + k) = m.M k := by
  unfold Ms.R
  rw [if_neg (by omega), if_neg (by omega), Nat.add_sub_cancel_left]

theorem lng_low (m : Ms) (i : Nat) (hi : i ≤ m.an + m.un) : lngF m i = lmn m.T0 i := by
  induction i with
  | zero => rfl
  | succ i ih =>
    simp only [lngF, lmn]
    rw [if_pos (lv_low (by omega)), ih (by omega), R_low m (by omega)]

theorem lifT_low (base : Nat) (T0 : Nat → Int) (M : Nat → Rs) (k j : Nat) (hj : j < base) : lifT base T0 M k j = T0 j := by
  induction k with
  | zero => rfl
  | succ k ih =>
    simp only [lifT]
    split
    · exact ih
    · show (if j = base + nopN M k then _ else _) = _
      rw [if_neg (by omega)]
      exact ih

theorem lng_more (m : Ms) (k : Nat) : lngF m (m.an + m.un + k) = lmn (lifT (m.an + m.un) m.T0 m.M k) (m.an + m.un + nopN m.M k) := by
  induction k with
  | zero => exact lng_low m _ (Nat.le_refl _)
  | succ k ih =>
    have e : lngF m (m.an + m.un + (k + 1)) = if m.lv (m.an + m.un + k) then (if lngF m (m.an + m.un + k) < 0 ∨ (m.R (m.an + m.un + k)).tt < lngF m (m.an + m.un + k) then (m.R (m.an + m.un + k)).tt else lngF m (m.an + m.un + k)) else lngF m (m.an + m.un + k) := rfl
    rw [e]
    by_cases h : (m.M k).ty = 41
    · have hl : ¬ m.lv (m.an + m.un + k) := by
        unfold Ms.lv
        rw [R_more]
        omega
      rw [if_neg hl, ih]
      simp only [lifT, nopN, if_pos h]
    · have hl : m.lv (m.an + m.un + k) := .inr (by rw [R_more]; exact h)
      rw [if_pos hl, R_more, ih]
      simp only [lifT, nopN, if_neg h]
      have e2 : m.an + m.un + (nopN m.M k + 1) = (m.an + m.un + nopN m.M k) + 1 := by omega
      rw [e2]
      simp only [lmn]
      rw [lmn_congr (S := fun j => if j = m.an + m.un + nopN m.M k then (m.M k).tt else lifT (m.an + m.un) m.T0 m.M k j) (T := lifT (m.an + m.un) m.T0 m.M k) (fun j hj => by
        show (if j = m.an + m.un + nopN m.M k then _ else _) = _
        rw [if_neg (by omega)])]
      simp only [if_true]

/-- the least TTL is how long it lives -/
theorem lng_life (m : Ms) (h : lifeZ m = 0) : lngF m m.N = lifeV m := by
  have e : lngF m m.N = lmn m.T1 m.N1 := lng_more m m.mn
  rw [e]
  unfold lifeV
  rw [if_pos h]

theorem lng_le (m : Ms) {i n : Nat} (hi : i < n) (hl : m.lv i) (h0 : ∀ j, j < n → 0 ≤ (m.R j).tt) : lngF m n ≤ (m.R i).tt ∧ 0 ≤ lngF m n := by
  induction n with
  | zero => omega
  | succ n ih =>
    have e : lngF m (n + 1) = if m.lv n then (if lngF m n < 0 ∨ (m.R n).tt < lngF m n then (m.R n).tt else lngF m n) else lngF m n := rfl
    rw [e]
    have hn := h0 n (by omega)
    by_cases hin : i = n
    · subst hin
      rw [if_pos hl]
      split <;> omega
    · obtain ⟨h1, h2⟩ := ih (by omega) (fun j hj => h0 j (by omega))
      split
      · split <;> omega
      · exact ⟨h1, h2⟩

/-- no TTL is out of reach -/
theorem tt_ok (m : Ms) (h : tbad m.T2 (m.N1 + m.mn) = false) (i : Nat) (hi : i < m.N) : 0 ≤ (m.R i).tt ∧ (m.R i).tt ≤ 4294967295 := by
  have ha : ∀ j, j < m.N1 + m.mn → 0 ≤ m.T2 j ∧ m.T2 j ≤ 4294967295 := fun j hj => by
    by_cases h1 : 0 ≤ m.T2 j ∧ m.T2 j ≤ 4294967295
    · exact h1
    · rw [tbad_hit hj (by omega)] at h
      cases h
  by_cases h1 : i < m.an + m.un
  · have h2 := ha i (by unfold Ms.N1; omega)
    have e : m.T2 i = m.T0 i := by
      unfold Ms.T2 catT
      rw [if_pos (by unfold Ms.N1; omega)]
      unfold Ms.T1
      exact lifT_low _ _ _ _ _ h1
    rw [R_low m h1, ← e]
    exact h2
  · obtain ⟨k, rfl⟩ : ∃ k, i = m.an + m.un + k := ⟨i - (m.an + m.un), by omega⟩
    have hk : k < m.mn := by unfold Ms.N at hi; omega
    have h2 := ha (m.N1 + k) (by omega)
    have e : m.T2 (m.N1 + k) = (m.M k).tt := by
      unfold Ms.T2 catT
      rw [if_neg (by omega), Nat.add_sub_cancel_left]
    rw [R_more, ← e]
    exact h2

/-- a record of what is told -/
theorem tolM_R (o m : Ms) (age : Int) (i : Nat) : (tolM o m age).R i = if m.lv i then { m.R i with tt := wrap64 ((m.R i).tt - age) } else m.R i := by
  by_cases h1 : i < m.an
  · have e : (tolM o m age).R i = agR age false (m.A i) := by
      show (if i < m.an then agR age false (m.A i) else _) = _
      rw [if_pos h1]
    have e2 : m.R i = m.A i := by unfold Ms.R; rw [if_pos h1]
    rw [e, e2, if_pos (lv_low (by omega))]
    rfl
  · by_cases h2 : i < m.an + m.un
    · have e : (tolM o m age).R i = agR age false (m.U (i - m.an)) := by
        show (if i < m.an then agR age false (m.A i) else if i < m.an + m.un then agR age false (m.U (i - m.an)) else _) = _
        rw [if_neg h1, if_pos h2]
      have e2 : m.R i = m.U (i - m.an) := by unfold Ms.R; rw [if_neg h1, if_pos h2]
      rw [e, e2, if_pos (lv_low h2)]
      rfl
    · have e : (tolM o m age).R i = agR age true (m.M (i - (m.an + m.un))) := by
        show (if i < m.an then agR age false (m.A i) else if i < m.an + m.un then agR age false (m.U (i - m.an)) else agR age true (m.M (i - (m.an + m.un)))) = _
        rw [if_neg h1, if_neg h2]
      have e2 : m.R i = m.M (i - (m.an + m.un)) := by unfold Ms.R; rw [if_neg h1, if_neg h2]
      rw [e, e2]
      unfold agR
      by_cases h3 : (m.M (i - (m.an + m.un))).ty = 41
      · have hl : ¬ m.lv i := by unfold Ms.lv; rw [e2]; omega
        rw [if_pos ⟨rfl, h3⟩, if_neg hl]
      · have hl : m.lv i := .inr (by rw [e2]; exact h3)
        rw [if_neg (fun h => h3 h.2), if_pos hl]

theorem tolM_lv (o m : Ms) (age : Int) (i : Nat) : (tolM o m age).lv i ↔ m.lv i := by
  unfold Ms.lv
  rw [tolM_R]
  show (i < m.an + m.un ∨ _) ↔ (i < m.an + m.un ∨ _)
  split <;> exact Iff.rfl

/-- told twice: what is told again -/
theorem tolM_twice (q o m : Ms) (age : Int) (i : Nat) (h0 : 0 ≤ (m.R i).tt ∧ (m.R i).tt ≤ 4294967295) : (tolM o (tolM q m 0) age).R i = if m.lv i then { m.R i with tt := wrap64 ((m.R i).tt - age) } else m.R i := by
  rw [tolM_R]
  by_cases h : m.lv i
  · rw [if_pos ((tolM_lv q m 0 i).2 h), if_pos h, tolM_R, if_pos h]
    have e : wrap64 ((m.R i).tt - 0) = (m.R i).tt := by unfold wrap64; omega
    simp only [e]
  · rw [if_neg (fun hh => h ((tolM_lv q m 0 i).1 hh)), if_neg h, tolM_R, if_neg h]

theorem rsEq_refl (x : Rs) : rsEq x x = true := (rsEq_iff x x).2 ⟨⟨rfl, fun _ _ => rfl⟩, ⟨rfl, fun _ _ => rfl⟩, rfl, rfl, rfl⟩

end Go.Proofs.YtkdmkpdooiacaaaDoor
