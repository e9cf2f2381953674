/- What the texts below need: Put, Get, RoomMs, RoomSt. -/
import Derived.Test.YtcfdlilhhfaaaaaZbase4
import Derived.Test.YtcfdlilhhfaaaaaZKeyOk
import Derived.Test.YtcfdlilhhfaaaaaZbase1
import Derived.Test.YtcfdlilhhfaaaaaZLifeW
import Derived.Test.YtcfdlilhhfaaaaaZToldW
import Derived.Test.YtcfdlilhhfaaaaaZbase2
namespace Go.Proofs.Ytcfdlilhhfaaaaa
open Go.RowKit

/-- what Key leaves -/
def KeyGood (w w' : World) (m : Ms) (dob : Bool) (z : Int) (e : Ending) : Prop :=
  ((keyFault m z = 0 ∧ ∃ v', e = .returned (.tuple #[v', .nilIface]) ∧ OwnB w' w.heap.size v' (keyL (m.Q 0) m.h.rd dob)) ∨ (keyFault m z ≠ 0 ∧ e = .returned (.tuple #[.slice none 0 0, .iface 50 (.int .i64 (keyFault m z))]))) ∧ Fr [] w w'

theorem key_any (w : World) (B : HB) (m : Ms) (vq va vu vm : Value) (dob : Bool) (z : Int) (hm : MsOk B w m vq va vu vm) (hfs : FindSays m vq va vu vm dob z w) :
    Calls Try.prog 8 #[msgV m.h vq va vu vm] w fun e w' => KeyGood w w' m dob z e := by
  have hk : keyFault m z = if m.qn ≠ 1 then 9 else if nmFault (m.Q 0).nl (m.Q 0).nm ≠ 0 then nmFault (m.Q 0).nl (m.Q 0).nm else if ¬ (m.Q 0).ok then 6 else z := rfl
  by_cases h1 : m.qn = 1
  · rw [if_neg (by simp [h1])] at hk
    by_cases h2 : nmFault (m.Q 0).nl (m.Q 0).nm = 0
    · rw [if_neg (by simp [h2])] at hk
      by_cases h3 : (m.Q 0).ok
      · rw [if_neg (by simp [h3])] at hk
        by_cases h4 : z = 0
        · subst h4
          exact (key_ok w B m vq va vu vm dob hm h1 h2 h3 hfs).mono fun e w' ⟨v', he, ho, hf⟩ => ⟨.inl ⟨hk, v', he, ho⟩, hf⟩
        · exact (key_opt w B m vq va vu vm dob z hm h1 h2 h3 hfs h4).mono fun e w' ⟨he, hf⟩ => ⟨.inr ⟨by rw [hk]; exact h4, by rw [hk]; exact he⟩, hf⟩
      · rw [if_pos h3] at hk
        exact (key_range w B m vq va vu vm hm h1 h2 h3).mono fun e w' ⟨he, hf⟩ => ⟨.inr ⟨by rw [hk]; decide, by rw [hk]; exact he⟩, hf⟩
    · rw [if_pos h2] at hk
      exact (key_name w B m vq va vu vm hm h1 h2).mono fun e w' ⟨he, hf⟩ => ⟨.inr ⟨by rw [hk]; exact h2, by rw [hk]; exact he⟩, hf⟩
  · rw [if_pos h1] at hk
    exact (key_none w B m vq va vu vm hm h1).mono fun e w' ⟨he, hf⟩ => ⟨.inr ⟨by rw [hk]; decide, by rw [hk]; exact he⟩, hf⟩

/-- what is wrong with what is put -/
def putZ (q a : Ms) (z now : Int) : Int :=
  if keyFault q z ≠ 0 then keyFault q z else if (a.h.an && alikeF q a) = false then 1 else if now < 0 then 6 else lifeZ a

/-- the entry that is laid -/
def putE (q a : Ms) (dob : Bool) (now : Int) : En := ⟨keyL (q.Q 0) q.h.rd dob, tolM q a 0, now, lifeV a⟩

theorem lifeV_bd (a : Ms) : -9223372036854775808 ≤ lifeV a ∧ lifeV a ≤ 9223372036854775807 ∨ True := .inr trivial

theorem FindSays.fr {m : Ms} {vq va vu vm : Value} {dob : Bool} {z : Int} {w w' : World} (h : FindSays m vq va vu vm dob z w) (hf : Fr [] w w') : FindSays m vq va vu vm dob z w' := fun wx hx => h wx (hf.trans hx (by simp))

end Go.Proofs.Ytcfdlilhhfaaaaa

namespace Go.Proofs.Ytcfdlilhhfaaaaa
open Go.RowKit

theorem new_bad (w : World) (n : Int) (h : n < 1 ∨ 64 < n) : Calls Try.prog 7 #[.int .i64 n] w fun e w' => e = .returned (.tuple #[.pointer none, .iface 50 (.int .i64 6)]) ∧ w = w' := by
  go_enter Try.func7, Try.ntmps7
  rcases h with h | h
  · go_wp2
    go_ret2
    exact ⟨rfl, rfl⟩
  · have h2 : ¬ n < 1 := by omega
    go_wp2
    go_ret2
    exact ⟨rfl, rfl⟩

theorem new_ok (w : World) (n : Int) (h : 1 ≤ n ∧ n ≤ 64) : Calls Try.prog 7 #[.int .i64 n] w fun e w' => e = .returned (.tuple #[.pointer (some ⟨w.heap.size, 0, none⟩), .nilIface]) ∧ Ca ⟨w.heap.size, []⟩ w' w.heap.size n (.slice none 0 0) [] ∧ Fr [] w w' := by
  obtain ⟨h1, h2⟩ := h
  have HC := Lib.hid (show Ca ⟨w.heap.size, []⟩ (w.alloc (.cells #[.slice none 0 0, .int .i64 n] 67)) w.heap.size n (.slice none 0 0) [] from
    ⟨heap_alloc_new w _, Nat.le_refl _, ⟨fun _ _ => .bool false, .inl ⟨rfl, rfl⟩, fun i hi => by simp at hi⟩, by simp; omega, h1, h2⟩)
  go_enter Try.func7, Try.ntmps7
  go_wp2
  go_ret2
  exact ⟨rfl, HC.out, (Fr.refl [] w).alloc _⟩

theorem get_congr {l : List En} {a b : Nat} (h : a = b) (ha : a < l.length) (hb : b < l.length) : l[a] = l[b] := by subst h; rfl

/-- nothing -/
def zHd : Hd := ⟨0, false, 0, false, false, false, false, false, false, false, 0⟩
def zMsg : Value := .agg #[.int .i64 0, .bool false, .int .i64 0, .bool false, .bool false, .bool false, .bool false, .bool false, .bool false, .bool false, .int .i64 0, .slice none 0 0, .slice none 0 0, .slice none 0 0, .slice none 0 0]

/-- does the entry answer now? -/
def fresh (now : Int) (e : En) : Bool := !(decide (now < e.at_) || decide (e.life ≤ now - e.at_))

/-- what Get leaves -/
def GetGood (w w' : World) (B : HB) (p : Nat) (n : Int) (v : Value) (l : List En) (q : Ms) (dob : Bool) (z now : Int) (e : Ending) : Prop :=
  (keyFault q z ≠ 0 ∧ e = .returned (.tuple #[zMsg, .bool false, .iface 50 (.int .i64 (keyFault q z))]) ∧ Fr [] w w') ∨
  (keyFault q z = 0 ∧ (∀ (h : fIx (keyL (q.Q 0) q.h.rd dob) l < l.length), fresh now (l[fIx (keyL (q.Q 0) q.h.rd dob) l]) = false) ∧ e = .returned (.tuple #[zMsg, .bool false, .nilIface]) ∧ Fr [] w w') ∨
  (keyFault q z = 0 ∧ ∃ (h : fIx (keyL (q.Q 0) q.h.rd dob) l < l.length), fresh now (l[fIx (keyL (q.Q 0) q.h.rd dob) l]) = true ∧
    ∃ vq va vu vm, e = .returned (.tuple #[msgV (tolM q (l[fIx (keyL (q.Q 0) q.h.rd dob) l]).m (now - (l[fIx (keyL (q.Q 0) q.h.rd dob) l]).at_)).h vq va vu vm, .bool true, .nilIface]) ∧
      MsOk B w' (tolM q (l[fIx (keyL (q.Q 0) q.h.rd dob) l]).m (now - (l[fIx (keyL (q.Q 0) q.h.rd dob) l]).at_)) vq va vu vm ∧ ∃ v', Ca B w' p n v' (frL (l[fIx (keyL (q.Q 0) q.h.rd dob) l]) n l) ∧ FrH B w w')

theorem en_msg {w : World} {p : Nat} {T : TypeId} {e : En} {q a u m : Value} (hb : w.heap[p]? = some (.cells (enCs e q a u m) T (0, 0))) :
    w.cell? ⟨p, 1, none⟩ = some (.int .i64 e.m.h.id) ∧ w.cell? ⟨p, 2, none⟩ = some (.bool e.m.h.an) ∧ w.cell? ⟨p, 3, none⟩ = some (.int .i64 e.m.h.op) ∧ w.cell? ⟨p, 4, none⟩ = some (.bool e.m.h.aa) ∧ w.cell? ⟨p, 5, none⟩ = some (.bool e.m.h.tc) ∧
    w.cell? ⟨p, 6, none⟩ = some (.bool e.m.h.rd) ∧ w.cell? ⟨p, 7, none⟩ = some (.bool e.m.h.ra) ∧ w.cell? ⟨p, 8, none⟩ = some (.bool e.m.h.z) ∧ w.cell? ⟨p, 9, none⟩ = some (.bool e.m.h.ad) ∧ w.cell? ⟨p, 10, none⟩ = some (.bool e.m.h.cd) ∧
    w.cell? ⟨p, 11, none⟩ = some (.int .i64 e.m.h.code) ∧ w.cell? ⟨p, 12, none⟩ = some q ∧ w.cell? ⟨p, 13, none⟩ = some a ∧ w.cell? ⟨p, 14, none⟩ = some u ∧ w.cell? ⟨p, 15, none⟩ = some m ∧ w.cell? ⟨p, 16, none⟩ = some (.int .i64 e.at_) :=
  ⟨blk_cell hb 1 rfl, blk_cell hb 2 rfl, blk_cell hb 3 rfl, blk_cell hb 4 rfl, blk_cell hb 5 rfl, blk_cell hb 6 rfl, blk_cell hb 7 rfl, blk_cell hb 8 rfl, blk_cell hb 9 rfl, blk_cell hb 10 rfl, blk_cell hb 11 rfl, blk_cell hb 12 rfl, blk_cell hb 13 rfl, blk_cell hb 14 rfl, blk_cell hb 15 rfl, blk_cell hb 16 rfl⟩

end Go.Proofs.Ytcfdlilhhfaaaaa

namespace Go.Proofs.Ytcfdlilhhfaaaaa
open Go.RowKit

theorem bd_one : -9223372036854775808 ≤ (1 : Int) ∧ (1 : Int) ≤ 9223372036854775807 := by decide
theorem bd_zero : -9223372036854775808 ≤ (0 : Int) ∧ (0 : Int) ≤ 9223372036854775807 := by decide

def zRs : Rs := ⟨0, fun _ => ⟨#[]⟩, 0, 0, 0, 0, fun _ => 0⟩
/-- the question -/
def qM (nl : Nat) (nm : Nat → ByteArray) : Ms := ⟨zHd, 1, fun _ => ⟨nl, nm, 1, 1⟩, 0, fun _ => zRs, 0, fun _ => zRs, 0, fun _ => zRs⟩
/-- its answer -/
def aM (nl : Nat) (nm : Nat → ByteArray) (t : Int) : Ms := ⟨{ zHd with an := true }, 1, fun _ => ⟨nl, nm, 1, 1⟩, 1, fun _ => ⟨nl, nm, 1, 1, t, 0, fun _ => 0⟩, 0, fun _ => zRs, 0, fun _ => zRs⟩

theorem rdc_three {w : World} {g : Nat} {E : TypeId} {x0 x1 x2 : Value} (hn : w.heap[g]? = some (.cells #[x0, x1, x2] E (0, 0))) (F : Nat → Nat → Value) (h0 : F 0 0 = x0) (h1 : F 0 1 = x1) (h2 : F 0 2 = x2) :
    RdC w (.slice (some ⟨g, 0, none⟩) 1 1) 3 1 F := by
  refine .inr ⟨_, 1, rfl, Nat.le_refl _, by decide, fun j hj => ?_⟩
  rw [addr_lit_add, Nat.zero_add]
  match j, hj with
  | 0, _ => exact (blk_cell hn 0 rfl).trans (congrArg some h0.symm)
  | 1, _ => exact (blk_cell hn 1 rfl).trans (congrArg some h1.symm)
  | 2, _ => exact (blk_cell hn 2 rfl).trans (congrArg some h2.symm)

theorem rdc_five' {w : World} {g : Nat} {E : TypeId} {x0 x1 x2 x3 x4 : Value} (hn : w.heap[g]? = some (.cells #[x0, x1, x2, x3, x4] E (0, 0))) (F : Nat → Nat → Value) (h0 : F 0 0 = x0) (h1 : F 0 1 = x1) (h2 : F 0 2 = x2) (h3 : F 0 3 = x3) (h4 : F 0 4 = x4) :
    RdC w (.slice (some ⟨g, 0, none⟩) 1 1) 5 1 F := by
  refine .inr ⟨_, 1, rfl, Nat.le_refl _, by decide, fun j hj => ?_⟩
  rw [addr_lit_add, Nat.zero_add]
  match j, hj with
  | 0, _ => exact (blk_cell hn 0 rfl).trans (congrArg some h0.symm)
  | 1, _ => exact (blk_cell hn 1 rfl).trans (congrArg some h1.symm)
  | 2, _ => exact (blk_cell hn 2 rfl).trans (congrArg some h2.symm)
  | 3, _ => exact (blk_cell hn 3 rfl).trans (congrArg some h3.symm)
  | 4, _ => exact (blk_cell hn 4 rfl).trans (congrArg some h4.symm)

theorem Sec.none (B : HB) (w : World) (R : Nat → Rs) : Sec B w (.slice none 0 0) 0 R (fun _ _ => .bool false) :=
  ⟨.inl ⟨rfl, rfl⟩, Cold.nil _ _, fun i hi => by omega, fun i hi => by omega, by decide⟩

/-- a name's rows, that no cache writes -/
structure NmAt (B : HB) (w : World) (na : Option Addr) (nl nc : Nat) (nm : Nat → ByteArray) : Prop where
  rd : RdF w (.slice na nl nc) nl (fun j => .string (nm j))
  cd : Cold B w (.slice na nl nc)
  ss : ∀ j, j < nl → (nm j).size ≤ 140737488355328
  nb : nl * 16 ≤ 140737488355328

theorem NmAt.frH {B : HB} {w w' : World} {na : Option Addr} {nl nc : Nat} {nm : Nat → ByteArray} (h : NmAt B w na nl nc nm) (hf : FrH B w w') : NmAt B w' na nl nc nm :=
  ⟨h.rd.frH h.cd hf, h.cd.frH hf, h.ss, h.nb⟩

theorem qs_ok {B : HB} {w : World} {g nl nc : Nat} {na : Option Addr} {nm : Nat → ByteArray} (hg : w.heap[g]? = some (.cells #[.slice na nl nc, .int .i64 1, .int .i64 1] 48 (0, 0))) (hS : g ∉ B.s) (hn : NmAt B w na nl nc nm) :
    QSec B w (.slice (some ⟨g, 0, none⟩) 1 1) 1 (fun _ => ⟨nl, nm, 1, 1⟩) (fun _ => Qs.F ⟨nl, nm, 1, 1⟩ na nc) :=
  ⟨rdc_three hg _ rfl rfl rfl, cold_row hg (by decide) _ hS _ _, fun i _ => ⟨na, nc, fun c _ => rfl, hn.rd, hn.cd⟩,
    fun i _ => ⟨bd_one, bd_one, hn.ss, hn.nb⟩, by decide⟩

theorem qM_ok {B : HB} {w : World} {g nl nc : Nat} {na : Option Addr} {nm : Nat → ByteArray} (hg : w.heap[g]? = some (.cells #[.slice na nl nc, .int .i64 1, .int .i64 1] 48 (0, 0))) (hS : g ∉ B.s) (hn : NmAt B w na nl nc nm) :
    MsOk B w (qM nl nm) (.slice (some ⟨g, 0, none⟩) 1 1) (.slice none 0 0) (.slice none 0 0) (.slice none 0 0) :=
  ⟨⟨_, qs_ok hg hS hn⟩, ⟨_, Sec.none _ _ _⟩, ⟨_, Sec.none _ _ _⟩, ⟨_, Sec.none _ _ _⟩, ⟨bd_zero, bd_zero, bd_zero⟩⟩

theorem rs_ok {B : HB} {w : World} {g nl nc : Nat} {na : Option Addr} {nm : Nat → ByteArray} {t : Int} (hg : w.heap[g]? = some (.cells #[.slice na nl nc, .int .i64 1, .int .i64 1, .int .i64 t, .slice none 0 0] 44 (0, 0))) (hS : g ∉ B.s) (hn : NmAt B w na nl nc nm) (ht : 0 < t ∧ t ≤ 4294967295) :
    Sec B w (.slice (some ⟨g, 0, none⟩) 1 1) 1 (fun _ => ⟨nl, nm, 1, 1, t, 0, fun _ => 0⟩) (fun _ => Rs.F ⟨nl, nm, 1, 1, t, 0, fun _ => 0⟩ na nc none 0) :=
  ⟨rdc_five' hg _ rfl rfl rfl rfl rfl, cold_row hg (by decide) _ hS _ _, fun i _ => ⟨na, nc, none, 0, fun c _ => rfl, hn.rd, .inl ⟨rfl, rfl⟩, hn.cd, Cold.nil _ _⟩,
    fun i _ => ⟨bd_one, bd_one, by show _ ≤ t ∧ t ≤ _; omega, fun j hj => absurd hj (Nat.not_lt_zero j), hn.ss, hn.nb, Nat.zero_le _⟩, by decide⟩

theorem aM_ok {B : HB} {w : World} {g g' nl nc nc' : Nat} {na na' : Option Addr} {nm : Nat → ByteArray} {t : Int} (hg : w.heap[g]? = some (.cells #[.slice na nl nc, .int .i64 1, .int .i64 1] 48 (0, 0))) (hS : g ∉ B.s)
    (hg' : w.heap[g']? = some (.cells #[.slice na' nl nc', .int .i64 1, .int .i64 1, .int .i64 t, .slice none 0 0] 44 (0, 0))) (hS' : g' ∉ B.s) (hn : NmAt B w na nl nc nm) (hn' : NmAt B w na' nl nc' nm) (ht : 0 < t ∧ t ≤ 4294967295) :
    MsOk B w (aM nl nm t) (.slice (some ⟨g, 0, none⟩) 1 1) (.slice (some ⟨g', 0, none⟩) 1 1) (.slice none 0 0) (.slice none 0 0) :=
  ⟨⟨_, qs_ok hg hS hn⟩, ⟨_, rs_ok hg' hS' hn' ht⟩, ⟨_, Sec.none _ _ _⟩, ⟨_, Sec.none _ _ _⟩, ⟨bd_zero, bd_zero, bd_zero⟩⟩

theorem qM_fault (nl : Nat) (nm : Nat → ByteArray) : keyFault (qM nl nm) 0 = nmFault nl nm := by
  unfold keyFault
  rw [if_neg (by show ¬ (1 : Nat) ≠ 1; decide)]
  show (if nmFault nl nm ≠ 0 then nmFault nl nm else _) = _
  split
  · rfl
  · rename_i h
    rw [if_neg (by show ¬ ¬ (0 ≤ (1 : Int) ∧ (1 : Int) ≤ 65535 ∧ 0 ≤ (1 : Int) ∧ (1 : Int) ≤ 65535); decide)]
    exact (Decidable.not_not.1 h).symm

theorem alkUpTo_refl (s : Nat → ByteArray) (n : Nat) : alkUpTo s s n = true := by
  induction n with
  | zero => rfl
  | succ n ih => simp only [alkUpTo, ih, alk, Bool.true_and, beq_self_eq_true, decide_true]

theorem alikeF_same (nl : Nat) (nm : Nat → ByteArray) (t : Int) : alikeF (qM nl nm) (aM nl nm t) = true := by
  show (decide ((1 : Nat) = 1) && (decide ((1 : Nat) = 1) && (decide ((1 : Int) = 1) && (decide ((1 : Int) = 1) && (decide (nl = nl) && alkUpTo nm nm nl))))) = true
  rw [alkUpTo_refl]
  simp

theorem aM_lifeZ (nl : Nat) (nm : Nat → ByteArray) (t : Int) (ht : 0 < t ∧ t ≤ 4294967295) : lifeZ (aM nl nm t) = 0 ∧ lifeV (aM nl nm t) = t := by
  have e1 : tbad (aM nl nm t).T2 ((aM nl nm t).N1 + (aM nl nm t).mn) = (false || (decide (t < 0) || decide (4294967295 < t))) := rfl
  have e2 : lmn (aM nl nm t).T1 (aM nl nm t).N1 = if (-1 : Int) < 0 ∨ t < -1 then t else -1 := rfl
  have e3 : tbad (aM nl nm t).T2 ((aM nl nm t).N1 + (aM nl nm t).mn) = false := by rw [e1]; simp; omega
  have e4 : lmn (aM nl nm t).T1 (aM nl nm t).N1 = t := by rw [e2, if_pos (.inl (by decide))]
  have hz : lifeZ (aM nl nm t) = 0 := by unfold lifeZ; rw [e3, e4, if_neg (by decide), if_neg (by omega)]
  exact ⟨hz, by unfold lifeV; rw [if_pos hz, e4]⟩

theorem putZ_same (nl : Nat) (nm : Nat → ByteArray) (t now : Int) (ht : 0 < t ∧ t ≤ 4294967295) (hn : 0 ≤ now) : putZ (qM nl nm) (aM nl nm t) 0 now = nmFault nl nm := by
  unfold putZ
  rw [qM_fault, alikeF_same, (aM_lifeZ nl nm t ht).1]
  have e : (aM nl nm t).h.an = true := rfl
  rw [e, if_neg (by decide : ¬ (true && true) = false), if_neg (by omega : ¬ now < 0)]
  split
  · rfl
  · rename_i h
    exact (Decidable.not_not.1 h).symm

theorem qM_find {w : World} {B : HB} {nl : Nat} {nm : Nat → ByteArray} {vq va vu vm : Value} (h : MsOk B w (qM nl nm) vq va vu vm) : FindSays (qM nl nm) vq va vu vm false 0 w :=
  find_none w B _ vq va vu vm h rfl

/-- the key of what is asked -/
theorem qM_key (nl : Nat) (nm : Nat → ByteArray) : keyL ((qM nl nm).Q 0) (qM nl nm).h.rd false = keyL ⟨nl, nm, 1, 1⟩ false false := rfl

end Go.Proofs.Ytcfdlilhhfaaaaa

namespace Go.Proofs.Ytcfdlilhhfaaaaa
open Go.RowKit

theorem FrH.join {A B : HB} {w w1 w2 : World} (h : FrH A w w1) (k : FrH B w1 w2) (hn : w.heap.size ≤ B.n) (hs : ∀ x ∈ B.s, w.heap.size ≤ x) : FrH A w w2 :=
  ⟨k.os.trans h.os, k.tape.trans h.tape, k.output.trans h.output, Nat.le_trans h.size k.size, fun i hi hh =>
    (k.block i (Nat.lt_of_lt_of_le hi h.size) (fun hh2 => by
      rcases hh2 with hh2 | hh2
      · have := hh2.1; omega
      · have := hs i hh2; omega)).trans (h.block i hi hh)⟩

theorem FrH.joinF {A : HB} {w w1 w2 : World} {S : List Nat} (h : FrH A w w1) (k : Fr S w1 w2) (hs : ∀ x ∈ S, w.heap.size ≤ x) : FrH A w w2 :=
  ⟨k.os.trans h.os, k.tape.trans h.tape, k.output.trans h.output, Nat.le_trans h.size k.size, fun i hi hh =>
    (k.block i (Nat.lt_of_lt_of_le hi h.size) (fun hm => by have := hs i hm; omega)).trans (h.block i hi hh)⟩

theorem OwnF.frH {w w' : World} {B0 : Nat} {E : TypeId} {v : Value} {n : Nat} {f : Nat → Value} {B : HB} (h : OwnF w B0 E v n f) (hE : hotT E = false) (hS : ∀ x ∈ v.ownBlock.toList, x ∉ B.s) (hf : FrH B w w') : OwnF w' B0 E v n f := by
  rcases h with h | ⟨g, cap, rfl, hg, hr⟩
  · exact .inl h
  · refine .inr ⟨g, cap, rfl, hg, ?_⟩
    obtain ⟨cur, h1, h2⟩ := hr
    refine ⟨cur, (hf.block g (lt_of_blk h1) (fun hh => ?_)).trans h1, h2⟩
    rcases hh with ⟨_, cs, T, z, e, ht⟩ | hh
    · rw [h1] at e
      simp only [Option.some.injEq, Obj.cells.injEq] at e
      obtain ⟨_, rfl, _⟩ := e
      rw [hE] at ht
      cases ht
    · exact hS g (by simp [Value.ownBlock]) hh

theorem EnAt.turn {B B' : HB} {w : World} {F : Nat → Value} {e : En} (hn : B'.n = B.n) (hs : ∀ x ∈ B'.s, x ∈ B.s ∨ w.heap.size ≤ x) (h : EnAt B w F e) : EnAt B' w F e := by
  obtain ⟨qa, aa, ua, ma, qc, ac, uc, mc, h1, h2, h3, h4⟩ := h
  exact ⟨qa, aa, ua, ma, qc, ac, uc, mc, h1, h2.turn hn hs, h3, h4⟩

theorem Ca.turn {B B' : HB} {w : World} {p : Nat} {n : Int} {v : Value} {l : List En} (h : Ca B w p n v l) (hn : B'.n = B.n) (hs : ∀ x ∈ B'.s, x ∈ B.s ∨ w.heap.size ≤ x) : Ca B' w p n v l :=
  ⟨h.blk, by show B'.n ≤ p; rw [hn]; exact h.pB, h.row.imp fun F x => ⟨by show OwnC w B'.n _ _ _ _ _; rw [hn]; exact x.ho, fun i hi => (x.at_ i hi).turn hn hs⟩, h.len, h.n0⟩

/-- the blocks that may be written besides are of one type of rows -/
theorem Ca.keptS {B : HB} {w w' : World} {p : Nat} {n : Int} {v : Value} {l : List En} {S : List Nat} {T : TypeId} (h : Ca B w p n v l) (hf : Fr S w w') (hS : ∀ x ∈ S, x ∈ B.s) (hT : ∀ x ∈ S, ∃ cs, w.heap[x]? = some (.cells cs T (0, 0))) (h1 : 67 ≠ T) (h2 : 81 ≠ T) : Ca B w' p n v l :=
  ⟨hf.blk h.blk (fun hm => by
      obtain ⟨cs, e⟩ := hT p hm
      rw [h.blk] at e
      simp only [Option.some.injEq, Obj.cells.injEq] at e
      exact h1 e.2.1), h.pB, h.row.imp fun F x => ⟨x.ho.kept hf (fun g hg hm => by
      obtain ⟨cs, e⟩ := hT g hm
      exact x.ho.ne_blk e h2 g hg (by simp)), fun i hi => (x.at_ i hi).frH (hf.hot B (fun x hx _ => .inr (hS x hx)))⟩, h.len, h.n0⟩

theorem OwnF.types {w : World} {B : Nat} {E : TypeId} {v : Value} {n : Nat} {f : Nat → Value} (h : OwnF w B E v n f) : ∀ x ∈ v.ownBlock.toList, ∃ cs, w.heap[x]? = some (.cells cs E (0, 0)) := fun x hx => by
  rcases h with ⟨rfl, _⟩ | ⟨g, cap, rfl, _, cur, h1, _⟩
  · simp [Value.ownBlock] at hx
  · simp only [Value.ownBlock, Option.toList, List.mem_singleton] at hx
    subst hx
    exact ⟨cur, h1⟩

/-- a string row of the caller's own grows by one; the cache stands -/
theorem Ca.grown {N : Nat} {w w3 : World} {p : Nat} {n : Int} {v va va' : Value} {l : List En} {o : Obj} {B0 k : Nat} {f : Nat → Value} (h : Ca ⟨N, va.ownBlock.toList⟩ w p n v l) (ho : OwnF w B0 9 va k f) (hf : Fr va.ownBlock.toList (w.alloc o) w3) (hn : SameOrNew (w.alloc o) va va') :
    Ca ⟨N, va'.ownBlock.toList⟩ w3 p n v l := by
  have h1 : Ca ⟨N, va.ownBlock.toList ++ va'.ownBlock.toList⟩ w p n v l := h.turn rfl (fun x hx => by
    rcases List.mem_append.1 hx with hx | hx
    · exact .inl hx
    · rcases hn x hx with h2 | h2
      · exact .inl h2
      · simp at h2
        exact .inr (by omega))
  have hf2 : Fr va.ownBlock.toList w w3 := ((Fr.refl _ w).alloc o).trans hf (fun x hx => .inl hx)
  exact (h1.keptS hf2 (fun x hx => List.mem_append_left _ hx) ho.types (by decide) (by decide)).turn rfl (fun x hx => .inl (List.mem_append_right _ hx))

/-- the key of a name of one label -/
def k1 (s : ByteArray) : List UInt8 := keyL ⟨1, fun _ => s, 1, 1⟩ false false

/-- what the first loop carries: k questions are answered -/
def RmA (w1 : World) (n : Int) (s : Nat → ByteArray) (now : Int) (k : Nat) (va : Value) (wr : World) : Prop :=
  ∃ (v : Value) (l : List En), Ca ⟨w1.heap.size, va.ownBlock.toList⟩ wr w1.heap.size n v l ∧ l.map En.key = (ddK (fun j => k1 (s j)) k).take n.toNat ∧ (∀ e ∈ l, e.at_ = now ∧ e.life = 1000) ∧
    OwnF wr w1.heap.size 9 va k (fun j => .string (s j)) ∧ (∀ j, j < k → nmFault 1 (fun _ => s j) = 0) ∧ FrH ⟨w1.heap.size, []⟩ w1 wr

/-- what the second loop carries: the last c names, each once -/
def RmB (w1 : World) (n : Int) (s : Nat → ByteArray) (m : Nat) (v : Value) (l : List En) (va : Value) (c : Nat) (vl : Value) (wr : World) : Prop :=
  c ≤ m ∧ Ca ⟨w1.heap.size, vl.ownBlock.toList⟩ wr w1.heap.size n v l ∧ OwnF wr w1.heap.size 9 va m (fun j => .string (s j)) ∧
    OwnF wr w1.heap.size 9 vl (lst (fun j => smB (s j)) m c).length (fun j => .string ((lst (fun j => smB (s j)) m c).getD j ⟨#[]⟩)) ∧ (∀ x ∈ vl.ownBlock.toList, x ∉ va.ownBlock.toList) ∧ FrH ⟨w1.heap.size, []⟩ w1 wr

/-- what the last loop carries -/
def RmC (w1 : World) (n : Int) (KS : List (List UInt8)) (now : Int) (L : List ByteArray) (vl : Value) (wr : World) : Prop :=
  ∃ (v : Value) (l : List En), Ca ⟨w1.heap.size, []⟩ wr w1.heap.size n v l ∧ (l.map En.key).Nodup ∧ (∀ x, x ∈ l.map En.key ↔ x ∈ KS) ∧ (∀ e ∈ l, e.at_ = now ∧ e.life = 1000) ∧
    OwnF wr w1.heap.size 9 vl L.length (fun j => .string (L.getD j ⟨#[]⟩)) ∧ FrH ⟨w1.heap.size, []⟩ w1 wr

theorem lowB_idem (b : UInt8) : lowB (lowB b) = lowB b := by
  unfold lowB
  split
  · rename_i h
    have : ¬ (65 ≤ (b + 32).toNat ∧ (b + 32).toNat ≤ 90) := by
      rw [UInt8.toNat_add]
      have : (32 : UInt8).toNat = 32 := rfl
      omega
    rw [if_neg this]
  · rfl

theorem smB_idem (s : ByteArray) : smB (smB s) = smB s := by
  show ByteArray.mk (List.toArray (List.map lowB (List.map lowB s.data.toList))) = ByteArray.mk (List.toArray (List.map lowB s.data.toList))
  rw [List.map_map]
  have e : (lowB ∘ lowB) = lowB := funext lowB_idem
  rw [e]

theorem k1_sm (s : ByteArray) : k1 (smB s) = k1 s := (key_inj (smB s) s).2 (smB_idem s)
theorem k1_inj {s t : ByteArray} : k1 s = k1 t ↔ smB s = smB t := key_inj s t

/-- the keys of the names that are told from the end -/
theorem keys_names (s : Nat → ByteArray) (m : Nat) : ddK (fun j => k1 (s j)) m = (ddk (fun j => smB (s j)) m).map k1 := by
  rw [ddK_eq]
  have h : ∀ k, (ddk (fun j => smB (s j)) k).map k1 = ddk (fun j => k1 (s j)) k ∧ ∀ x ∈ ddk (fun j => smB (s j)) k, smB x = x := by
    intro k
    induction k with
    | zero => exact ⟨rfl, fun x hx => by simp [ddk] at hx⟩
    | succ k ih =>
      refine ⟨?_, fun x hx => ?_⟩
      · simp only [ddk, List.map_cons]
        rw [← ih.1, List.filter_map, k1_sm]
        congr 1
        congr 1
        apply List.filter_congr
        intro x hx
        simp only [Function.comp]
        have hx2 := ih.2 x hx
        by_cases h : x = smB (s k)
        · subst h; simp [k1_sm]
        · have : k1 x ≠ k1 (s k) := fun e => h (by rw [← hx2]; exact k1_inj.1 e)
          simp [h, this]
      · simp only [ddk, List.mem_cons, List.mem_filter] at hx
        rcases hx with rfl | hx
        · exact smB_idem _
        · exact ih.2 x hx.1
  exact (h m).1.symm

/-- is the j-th of the names there? -/
theorem name_there (s : Nat → ByteArray) (m j : Nat) (n : Int) (hn : 1 ≤ n) (hj : j < (ddk (fun j => smB (s j)) m).length) :
    k1 ((ddk (fun j => smB (s j)) m).getD j ⟨#[]⟩) ∈ (ddK (fun j => k1 (s j)) m).take n.toNat ↔ (j : Int) < n := by
  have hnd := ddK_nodup (fun j => k1 (s j)) m
  have hk := keys_names s m
  have hj2 : j < (ddK (fun j => k1 (s j)) m).length := by rw [hk, List.length_map]; exact hj
  have e : k1 ((ddk (fun j => smB (s j)) m).getD j ⟨#[]⟩) = (ddK (fun j => k1 (s j)) m)[j] := by
    rw [List.getD_eq_getElem?_getD, List.getElem?_eq_getElem hj]
    simp only [hk, List.getElem_map, Option.getD_some]
  rw [e, take_place hnd hj2]
  omega

theorem ddk_sm (s : Nat → ByteArray) (m j : Nat) (hs : ∀ i, i < m → nmFault 1 (fun _ => s i) = 0) (hj : j < (ddk (fun j => smB (s j)) m).length) : nmFault 1 (fun _ => (ddk (fun j => smB (s j)) m).getD j ⟨#[]⟩) = 0 := by
  rw [← lst_all] at hj ⊢
  rw [List.getD_eq_getElem?_getD, List.getElem?_eq_getElem hj, Option.getD_some]
  obtain ⟨i, hi, e⟩ := lst_mem _ m m (Nat.le_refl _) _ (List.getElem_mem hj)
  rw [e]
  exact (nmFault_sm 1 (fun _ => s i)).trans (hs i hi)

end Go.Proofs.Ytcfdlilhhfaaaaa
