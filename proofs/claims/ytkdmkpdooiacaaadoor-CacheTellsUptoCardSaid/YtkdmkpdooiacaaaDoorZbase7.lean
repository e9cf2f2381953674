/- What the texts below need: Put, Get, RoomMs. -/
import Derived.Test.YtkdmkpdooiacaaaDoorZbase6
import Derived.Test.YtkdmkpdooiacaaaDoorZKeyAny
import Derived.Test.YtkdmkpdooiacaaaDoorZbase2
import Derived.Test.YtkdmkpdooiacaaaDoorZLifeW
import Derived.Test.YtkdmkpdooiacaaaDoorZToldW
import Derived.Test.YtkdmkpdooiacaaaDoorZbase3
namespace Go.Proofs.YtkdmkpdooiacaaaDoor
open Go.RowKit

/-- what is wrong with what is put -/
def putZ (q a : Ms) (z now : Int) : Int :=
  if keyFault q z ≠ 0 then keyFault q z else if (a.h.an && alikeF q a) = false then 1 else if now < 0 then 6 else lifeZ a

/-- the entry that is laid -/
def putE (q a : Ms) (dob : Bool) (now : Int) : En := ⟨keyL (q.Q 0) q.h.rd dob, tolM q a 0, now, lifeV a⟩

theorem lifeV_bd (a : Ms) : -9223372036854775808 ≤ lifeV a ∧ lifeV a ≤ 9223372036854775807 ∨ True := .inr trivial


end Go.Proofs.YtkdmkpdooiacaaaDoor

namespace Go.Proofs.YtkdmkpdooiacaaaDoor
open Go.RowKit

theorem new_bad (w : World) (n : Int) (h : n < 1 ∨ 64 < n) : Calls Tryd.prog 5 #[.int .i64 n] w fun e w' => e = .returned (.tuple #[.pointer none, .iface 25 (.int .i64 6)]) ∧ w = w' := by
  go_enter Tryd.func5, Tryd.ntmps5
  rcases h with h | h
  · go_wp2
    go_ret2
    exact ⟨rfl, rfl⟩
  · have h2 : ¬ n < 1 := by omega
    go_wp2
    go_ret2
    exact ⟨rfl, rfl⟩

theorem new_ok (w : World) (n : Int) (h : 1 ≤ n ∧ n ≤ 64) : Calls Tryd.prog 5 #[.int .i64 n] w fun e w' => e = .returned (.tuple #[.pointer (some ⟨w.heap.size, 0, none⟩), .nilIface]) ∧ Ca ⟨w.heap.size, []⟩ w' w.heap.size n (.slice none 0 0) [] ∧ Fr [] w w' := by
  obtain ⟨h1, h2⟩ := h
  have HC := Lib.hid (show Ca ⟨w.heap.size, []⟩ (w.alloc (.cells #[.slice none 0 0, .int .i64 n] 63)) w.heap.size n (.slice none 0 0) [] from
    ⟨heap_alloc_new w _, Nat.le_refl _, ⟨fun _ _ => .bool false, .inl ⟨rfl, rfl⟩, fun i hi => by simp at hi⟩, by simp; omega, h1, h2⟩)
  go_enter Tryd.func5, Tryd.ntmps5
  go_wp2
  go_ret2
  exact ⟨rfl, HC.out, (Fr.refl [] w).alloc _⟩

theorem get_congr {l : List En} {a b : Nat} (h : a = b) (ha : a < l.length) (hb : b < l.length) : l[a] = l[b] := by subst h; rfl

/-- nothing -/
def zHd : Hd := ⟨0, false, 0, false, false, false, false, false, false, false, 0⟩
def zMsg : Value := .agg #[.int .i64 0, .bool false, .int .i64 0, .bool false, .bool false, .bool false, .bool false, .bool false, .bool false, .bool false, .int .i64 0, .slice none 0 0, .slice none 0 0, .slice none 0 0, .slice none 0 0]

/-- does the entry answer now? -/
def fresh (now : Int) (e : En) : Bool := !(decide (now < e.at_) || decide (e.life ≤ now - e.at_))

/-- what Get leaves -/
def GetGood (w w' : World) (B : HB) (p : Nat) (n : Int) (v : Value) (l : List En) (q : Ms) (dob : Bool) (z now : Int) (e : Ending) : Prop :=
  (keyFault q z ≠ 0 ∧ e = .returned (.tuple #[zMsg, .bool false, .iface 25 (.int .i64 (keyFault q z))]) ∧ Fr [] w w') ∨
  (keyFault q z = 0 ∧ (∀ (h : fIx (keyL (q.Q 0) q.h.rd dob) l < l.length), fresh now (l[fIx (keyL (q.Q 0) q.h.rd dob) l]) = false) ∧ e = .returned (.tuple #[zMsg, .bool false, .nilIface]) ∧ Fr [] w w') ∨
  (keyFault q z = 0 ∧ ∃ (h : fIx (keyL (q.Q 0) q.h.rd dob) l < l.length), fresh now (l[fIx (keyL (q.Q 0) q.h.rd dob) l]) = true ∧
    ∃ vq va vu vm, e = .returned (.tuple #[msgV (tolM q (l[fIx (keyL (q.Q 0) q.h.rd dob) l]).m (now - (l[fIx (keyL (q.Q 0) q.h.rd dob) l]).at_)).h vq va vu vm, .bool true, .nilIface]) ∧
      MsOk B w' (tolM q (l[fIx (keyL (q.Q 0) q.h.rd dob) l]).m (now - (l[fIx (keyL (q.Q 0) q.h.rd dob) l]).at_)) vq va vu vm ∧ ∃ v', Ca B w' p n v' (frL (l[fIx (keyL (q.Q 0) q.h.rd dob) l]) n l) ∧ FrH B w w')

theorem en_msg {w : World} {p : Nat} {T : TypeId} {e : En} {q a u m : Value} (hb : w.heap[p]? = some (.cells (enCs e q a u m) T (0, 0))) :
    w.cell? ⟨p, 1, none⟩ = some (.int .i64 e.m.h.id) ∧ w.cell? ⟨p, 2, none⟩ = some (.bool e.m.h.an) ∧ w.cell? ⟨p, 3, none⟩ = some (.int .i64 e.m.h.op) ∧ w.cell? ⟨p, 4, none⟩ = some (.bool e.m.h.aa) ∧ w.cell? ⟨p, 5, none⟩ = some (.bool e.m.h.tc) ∧
    w.cell? ⟨p, 6, none⟩ = some (.bool e.m.h.rd) ∧ w.cell? ⟨p, 7, none⟩ = some (.bool e.m.h.ra) ∧ w.cell? ⟨p, 8, none⟩ = some (.bool e.m.h.z) ∧ w.cell? ⟨p, 9, none⟩ = some (.bool e.m.h.ad) ∧ w.cell? ⟨p, 10, none⟩ = some (.bool e.m.h.cd) ∧
    w.cell? ⟨p, 11, none⟩ = some (.int .i64 e.m.h.code) ∧ w.cell? ⟨p, 12, none⟩ = some q ∧ w.cell? ⟨p, 13, none⟩ = some a ∧ w.cell? ⟨p, 14, none⟩ = some u ∧ w.cell? ⟨p, 15, none⟩ = some m ∧ w.cell? ⟨p, 16, none⟩ = some (.int .i64 e.at_) :=
  ⟨blk_cell hb 1 rfl, blk_cell hb 2 rfl, blk_cell hb 3 rfl, blk_cell hb 4 rfl, blk_cell hb 5 rfl, blk_cell hb 6 rfl, blk_cell hb 7 rfl, blk_cell hb 8 rfl, blk_cell hb 9 rfl, blk_cell hb 10 rfl, blk_cell hb 11 rfl, blk_cell hb 12 rfl, blk_cell hb 13 rfl, blk_cell hb 14 rfl, blk_cell hb 15 rfl, blk_cell hb 16 rfl⟩

end Go.Proofs.YtkdmkpdooiacaaaDoor

namespace Go.Proofs.YtkdmkpdooiacaaaDoor
open Go.RowKit

theorem bd_one : -9223372036854775808 ≤ (1 : Int) ∧ (1 : Int) ≤ 9223372036854775807 := by decide
theorem bd_zero : -9223372036854775808 ≤ (0 : Int) ∧ (0 : Int) ≤ 9223372036854775807 := by decide

def zRs : Rs := ⟨0, fun _ => ⟨#[]⟩, 0, 0, 0, 0, fun _ => 0⟩
/-- the question -/
def qM (nl : Nat) (nm : Nat → ByteArray) : Ms := ⟨zHd, 1, fun _ => ⟨nl, nm, 1, 1⟩, 0, fun _ => zRs, 0, fun _ => zRs, 0, fun _ => zRs⟩
/-- its answer -/
def aM (nl : Nat) (nm : Nat → ByteArray) (t : Int) : Ms := ⟨{ zHd with an := true }, 1, fun _ => ⟨nl, nm, 1, 1⟩, 1, fun _ => ⟨nl, nm, 1, 1, t, 0, fun _ => 0⟩, 0, fun _ => zRs, 0, fun _ => zRs⟩

theorem rdc_three {w : World} {g : Nat} {E : TypeId} {x0 x1 x2 : Value} (hn : w.heap[g]? = some (.cells #[x0, x1, x2] E (0, 0))) (F : Nat → Nat → Value) (h0 : F 0 0 = x0) (h1 : F 0 1 = x1) (h2 : F 0 2 = x2) :
    RdC w (.slice (some ⟨g, 0, none⟩) 1 1) 3 1 F := by
  refine .inr ⟨_, 1, rfl, Nat.le_refl _, by decide, fun j hj => ?_⟩
  rw [addr_lit_add, Nat.zero_add]
  match j, hj with
  | 0, _ => exact (blk_cell hn 0 rfl).trans (congrArg some h0.symm)
  | 1, _ => exact (blk_cell hn 1 rfl).trans (congrArg some h1.symm)
  | 2, _ => exact (blk_cell hn 2 rfl).trans (congrArg some h2.symm)

theorem rdc_five' {w : World} {g : Nat} {E : TypeId} {x0 x1 x2 x3 x4 : Value} (hn : w.heap[g]? = some (.cells #[x0, x1, x2, x3, x4] E (0, 0))) (F : Nat → Nat → Value) (h0 : F 0 0 = x0) (h1 : F 0 1 = x1) (h2 : F 0 2 = x2) (h3 : F 0 3 = x3) (h4 : F 0 4 = x4) :
    RdC w (.slice (some ⟨g, 0, none⟩) 1 1) 5 1 F := by
  refine .inr ⟨_, 1, rfl, Nat.le_refl _, by decide, fun j hj => ?_⟩
  rw [addr_lit_add, Nat.zero_add]
  match j, hj with
  | 0, _ => exact (blk_cell hn 0 rfl).trans (congrArg some h0.symm)
  | 1, _ => exact (blk_cell hn 1 rfl).trans (congrArg some h1.symm)
  | 2, _ => exact (blk_cell hn 2 rfl).trans (congrArg some h2.symm)
  | 3, _ => exact (blk_cell hn 3 rfl).trans (congrArg some h3.symm)
  | 4, _ => exact (blk_cell hn 4 rfl).trans (congrArg some h4.symm)

theorem Sec.none (B : HB) (w : World) (R : Nat → Rs) : Sec B w (.slice none 0 0) 0 R (fun _ _ => .bool false) :=
  ⟨.inl ⟨rfl, rfl⟩, Cold.nil _ _, fun i hi => by omega, fun i hi => by omega, by decide⟩

/-- a name's rows, that no cache writes -/
structure NmAt (B : HB) (w : World) (na : Option Addr) (nl nc : Nat) (nm : Nat → ByteArray) : Prop where
  rd : RdF w (.slice na nl nc) nl (fun j => .string (nm j))
  cd : Cold B w (.slice na nl nc)
  ss : ∀ j, j < nl → (nm j).size ≤ 140737488355328
  nb : nl * 16 ≤ 140737488355328

theorem NmAt.frH {B : HB} {w w' : World} {na : Option Addr} {nl nc : Nat} {nm : Nat → ByteArray} (h : NmAt B w na nl nc nm) (hf : FrH B w w') : NmAt B w' na nl nc nm :=
  ⟨h.rd.frH h.cd hf, h.cd.frH hf, h.ss, h.nb⟩

theorem qs_ok {B : HB} {w : World} {g nl nc : Nat} {na : Option Addr} {nm : Nat → ByteArray} (hg : w.heap[g]? = some (.cells #[.slice na nl nc, .int .i64 1, .int .i64 1] 58 (0, 0))) (hS : g ∉ B.s) (hn : NmAt B w na nl nc nm) :
    QSec B w (.slice (some ⟨g, 0, none⟩) 1 1) 1 (fun _ => ⟨nl, nm, 1, 1⟩) (fun _ => Qs.F ⟨nl, nm, 1, 1⟩ na nc) :=
  ⟨rdc_three hg _ rfl rfl rfl, cold_row hg (by decide) _ hS _ _, fun i _ => ⟨na, nc, fun c _ => rfl, hn.rd, hn.cd⟩,
    fun i _ => ⟨bd_one, bd_one, hn.ss, hn.nb⟩, by decide⟩

theorem qM_ok {B : HB} {w : World} {g nl nc : Nat} {na : Option Addr} {nm : Nat → ByteArray} (hg : w.heap[g]? = some (.cells #[.slice na nl nc, .int .i64 1, .int .i64 1] 58 (0, 0))) (hS : g ∉ B.s) (hn : NmAt B w na nl nc nm) :
    MsOk B w (qM nl nm) (.slice (some ⟨g, 0, none⟩) 1 1) (.slice none 0 0) (.slice none 0 0) (.slice none 0 0) :=
  ⟨⟨_, qs_ok hg hS hn⟩, ⟨_, Sec.none _ _ _⟩, ⟨_, Sec.none _ _ _⟩, ⟨_, Sec.none _ _ _⟩, ⟨bd_zero, bd_zero, bd_zero⟩⟩

theorem rs_ok {B : HB} {w : World} {g nl nc : Nat} {na : Option Addr} {nm : Nat → ByteArray} {t : Int} (hg : w.heap[g]? = some (.cells #[.slice na nl nc, .int .i64 1, .int .i64 1, .int .i64 t, .slice none 0 0] 60 (0, 0))) (hS : g ∉ B.s) (hn : NmAt B w na nl nc nm) (ht : 0 < t ∧ t ≤ 4294967295) :
    Sec B w (.slice (some ⟨g, 0, none⟩) 1 1) 1 (fun _ => ⟨nl, nm, 1, 1, t, 0, fun _ => 0⟩) (fun _ => Rs.F ⟨nl, nm, 1, 1, t, 0, fun _ => 0⟩ na nc none 0) :=
  ⟨rdc_five' hg _ rfl rfl rfl rfl rfl, cold_row hg (by decide) _ hS _ _, fun i _ => ⟨na, nc, none, 0, fun c _ => rfl, hn.rd, .inl ⟨rfl, rfl⟩, hn.cd, Cold.nil _ _⟩,
    fun i _ => ⟨bd_one, bd_one, by show _ ≤ t ∧ t ≤ _; omega, fun j hj => absurd hj (Nat.not_lt_zero j), hn.ss, hn.nb, Nat.zero_le _⟩, by decide⟩

theorem aM_ok {B : HB} {w : World} {g g' nl nc nc' : Nat} {na na' : Option Addr} {nm : Nat → ByteArray} {t : Int} (hg : w.heap[g]? = some (.cells #[.slice na nl nc, .int .i64 1, .int .i64 1] 58 (0, 0))) (hS : g ∉ B.s)
    (hg' : w.heap[g']? = some (.cells #[.slice na' nl nc', .int .i64 1, .int .i64 1, .int .i64 t, .slice none 0 0] 60 (0, 0))) (hS' : g' ∉ B.s) (hn : NmAt B w na nl nc nm) (hn' : NmAt B w na' nl nc' nm) (ht : 0 < t ∧ t ≤ 4294967295) :
    MsOk B w (aM nl nm t) (.slice (some ⟨g, 0, none⟩) 1 1) (.slice (some ⟨g', 0, none⟩) 1 1) (.slice none 0 0) (.slice none 0 0) :=
  ⟨⟨_, qs_ok hg hS hn⟩, ⟨_, rs_ok hg' hS' hn' ht⟩, ⟨_, Sec.none _ _ _⟩, ⟨_, Sec.none _ _ _⟩, ⟨bd_zero, bd_zero, bd_zero⟩⟩

theorem qM_fault (nl : Nat) (nm : Nat → ByteArray) : keyFault (qM nl nm) 0 = nmFault nl nm := by
  unfold keyFault
  rw [if_neg (by show ¬ (1 : Nat) ≠ 1; decide)]
  show (if nmFault nl nm ≠ 0 then nmFault nl nm else _) = _
  split
  · rfl
  · rename_i h
    rw [if_neg (by show ¬ ¬ (0 ≤ (1 : Int) ∧ (1 : Int) ≤ 65535 ∧ 0 ≤ (1 : Int) ∧ (1 : Int) ≤ 65535); decide)]
    exact (Decidable.not_not.1 h).symm

theorem alkUpTo_refl (s : Nat → ByteArray) (n : Nat) : alkUpTo s s n = true := by
  induction n with
  | zero => rfl
  | succ n ih => simp only [alkUpTo, ih, alk, Bool.true_and, beq_self_eq_true, decide_true]

theorem alikeF_same (nl : Nat) (nm : Nat → ByteArray) (t : Int) : alikeF (qM nl nm) (aM nl nm t) = true := by
  show (decide ((1 : Nat) = 1) && (decide ((1 : Nat) = 1) && (decide ((1 : Int) = 1) && (decide ((1 : Int) = 1) && (decide (nl = nl) && alkUpTo nm nm nl))))) = true
  rw [alkUpTo_refl]
  simp

theorem aM_lifeZ (nl : Nat) (nm : Nat → ByteArray) (t : Int) (ht : 0 < t ∧ t ≤ 4294967295) : lifeZ (aM nl nm t) = 0 ∧ lifeV (aM nl nm t) = t := by
  have e1 : tbad (aM nl nm t).T2 ((aM nl nm t).N1 + (aM nl nm t).mn) = (false || (decide (t < 0) || decide (4294967295 < t))) := rfl
  have e2 : lmn (aM nl nm t).T1 (aM nl nm t).N1 = if (-1 : Int) < 0 ∨ t < -1 then t else -1 := rfl
  have e3 : tbad (aM nl nm t).T2 ((aM nl nm t).N1 + (aM nl nm t).mn) = false := by rw [e1]; simp; omega
  have e4 : lmn (aM nl nm t).T1 (aM nl nm t).N1 = t := by rw [e2, if_pos (.inl (by decide))]
  have hz : lifeZ (aM nl nm t) = 0 := by unfold lifeZ; rw [e3, e4, if_neg (by decide), if_neg (by omega)]
  exact ⟨hz, by unfold lifeV; rw [if_pos hz, e4]⟩

theorem putZ_same (nl : Nat) (nm : Nat → ByteArray) (t now : Int) (ht : 0 < t ∧ t ≤ 4294967295) (hn : 0 ≤ now) : putZ (qM nl nm) (aM nl nm t) 0 now = nmFault nl nm := by
  unfold putZ
  rw [qM_fault, alikeF_same, (aM_lifeZ nl nm t ht).1]
  have e : (aM nl nm t).h.an = true := rfl
  rw [e, if_neg (by decide : ¬ (true && true) = false), if_neg (by omega : ¬ now < 0)]
  split
  · rfl
  · rename_i h
    exact (Decidable.not_not.1 h).symm

theorem qM_find {w : World} {B : HB} {nl : Nat} {nm : Nat → ByteArray} {vq va vu vm : Value} (h : MsOk B w (qM nl nm) vq va vu vm) : FindSays (qM nl nm) vq va vu vm false 0 w :=
  find_none w B _ vq va vu vm h rfl

/-- the key of what is asked -/
theorem qM_key (nl : Nat) (nm : Nat → ByteArray) : keyL ((qM nl nm).Q 0) (qM nl nm).h.rd false = keyL ⟨nl, nm, 1, 1⟩ false false := rfl

end Go.Proofs.YtkdmkpdooiacaaaDoor
