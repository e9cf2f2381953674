/- DrrTells: the reference's lines in memory; SharesFault, LinesOf, Waiting, PutFault, Waited. -/
import Derived.Test.YthopnlnknicgbaaDoorDrrEach
import Derived.Test.YthopnlnknicgbaaDoorOrderLaw
import Derived.BigQuiet
namespace Go.Proofs.YthopnlnknicgbaaDoor
open Go.RowKit

theorem infoRow : (Tryd.prog.info? 22).map (fun i => (i.zero, i.size, i.bytes)) = some (some (.slice none 0 0), 1, 24) := by kernel_rfl

/-- reads as f, and none of D's blocks is read -/
def RdD (w : World) (D : Nat → Prop) (v : Value) (n : Nat) (f : Nat → Value) : Prop :=
  RdF w v n f ∧ (0 < n → ∀ b o c, v = .slice (some ⟨b, o, none⟩) n c → ¬ D b)

section
variable {w w' : World} {D D' : Nat → Prop} {v : Value} {n : Nat} {f f' : Nat → Value}

theorem RdD.frp (h : RdD w D v n f) (k : FrP D w w') : RdD w' D v n f := by
  obtain ⟨S, h1, h2⟩ := k
  by_cases h0 : n = 0
  · subst h0; exact ⟨h.1.zero _ _, fun h => by omega⟩
  · exact ⟨h.1.fr h1 (fun b o c hv hm => h.2 (by omega) b o c hv (h2 b hm)), h.2⟩

theorem RdD.fr (h : RdD w D v n f) (k : Fr [] w w') : RdD w' D v n f := ⟨h.1.fr k (by simp), h.2⟩

theorem RdD.grow (h : RdD w D v n f) (hD : ∀ y, D' y → D y ∨ w.heap.size ≤ y) : RdD w D' v n f :=
  ⟨h.1, fun h0 b o c hv hb => by
    rcases hD b hb with h1 | h1
    · exact h.2 h0 b o c hv h1
    · obtain ⟨b', o', c', e, _, _, hlt, _⟩ := h.1.shape h0
      rw [e] at hv
      simp only [Value.slice.injEq, Option.some.injEq, Addr.mk.injEq] at hv
      omega⟩

theorem RdD.congr (h : RdD w D v n f) (he : ∀ j, j < n → f j = f' j) : RdD w D v n f' := ⟨h.1.congr he, h.2⟩

theorem RdD.new {B : Nat} {E : TypeId} (h : OwnF w B E v n f) (hD : ∀ y, D y → y < B) : RdD w D v n f :=
  ⟨h.rd, fun h0 b o c hv hb => by
    obtain ⟨g, cap, e, hg, _⟩ := h.row h0
    rw [e] at hv
    simp only [Value.slice.injEq, Option.some.injEq, Addr.mk.injEq] at hv
    have := hD b hb
    omega⟩
end

/-- the reference's lines -/
structure RL (w : World) (D : Nat → Prop) (cv lv : Value) (n : Nat) (s : Dst) (ln : Nat → Nat) (li : Nat → Nat → Int) : Prop where
  cr : RdD w D cv n (fun j => .int .i64 (s.cr j))
  row : ∃ V, RdD w D lv n V ∧ ∀ i, i < n → RdD w D (V i) (ln i) (fun j => .int .i64 (li i j))

section
variable {w w' : World} {D D' : Nat → Prop} {cv lv : Value} {n : Nat} {s s' : Dst} {ln ln' : Nat → Nat} {li li' : Nat → Nat → Int}

theorem RL.frp (h : RL w D cv lv n s ln li) (k : FrP D w w') : RL w' D cv lv n s ln li := by
  obtain ⟨h1, V, h2, h3⟩ := h
  exact ⟨h1.frp k, V, h2.frp k, fun i hi => (h3 i hi).frp k⟩

theorem RL.fr (h : RL w D cv lv n s ln li) (k : Fr [] w w') : RL w' D cv lv n s ln li := by
  obtain ⟨h1, V, h2, h3⟩ := h
  exact ⟨h1.fr k, V, h2.fr k, fun i hi => (h3 i hi).fr k⟩

theorem RL.grow (h : RL w D cv lv n s ln li) (hD : ∀ y, D' y → D y ∨ w.heap.size ≤ y) : RL w D' cv lv n s ln li := by
  obtain ⟨h1, V, h2, h3⟩ := h
  exact ⟨h1.grow hD, V, h2.grow hD, fun i hi => (h3 i hi).grow hD⟩

theorem RL.eqs (h : RL w D cv lv n s ln li) (hc : ∀ j, j < n → s'.cr j = s.cr j) (hl : ∀ j, j < n → ln' j = ln j ∧ ∀ k, k < ln j → li' j k = li j k) : RL w D cv lv n s' ln' li' := by
  obtain ⟨h1, V, h2, h3⟩ := h
  exact ⟨h1.congr (fun j hj => by rw [hc j hj]), V, h2, fun i hi => by
    rw [(hl i hi).1]
    exact (h3 i hi).congr (fun j hj => by rw [(hl i hi).2 j hj])⟩
end

theorem box5 {w : World} {p : Nat} {a b c d e : Value} {T : TypeId} (h : w.heap[p]? = some (.cells #[a, b, c, d, e] T (0, 0))) :
    w.cell? ⟨p, 0, none⟩ = some a ∧ w.cell? ⟨p, 1, none⟩ = some b ∧ w.cell? ⟨p, 2, none⟩ = some c ∧ w.cell? ⟨p, 3, none⟩ = some d ∧ w.cell? ⟨p, 4, none⟩ = some e :=
  ⟨blk_cell h 0 rfl, blk_cell h 1 rfl, blk_cell h 2 rfl, blk_cell h 3 rfl, blk_cell h 4 rfl⟩

set_option maxRecDepth 100000 in
set_option maxHeartbeats 2000000 in
theorem sharesFault_any (w : World) (a : Option Addr) (n c : Nat) (sh : Nat → Int) (hv : RdF w (.slice a n c) n (fun j => .int .i64 (sh j))) :
    Calls Tryd.prog 23 #[.slice a n c] w fun e w' => e = .returned (.int .i64 (shfault n sh)) ∧ w' = w := by
  have hcm := hv.le_cap
  unfold maxLen at hcm
  have HV := Lib.hid hv; clear hv
  by_cases h0 : n = 0
  · subst h0
    go_enter Tryd.func23, Tryd.ntmps23
    go_wp2
    go_ret
    exact ⟨by simp [shfault], rfl⟩
  have hne : ((n : Int) == 0) = false := by simp; omega
  by_cases h1 : 40 < n
  · have e : shfault n sh = 7 := by unfold shfault; rw [if_neg h0, if_pos h1]
    have E := Lib.hid e; clear e
    go_enter Tryd.func23, Tryd.ntmps23
    go_wp2
    go_ret
    exact ⟨by rw [E.out]; rfl, rfl⟩
  go_enter Tryd.func23, Tryd.ntmps23
  go_wp2
  go_loopw [3] (fun i wr => ∃ k : Nat, k ≤ n ∧ i = .int .i64 k ∧ Hid (∀ j, j < k → 1 ≤ sh j ∧ sh j ≤ 10000) ∧ wr = w) (fun i _ => n - (intOf i).toNat)
  case atStart => exact ⟨0, by omega, rfl, Lib.hid (fun j hj => by omega), rfl⟩
  case round =>
    obtain ⟨k, hk, rfl, HG, rfl⟩ := hrel
    by_cases hlt : k < n
    · obtain ⟨b1, o1, c1, he1, _, _, _, hc1⟩ := HV.out.shape (by omega)
      simp only [Value.slice.injEq, true_and] at he1
      obtain ⟨rfl, rfl⟩ := he1
      have k1 := hc1 k hlt
      clear hc1
      have k0 : (0 : Int) ≤ (k : Int) := by omega
      have k3 : (k : Int) < (n : Int) := by omega
      by_cases hg : 1 ≤ sh k ∧ sh k ≤ 10000
      · have HG2 := Lib.hid (show ∀ j, j < k + 1 → 1 ≤ sh j ∧ sh j ≤ 10000 from fun j hj => by
          by_cases hjk : j < k
          · exact HG.out j hjk
          · obtain rfl : j = k := by omega
            exact hg)
        go_wp2
        go_roundw
        case rel => exact ⟨k + 1, by omega, by go_num, HG2, by trivial⟩
        case measure => simp [intOf]; omega
      · have e : shfault n sh = 6 := by unfold shfault; rw [if_neg h0, if_neg h1, if_neg (fun hx => hg (hx k hlt))]
        have E := Lib.hid e; clear e
        have hgg : sh k < 1 ∨ (1 ≤ sh k ∧ 10000 < sh k) := by omega
        clear hg
        rcases hgg with hg1 | ⟨hg1, hg2⟩
        all_goals
          go_wp2
          go_ret
          exact ⟨by rw [E.out]; rfl, rfl⟩
    · obtain rfl : k = n := by omega
      have e : shfault k sh = 0 := by unfold shfault; rw [if_neg h0, if_neg h1, if_pos HG.out]
      have E := Lib.hid e; clear e
      go_wp2
      go_ret
      exact ⟨by rw [E.out]; rfl, rfl⟩

theorem nsum_mono (f : Nat → Nat) {m n : Nat} (h : m ≤ n) : nsum f m ≤ nsum f n := by
  induction n with
  | zero => rw [show m = 0 by omega]; exact Nat.le_refl _
  | succ n ih =>
    by_cases he : m = n + 1
    · rw [he]; exact Nat.le_refl _
    · have := ih (by omega); simp only [nsum]; omega

set_option maxRecDepth 100000 in
set_option maxHeartbeats 2000000 in
theorem waiting_any (w : World) (sv cv av hv : Value) (a : Option Addr) (n c : Nat) (V : Nat → Value) (ln : Nat → Nat) (hr : RdF w (.slice a n c) n V) (hV : ∀ i, i < n → ∃ a c, V i = .slice a (ln i) c) (hb : nsum ln n ≤ 1000000) (hn : n ≤ 1000000) :
    Calls Tryd.prog 50 #[.agg #[sv, cv, .slice a n c, av, hv]] w fun e w' => e = .returned (.int .i64 (nsum ln n : Nat)) ∧ Fr [] w w' := by
  have HR := Lib.hid hr; clear hr
  have HV := Lib.hid hV; clear hV
  have HF0 := Lib.hid ((Fr.refl [] w).alloc (.cells #[sv, cv, .slice a n c, av, hv] 50))
  have hb0 := heap_alloc_new w (.cells #[sv, cv, .slice a n c, av, hv] 50)
  have c2 : (w.alloc (.cells #[sv, cv, .slice a n c, av, hv] 50)).cell? ⟨w.heap.size, 2, none⟩ = some (.slice a n c) := blk_cell hb0 2 rfl
  clear hb0
  go_enter Tryd.func50, Tryd.ntmps50
  go_wp2
  generalize w.alloc (.cells #[sv, cv, .slice a n c, av, hv] 50) = w1 at *
  generalize w.heap.size = p at *
  have C2 := Lib.hid c2; clear c2
  go_loopw [3, 4] (fun s i wr => ∃ k : Nat, k ≤ n ∧ i = .int .i64 k ∧ s = .int .i64 (nsum ln k : Nat) ∧ wr = w1) (fun _ i _ => n - (intOf i).toNat)
  case atStart => exact ⟨0, by omega, rfl, rfl, rfl⟩
  case round =>
    obtain ⟨k, hk, rfl, rfl, rfl⟩ := hrel
    have c2 := C2.out
    by_cases hlt : k < n
    · obtain ⟨b1, o1, c1, he1, _, _, _, hc1⟩ := HR.out.shape (by omega)
      simp only [Value.slice.injEq, true_and] at he1
      obtain ⟨rfl, rfl⟩ := he1
      have k1 := HF0.out.cell (hc1 k hlt) (by simp)
      obtain ⟨ak, ck, hak⟩ := HV.out k hlt
      rw [hak] at k1
      clear hc1 hak
      have k0 : (0 : Int) ≤ (k : Int) := by omega
      have k3 : (k : Int) < (n : Int) := by omega
      have hs : nsum ln (k + 1) = nsum ln k + ln k := rfl
      have hle := nsum_le ln n k hlt
      have hle2 : nsum ln k ≤ 1000000 := by
        have := nsum_mono ln hk
        omega
      have HS := Lib.hid hs; clear hs
      go_wp2
      go_roundw
      case rel => exact ⟨k + 1, by omega, by go_num, by rw [HS.out]; go_num, by trivial⟩
      case measure => simp [intOf]; omega
    · obtain rfl : k = n := by omega
      go_wp2
      go_ret
      exact ⟨rfl, HF0.out⟩

set_option maxRecDepth 100000 in
set_option maxHeartbeats 2000000 in
theorem putFault_any (w : World) (cv av hv : Value) (sa : Option Addr) (sc : Nat) (a : Option Addr) (n c : Nat) (V : Nat → Value) (ln : Nat → Nat) (hr : RdF w (.slice a n c) n V) (hV : ∀ i, i < n → ∃ a c, V i = .slice a (ln i) c) (hb : nsum ln n < 1000) (hn : n ≤ 1000000) (at_ size : Int) (z : Int)
    (hz : (DRange n at_ size ∧ z = 0) ∨ (¬ DRange n at_ size ∧ z = 6)) :
    Calls Tryd.prog 26 #[.agg #[.slice sa n sc, cv, .slice a n c, av, hv], .int .i64 at_, .int .i64 size] w fun e w' => e = .returned (.int .i64 z) ∧ Fr [] w w' := by
  have HF0 := Lib.hid ((Fr.refl [] w).alloc (.cells #[.slice sa n sc, cv, .slice a n c, av, hv] 50))
  have hb0 := heap_alloc_new w (.cells #[.slice sa n sc, cv, .slice a n c, av, hv] 50)
  have c0 : (w.alloc (.cells #[.slice sa n sc, cv, .slice a n c, av, hv] 50)).cell? ⟨w.heap.size, 0, none⟩ = some (.slice sa n sc) := blk_cell hb0 0 rfl
  have HR := Lib.hid (hr.fr HF0.out (by simp)); clear hr
  rcases hz with ⟨hr, rfl⟩ | ⟨hr, rfl⟩
  · obtain ⟨_, c1, c2, c3, c4⟩ := box5 hb0
    clear hb0
    unfold DRange at hr
    have hr1 : ¬ at_ < 0 := by omega
    have hr2 : ¬ (n : Int) ≤ at_ := by omega
    have hr3 : ¬ size < 1 := by omega
    have hr4 : ¬ 10000 < size := by omega
    have HW := Lib.hid (waiting_any _ (.slice sa n sc) cv av hv a n c V ln HR.out hV (by omega) hn)
    clear hr
    go_enter Tryd.func26, Tryd.ntmps26
    go_wp2_with fail
    refine (HW.out).mono ?_
    rintro e w2 ⟨rfl, hf2⟩
    have HF2 := Lib.hid (HF0.out.trans hf2 (by simp))
    clear hf2 c0 c1 c2 c3 c4
    go_wp2
    go_ret
    exact ⟨rfl, HF2.out⟩
  · clear hb0
    have hr' : at_ < 0 ∨ (0 ≤ at_ ∧ (n : Int) ≤ at_) ∨ (0 ≤ at_ ∧ at_ < n ∧ size < 1) ∨ (0 ≤ at_ ∧ at_ < n ∧ 1 ≤ size ∧ 10000 < size) := by unfold DRange at hr; omega
    clear hr
    rcases hr' with h1 | ⟨h1, h2⟩ | ⟨h1, h2, h3⟩ | ⟨h1, h2, h3, h4⟩
    all_goals
      go_enter Tryd.func26, Tryd.ntmps26
      go_wp2
      go_ret
      exact ⟨rfl, HF0.out⟩

theorem info_empty (w : World) (E : TypeId) : OwnF (w.alloc (.cells #[] E)) w.heap.size E (.slice (some ⟨w.heap.size, 0, none⟩) 0 0) 0 (fun _ => undef) :=
  OwnF.of_owns (World.ownsRow_made (base := w.heap.size) (size := 1) (e := E) w #[] 0 (Nat.le_refl _) (by decide) rfl) (fun _ => undef) (fun j hj => by omega)

end Go.Proofs.YthopnlnknicgbaaDoor
