/- The chain's contracts, whatever the rules; rows of rules that are laid one behind the other. -/
import Derived.Test.YtgpfkaiinbncnaaDoorChained
namespace Go.Proofs.YtgpfkaiinbncnaaDoor
open Go.RowKit

def rhB (r : Rl) (q : Qt) : Bool := if rf r = 0 then rh r q else false

theorem holds_all {W : World} {r : Rl} {q : Qt} (h : r.Ok W) (hq : q.Ok W) (w : World) (hf : Fr [] W w) :
    Calls Tryd.prog 61 #[.slice r.a r.n r.c, .agg #[.slice q.na q.nl q.nc, .int .i64 q.ty, .int .i64 q.cl, .int .i64 q.opc, .bool q.rd, .slice q.fa q.fl q.fc]] w fun e w' => e = .returned (.tuple #[.bool (rhB r q), erVn (rf r)]) ∧ Fr [] w w' := by
  by_cases hz : rf r = 0
  · rw [show rhB r q = rh r q by unfold rhB; rw [if_pos hz], erV0 hz]
    exact ruleHolds_good h hq hz w hf
  · rw [show rhB r q = false by unfold rhB; rw [if_neg hz], erV1 hz]
    exact ruleHolds_bad h hz w hf

theorem first_all {W : World} {a : Option Addr} {n c : Nat} {R : Nat → Rl} {q : Qt} (h : Rls W a n c R) (hq : q.Ok W) (w : World) (hf : Fr [] W w) :
    Calls Tryd.prog 39 #[.slice a n c, .agg #[.slice q.na q.nl q.nc, .int .i64 q.ty, .int .i64 q.cl, .int .i64 q.opc, .bool q.rd, .slice q.fa q.fl q.fc]] w fun e w' => e = .returned (.tuple #[.int .i64 (fiI R q n), erVn (chZ R n)]) ∧ Fr [] w w' := by
  by_cases hz : chZ R n = 0
  · rw [erV0 hz]
    exact chainFirst_good w a n c R q (h.fr hf) (hq.fr hf) hz
  · rw [show fiI R q n = 0 by unfold fiI; rw [if_neg hz], erV1 hz]
    exact chainFirst_bad w a n c R q (h.fr hf) hz

theorem do_all {W : World} {a : Option Addr} {n c : Nat} {R : Nat → Rl} {q : Qt} (h : Rls W a n c R) (hq : q.Ok W) (other : Int) (w : World) (hf : Fr [] W w) :
    Calls Tryd.prog 40 #[.slice a n c, .agg #[.slice q.na q.nl q.nc, .int .i64 q.ty, .int .i64 q.cl, .int .i64 q.opc, .bool q.rd, .slice q.fa q.fl q.fc], .int .i64 other] w fun e w' => e = .returned (.tuple #[.int .i64 (doI R q n other), erVn (chZ R n)]) ∧ Fr [] w w' := by
  by_cases hz : chZ R n = 0
  · rw [erV0 hz]
    exact chainDo_good w a n c R q other (h.fr hf) (hq.fr hf) hz
  · rw [show doI R q n other = 0 by unfold doI; rw [if_neg hz], erV1 hz]
    exact chainDo_bad w a n c R q other (h.fr hf) hz

theorem infoRule : (Tryd.prog.info? 79).map (fun i => (i.zero, i.size, i.bytes)) = some (some (.agg #[.slice none 0 0, .int .i64 0]), 2, 32) := by kernel_rfl

theorem rl_one (R : Nat → Rl) (j : Nat) : (fls 2 (fun i => (R i).F) j).oneCell' = true := by
  unfold fls
  have : j % 2 = 0 ∨ j % 2 = 1 := by omega
  rcases this with h | h <;> rw [h] <;> rfl

/-- R's first n, then S's -/
def appR (n : Nat) (R S : Nat → Rl) (j : Nat) : Rl := if j < n then R j else S (j - n)

theorem OwnC.caps {w : World} {B : Nat} {E : TypeId} {a : Option Addr} {n c s : Nat} {F : Nat → Nat → Value} (h : OwnC w B E (.slice a n c) s n F) : n ≤ c ∧ c ≤ maxLen := by
  rcases h with ⟨e, h0⟩ | ⟨g, cap, e, hb, hr⟩
  · simp only [Value.slice.injEq] at e
    obtain ⟨_, _, rfl⟩ := e
    exact ⟨by omega, by decide⟩
  · simp only [Value.slice.injEq, true_and] at e
    obtain ⟨_, rfl⟩ := e
    exact ⟨hr.le, hr.cap_le⟩

theorem rls_app {w : World} {B : Nat} {a : Option Addr} {n m c : Nat} {R S : Nat → Rl} (h0 : ∀ j, j < n → (R j).Ok w) (h1 : ∀ j, j < m → (S j).Ok w)
    (ho : OwnC w B 79 (.slice a (n + m) c) 2 (n + m) (appC n (fun j => (R j).F) (fun j => (S j).F))) : Rls w a (n + m) c (appR n R S) := by
  refine ⟨ho.rd.congr (by decide) (fun i cc _ _ => ?_), fun j hj => ?_, ho.caps⟩
  · unfold appC appR
    by_cases h : i < n
    · rw [if_pos h, if_pos h]
    · rw [if_neg h, if_neg h]
  · unfold appR
    by_cases h : j < n
    · rw [if_pos h]; exact h0 j h
    · rw [if_neg h]; exact h1 (j - n) (by omega)

theorem rbox {w : World} (r : Rl) {w4 : World} (h4 : Fr [] (w.alloc (.cells #[.slice r.a r.n r.c, .int .i64 r.act] 79)) w4) : (w4.cell? ⟨w.heap.size, 0, none⟩ = some (.slice r.a r.n r.c)) ∧ (w4.cell? ⟨w.heap.size, 1, none⟩ = some (.int .i64 r.act)) := by
  have hA := h4.blk (heap_alloc_new w (.cells #[.slice r.a r.n r.c, .int .i64 r.act] 79)) (by simp)
  exact ⟨blk_cell hA 0 rfl, blk_cell hA 1 rfl⟩

/-- one rule in a row of its own -/
theorem rls_one {W w : World} {r : Rl} {b : Nat} (_h : r.Ok W) (_hf : Fr [] W w) (hb : w.heap[b]? = some (.cells #[.slice r.a r.n r.c, .int .i64 r.act] 79 (0, 0))) :
    OwnC w b 79 (.slice (some ⟨b, 0, none⟩) 1 1) 2 1 (fun _ => r.F) := by
  refine .inr ⟨b, 1, rfl, Nat.le_refl _, _, hb, rfl, Nat.le_refl _, by decide, fun j hj => ?_⟩
  match j, hj with
  | 0, _ => rfl
  | 1, _ => rfl

/-! plain: the first one -/
theorem fi_good {R : Nat → Rl} {q : Qt} {n : Nat} (h : chZ R n = 0) : (ffst (hd R q) n < n ∧ fiI R q n = (ffst (hd R q) n : Int)) ∨ (ffst (hd R q) n = n ∧ fiI R q n = -1) := by
  have hle := ffst_le (hd R q) n
  unfold fiI
  rw [if_pos h]
  by_cases h1 : ffst (hd R q) n < n
  · rw [if_pos h1]; exact .inl ⟨h1, rfl⟩
  · rw [if_neg h1]; exact .inr ⟨by omega, rfl⟩

theorem rhB_good {R : Nat → Rl} {q : Qt} {n k : Nat} (h : chZ R n = 0) (hk : k < n) : rhB (R k) q = hd R q k := by
  unfold rhB hd
  rw [if_pos ((chZ_zero.1 h).2 k hk)]

/-- what the law's first loop asks at rule k -/
theorem fi_loop {R : Nat → Rl} {q : Qt} {n k : Nat} (h : chZ R n = 0) (hk : k < n) :
    (rhB (R k) q = true → ¬ fiI R q n < 0 ∧ ¬ (k : Int) < fiI R q n) ∧ (rhB (R k) q = false → (k : Int) ≠ fiI R q n) := by
  rw [rhB_good h hk]
  rcases fi_good (q := q) h with ⟨h1, h2⟩ | ⟨h1, h2⟩
  · rw [h2]
    refine ⟨fun hb => ⟨by omega, fun hl => ?_⟩, fun hb he => ?_⟩
    · have := ffst_below (p := hd R q) (n := n) (k := k) (by omega)
      rw [hb] at this; cases this
    · have e : ffst (hd R q) n = k := by omega
      have := ffst_at h1
      rw [e, hb] at this; cases this
  · rw [h2]
    refine ⟨fun hb => ?_, fun hb he => by omega⟩
    have := ffst_all h1 k hk
    rw [hb] at this; cases this

theorem hd_app {R S : Nat → Rl} {q : Qt} {n k : Nat} (h : k < n) : hd (appR n R S) q k = hd R q k := by unfold hd appR; rw [if_pos h]

/-- rules behind it change nothing -/
theorem fi_app {R S : Nat → Rl} {q : Qt} {n m : Nat} (h : chZ R n = 0) (h2 : chZ (appR n R S) (n + m) = 0) (h3 : 0 ≤ fiI R q n) : fiI (appR n R S) q (n + m) = fiI R q n := by
  rcases fi_good (q := q) h with ⟨h1, e1⟩ | ⟨h1, e1⟩
  · have hf : ffst (hd (appR n R S) q) (n + m) = ffst (hd R q) n := by
      refine ffst_is (by omega) ?_ (fun j hj => ?_)
      · rw [hd_app h1]; exact ffst_at h1
      · rw [hd_app (by omega)]; exact ffst_below hj
    rw [e1]
    rcases fi_good (q := q) h2 with ⟨h4, e4⟩ | ⟨h4, e4⟩
    · rw [e4, hf]
    · omega
  · omega

/-- one rule ahead -/
theorem fi_ahead {R : Nat → Rl} {r : Rl} {q : Qt} {n : Nat} (h : chZ R n = 0) (hr : rf r = 0) (h2 : chZ (appR 1 (fun _ => r) R) (1 + n) = 0) :
    (rhB r q = true → fiI (appR 1 (fun _ => r) R) q (1 + n) = 0) ∧
    (rhB r q = false → fiI R q n < 0 → fiI (appR 1 (fun _ => r) R) q (1 + n) = -1) ∧
    (rhB r q = false → 0 ≤ fiI R q n → fiI (appR 1 (fun _ => r) R) q (1 + n) = fiI R q n + 1) := by
  have hh : rhB r q = hd (appR 1 (fun _ => r) R) q 0 := by unfold rhB hd appR; rw [if_pos hr, if_pos (by decide)]
  have hs : ∀ j, hd (appR 1 (fun _ => r) R) q (j + 1) = hd R q j := fun j => by unfold hd appR; rw [if_neg (by omega)]; rfl
  rw [hh]
  refine ⟨fun hb => ?_, fun hb h3 => ?_, fun hb h3 => ?_⟩
  · have hf : ffst (hd (appR 1 (fun _ => r) R) q) (1 + n) = 0 := ffst_is (by omega) hb (fun j hj => by omega)
    rcases fi_good (q := q) h2 with ⟨h4, e4⟩ | ⟨h4, e4⟩
    · rw [e4, hf]; rfl
    · omega
  · rcases fi_good (q := q) h with ⟨h1, e1⟩ | ⟨h1, e1⟩
    · omega
    · have hf : ffst (hd (appR 1 (fun _ => r) R) q) (1 + n) = 1 + n := by
        refine ffst_none (fun j hj => ?_)
        rcases j with _ | j
        · exact hb
        · rw [hs]; exact ffst_all h1 j (by omega)
      rcases fi_good (q := q) h2 with ⟨h4, e4⟩ | ⟨h4, e4⟩
      · omega
      · exact e4
  · rcases fi_good (q := q) h with ⟨h1, e1⟩ | ⟨h1, e1⟩
    · have hf : ffst (hd (appR 1 (fun _ => r) R) q) (1 + n) = ffst (hd R q) n + 1 := by
        refine ffst_is (by omega) ?_ (fun j hj => ?_)
        · rw [hs]; exact ffst_at h1
        · rcases j with _ | j
          · exact hb
          · rw [hs]; exact ffst_below (n := n) (by omega)
      rcases fi_good (q := q) h2 with ⟨h4, e4⟩ | ⟨h4, e4⟩
      · rw [e4, e1, hf]; push_cast; rfl
      · omega
    · omega

end Go.Proofs.YtgpfkaiinbncnaaDoor
