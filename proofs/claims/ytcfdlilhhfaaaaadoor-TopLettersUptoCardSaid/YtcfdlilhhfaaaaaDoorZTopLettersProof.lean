/- TopLetters: the walk lifted to the given statement (second form: of bulk at most 1048576). -/
import Derived.JoinedCond
import Derived.Deep.CondSized
import Derived.Test.YtcfdlilhhfaaaaaDoorCards
import Derived.Test.YtcfdlilhhfaaaaaDoorTie
import Derived.SevenTiedAt
import Derived.Test.YtcfdlilhhfaaaaaDoorZbase1
import Derived.Test.YtcfdlilhhfaaaaaDoorZTopLetters
import Derived.Test.YtcfdlilhhfaaaaaDoorZbase4
namespace Go.Proofs.YtcfdlilhhfaaaaaDoor.topLetters
open Go.ChangeShapes Go.WideShapes Go.ChangeAt Go.RowKit
set_option linter.unusedVariables false
set_option maxRecDepth 100000 in
theorem lifted (os : Os) (started : os.Started) (H : Type) (enc : TypeId × Value → H) (F : Stop.Interp) :
    ReturnsInHanded {} Tryd.checked os 4 .any (fun w args => ((Rows.OpenSpec.upto Rows.topLettersSpec).pre enc Tryd.prog Tryd.f4 Rows.topLettersUptoRow.domain false w args ∧ laidMetH Tryd.prog door.laid w) ∧ sizedMet enc Tryd.prog Tryd.f4 (Rows.OpenSpec.upto Rows.topLettersSpec) false w args)
      (((Rows.OpenSpec.upto Rows.topLettersSpec).at F).post enc Tryd.prog Tryd.f4 false true false false) := by
  refine returnsIn_of_cond_and (C := Tryd.checked) (s := Rows.OpenSpec.upto Rows.topLettersSpec) (k := Rows.uptoSmall) (X := fun w => laidMetH Tryd.prog door.laid w) rfl (fun _ _ hh h => h.of_heap hh) own started (by kernel_rfl) Tryd.func4
    (witness_cond_at (enc := enc) (C := Tryd.checked) (os := os) (s := Rows.OpenSpec.upto Rows.topLettersSpec) (k := Rows.uptoSmall) (X := fun w => laidMetH Tryd.prog door.laid w) rfl false (door.laidWorld os) #[.agg #[.int .i64 0, .bool false, .int .i64 0, .bool false, .bool false, .bool false, .bool false, .bool false, .bool false, .bool false, .int .i64 0, .slice none 0 0, .slice none 0 0, .slice none 0 0, .slice none 0 0], .slice none 0 0, .slice none 0 0] 8 rfl (by kernel_rfl) (by kernel_rfl) (by kernel_rfl)
      (x := ([.agg [.agg [.lit (.int .i64 0), .lit (.bool false), .lit (.int .i64 0), .lit (.bool false), .lit (.bool false), .lit (.bool false), .lit (.bool false), .lit (.bool false), .lit (.bool false), .lit (.bool false), .lit (.int .i64 0)], .nil, .nil, .nil, .nil], .nil, .nil], [], [])) (by kernel_rfl) rfl (by kernel_rfl) (by kernel_rfl) (door.laidWorld_met os _)) ?_
  intro W base args ds gs before hval0 hW _ hk hsz0 hL _
  have hg := door.hand hL
  have hsz : (DataW.weightsEach Tryd.prog (Tryd.f4.params.toList ++ (Rows.OpenSpec.upto Rows.topLettersSpec).bare.plain.varTypes Tryd.prog) (ds ++ gs)).all (· ≤ reachBytes) = true := hsz0
  have hszU := U.small_weights (N := U.nTypes) (P := Tryd.prog) (ts := Tryd.f4.params.toList ++ (Rows.OpenSpec.upto Rows.topLettersSpec).bare.plain.varTypes Tryd.prog) U.types_ok (by kernel_rfl) hk
  have hval : ∀ (j : Nat) t v, Tryd.f4.params[j]? = some t → args[j]? = some v → Value.okWide Tryd.prog W .any base t v := hval0
  have hW' := hW
  obtain ⟨p, q, hA0, hV, rfl, hfz, hnd⟩ := hW
  have hA : DataW.TrodAll enc Tryd.prog W 0 (fun _ => true) true Tryd.f4.params.toList args.toList ds p := hA0
  rw [Tryd.params4] at hA hval hsz hszU
  obtain ⟨v0, vs0, d0, ds0, p0, q0, hargs, rfl, rfl, h0, r0⟩ := trodAll_cons hA
  obtain ⟨v1, vs1, d1, ds1, p1, q1, rfl, rfl, rfl, h1, r1⟩ := trodAll_cons r0
  obtain ⟨v2, vs2, d2, ds2, p2, q2, rfl, rfl, rfl, h2, r2⟩ := trodAll_cons r1
  obtain ⟨rfl, rfl, rfl⟩ := trodAll_nil r2
  obtain rfl : args = #[v0, v1, v2] := by cases args; simp_all
  obtain ⟨rfl, rfl⟩ := trodVars_none hV
  have k0 := h0
  have lt0 : ∀ x ∈ p0, x.block < W.heap.size := by obtain ⟨m, hm⟩ := k0; exact DataW.trod_lt m _ _ _ hm
  have k1 := h1
  have lt1 : ∀ x ∈ p1, x.block < W.heap.size := by obtain ⟨m, hm⟩ := k1; exact DataW.trod_lt m _ _ _ hm
  have k2 := h2
  have lt2 : ∀ x ∈ p2, x.block < W.heap.size := by obtain ⟨m, hm⟩ := k2; exact DataW.trod_lt m _ _ _ hm
  obtain ⟨ms0, vq0, va0, vu0, vm0, rfl, ok0, sm0⟩ := U.arg_msg (j := 0) (hval 0 43 v0 rfl rfl) h0 hszU rfl rfl
  obtain ⟨a1, n1, c1, f1, rfl, rd1, sz1⟩ := arg_bools (j := 1) Tryd.underlying56 Tryd.underlying4 (by kernel_rfl) (by kernel_rfl) (hval 1 56 v1 rfl rfl) h1 hsz rfl rfl
  obtain ⟨a2, n2, c2, q2, rfl, rd2, sz2, wf2⟩ := arg_nodes (j := 2) (hval 2 57 v2 rfl rfl) h2 hsz rfl rfl
  have hbulk := bulk_bound hk
  simp only [List.append_nil, List.cons_append, List.nil_append, Rows.uptoBulkAll] at hbulk
  clear hA0 hval0
  refine (topLetters_any W hg ⟨W.heap.size, []⟩ (by simp) ms0 vq0 va0 vu0 vm0 ok0 (fun i hi => Nat.le_trans (sm0.m i hi).dl (by decide)) a1 n1 c1 f1 rd1 (by omega) a2 n2 c2 q2 rd2).mono fun e W' ⟨he, hfr⟩ => ?_
  have bel : Below W.heap.size W W' := hfr.below _ (Nat.le_refl _) (by simp)
  subst he
  exact ⟨_, rfl, _, _, _, [], _, [], hW', trodAll_mk1 (shut_bool Tryd.underlying4 _), (trodAll_cons_mk (Below.trod laidOut (by kernel_rfl) (of_decide_eq_true (by kernel_rfl)) k0 bel lt0) (trodAll_cons_mk (Below.trod laidOut (by kernel_rfl) (of_decide_eq_true (by kernel_rfl)) k1 bel lt1) (trodAll_cons_mk (Below.trod laidOut (by kernel_rfl) (of_decide_eq_true (by kernel_rfl)) k2 bel lt2) trodAll_mk0))), rfl, bel.frame _, fun h => by cases h⟩

theorem over : Rows.topLettersUptoRow.holds Tryd.pinned (Rows.OpenSpec.upto Rows.topLettersSpec) :=
  OpenClaim.holds_of_cond 4 Tryd.f4 rfl rfl rfl rfl rfl rfl rfl ⟨rfl, rfl, rfl, rfl, rfl⟩ rfl rfl rfl rfl rfl (by kernel_rfl) Tryd.func4 (by kernel_rfl)
    (of_decide_eq_true (by kernel_rfl)) (by unfold Func.isWrapper; first | (rw [if_pos (by decide +kernel)]; kernel_rfl) | (rw [if_neg (by decide +kernel)]; exact ⟨rfl, rfl⟩))
    (fun os started H enc _ F => lifted os started H enc F)

/-- The row's statement, tied: the card. -/
theorem card : Rows.TopLettersUptoCardSaid :=
  Claim7.holds_tied_plain_at .later [] [.handle] true _ true over (fun _ h => by cases h) (by kernel_rfl) (fun _ h => by cases h) topLettersUpto_row_tie rfl ⟨rfl, rfl⟩ (by kernel_rfl) rfl
    (fun f fn hf hfn => by
      obtain rfl : f = 4 := Option.some.inj ((show Tryd.prog.funcNamed "pointsman/pointsmantop.TopLetters" = some 4 by kernel_rfl).symm.trans hf) |>.symm
      obtain rfl : fn = Tryd.f4 := (Option.some.inj (Tryd.func4.symm.trans hfn)).symm
      exact ⟨by kernel_rfl, fun j t ht => by
        rw [Tryd.params4] at ht
        rcases j with _ | _ | _ | j
        · obtain rfl : t = 43 := by simpa using ht.symm
          kernel_rfl
        · obtain rfl : t = 56 := by simpa using ht.symm
          kernel_rfl
        · obtain rfl : t = 57 := by simpa using ht.symm
          kernel_rfl
        · simp at ht⟩)
    (by kernel_rfl)
end Go.Proofs.YtcfdlilhhfaaaaaDoor.topLetters
