/- FrameTells: the walk lifted to the given statement (second form: of bulk at most 1048576). -/
import Derived.Test.YtlinembnfcdmcaaDoorArgs
import Derived.Test.YtlinembnfcdmcaaDoorFrameTells
import Derived.Test.YtlinembnfcdmcaaDoorArgsRows
import Derived.JoinedCond
import Derived.Deep.CondSized
import Derived.Test.YtlinembnfcdmcaaDoorCondAnd
import Derived.Test.YtlinembnfcdmcaaDoorDoor
import Derived.Test.YtlinembnfcdmcaaDoorCards
import Derived.Test.YtlinembnfcdmcaaDoorTie
import Derived.SevenTiedAt
namespace Go.Proofs.YtlinembnfcdmcaaDoor.frameTells
open Go.ChangeShapes Go.WideShapes Go.ChangeAt Go.RowKit
set_option linter.unusedVariables false
set_option maxRecDepth 100000 in
theorem lifted (os : Os) (started : os.Started) (H : Type) (enc : TypeId × Value → H) (F : Stop.Interp) :
    ReturnsInHanded {} Tryd.checked os 5 .any (fun w args => ((Rows.OpenSpec.upto Rows.frameTellsSpec).pre enc Tryd.prog Tryd.f5 Rows.frameTellsUptoRow.domain false w args ∧ laidMetH Tryd.prog door.laid w) ∧ sizedMet enc Tryd.prog Tryd.f5 (Rows.OpenSpec.upto Rows.frameTellsSpec) false w args)
      (((Rows.OpenSpec.upto Rows.frameTellsSpec).at F).post enc Tryd.prog Tryd.f5 false true false false) := by
  refine returnsIn_of_cond_and (C := Tryd.checked) (s := Rows.OpenSpec.upto Rows.frameTellsSpec) (k := Rows.uptoSmall) (X := fun w => laidMetH Tryd.prog door.laid w) rfl (fun _ _ hh h => h.of_heap hh) own started (by kernel_rfl) Tryd.func5
    (witness_cond_at (enc := enc) (C := Tryd.checked) (os := os) (s := Rows.OpenSpec.upto Rows.frameTellsSpec) (k := Rows.uptoSmall) (X := fun w => laidMetH Tryd.prog door.laid w) rfl false (door.laidWorld os) #[.slice none 0 0, .slice none 0 0] 8 rfl (by kernel_rfl) (by kernel_rfl) (by kernel_rfl)
      (x := ([.nil, .nil], [], [])) (by kernel_rfl) rfl (by kernel_rfl) (by kernel_rfl) (door.laidWorld_met os _)) ?_
  intro W base args ds gs before hval0 hW _ hk hsz0 hL _
  have hg := door.hand hL
  have hsz : (DataW.weightsEach Tryd.prog (Tryd.f5.params.toList ++ (Rows.OpenSpec.upto Rows.frameTellsSpec).bare.plain.varTypes Tryd.prog) (ds ++ gs)).all (· ≤ reachBytes) = true := hsz0
  have hval : ∀ (j : Nat) t v, Tryd.f5.params[j]? = some t → args[j]? = some v → Value.okWide Tryd.prog W .any base t v := hval0
  have hW' := hW
  obtain ⟨p, q, hA0, hV, rfl, hfz, hnd⟩ := hW
  have hA : DataW.TrodAll enc Tryd.prog W 0 (fun _ => true) true Tryd.f5.params.toList args.toList ds p := hA0
  rw [Tryd.params5] at hA hval hsz
  obtain ⟨v0, vs0, d0, ds0, p0, q0, hargs, rfl, rfl, h0, r0⟩ := trodAll_cons hA
  obtain ⟨v1, vs1, d1, ds1, p1, q1, rfl, rfl, rfl, h1, r1⟩ := trodAll_cons r0
  obtain ⟨rfl, rfl, rfl⟩ := trodAll_nil r1
  obtain rfl : args = #[v0, v1] := by cases args; simp_all
  obtain ⟨rfl, rfl⟩ := trodVars_none hV
  have k0 := h0
  have lt0 : ∀ x ∈ p0, x.block < W.heap.size := by obtain ⟨m, hm⟩ := k0; exact DataW.trod_lt m _ _ _ hm
  have k1 := h1
  have lt1 : ∀ x ∈ p1, x.block < W.heap.size := by obtain ⟨m, hm⟩ := k1; exact DataW.trod_lt m _ _ _ hm
  obtain ⟨a0, n0, c0, V0, A0, L0, C0, F0, rfl, rd0, sz0, hV0, hR0, wf0, L00, b10, b20, lb0⟩ := arg_rows (bytes := 24) (j := 0) Tryd.underlying42 (by kernel_rfl) (by kernel_rfl) Tryd.underlying34 Tryd.underlying5 (by kernel_rfl) (hval 0 42 v0 rfl rfl) h0 hsz rfl rfl
  obtain ⟨a1, n1, c1, f1, rfl, rd1, sz1, wf1, sh1⟩ := arg_ints (bytes := 1) (j := 1) Tryd.underlying34 Tryd.underlying5 (by kernel_rfl) (by kernel_rfl) (hval 1 34 v1 rfl rfl) h1 hsz rfl rfl
  have hbulk := bulk_bound hk
  simp only [List.append_nil, List.cons_append, List.nil_append, Rows.uptoBulkAll] at hbulk
  have b1 := bulk_ints sh1
  clear hA0 hval0
  refine (frameTells_any W hg a0 n0 c0 V0 A0 L0 C0 F0 rd0 hV0 hR0 (fun i j hi hj => bd_u8 (wf0 i j hi hj)) (fun i hi => by have e1 := ct_sm L0 i; have e2 := sm_le L0 hi; omega) (by omega) a1 n1 c1 f1 rd1 (by omega)).mono fun e W' ⟨he, hfr⟩ => ?_
  have bel : Below W.heap.size W W' := hfr.below _ (Nat.le_refl _) (by simp)
  subst he
  exact ⟨_, rfl, _, _, _, [], _, [], hW', trodAll_mk1 (shut_bool Tryd.underlying4 _), (trodAll_cons_mk (Below.trod laidOut (by kernel_rfl) (of_decide_eq_true (by kernel_rfl)) k0 bel lt0) (trodAll_cons_mk (Below.trod laidOut (by kernel_rfl) (of_decide_eq_true (by kernel_rfl)) k1 bel lt1) trodAll_mk0)), rfl, bel.frame _, fun h => by cases h⟩

theorem over : Rows.frameTellsUptoRow.holds Tryd.pinned (Rows.OpenSpec.upto Rows.frameTellsSpec) :=
  OpenClaim.holds_of_cond 5 Tryd.f5 rfl rfl rfl rfl rfl rfl rfl ⟨rfl, rfl, rfl, rfl, rfl⟩ rfl rfl rfl rfl rfl (by kernel_rfl) Tryd.func5 (by kernel_rfl)
    (of_decide_eq_true (by kernel_rfl)) (by unfold Func.isWrapper; first | (rw [if_pos (by decide +kernel)]; kernel_rfl) | (rw [if_neg (by decide +kernel)]; exact ⟨rfl, rfl⟩))
    (fun os started H enc _ F => lifted os started H enc F)

/-- The row's statement, tied: the card. -/
theorem card : Rows.FrameTellsUptoCardSaid :=
  Claim7.holds_tied_plain_at .later [] [.handle] true _ true over (fun _ h => by cases h) (by kernel_rfl) (fun _ h => by cases h) frameTellsUpto_row_tie rfl ⟨rfl, rfl⟩ (by kernel_rfl) rfl
    (fun f fn hf hfn => by
      obtain rfl : f = 5 := Option.some.inj ((show Tryd.prog.funcNamed "pointsman/pointsmanlaw4.FrameTells" = some 5 by kernel_rfl).symm.trans hf) |>.symm
      obtain rfl : fn = Tryd.f5 := (Option.some.inj (Tryd.func5.symm.trans hfn)).symm
      exact ⟨by kernel_rfl, fun j t ht => by
        rw [Tryd.params5] at ht
        rcases j with _ | _ | j
        · obtain rfl : t = 42 := by simpa using ht.symm
          kernel_rfl
        · obtain rfl : t = 34 := by simpa using ht.symm
          kernel_rfl
        · simp at ht⟩)
    (by kernel_rfl)
end Go.Proofs.YtlinembnfcdmcaaDoor.frameTells
