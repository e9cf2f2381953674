/- FramePieces: the walk lifted to the given statement (second form: of bulk at most 1048576). -/
import Derived.Test.YtlinembnfcdmcaaArgs
import Derived.Test.YtlinembnfcdmcaaArgsRows
import Derived.Test.YtlinembnfcdmcaaFramePieces
import Derived.JoinedCond
import Derived.Deep.CondSized
namespace Go.Proofs.Ytlinembnfcdmcaa.framePieces
open Go.ChangeShapes Go.WideShapes Go.ChangeAt Go.RowKit
set_option linter.unusedVariables false
theorem ed_sm (L : Nat → Nat) (i : Nat) : ed L i ≤ 2 * sm L i := by
  induction i with
  | zero => simp [ed, sm]
  | succ i ih => simp only [ed, sm]; omega

set_option maxRecDepth 100000 in
theorem lifted (os : Os) (started : os.Started) (H : Type) (enc : TypeId × Value → H) (F : Stop.Interp) :
    ReturnsInHanded {} Try.checked os 4 .any ((Rows.OpenSpec.upto Rows.framePiecesSpec).pre6 enc Try.prog Try.f4 Rows.framePiecesUptoRow.domain false) (((Rows.OpenSpec.upto Rows.framePiecesSpec).at F).post enc Try.prog Try.f4 false true false false) := by
  refine returnsInHanded_of_cond_sized (C := Try.checked) (s := Rows.OpenSpec.upto Rows.framePiecesSpec) (k := Rows.uptoSmall) rfl own started (by kernel_rfl) Try.func4
    (OpenSpec.witness (enc := enc) (C := Try.checked) (s := Rows.OpenSpec.upto Rows.framePiecesSpec) (k := Rows.uptoSmall) rfl false ⟨#[], #[.slice none 0 0, .slice none 0 0], []⟩ 8 (by kernel_rfl) (by kernel_rfl) (by kernel_rfl)
      (x := ([.nil, .nil], [], [])) (by kernel_rfl) rfl (by kernel_rfl)) ?_
  intro W base args ds gs before hval0 hW _ hk hsz0 _
  have hsz : (DataW.weightsEach Try.prog (Try.f4.params.toList ++ (Rows.OpenSpec.upto Rows.framePiecesSpec).bare.plain.varTypes Try.prog) (ds ++ gs)).all (· ≤ reachBytes) = true := hsz0
  have hval : ∀ (j : Nat) t v, Try.f4.params[j]? = some t → args[j]? = some v → Value.okWide Try.prog W .any base t v := hval0
  have hW' := hW
  obtain ⟨p, q, hA0, hV, rfl, hfz, hnd⟩ := hW
  have hA : DataW.TrodAll enc Try.prog W 0 (fun _ => true) true Try.f4.params.toList args.toList ds p := hA0
  rw [Try.params4] at hA hval hsz
  obtain ⟨v0, vs0, d0, ds0, p0, q0, hargs, rfl, rfl, h0, r0⟩ := trodAll_cons hA
  obtain ⟨v1, vs1, d1, ds1, p1, q1, rfl, rfl, rfl, h1, r1⟩ := trodAll_cons r0
  obtain ⟨rfl, rfl, rfl⟩ := trodAll_nil r1
  obtain rfl : args = #[v0, v1] := by cases args; simp_all
  obtain ⟨rfl, rfl⟩ := trodVars_none hV
  have k0 := h0
  have lt0 : ∀ x ∈ p0, x.block < W.heap.size := by obtain ⟨m, hm⟩ := k0; exact DataW.trod_lt m _ _ _ hm
  have k1 := h1
  have lt1 : ∀ x ∈ p1, x.block < W.heap.size := by obtain ⟨m, hm⟩ := k1; exact DataW.trod_lt m _ _ _ hm
  obtain ⟨a0, n0, c0, V0, A0, L0, C0, F0, rfl, rd0, sz0, hV0, hR0, wf0, L00, b10, b20⟩ := arg_rows (bytes := 24) (j := 0) Try.underlying32 (by kernel_rfl) (by kernel_rfl) Try.underlying22 Try.underlying5 (by kernel_rfl) (hval 0 32 v0 rfl rfl) h0 hsz rfl rfl
  obtain ⟨a1, n1, c1, f1, rfl, rd1, sz1, wf1, sh1⟩ := arg_ints (bytes := 8) (j := 1) Try.underlying28 Try.underlying3 (by kernel_rfl) (by kernel_rfl) (hval 1 28 v1 rfl rfl) h1 hsz rfl rfl
  have hbulk := bulk_bound hk
  simp only [List.append_nil, List.cons_append, List.nil_append, Rows.uptoBulkAll] at hbulk
  have b1 := bulk_ints sh1
  clear hA0 hval0
  refine (framePieces_any W a0 n0 c0 V0 A0 L0 C0 F0 rd0 hV0 hR0 (fun i j hi hj => bd_u8 (wf0 i j hi hj)) L00 (fun i hi => by have e1 := ed_sm L0 i; have e2 := sm_le L0 hi; omega) (by omega) a1 n1 c1 f1 rd1 (by omega)).mono fun e W' ⟨he, hfr⟩ => ?_
  have bel : Below W.heap.size W W' := hfr.below _ (Nat.le_refl _) (by simp)
  subst he
  exact ⟨_, rfl, _, _, _, [], _, [], hW', trodAll_mk1 (shut_bool Try.underlying4 _), (trodAll_cons_mk (Below.trod laidOut (by kernel_rfl) (of_decide_eq_true (by kernel_rfl)) k0 bel lt0) (trodAll_cons_mk (Below.trod laidOut (by kernel_rfl) (of_decide_eq_true (by kernel_rfl)) k1 bel lt1) trodAll_mk0)), rfl, bel.frame _, fun h => by cases h⟩

theorem over : Rows.framePiecesUptoRow.holds Try.pinned (Rows.OpenSpec.upto Rows.framePiecesSpec) :=
  OpenClaim.holds_of_cond 4 Try.f4 rfl rfl rfl rfl rfl rfl rfl ⟨rfl, rfl, rfl, rfl, rfl⟩ rfl rfl rfl rfl rfl (by kernel_rfl) Try.func4 (by kernel_rfl)
    (of_decide_eq_true (by kernel_rfl)) (by unfold Func.isWrapper; first | (rw [if_pos (by decide +kernel)]; kernel_rfl) | (rw [if_neg (by decide +kernel)]; exact ⟨rfl, rfl⟩))
    (fun os started H enc _ F => lifted os started H enc F)

/-- The statement. -/
theorem proved : Rows.FramePiecesUptoSaid := over
end Go.Proofs.Ytlinembnfcdmcaa.framePieces
