/- (*msg.writer).record, (*msg.writer).question. -/
import Derived.Deep.RegionHeld3
import Derived.Test.YtkdmkpdooiacaaaZWrRec
namespace Go.Proofs.Ytkdmkpdooiacaaa
open Go.RowKit

/-- a writer's bytes, and where names begin in them -/
def WAt (w : World) (p B : Nat) (o : List UInt8 × List Nat) : Prop :=
  ∃ oa oc sa sc, w.heap[p]? = some (.cells #[.slice oa o.1.length oc, .slice sa o.2.length sc] 50 (0, 0)) ∧ OwnB w B (.slice oa o.1.length oc) o.1 ∧ OwnF w B 3 (.slice sa o.2.length sc) o.2.length (natV o.2)

/-- what record, question leave -/
def WrtGood (w : World) (p : Nat) (r : Except Int (List UInt8 × List Nat)) (e : Ending) (w' : World) : Prop :=
  ((∃ z, r = .error z ∧ z ≠ 0 ∧ e = .returned (.iface 52 (.int .i64 z))) ∨ ∃ o, r = .ok o ∧ e = .returned .nilIface ∧ WAt w' p w.heap.size o) ∧ Fr [p] w w'

theorem WrGood.err {w w' : World} {z : Int} {e : Ending} (h : WrGood w (.error z) e w') : e = .returned (.tuple #[.slice none 0 0, .slice none 0 0, .iface 52 (.int .i64 z)]) ∧ z ≠ 0 ∧ Fr [] w w' := by
  obtain ⟨h | h, hf⟩ := h
  · obtain ⟨y, hy, h0, rfl⟩ := h
    cases hy
    exact ⟨rfl, h0, hf⟩
  · obtain ⟨o, _, _, _, ho, _⟩ := h
    cases ho

theorem WrGood.ok {w w' : World} {o : List UInt8 × List Nat} {e : Ending} (h : WrGood w (.ok o) e w') : ∃ oa oc sa sc, e = .returned (.tuple #[.slice oa o.1.length oc, .slice sa o.2.length sc, .nilIface]) ∧ OwnB w' w.heap.size (.slice oa o.1.length oc) o.1 ∧ OwnF w' w.heap.size 3 (.slice sa o.2.length sc) o.2.length (natV o.2) ∧ Fr [] w w' := by
  obtain ⟨h | h, hf⟩ := h
  · obtain ⟨y, hy, _⟩ := h
    cases hy
  · obtain ⟨o', v, s, t, ho, rfl, h1, h2⟩ := h
    cases ho
    obtain ⟨oa, oc, rfl⟩ := h1.rd.slice
    exact ⟨oa, oc, s, t, rfl, h1, h2, hf⟩

/-- the writer's block is written: rows of other types are as they were -/
theorem OwnF.keptW {w w' : World} {B p : Nat} {E : TypeId} {v : Value} {n : Nat} {f : Nat → Value} {cs : Array Value} (h : OwnF w B E v n f) (hf : Fr [p] w w') (hp : w.heap[p]? = some (.cells cs 50 (0, 0))) (hE : 50 ≠ E) : OwnF w' B E v n f := OwnF.keptP h hf hp hE

set_option maxHeartbeats 8000000 in
set_option maxRecDepth 100000 in
theorem wrtRec_any (w : World) (p B : Nat) (o : List UInt8 × List Nat) (hw : WAt w p B o) (hL : o.1.length ≤ 549755813888) (hsl : o.2.length ≤ 1099511627776) (r : Rc) (na : Option Addr) (nc : Nat) (da : Option Addr) (dc : Nat)
    (hn : RdF w (.slice na r.nm.length nc) r.nm.length (strV r.nm)) (hss : ∀ j, j < r.nm.length → (r.nm.getD j .empty).size ≤ 140737488355328)
    (hd : RdF w (.slice da r.dt.length dc) r.dt.length (bytV r.dt)) (hdl : r.dt.length ≤ 140737488355328) (hty : -9223372036854775808 ≤ r.ty ∧ r.ty ≤ 9223372036854775807) (hcl : -9223372036854775808 ≤ r.cl ∧ r.cl ≤ 9223372036854775807) (htt : -9223372036854775808 ≤ r.tt ∧ r.tt ≤ 9223372036854775807) :
    Calls Try.prog 14 #[.pointer (some ⟨p, 0, none⟩), .agg #[.slice na r.nm.length nc, .int .i64 r.ty, .int .i64 r.cl, .int .i64 r.tt, .slice da r.dt.length dc]] w (WrtGood w p (wrR o r)) := by
  obtain ⟨oa, oc, sa, sc, hp, ho, hs⟩ := hw
  have HWR := Lib.hid (fun (wx : World) (hx : Fr [] w wx) => wrR_any wx oa oc o.1 (ho.rd.fr hx (fun b o c e => by simp)) hL sa sc o.2 (hs.rd.fr hx (fun b o c e => by simp)) hsl r na nc da dc (hn.fr hx (by simp)) hss (hd.fr hx (by simp)) hdl hty hcl htt)
  have HP := Lib.hid hp
  have HF0 := Lib.hid (show Fr [] w (w.alloc (.cells #[.slice na r.nm.length nc, .int .i64 r.ty, .int .i64 r.cl, .int .i64 r.tt, .slice da r.dt.length dc] 63)) from (Fr.refl [] w).alloc _)
  have HB0 := Lib.hid (heap_alloc_new w (.cells #[.slice na r.nm.length nc, .int .i64 r.ty, .int .i64 r.cl, .int .i64 r.tt, .slice da r.dt.length dc] 63))
  obtain ⟨O, A⟩ := o
  simp only at *
  unfold WrtGood
  generalize wrR (O, A) r = R at *
  obtain ⟨nm, ty, cl, tt, dt⟩ := r
  simp only at *
  clear hp ho hs hn hss hd hty hcl htt
  go_enter Try.func14, Try.ntmps14
  go_upto_region 1 with fail
  generalize w.alloc (.cells #[.slice na nm.length nc, .int .i64 ty, .int .i64 cl, .int .i64 tt, .slice da dt.length dc] 63) = w1 at *
  have c0 := blk_cell (HF0.out.blk HP.out (by simp)) 0 (v := .slice oa O.length oc) rfl
  have c1 := blk_cell (HF0.out.blk HP.out (by simp)) 1 (v := .slice sa A.length sc) rfl
  have q0 := blk_cell HB0.out 0 (v := .slice na nm.length nc) rfl
  have q1 := blk_cell HB0.out 1 (v := .int .i64 ty) rfl
  have q2 := blk_cell HB0.out 2 (v := .int .i64 cl) rfl
  have q3 := blk_cell HB0.out 3 (v := .int .i64 tt) rfl
  have q4 := blk_cell HB0.out 4 (v := .slice da dt.length dc) rfl
  have HFD := Lib.hid (show Fr [] w w1.drew from HF0.out.drew)
  cases R with
  | error z =>
    have HWE := Lib.hid (fun (wx : World) (hx : Fr [] w wx) => (HWR.out wx hx).mono fun e w' h => h.err)
    clear HWR
    go_region_with (go_at_call 25; (with_reducible refine (HWE.out _ HFD.out).mono ?_); rintro e wx ⟨rfl, hz0, hf2⟩)
    all_goals
      have HF2 := Lib.hid (HFD.out.trans hf2 (by simp))
      have HZ := Lib.hid hz0
      clear hf2 hz0 c0 c1 q0 q1 q2 q3 q4 HFD HB0 HF0
      go_wp2
      go_ret
      exact ⟨.inl ⟨z, rfl, HZ.out, rfl⟩, HF2.out.mono (S' := [p]) (by simp)⟩
  | ok x =>
    have HWE := Lib.hid (fun (wx : World) (hx : Fr [] w wx) => (HWR.out wx hx).mono fun e w' h => h.ok)
    clear HWR
    obtain ⟨X, Y⟩ := x
    simp only at HWE
    go_region_with (go_at_call 25; (with_reducible refine (HWE.out _ HFD.out).mono ?_); rintro e wx ⟨xa, xc, ya, yc, rfl, hx, hy, hf2⟩)
    all_goals
      have HP2 := Lib.hid (hf2.blk (show w1.drew.heap[p]? = _ from HF0.out.blk HP.out (by simp)) (by simp))
      have HF2 := Lib.hid (HFD.out.trans hf2 (by simp))
      have HX := Lib.hid (show OwnB wx w.heap.size (.slice xa X.length xc) X from OwnF.mono hx HFD.out.size)
      have HY := Lib.hid (OwnF.mono hy HFD.out.size)
      clear hf2 hx hy c0 c1 q0 q1 q2 q3 q4 HFD HB0 HF0 HWE
      have c0 := blk_cell HP2.out 0 (v := .slice oa O.length oc) rfl
      have c1 := blk_cell HP2.out 1 (v := .slice sa A.length sc) rfl
      have z0 := blk_frozen HP2.out 0
      have z1 := blk_frozen HP2.out 1
      have HB5 := Lib.hid (blk_set2 HP2.out (.slice xa X.length xc) (.slice ya Y.length yc))
      have hf5 : Fr [p] wx ((wx.setCell ⟨p, 0, none⟩ (.slice xa X.length xc)).setCell ⟨p, 1, none⟩ (.slice ya Y.length yc)) := ((Fr.refl [p] wx).setCell (p := ⟨p, 0, none⟩) (.inl (by simp)) _).setCell (p := ⟨p, 1, none⟩) (.inl (by simp)) _
      have HX5 := Lib.hid (show OwnB ((wx.setCell ⟨p, 0, none⟩ (.slice xa X.length xc)).setCell ⟨p, 1, none⟩ (.slice ya Y.length yc)) w.heap.size (.slice xa X.length xc) X from OwnF.keptW HX.out hf5 HP2.out (by decide))
      have HY5 := Lib.hid (OwnF.keptW HY.out hf5 HP2.out (by decide))
      have HF5 := Lib.hid ((HF2.out.mono (S' := [p]) (by simp)).trans hf5 (fun x hx => .inl hx))
      clear hf5
      go_wp2
      go_ret
      exact ⟨.inr ⟨(X, Y), rfl, rfl, xa, xc, ya, yc, HB5.out, HX5.out, HY5.out⟩, HF5.out⟩

end Go.Proofs.Ytkdmkpdooiacaaa
