/- DrrTells: Drawn of the reference. -/
import Derived.Test.YthopnlnknicgbaaDoorDrrLines
namespace Go.Proofs.YthopnlnknicgbaaDoor
open Go.RowKit

/-- the lines that are drawn from -/
structure DS (w wr : World) (pb rb gc cc gl cl : Nat) (sv cv lv : Value) (n : Nat) (V : Nat → Value) (s : Dst) : Prop where
  box : wr.heap[pb]? = some (.cells #[sv, cv, lv, .int .i64 s.pos, .bool s.vis] 50 (0, 0))
  res : wr.heap[rb]? = some (.cells #[.slice none 0 0, .slice none 0 0, .slice none 0 0, .int .i64 0, .bool false] 50 (0, 0))
  cr : RowI wr gc n cc s.cr
  ln : RowF wr gl 22 n cl V
  fr : Fr [] w wr
  low : w.heap.size ≤ pb ∧ w.heap.size ≤ rb ∧ w.heap.size ≤ gc ∧ w.heap.size ≤ gl ∧ pb ≠ rb

section
variable {w wr : World} {pb rb gc cc gl cl : Nat} {sv cv lv : Value} {n : Nat} {V : Nat → Value} {s s' : Dst}

theorem DS.kept {w' : World} (h : DS w wr pb rb gc cc gl cl sv cv lv n V s) (hf : Fr [] wr w') : DS w w' pb rb gc cc gl cl sv cv lv n V s :=
  ⟨hf.blk h.box (by simp), hf.blk h.res (by simp), h.cr.kept hf (by simp), h.ln.kept hf (by simp), h.fr.trans hf (by simp), h.low⟩

theorem DS.eqs (h : DS w wr pb rb gc cc gl cl sv cv lv n V s) (e1 : s'.pos = s.pos) (e2 : s'.vis = s.vis) (e3 : ∀ j, j < n → s'.cr j = s.cr j) : DS w wr pb rb gc cc gl cl sv cv lv n V s' :=
  ⟨by rw [e1, e2]; exact h.box, h.res, h.cr.congr (fun j hj => by rw [e3 j hj]), h.ln, h.fr, h.low⟩

theorem DS.setBox (h : DS w wr pb rb gc cc gl cl sv cv lv n V s) (j : Nat) (u : Value) {cv' lv' : Value} (hd : #[sv, cv, lv, .int .i64 s.pos, .bool s.vis].setIfInBounds j u = #[sv, cv', lv', .int .i64 s'.pos, .bool s'.vis]) (hc : ∀ i, i < n → s'.cr i = s.cr i) :
    DS w (wr.setCell ⟨pb, j, none⟩ u) pb rb gc cc gl cl sv cv' lv' n V s' := by
  have f : Fr [pb] wr (wr.setCell ⟨pb, j, none⟩ u) := (Fr.refl [pb] wr).setCell (p := ⟨pb, j, none⟩) (by simp) u
  obtain ⟨l1, l2, l3, l4, l5⟩ := h.low
  exact ⟨blk_set h.box j u hd, f.blk h.res (by simpa using fun e => l5 e.symm), (h.cr.kept f (by simpa using h.cr.ne_blk h.box (by decide))).congr (fun i hi => by rw [hc i hi]), h.ln.kept f (by simpa using h.ln.ne_blk h.box (by decide)), h.fr.trans f (fun x hx => .inr (by simp at hx; omega)), h.low⟩

theorem DS.credit (h : DS w wr pb rb gc cc gl cl sv cv lv n V s) (i : Nat) (x : Int) : DS w (wr.setCell ⟨gc, i, none⟩ (.int .i64 x)) pb rb gc cc gl cl sv cv lv n V ⟨s.pos, s.vis, fun j => if j = i then x else s.cr j⟩ := by
  have f : Fr [gc] wr (wr.setCell ⟨gc, i, none⟩ (.int .i64 x)) := (Fr.refl [gc] wr).setCell (p := ⟨gc, i, none⟩) (by simp) _
  obtain ⟨l1, l2, l3, l4, l5⟩ := h.low
  refine ⟨f.blk h.box (by simpa using (h.cr.ne_blk h.box (by decide)).symm), f.blk h.res (by simpa using (h.cr.ne_blk h.res (by decide)).symm), ?_, h.ln.kept f (by simpa using h.ln.ne_row h.cr (by decide)), h.fr.trans f (fun y hy => .inr (by simp at hy; omega)), h.low⟩
  exact (h.cr.stored i (.int .i64 x)).congr (fun j hj => by
    by_cases hji : j = i
    · simp [hji]
    · simp [hji])

theorem DS.line (h : DS w wr pb rb gc cc gl cl sv cv lv n V s) (i : Nat) (u : Value) : DS w (wr.setCell ⟨gl, i, none⟩ u) pb rb gc cc gl cl sv cv lv n (fun j => if j = i then u else V j) s := by
  have f : Fr [gl] wr (wr.setCell ⟨gl, i, none⟩ u) := (Fr.refl [gl] wr).setCell (p := ⟨gl, i, none⟩) (by simp) _
  obtain ⟨l1, l2, l3, l4, l5⟩ := h.low
  exact ⟨f.blk h.box (by simpa using (h.ln.ne_blk h.box (by decide)).symm), f.blk h.res (by simpa using (h.ln.ne_blk h.res (by decide)).symm), h.cr.kept f (by simpa using (h.ln.ne_row h.cr (by decide)).symm), h.ln.stored i u, h.fr.trans f (fun y hy => .inr (by simp at hy; omega)), h.low⟩
end

/-- what 'Drawn' leaves where something waits -/
def DrawnPost (w : World) (D : Nat → Prop) (sa : Option Addr) (n sc : Nat) (sh : Nat → Int) (s : Dst) (ln : Nat → Nat) (li : Nat → Nat → Int) (e : Ending) (w' : World) : Prop :=
  ∃ s1 ca cc la lc, DReach n sh ln (fun i => li i 0) s s1 ∧ dstops sh ln (fun i => li i 0) s1 ∧ s1.pos < n ∧
    e = .returned (.tuple #[.agg #[.slice sa n sc, .slice ca n cc, .slice la n lc, .int .i64 s1.pos, .bool true], .int .i64 s1.pos, .int .i64 (li s1.pos 0), .bool true]) ∧
    RL w' D (.slice ca n cc) (.slice la n lc) n (dgive sh (fun i => li i 0) s1) (fun j => if j = s1.pos then ln j - 1 else ln j) (fun j => if j = s1.pos then (fun k => li j (k + 1)) else li j) ∧ Fr [] w w'

theorem drawn_none (w : World) (sa ca la : Option Addr) (sc cn cc ln' lc P : Nat) (vis : Bool) (n : Nat) (sn : Nat) (V : Nat → Value) (ln : Nat → Nat) (hr : RdF w (.slice la n lc) n V) (hV : ∀ i, i < n → ∃ a c, V i = .slice a (ln i) c) (hz : nsum ln n = 0) (hn : n ≤ 40) :
    Calls Tryd.prog 29 #[.agg #[.slice sa sn sc, .slice ca cn cc, .slice la n lc, .int .i64 P, .bool vis]] w fun e w' =>
      e = .returned (.tuple #[.agg #[.slice sa sn sc, .slice ca cn cc, .slice la n lc, .int .i64 P, .bool vis], .int .i64 0, .int .i64 0, .bool false]) ∧ Fr [] w w' := by
  have hb0 := heap_alloc_new w (.cells #[.slice sa sn sc, .slice ca cn cc, .slice la n lc, .int .i64 P, .bool vis] 50)
  have hb1 := heap_alloc_new (w.alloc (.cells #[.slice sa sn sc, .slice ca cn cc, .slice la n lc, .int .i64 P, .bool vis] 50)) (.cells #[.slice none 0 0, .slice none 0 0, .slice none 0 0, .int .i64 0, .bool false] 50)
  have hq0 := ((Fr.refl [] _).alloc (.cells #[.slice none 0 0, .slice none 0 0, .slice none 0 0, .int .i64 0, .bool false] 50)).blk hb0 (by simp)
  simp only [World.size_alloc] at hb1 hq0
  obtain ⟨c0, c1, c2, c3, c4⟩ := box5 hq0
  have HF0 := Lib.hid (((Fr.refl [] w).alloc (.cells #[.slice sa sn sc, .slice ca cn cc, .slice la n lc, .int .i64 P, .bool vis] 50)).alloc (.cells #[.slice none 0 0, .slice none 0 0, .slice none 0 0, .int .i64 0, .bool false] 50))
  have HW := Lib.hid (waiting_any _ (.slice sa sn sc) (.slice ca cn cc) (.int .i64 P) (.bool vis) la n lc V ln (hr.fr HF0.out (by simp)) hV (by omega) (by omega))
  have HB0 := Lib.hid hq0
  have HB1 := Lib.hid hb1
  clear hr hV hb0 hb1 hq0
  go_enter Tryd.func29, Tryd.ntmps29
  go_wp2_with fail
  refine (HW.out).mono ?_
  rintro e w2 ⟨he, hf2⟩
  rw [hz] at he
  subst he
  have hq0 := hf2.blk HB0.out (by simp)
  have hq1 := hf2.blk HB1.out (by simp)
  clear c0 c1 c2 c3 c4
  obtain ⟨c0, c1, c2, c3, c4⟩ := box5 hq0
  obtain ⟨w5, hw5⟩ : ∃ w5, ((((w2.setCell ⟨w.heap.size + 1, 0, none⟩ (.slice sa sn sc)).setCell ⟨w.heap.size + 1, 1, none⟩ (.slice ca cn cc)).setCell ⟨w.heap.size + 1, 2, none⟩ (.slice la n lc)).setCell ⟨w.heap.size + 1, 3, none⟩ (.int .i64 P)).setCell ⟨w.heap.size + 1, 4, none⟩ (.bool vis) = w5 := ⟨_, rfl⟩
  obtain ⟨⟨s0, t0⟩, ⟨s1, t1⟩, ⟨s2, t2⟩, ⟨s3, t3⟩, ⟨s4, t4⟩, hb5, f5⟩ := five_store hq1 (.slice sa sn sc) (.slice ca cn cc) (.slice la n lc) (.int .i64 P) (.bool vis) hw5
  obtain ⟨e0, e1, e2, e3, e4⟩ := box5 hb5
  have HFR := Lib.hid ((HF0.out.trans hf2 (by simp)).trans f5 (fun x hx => .inr (by simp at hx; omega)))
  clear f5 hb5 hf2 hq0 hq1
  subst hw5
  go_wp2
  exact bodyPost_ret (v := .tuple #[.agg #[.slice sa sn sc, .slice ca cn cc, .slice la n lc, .int .i64 P, .bool vis], .int .i64 0, .int .i64 0, .bool false]) (by simp [results, Tryd.results29, go_sem, e0, e1, e2, e3, e4]) rfl ⟨rfl, HFR.out⟩

end Go.Proofs.YthopnlnknicgbaaDoor
