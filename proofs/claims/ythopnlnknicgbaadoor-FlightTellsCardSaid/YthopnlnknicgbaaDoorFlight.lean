/- flight: New, Open, Close, Busy: what each does. -/
import Derived.Test.YthopnlnknicgbaaDoorGen
import Derived.Test.YthopnlnknicgbaaDoorInfo
import Derived.BigQuiet
namespace Go.Proofs.YthopnlnknicgbaaDoor
open Go.RowKit

theorem infoAsker : (Tryd.prog.info? 81).map (fun i => (i.zero, i.size, i.bytes)) = some (some (.pointer none), 1, 8) := by kernel_rfl

/-- what a slot holds, as a value -/
def slv (s : Option (Int × Int)) (b : Nat) : Value := match s with
  | none => .pointer none
  | some _ => .pointer (some ⟨b, 0, none⟩)

structure Fly (w : World) (p g n : Nat) (pb : Nat → Nat) (sl : Nat → Option (Int × Int)) (busy : Int) : Prop where
  blk : w.heap[p]? = some (.cells #[.slice (some ⟨g, 0, none⟩) n n, .int .i64 busy] 80 (0, 0))
  row : RowF w g 81 n n (fun j => slv (sl j) (pb j))
  ask : ∀ j, j < n → ∀ a b, sl j = some (a, b) → w.heap[pb j]? = some (.cells #[.int .i64 a, .int .i64 b] 83 (0, 0))
  hp : p ≠ g

theorem blkT {w : World} {x y : Nat} {cs ds : Array Value} {T U : TypeId} (hx : w.heap[x]? = some (.cells cs T (0, 0))) (hy : w.heap[y]? = some (.cells ds U (0, 0))) (hT : T ≠ U) : x ≠ y := by
  rintro rfl
  rw [hx] at hy
  simp only [Option.some.injEq, Obj.cells.injEq] at hy
  exact hT hy.2.1

theorem blk_set' {w : World} {p : Nat} {cs : Array Value} {T : TypeId} (h : w.heap[p]? = some (.cells cs T (0, 0))) (j : Nat) (u : Value) {ds : Array Value} (hd : cs.setIfInBounds j u = ds) :
    (w.setCell ⟨p, j, none⟩ u).heap[p]? = some (.cells ds T (0, 0)) := by
  subst hd
  simp only [World.setCell]
  rw [Array.getElem?_modify, if_pos rfl, h]
  rfl

section
variable {w w' : World} {p g n : Nat} {pb : Nat → Nat} {sl : Nat → Option (Int × Int)} {busy : Int}

theorem Fly.kept (h : Fly w p g n pb sl busy) (hf : Fr [] w w') : Fly w' p g n pb sl busy :=
  ⟨hf.blk h.blk (by simp), h.row.kept hf (by simp), fun j hj a b e => hf.blk (h.ask j hj a b e) (by simp), h.hp⟩

/-- a slot, and how many are busy, are told anew -/
theorem Fly.set (h : Fly w p g n pb sl busy) (hf : Fr [] w w') (i : Nat) (s : Option (Int × Int)) (b : Nat) (busy' : Int) (hs : ∀ x y, s = some (x, y) → w'.heap[b]? = some (.cells #[.int .i64 x, .int .i64 y] 83 (0, 0))) :
    (w'.cell? ⟨p, 1, none⟩ = some (.int .i64 busy) ∧ (w'.setCell ⟨g, i, none⟩ (slv s b)).cell? ⟨p, 1, none⟩ = some (.int .i64 busy) ∧ (w'.setCell ⟨g, i, none⟩ (slv s b)).frozen? ⟨p, 1, none⟩ = false) ∧
    Fly ((w'.setCell ⟨g, i, none⟩ (slv s b)).setCell ⟨p, 1, none⟩ (.int .i64 busy')) p g n (fun j => if j = i then b else pb j) (fun j => if j = i then s else sl j) busy' ∧
    Fr [p, g] w ((w'.setCell ⟨g, i, none⟩ (slv s b)).setCell ⟨p, 1, none⟩ (.int .i64 busy')) := by
  have k := h.kept hf
  have fa : Fr [g] w' (w'.setCell ⟨g, i, none⟩ (slv s b)) := (Fr.refl [g] w').setCell (by simp) _
  have b1 := fa.blk k.blk (by simpa using h.hp)
  have fb : Fr [p] (w'.setCell ⟨g, i, none⟩ (slv s b)) ((w'.setCell ⟨g, i, none⟩ (slv s b)).setCell ⟨p, 1, none⟩ (.int .i64 busy')) := (Fr.refl [p] _).setCell (by simp) _
  have r1 := (k.row.stored i (slv s b)).kept fb (by simpa using h.hp.symm)
  obtain ⟨cur, hc, _⟩ := k.row
  have hask : ∀ (y : Nat) (cs : Array Value), w'.heap[y]? = some (Obj.cells cs 83 (0, 0)) → ((w'.setCell ⟨g, i, none⟩ (slv s b)).setCell ⟨p, 1, none⟩ (.int .i64 busy')).heap[y]? = some (Obj.cells cs 83 (0, 0)) := fun y cs hy =>
    fb.blk (fa.blk hy (by simpa using blkT hy hc (by decide))) (by simpa using blkT hy k.blk (by decide))
  refine ⟨⟨blk_cell k.blk 1 rfl, blk_cell b1 1 rfl, blk_frozen b1 1⟩, ⟨blk_set' b1 1 (.int .i64 busy') rfl, r1.congr (fun j hj => ?_), fun j hj x y e => ?_, h.hp⟩, ((hf.mono (S' := [p, g]) (by simp)).trans fa (by simp)).trans fb (by simp)⟩
  · by_cases hji : j = i
    · rw [if_pos hji, if_pos hji, if_pos hji]
    · rw [if_neg hji, if_neg hji, if_neg hji]
  · by_cases hji : j = i
    · rw [if_pos hji] at e ⊢
      exact hask _ _ (hs x y e)
    · rw [if_neg hji] at e ⊢
      exact hask _ _ (k.ask j hj x y e)
end

/-- the first free slot; k where there is none -/
def ffr (sl : Nat → Option (Int × Int)) : Nat → Nat
  | 0 => 0
  | k + 1 => if ffr sl k < k then ffr sl k else if sl k = none then k else k + 1

theorem ffr_le (sl : Nat → Option (Int × Int)) (k : Nat) : ffr sl k ≤ k := by
  induction k with
  | zero => exact Nat.le_refl _
  | succ k ih => unfold ffr; split; · omega
                 · split <;> omega

theorem ffr_spec (sl : Nat → Option (Int × Int)) (k : Nat) : (∀ j, j < ffr sl k → sl j ≠ none) ∧ (ffr sl k < k → sl (ffr sl k) = none) := by
  induction k with
  | zero => exact ⟨fun j hj => absurd hj (Nat.not_lt_zero _), fun h => absurd h (Nat.not_lt_zero _)⟩
  | succ k ih =>
    have hle := ffr_le sl k
    unfold ffr
    by_cases h : ffr sl k < k
    · rw [if_pos h]; exact ⟨ih.1, fun _ => ih.2 h⟩
    · rw [if_neg h]
      have e : ffr sl k = k := by omega
      by_cases h2 : sl k = none
      · rw [if_pos h2]; exact ⟨fun j hj => ih.1 j (by omega), fun _ => h2⟩
      · rw [if_neg h2]
        refine ⟨fun j hj => ?_, fun h => absurd h (Nat.lt_irrefl _)⟩
        by_cases h3 : j = k
        · subst h3; exact h2
        · exact ih.1 j (by omega)

theorem ffr_hit (sl : Nat → Option (Int × Int)) (n k : Nat) (hk : k < n) (h : sl k = none) (hn : ∀ j, j < k → sl j ≠ none) : ffr sl n = k := by
  have hs := ffr_spec sl n
  have hl := ffr_le sl n
  by_cases h1 : ffr sl n < k
  · exact absurd (hs.2 (by omega)) (hn _ h1)
  · by_cases h2 : k < ffr sl n
    · exact absurd h (hs.1 k h2)
    · omega

theorem ffr_miss (sl : Nat → Option (Int × Int)) (n : Nat) (hn : ∀ j, j < n → sl j ≠ none) : ffr sl n = n := by
  have hs := ffr_spec sl n
  have hl := ffr_le sl n
  by_cases h1 : ffr sl n < n
  · exact absurd (hs.2 h1) (hn _ h1)
  · omega

def FOk (n : Int) : Prop := 1 ≤ n ∧ n ≤ 1000

set_option maxHeartbeats 1000000 in
theorem flight_new (w : World) (n : Int) : Calls Tryd.prog 18 #[.int .i64 n] w fun e w' => Fr [] w w' ∧
    ((FOk n ∧ ∃ p g, e = .returned (.tuple #[.pointer (some ⟨p, 0, none⟩), .nilIface]) ∧ w.heap.size ≤ p ∧ w.heap.size ≤ g ∧ Fly w' p g n.toNat (fun _ => 0) (fun _ => none) 0) ∨
    (¬ FOk n ∧ e = .returned (.tuple #[.pointer none, .iface 24 (.int .i64 6)]))) := by
  by_cases hok : FOk n
  · have hok' := hok
    unfold FOk at hok'
    have hmk := run_mk (P := Tryd.prog) 78 81 infoAsker Tryd.underlying78 n.toNat (by omega) (by unfold maxLen; omega)
    obtain ⟨m, rfl⟩ : ∃ m : Nat, n = (m : Int) := ⟨n.toNat, by omega⟩
    simp only [Int.toNat_natCast] at hmk
    have HOK := Lib.hid hok; clear hok
    go_enter Tryd.func18, Tryd.ntmps18
    go_wp2
    go_ret2
    have h1 := row_mk w 81 (.pointer none) rfl m (by unfold maxLen; omega)
    refine ⟨((Fr.refl [] w).alloc _).alloc _, .inl ⟨HOK.out, _, _, rfl, by simp, Nat.le_refl _, ?_⟩⟩
    refine ⟨?_, ?_, fun j _ a b e => by simp at e, by simp⟩
    · have h2 := heap_alloc_new (w.alloc (.cells (madeCells #[.pointer none] m) 81)) (.cells #[.slice (some ⟨w.heap.size, 0, none⟩) m m, .int .i64 0] 80)
      rw [World.size_alloc] at h2
      exact h2
    · exact h1.alloc _
  · have HOK := Lib.hid hok
    unfold FOk at hok
    by_cases h1 : n < 1
    all_goals
      go_enter Tryd.func18, Tryd.ntmps18
      go_wp2
      go_ret2
      exact ⟨Fr.refl _ _, .inr ⟨HOK.out, rfl⟩⟩

set_option maxHeartbeats 1000000 in
theorem flight_busy (w : World) {p g n : Nat} {pb : Nat → Nat} {sl : Nat → Option (Int × Int)} {busy : Int} (h : Fly w p g n pb sl busy) :
    Calls Tryd.prog 21 #[.pointer (some ⟨p, 0, none⟩)] w fun e w' => e = .returned (.int .i64 busy) ∧ w' = w := by
  have c1 := blk_cell h.blk 1 rfl
  clear h
  go_enter Tryd.func21, Tryd.ntmps21
  go_wp2
  go_ret
  exact ⟨rfl, rfl⟩

set_option maxRecDepth 100000 in
set_option maxHeartbeats 1000000 in
theorem flight_open (w : World) {p g n : Nat} {pb : Nat → Nat} {sl : Nat → Option (Int × Int)} {busy : Int} (h : Fly w p g n pb sl busy) (hn : n ≤ 1000) (hb : -100000 ≤ busy ∧ busy ≤ 100000) (who id : Int) :
    Calls Tryd.prog 19 #[.pointer (some ⟨p, 0, none⟩), .int .i64 who, .int .i64 id] w fun e w' =>
      (ffr sl n < n ∧ e = .returned (.tuple #[.int .i64 (ffr sl n), .nilIface]) ∧ (∃ b, Fly w' p g n (fun j => if j = ffr sl n then b else pb j) (fun j => if j = ffr sl n then some (who, id) else sl j) (busy + 1)) ∧ Fr [p, g] w w') ∨
      (ffr sl n = n ∧ e = .returned (.tuple #[.int .i64 0, .iface 24 (.int .i64 7)]) ∧ w' = w) := by
  have c0 := blk_cell h.blk 0 rfl
  have H := Lib.hid h; clear h
  go_enter Tryd.func19, Tryd.ntmps19
  go_wp2
  go_loopw [15] (fun i wr => ∃ k : Nat, k ≤ n ∧ i = .int .i64 k ∧ Hid (∀ j, j < k → sl j ≠ none) ∧ wr = w) (fun i _ => n - (intOf i).toNat)
  case atStart => exact ⟨0, by omega, rfl, Lib.hid (fun j hj => by omega), rfl⟩
  case round =>
    obtain ⟨k, hk, rfl, HN, rfl⟩ := hrel
    by_cases hlt : k < n
    · have k1 := H.out.row.cell k hlt
      have k0 : (0 : Int) ≤ (k : Int) := by omega
      have k3 : (k : Int) < (n : Int) := by omega
      by_cases hs : sl k = none
      · have hff := ffr_hit sl n k hlt hs HN.out
        have HFF := Lib.hid hff; clear hff
        rw [hs] at k1
        have k1' : wr.cell? ⟨g, k, none⟩ = some (.pointer none) := k1
        have fz := H.out.row.frozen k
        have c1 := blk_cell H.out.blk 1 rfl
        have hgl := H.out.row.lt
        have hpl := lt_of_blk H.out.blk
        have hset := H.out.set ((Fr.refl [] wr).alloc (.cells #[.int .i64 who, .int .i64 id] 83)) k (some (who, id)) wr.heap.size (busy + 1) (fun x y e => by
          simp only [Option.some.injEq, Prod.mk.injEq] at e
          obtain ⟨rfl, rfl⟩ := e
          exact heap_alloc_new wr _)
        obtain ⟨⟨s1, s2, s3⟩, s4, s5⟩ := hset
        have HS := Lib.hid s4
        have HF := Lib.hid s5
        clear s4 s5 hs k1
        simp only [slv] at s2 s3
        have z1 := ((Fr.refl [] wr).alloc (.cells #[.int .i64 who, .int .i64 id] 83)).cell k1' (by simp)
        have z2 := (H.out.row.alloc (.cells #[.int .i64 who, .int .i64 id] 83)).frozen k
        have z3 := ((Fr.refl [] wr).alloc (.cells #[.int .i64 who, .int .i64 id] 83)).cell c0 (by simp)
        have hcomm : (wr.alloc (.cells #[.int .i64 who, .int .i64 id] 83)).setCell ⟨g, k, none⟩ (.pointer (some ⟨wr.heap.size, 0, none⟩)) = (wr.setCell ⟨g, k, none⟩ (.pointer (some ⟨wr.heap.size, 0, none⟩))).alloc (.cells #[.int .i64 who, .int .i64 id] 83) := World.setCell_alloc_past _ g k _ hgl
        have hcomm2 : ((wr.setCell ⟨g, k, none⟩ (.pointer (some ⟨wr.heap.size, 0, none⟩))).alloc (.cells #[.int .i64 who, .int .i64 id] 83)).setCell ⟨p, 1, none⟩ (.int .i64 (busy + 1)) = ((wr.setCell ⟨g, k, none⟩ (.pointer (some ⟨wr.heap.size, 0, none⟩))).setCell ⟨p, 1, none⟩ (.int .i64 (busy + 1))).alloc (.cells #[.int .i64 who, .int .i64 id] 83) := World.setCell_alloc_past _ p 1 _ (by simpa using hpl)
        rw [hcomm] at s2 s3
        have hS2 := HS.out
        have hF2 := HF.out
        simp only [slv] at hS2 hF2
        rw [hcomm, hcomm2] at hS2 hF2
        have HS2 := Lib.hid hS2
        have HF2 := Lib.hid hF2
        clear hcomm hcomm2 hS2 hF2
        go_wp2
        go_ret2
        rw [HFF.out]
        exact .inl ⟨hlt, rfl, ⟨_, HS2.out⟩, HF2.out⟩
      · obtain ⟨xy, hxy⟩ : ∃ xy, sl k = some xy := Option.ne_none_iff_exists'.1 hs
        rw [hxy] at k1
        have k1' : wr.cell? ⟨g, k, none⟩ = some (.pointer (some ⟨pb k, 0, none⟩)) := k1
        have HN2 := Lib.hid (show ∀ j, j < k + 1 → sl j ≠ none from fun j hj => by
          by_cases h3 : j = k
          · subst h3; exact hs
          · exact HN.out j (by omega))
        clear k1 hs hxy
        go_wp2
        go_roundw
        case rel => exact ⟨k + 1, by omega, by go_num, HN2, by trivial⟩
        case measure => simp [intOf]; omega
    · obtain rfl : k = n := by omega
      have HFF := Lib.hid (ffr_miss sl k HN.out)
      go_wp2
      go_ret2
      exact .inr ⟨HFF.out, rfl, rfl⟩

set_option maxRecDepth 100000 in
set_option maxHeartbeats 1000000 in
theorem flight_close (w : World) {p g n : Nat} {pb : Nat → Nat} {sl : Nat → Option (Int × Int)} {busy : Int} (h : Fly w p g n pb sl busy) (hn : n ≤ 1000) (hb : -100000 ≤ busy ∧ busy ≤ 100000) (k : Nat) (hk : k < n) (a b : Int) (hs : sl k = some (a, b)) :
    Calls Tryd.prog 20 #[.pointer (some ⟨p, 0, none⟩), .int .i64 k] w fun e w' =>
      e = .returned (.tuple #[.int .i64 a, .int .i64 b, .nilIface]) ∧ (∃ c, Fly w' p g n (fun j => if j = k then c else pb j) (fun j => if j = k then none else sl j) (busy - 1)) ∧ Fr [p, g] w w' := by
  have c0 := blk_cell h.blk 0 rfl
  have c1 := blk_cell h.blk 1 rfl
  have k1 := h.row.cell k hk
  rw [hs] at k1
  have k1' : w.cell? ⟨g, k, none⟩ = some (.pointer (some ⟨pb k, 0, none⟩)) := k1
  have fz := h.row.frozen k
  have ab := h.ask k hk a b hs
  have hset := h.set (Fr.refl [] w) k none 0 (busy - 1) (fun x y e => by simp at e)
  have h1 : (w.setCell ⟨g, k, none⟩ (.pointer none)).heap[pb k]? = some (.cells #[.int .i64 a, .int .i64 b] 83 (0, 0)) := ((Fr.refl [g] w).setCell (p := ⟨g, k, none⟩) (by simp) (.pointer none)).blk ab (by
    obtain ⟨cur, hc, _⟩ := h.row
    simpa using blkT ab hc (by decide))
  have h2 : ((w.setCell ⟨g, k, none⟩ (.pointer none)).setCell ⟨p, 1, none⟩ (.int .i64 (busy - 1))).heap[pb k]? = some (.cells #[.int .i64 a, .int .i64 b] 83 (0, 0)) := ((Fr.refl [p] _).setCell (p := ⟨p, 1, none⟩) (by simp) (.int .i64 (busy - 1))).blk h1 (by simpa using blkT ab h.blk (by decide))
  have e0 := blk_cell h2 0 rfl
  have e1 := blk_cell h2 1 rfl
  obtain ⟨⟨s1, s2, s3⟩, s4, s5⟩ := hset
  have HS := Lib.hid s4
  have HF := Lib.hid s5
  simp only [slv] at s2 s3
  clear s4 s5 h hs k1 ab h1 h2
  have k0 : (0 : Int) ≤ (k : Int) := by omega
  have k3 : (k : Int) < (n : Int) := by omega
  go_enter Tryd.func20, Tryd.ntmps20
  go_wp2_with fail
  go_quiet (fail)
  go_wp2
  go_ret3
  exact ⟨rfl, ⟨0, HS.out.kept ((Fr.refl [] _).drewN nq)⟩, HF.out.drewN nq⟩

set_option maxHeartbeats 1000000 in
theorem flight_close_none (w : World) {p g n : Nat} {pb : Nat → Nat} {sl : Nat → Option (Int × Int)} {busy : Int} (h : Fly w p g n pb sl busy) (hn : n ≤ 1000) (k : Nat) (hk : k < n) (hs : sl k = none) :
    Calls Tryd.prog 20 #[.pointer (some ⟨p, 0, none⟩), .int .i64 k] w fun e w' =>
      e = .returned (.tuple #[.int .i64 0, .int .i64 0, .iface 24 (.int .i64 9)]) ∧ w' = w := by
  have c0 := blk_cell h.blk 0 rfl
  have k1 := h.row.cell k hk
  rw [hs] at k1
  have k1' : w.cell? ⟨g, k, none⟩ = some (.pointer none) := k1
  clear h hs k1
  have k0 : (0 : Int) ≤ (k : Int) := by omega
  have k3 : (k : Int) < (n : Int) := by omega
  go_enter Tryd.func20, Tryd.ntmps20
  go_wp2
  go_ret3
  exact ⟨rfl, rfl⟩

set_option maxHeartbeats 1000000 in
theorem flight_close_range (w : World) {p g n : Nat} {pb : Nat → Nat} {sl : Nat → Option (Int × Int)} {busy : Int} (h : Fly w p g n pb sl busy) (hn : n ≤ 1000) (k : Int) (hk : n ≤ k) :
    Calls Tryd.prog 20 #[.pointer (some ⟨p, 0, none⟩), .int .i64 k] w fun e w' =>
      e = .returned (.tuple #[.int .i64 0, .int .i64 0, .iface 24 (.int .i64 6)]) ∧ w' = w := by
  have c0 := blk_cell h.blk 0 rfl
  clear h
  have k0 : ¬ k < 0 := by omega
  go_enter Tryd.func20, Tryd.ntmps20
  go_wp2
  go_ret3
  exact ⟨rfl, rfl⟩

end Go.Proofs.YthopnlnknicgbaaDoor
