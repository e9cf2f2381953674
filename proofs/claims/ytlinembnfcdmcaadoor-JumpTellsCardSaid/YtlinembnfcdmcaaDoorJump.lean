/- jump: Moves and Pick. -/
import Derived.Test.YtlinembnfcdmcaaDoorHash
namespace Go.Proofs.YtlinembnfcdmcaaDoor
open Go.RowKit

/-- four bytes, then a key's -/
def cat4 (j : Nat) (kf : Nat → Int) (i : Nat) : Int := if i < 4 then fo j i else kf (i - 4)
/-- does a key go to j? -/
def jmp (kf : Nat → Int) (m j : Nat) : Bool := hsh (cat4 j kf) (4 + m) % ((j : Int) + 1) == 0
/-- where it went, of the first k -/
def mvl (kf : Nat → Int) (m : Nat) : Nat → List Int
  | 0 => []
  | 1 => [0]
  | k + 2 => if jmp kf m (k + 1) then mvl kf m (k + 1) ++ [((k + 1 : Nat) : Int)] else mvl kf m (k + 1)

theorem mvl_succ (kf : Nat → Int) (m k : Nat) (hk : 1 ≤ k) : mvl kf m (k + 1) = if jmp kf m k then mvl kf m k ++ [(k : Int)] else mvl kf m k := by
  obtain ⟨q, rfl⟩ : ∃ q, k = q + 1 := ⟨k - 1, by omega⟩
  rfl

theorem mvl_len (kf : Nat → Int) (m k : Nat) : (mvl kf m k).length ≤ k ∧ (1 ≤ k → 1 ≤ (mvl kf m k).length) := by
  induction k with
  | zero => simp [mvl]
  | succ k ih =>
    by_cases hk : 1 ≤ k
    · rw [mvl_succ kf m k hk]
      have := ih.2 hk
      split
      · simp; omega
      · omega
    · obtain rfl : k = 0 := by omega
      simp [mvl]

def JOk (n : Int) : Prop := 1 ≤ n ∧ n ≤ 1000

def MovesPost (w : World) (kf : Nat → Int) (m : Nat) (n : Int) (e : Ending) (w' : World) : Prop :=
  Fr [] w w' ∧ ((JOk n ∧ ∃ g c, e = .returned (.tuple #[.slice (some ⟨g, 0, none⟩) (mvl kf m n.toNat).length c, .nilIface]) ∧ w.heap.size ≤ g ∧ RowI w' g (mvl kf m n.toNat).length c (fun i => (mvl kf m n.toNat).getD i 0)) ∨
    (¬ JOk n ∧ e = .returned (.tuple #[.slice none 0 0, .iface 30 (.int .i64 6)])))

set_option maxHeartbeats 1000000 in
theorem moves_any (w : World) (a : Option Addr) (m c : Nat) (kf : Nat → Int) (n : Int) (hv : RdF w (.slice a m c) m (fun j => .int .u8 (kf j))) (hf : ∀ j, j < m → 0 ≤ kf j ∧ kf j ≤ 255) (hm : m ≤ 140737488351232) :
    Calls Tryd.prog 16 #[.slice a m c, .int .i64 n] w (MovesPost w kf m n) := by
  have HV := Lib.hid hv; clear hv
  have HK := Lib.hid hf; clear hf
  by_cases h1 : n < 1
  · go_enter Tryd.func16, Tryd.ntmps16
    go_wp2
    go_ret2
    exact ⟨Fr.refl _ _, .inr ⟨by unfold JOk; omega, rfl⟩⟩
  by_cases h2 : 1000 < n
  · go_enter Tryd.func16, Tryd.ntmps16
    go_wp2
    go_ret2
    exact ⟨Fr.refl _ _, .inr ⟨by unfold JOk; omega, rfl⟩⟩
  have hrow0 : RowI (w.alloc (.cells #[.int .i64 0] 3)) w.heap.size 1 1 (fun i => ([0] : List Int).getD i 0) := row_lit w _ _ 1 _ rfl (by decide) (fun j hj => match j, hj with | 0, _ => rfl)
  have HR0 := Lib.hid hrow0; clear hrow0
  go_enter Tryd.func16, Tryd.ntmps16
  go_wp2
  go_loopw [6, 7] (fun v i wr => ∃ k : Nat, 1 ≤ k ∧ (k : Int) ≤ n ∧ i = .int .i64 k ∧ OwnF wr w.heap.size 3 v (mvl kf m k).length (fun i => .int .i64 ((mvl kf m k).getD i 0)) ∧ Fr [] w wr) (fun _ i _ => (n - intOf i).toNat)
  case atStart => exact ⟨1, by omega, by omega, rfl, .inr ⟨_, _, rfl, Nat.le_refl _, HR0.out⟩, (Fr.refl _ _).alloc _⟩
  case round =>
    obtain ⟨k, hk1, hk, rfl, ho, hfr⟩ := hrel
    have HO := Lib.hid ho; clear ho
    have HFR := Lib.hid hfr; clear hfr
    by_cases hlt : (k : Int) < n
    · have hl := mvl_len kf m k
      have hsz := HFR.out.size
      go_wp2_with fail
      refine (four_any _ k (by omega) (by omega)).mono ?_
      rintro e w1 ⟨rfl, hr1, hf1⟩
      have HR1 := Lib.hid hr1; clear hr1
      have HV1 := Lib.hid ((HV.out.fr HFR.out (by simp)).fr hf1 (by simp))
      have HO1 := Lib.hid (HO.out.kept hf1 (by simp))
      have HF1 := Lib.hid (HFR.out.trans hf1 (by simp))
      have hs1 := hf1.size
      clear hf1
      go_wp2_with (at_builtin; refine wpList_app rfl (.tmp 22) (.tmp 23) 34 rfl 5 infoU8 Tryd.underlying34 rfl (base := wr.heap.size) (.inr ⟨_, _, rfl, Nat.le_refl _, HR1.out⟩) rfl HV1.out rfl (fun _ _ => rfl) (by unfold maxLen; omega) (by omega) hs1 ?_; intro v2 w2 ho2 hf2 _)
      have hrd2 : RdF w2 v2 (4 + m) (fun j => .int .u8 (cat4 k kf j)) := ho2.rd.congr (fun j hj => by
        unfold app cat4
        by_cases h4 : j < 4
        · rw [if_pos h4, if_pos h4]
        · rw [if_neg h4, if_neg h4])
      obtain ⟨a2, c2, rfl⟩ := hrd2.slice
      have HRD2 := Lib.hid hrd2
      have HO2 := Lib.hid (HO1.out.kept hf2 (fun g hg => by have := HO1.out.lt g (by simp [hg]); have := HO.out.lt g (by simp [hg]); simp [Value.ownBlock]; omega))
      have HF2 := Lib.hid (HF1.out.trans hf2 (by simp [Value.ownBlock]; omega))
      have hs2 := hf2.size
      clear hrd2 ho2 hf2
      have hbd : ∀ j, j < 4 + m → 0 ≤ cat4 k kf j ∧ cat4 k kf j ≤ 255 := fun j hj => by
        unfold cat4
        by_cases h4 : j < 4
        · rw [if_pos h4]; exact fo_bd _ _
        · rw [if_neg h4]; exact HK.out _ (by omega)
      have HBD := Lib.hid hbd; clear hbd
      go_wp2_with fail
      refine (hash_any _ a2 (4 + m) c2 (cat4 k kf) HRD2.out HBD.out (by omega)).mono ?_
      rintro e w3 ⟨rfl, rfl⟩
      have hhb := hsh_bd (cat4 k kf) (4 + m)
      have hmv := mvl_succ kf m k hk1
      have HMV := Lib.hid hmv; clear hmv
      by_cases hj : jmp kf m k = true
      · have hjb : (hsh (cat4 k kf) (4 + m) % ((k : Int) + 1) == 0) = true := hj
        rw [if_pos hj] at HMV
        clear hj
        generalize hsh (cat4 k kf) (4 + m) = H at *
        go_wp2_with (at_builtin; refine wpList_app rfl (.tmp 30) (.tmp 32) 22 rfl 3 infoInt Tryd.underlying22 rfl (HO2.out.alloc _) rfl (rd_one _ _ _ (by simp)) rfl (fun _ _ => rfl) (by unfold maxLen; omega) (by omega) (by simp; omega) ?_; intro v4 w4 ho4 hf4 _)
        have HO4 := Lib.hid (ho4.congr (f' := fun i => .int .i64 ((mvl kf m k ++ [(k : Int)]).getD i 0)) (fun j hj => by
          unfold app
          by_cases h4 : j < (mvl kf m k).length
          · rw [if_pos h4]; simp only [List.getD, List.getElem?_append_left h4]
          · obtain rfl : j = (mvl kf m k).length := by omega
            rw [if_neg h4]; simp [List.getD]))
        have HF4 := Lib.hid (HF2.out.app _ hf4 HO2.out.ge)
        clear ho4 hf4
        go_wp2
        go_roundw
        case rel => exact ⟨k + 1, by omega, by omega, by go_num, by rw [HMV.out, List.length_append]; exact HO4.out, HF4.out⟩
        case measure => simp [intOf]; omega
      · have hjb : (hsh (cat4 k kf) (4 + m) % ((k : Int) + 1) == 0) = false := by unfold jmp at hj; simpa using hj
        rw [if_neg hj] at HMV
        clear hj
        generalize hsh (cat4 k kf) (4 + m) = H at *
        go_wp2
        go_roundw
        case rel => exact ⟨k + 1, by omega, by omega, by go_num, by rw [HMV.out]; exact HO2.out, HF2.out⟩
        case measure => simp [intOf]; omega
    · obtain ⟨g, cp, rfl, hg, hr⟩ := HO.out.row (by have := (mvl_len kf m k).2 hk1; omega)
      have HR := Lib.hid hr; clear hr
      go_wp2
      go_ret2
      have e : n.toNat = k := by omega
      exact ⟨HFR.out, .inl ⟨by unfold JOk; omega, g, cp, by rw [e]; rfl, hg, by rw [e]; exact HR.out⟩⟩

/-- where a key is, of k -/
def pk (kf : Nat → Int) (m k : Nat) : Int := (mvl kf m k).getD ((mvl kf m k).length - 1) 0

theorem pk_succ (kf : Nat → Int) (m k : Nat) (hk : 1 ≤ k) : pk kf m (k + 1) = if jmp kf m k then (k : Int) else pk kf m k := by
  unfold pk
  rw [mvl_succ kf m k hk]
  split
  · simp [List.getD]
  · rfl

theorem pk_bd (kf : Nat → Int) (m k : Nat) (hk : 1 ≤ k) : 0 ≤ pk kf m k ∧ pk kf m k < k := by
  induction k with
  | zero => omega
  | succ k ih =>
    by_cases h1 : 1 ≤ k
    · rw [pk_succ kf m k h1]
      have := ih h1
      split <;> omega
    · obtain rfl : k = 0 := by omega
      simp [pk, mvl]

def PickPost (w : World) (kf : Nat → Int) (m : Nat) (n : Int) (e : Ending) (w' : World) : Prop :=
  Fr [] w w' ∧ ((JOk n ∧ e = .returned (.tuple #[.int .i64 (pk kf m n.toNat), .nilIface])) ∨ (¬ JOk n ∧ e = .returned (.tuple #[.int .i64 0, .iface 30 (.int .i64 6)])))

set_option maxHeartbeats 1000000 in
theorem pick_any (w : World) (a : Option Addr) (m c : Nat) (kf : Nat → Int) (n : Int) (hv : RdF w (.slice a m c) m (fun j => .int .u8 (kf j))) (hf : ∀ j, j < m → 0 ≤ kf j ∧ kf j ≤ 255) (hm : m ≤ 140737488351232) :
    Calls Tryd.prog 18 #[.slice a m c, .int .i64 n] w (PickPost w kf m n) := by
  have HV := Lib.hid hv; clear hv
  have HK := Lib.hid hf; clear hf
  go_enter Tryd.func18, Tryd.ntmps18
  go_wp2_with fail
  refine (moves_any _ a m c kf n HV.out HK.out hm).mono ?_
  rintro e w1 ⟨hfr, ⟨hok, g, cp, rfl, hg, hr⟩ | ⟨hno, rfl⟩⟩
  · have HF := Lib.hid hfr; clear hfr
    have hl := mvl_len kf m n.toNat
    have hok' := hok
    unfold JOk at hok'
    have hl1 := hl.2 (by omega)
    have hc : w1.cell? ⟨g, (mvl kf m n.toNat).length - 1, none⟩ = some (.int .i64 (pk kf m n.toNat)) := hr.cell ((mvl kf m n.toNat).length - 1) (by omega)
    have e1 : (((mvl kf m n.toNat).length : Int) - 1).toNat = (mvl kf m n.toNat).length - 1 := by omega
    have HR := Lib.hid hr; clear hr
    have HE := Lib.hid e1; clear e1
    have HOK := Lib.hid hok; clear hok
    generalize (mvl kf m n.toNat).length = L at *
    have hL : L ≤ 1000 := by omega
    clear hl
    go_wp2
    go_ret2
    exact ⟨HF.out, .inl ⟨HOK.out, rfl⟩⟩
  · have HF := Lib.hid hfr; clear hfr
    have HNO := Lib.hid hno; clear hno
    go_wp2
    go_ret2
    exact ⟨HF.out, .inr ⟨HNO.out, rfl⟩⟩

theorem jumped_any (w : World) : Calls Tryd.prog 14 #[] w fun e w' => e = .returned (.bool true) ∧ Fr [] w w' := by
  go_enter Tryd.func14, Tryd.ntmps14
  go_wp2_with fail
  refine (pick_any _ none 0 0 (fun _ => 0) 1 (.inl ⟨rfl, rfl⟩) (fun j hj => by omega) (by decide)).mono ?_
  rintro e w1 ⟨hfr, ⟨hok, rfl⟩ | ⟨hno, _⟩⟩
  · have HF := Lib.hid hfr; clear hfr hok
    have e1 : pk (fun _ => 0) 0 (1 : Int).toNat = 0 := rfl
    rw [e1]
    clear e1
    go_wp2_with fail
    refine (moves_any _ none 0 0 (fun _ => 0) 1 (.inl ⟨rfl, rfl⟩) (fun j hj => by omega) (by decide)).mono ?_
    rintro e w2 ⟨hfr2, ⟨hok, g, cp, rfl, hg, hr⟩ | ⟨hno, _⟩⟩
    · have HF2 := Lib.hid (HF.out.trans hfr2 (by simp)); clear hfr2 hr hok
      have e1 : (mvl (fun _ => 0) 0 (1 : Int).toNat).length = 1 := rfl
      rw [e1]
      clear e1
      go_wp2
      go_ret
      exact ⟨rfl, HF2.out⟩
    · exact absurd ⟨by omega, by omega⟩ hno
  · exact absurd ⟨by omega, by omega⟩ hno

end Go.Proofs.YtlinembnfcdmcaaDoor
