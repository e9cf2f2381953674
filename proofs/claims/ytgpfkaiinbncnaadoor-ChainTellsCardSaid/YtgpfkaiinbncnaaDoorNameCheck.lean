/- name.Check. -/
import Derived.Test.YtgpfkaiinbncnaaDoorInfo
import Derived.IntWalk
namespace Go.Proofs.YtgpfkaiinbncnaaDoor
open Go.RowKit

/-- how long a name is, so far -/
def nsz (s : Nat → ByteArray) : Nat → Int
  | 0 => 1
  | k + 1 => min (nsz s k + ((s k).size + 1)) 1073741824

theorem nsz_bd (s : Nat → ByteArray) (k : Nat) : 1 ≤ nsz s k ∧ nsz s k ≤ 1073741824 := by
  induction k with
  | zero => simp [nsz]
  | succ k ih => simp only [nsz]; omega

/-- is one of the first k labels too short, or too long? -/
def lbad (s : Nat → ByteArray) : Nat → Bool
  | 0 => false
  | k + 1 => lbad s k || (decide ((s k).size < 1) || decide (63 < (s k).size))

theorem lbad_true {s : Nat → ByteArray} {k n : Nat} (hk : k < n) (h : (s k).size < 1 ∨ 63 < (s k).size) : lbad s n = true := by
  induction n with
  | zero => omega
  | succ n ih =>
    simp only [lbad]
    by_cases e : k = n
    · subst e
      rcases h with h | h <;> simp [h]
    · rw [ih (by omega), Bool.true_or]

/-- what is wrong with a name -/
def nmFault (n : Nat) (s : Nat → ByteArray) : Int := if lbad s n = true then 3 else if 255 < nsz s n then 5 else 0

def erVn (z : Int) : Value := if z = 0 then .nilIface else .iface 27 (.int .i64 z)

set_option maxHeartbeats 2000000 in
set_option maxRecDepth 100000 in
theorem nameCheck_any (w : World) (a : Option Addr) (n c : Nat) (s : Nat → ByteArray) (hs : RdF w (.slice a n c) n (fun j => .string (s j))) (hss : ∀ j, j < n → (s j).size ≤ 140737488355328) :
    Calls Tryd.prog 117 #[.slice a n c] w fun e w' => e = .returned (erVn (nmFault n s)) ∧ w = w' := by
  have hcb := hs.le_cap
  unfold maxLen at hcb
  have HS := Lib.hid hs; clear hs
  have HSS := Lib.hid hss; clear hss
  go_enter Tryd.func117, Tryd.ntmps117
  go_wp2
  go_loop [3, 8] (fun vz vi => ∃ k : Nat, k ≤ n ∧ vi = .int .i64 k ∧ vz = .int .i64 (nsz s k) ∧ lbad s k = false) (fun _ vi => n - (intOf vi).toNat)
  case atStart => exact ⟨0, by omega, rfl, rfl, rfl⟩
  case round =>
    obtain ⟨k, hk, rfl, rfl, hbad⟩ := hrel
    have HBAD := Lib.hid hbad; clear hbad
    have hz := nsz_bd s k
    by_cases hlt : k < n
    · obtain ⟨b1, o1, c1, he1, _, _, _, hc1⟩ := HS.out.shape (by omega)
      simp only [Value.slice.injEq, true_and] at he1
      obtain ⟨rfl, rfl⟩ := he1
      have c0 := hc1 k hlt
      clear hc1
      have hl := HSS.out k hlt
      have HT := Lib.hid (fun h => lbad_true (s := s) (k := k) (n := n) hlt h)
      have HNS := Lib.hid (show nsz s (k + 1) = min (nsz s k + ((s k).size + 1)) 1073741824 from rfl)
      have HLB := Lib.hid (show lbad s (k + 1) = (lbad s k || (decide ((s k).size < 1) || decide (63 < (s k).size))) from rfl)
      generalize nsz s k = z at *
      generalize s k = sk at *
      by_cases h1 : sk.size < 1
      · have HE := Lib.hid (show nmFault n s = 3 by unfold nmFault; rw [if_pos (HT.out (.inl h1))])
        have d1 : sk.size = 0 := by omega
        have d0 : decide ((sk.size : Int) < 1) = true := by simp; omega
        go_wp2
        go_ret
        exact ⟨by rw [HE.out]; rfl, rfl⟩
      · by_cases h2 : 63 < sk.size
        · have HE := Lib.hid (show nmFault n s = 3 by unfold nmFault; rw [if_pos (HT.out (.inr h2))])
          have d1 : ¬ sk.size = 0 := by omega
          go_wp2
          go_ret
          exact ⟨by rw [HE.out]; rfl, rfl⟩
        · have HB2 := Lib.hid (show lbad s (k + 1) = false by rw [HLB.out, HBAD.out, decide_eq_false h1, decide_eq_false h2]; rfl)
          have d1 : ¬ sk.size = 0 := by omega
          by_cases h3 : 1073741824 < z + ((sk.size : Int) + 1)
          · have HN2 := Lib.hid (show nsz s (k + 1) = 1073741824 by rw [HNS.out]; omega)
            go_wp2
            go_round
            case rel => exact ⟨k + 1, by omega, by go_num, by rw [HN2.out], HB2.out⟩
            case measure => simp [intOf]; omega
          · have HN2 := Lib.hid (show nsz s (k + 1) = z + ((sk.size : Int) + 1) by rw [HNS.out]; omega)
            go_wp2
            go_round
            case rel => exact ⟨k + 1, by omega, by go_num, by rw [HN2.out], HB2.out⟩
            case measure => simp [intOf]; omega
    · obtain rfl : k = n := by omega
      by_cases h255 : 255 < nsz s k
      · have HE := Lib.hid (show nmFault k s = 5 by unfold nmFault; rw [if_neg (by rw [HBAD.out]; decide), if_pos h255])
        generalize nsz s k = z at *
        go_wp2
        go_ret
        exact ⟨by rw [HE.out]; rfl, rfl⟩
      · have HE := Lib.hid (show nmFault k s = 0 by unfold nmFault; rw [if_neg (by rw [HBAD.out]; decide), if_neg h255])
        generalize nsz s k = z at *
        go_wp2
        go_ret
        exact ⟨by rw [HE.out]; rfl, rfl⟩

end Go.Proofs.YtgpfkaiinbncnaaDoor
