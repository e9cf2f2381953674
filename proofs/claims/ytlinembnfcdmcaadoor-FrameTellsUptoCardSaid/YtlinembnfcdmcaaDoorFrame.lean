/- frame: Frame, New, Feed, Rest: what each does. -/
import Derived.Test.YtlinembnfcdmcaaDoorCloneB
import Derived.Test.YtlinembnfcdmcaaDoorBytes
namespace Go.Proofs.YtlinembnfcdmcaaDoor
open Go.RowKit

/-- a message's length in two bytes, then its bytes -/
def frm (n : Nat) (f : Nat → Int) (j : Nat) : Int := if j = 0 then (n : Int) / 256 % 256 else if j = 1 then (n : Int) % 256 else f (j - 2)

set_option maxHeartbeats 1000000 in
theorem frame_ok (w : World) (a : Option Addr) (n c : Nat) (f : Nat → Int) (hv : RdF w (.slice a n c) n (fun j => .int .u8 (f j))) (hn : n ≤ 65535) :
    Calls Tryd.prog 25 #[.slice a n c] w fun e w' => ∃ g cp, e = .returned (.tuple #[.slice (some ⟨g, 0, none⟩) (2 + n) cp, .nilIface]) ∧ w.heap.size ≤ g ∧ RowF w' g 5 (2 + n) cp (fun j => .int .u8 (frm n f j)) ∧ Fr [] w w' := by
  have hrow : RowF (w.alloc (.cells #[.int .u8 ((n : Int) / 256), .int .u8 ((n : Int) % 256)] 5)) w.heap.size 5 2 2 (fun j => .int .u8 (frm n f j)) :=
    row_lit w _ _ 2 _ rfl (by decide) (fun j hj => match j, hj with
      | 0, _ => by
        have e : frm n f 0 = (n : Int) / 256 := by show (n : Int) / 256 % 256 = n / 256; omega
        rw [e]
        rfl
      | 1, _ => rfl)
  have HROW := Lib.hid hrow; clear hrow
  have HV := Lib.hid (hv.fr ((Fr.refl [] w).alloc (.cells #[.int .u8 ((n : Int) / 256), .int .u8 ((n : Int) % 256)] 5)) (by simp)); clear hv
  go_enter Tryd.func25, Tryd.ntmps25
  go_wp2_with (at_builtin; refine wpList_app rfl (.tmp 15) (.tmp 16) 34 rfl 5 infoU8 Tryd.underlying34 rfl (base := w.heap.size) (.inr ⟨_, _, rfl, Nat.le_refl _, HROW.out⟩) rfl HV.out rfl (fun _ _ => rfl) (by unfold maxLen; omega) (by omega) (by simp) ?_; intro v2 w2 ho2 hf2 _)
  obtain ⟨g, cp, rfl, hg, hr⟩ := ho2.row (by omega)
  have HR := Lib.hid (hr.congr (f' := fun j => .int .u8 (frm n f j)) (fun j hj => by
    unfold app
    by_cases h2 : j < 2
    · rw [if_pos h2]
    · rw [if_neg h2]; simp only [frm]; rw [if_neg (by omega), if_neg (by omega)]))
  have HF := Lib.hid (((Fr.refl [] w).alloc (.cells #[.int .u8 ((n : Int) / 256), .int .u8 ((n : Int) % 256)] 5)).trans hf2 (by simp [Value.ownBlock]))
  clear ho2 hr hf2
  go_wp2
  go_ret2
  exact ⟨g, cp, rfl, hg, HR.out, HF.out⟩

theorem frame_big (w : World) (a : Option Addr) (n c : Nat) (hn : 65535 < n) (hm : n ≤ 9223372036854775807) :
    Calls Tryd.prog 25 #[.slice a n c] w fun e w' => e = .returned (.tuple #[.slice none 0 0, .iface 30 (.int .i64 7)]) ∧ w = w' := by
  go_enter Tryd.func25, Tryd.ntmps25
  go_wp2
  go_ret2
  exact ⟨rfl, rfl⟩

theorem stream_new (w : World) : Calls Tryd.prog 20 #[] w fun e w' => e = .returned (.pointer (some ⟨w.heap.size, 0, none⟩)) ∧ w.alloc (.cells #[.slice none 0 0] 78) = w' := by
  go_enter Tryd.func20, Tryd.ntmps20
  go_wp2
  go_ret
  exact ⟨rfl, rfl⟩

theorem framed_any (w : World) : Calls Tryd.prog 19 #[] w fun e w' => e = .returned (.bool true) ∧ Fr [] w w' := by
  go_enter Tryd.func19, Tryd.ntmps19
  go_wp2_with fail
  refine (frame_ok _ _ 1 1 (fun _ => 7) (rd_one _ _ _ (by simp)) (by decide)).mono ?_
  rintro e w1 ⟨g, cp, rfl, hg, hr, hf⟩
  have HF := Lib.hid (((Fr.refl [] w).alloc (.cells #[.int .u8 7] 5)).trans hf (by simp)); clear hf
  have HR := Lib.hid (hr.alloc (.cells #[.int .u8 0, .int .u8 1, .int .u8 7] 5)).rd
  have HR3 := Lib.hid (row_lit w1 #[.int .u8 0, .int .u8 1, .int .u8 7] 5 3 (fun j => .int .u8 (frm 1 (fun _ => 7) j)) rfl (by decide) (fun j hj => match j, hj with | 0, _ => rfl | 1, _ => rfl | 2, _ => rfl)).rd
  clear hr
  go_wp2_with fail
  refine (bytes_any _ _ _ 3 3 _ _ _ _ HR.out HR3.out (by decide) (by decide)).mono ?_
  rintro e w2 ⟨he, q, rfl⟩
  have he2 : e = .returned (.bool true) := by rw [he, (eqUpTo_iff _ _ _).2 (fun _ _ => rfl)]; rfl
  subst he2
  clear he
  go_wp2
  go_ret
  exact ⟨rfl, (HF.out.alloc _).drewN _⟩

/-- where message i begins -/
def pos (h : Nat → Int) : Nat → Nat
  | 0 => 0
  | i + 1 => pos h i + 2 + (h (pos h i) * 256 + h (pos h i + 1)).toNat

theorem rest_any (w : World) (p n : Nat) (a : Option Addr) (c : Nat) (hp : w.heap[p]? = some (.cells #[.slice a n c] 78 (0, 0))) (hn : n ≤ 9223372036854775807) :
    Calls Tryd.prog 24 #[.pointer (some ⟨p, 0, none⟩)] w fun e w' => e = .returned (.int .i64 n) ∧ w = w' := by
  have h0 := blk_cell hp 0 rfl
  clear hp
  go_enter Tryd.func24, Tryd.ntmps24
  go_wp2
  go_ret
  exact ⟨rfl, rfl⟩

end Go.Proofs.YtlinembnfcdmcaaDoor
