/- The fact that the laws on rend ask first. -/
import Derived.Test.YtbaiaolgjlhioaaRendOrder
import Derived.Test.YtbaiaolgjlhioaaRendMore
namespace Go.Proofs.Ytbaiaolgjlhioaa
open Go.RowKit Go.Sort

theorem rend_one_good : NGood (fun _ => ((5 : Int), (1 : Int))) 1 := ⟨by omega, by omega, fun k hk => by unfold NRange; decide, fun j k hj hk _ => by omega⟩

theorem rend_one (m : Nat) (kf : Nat → Int) : ordn (fun _ => ((5 : Int), (1 : Int))) m kf 1 0 = 5 := by
  have hm : lp (srr (scs (fun _ => ((5 : Int), (1 : Int))) m kf 1)) 0 ∈ scs (fun _ => ((5 : Int), (1 : Int))) m kf 1 := (srr_mem _ _).1 (lp_mem (by rw [srr_len, scs_len]; omega))
  obtain ⟨i, hi, e⟩ := (scs_mem _ m kf 1 _).1 hm
  unfold ordn
  rw [e]

theorem rend_fact (w : World) (p : Nat → Int × Int) (a : Option Addr) (c : Nat) (h : RdP w (.slice a 1 c) 1 p) (hp : p = fun _ => ((5 : Int), (1 : Int))) :
    Calls Try.prog 7 #[.slice a 1 c, .slice none 0 0] w fun e w' => e = .returned (.tuple #[.int .i64 5, .nilIface]) ∧ Fr [] w w' := by
  subst hp
  refine (rpick_any w a 1 c _ h none 0 0 (fun _ => 0) (.inl ⟨rfl, rfl⟩) (fun j hj => by omega) (by omega)).mono ?_
  rintro e w' ⟨⟨_, he⟩ | ⟨hz, _⟩, hf⟩
  · exact ⟨by rw [he, rend_one], hf⟩
  · exact absurd ((nfault_iff _ _).2 rend_one_good) hz

/-- a list of ints, by the index -/
def li (L : List Int) (j : Nat) : Int := L.getD j 0

theorem li_snoc (L : List Int) (x : Int) (j : Nat) (hj : j < L.length + 1) : (if j < L.length then li L j else x) = li (L ++ [x]) j := by
  unfold li
  by_cases h : j < L.length
  · rw [if_pos h, List.getD_eq_getElem?_getD, List.getD_eq_getElem?_getD, List.getElem?_append_left h]
  · rw [if_neg h, List.getD_eq_getElem?_getD, List.getElem?_append_right (by omega), show j - L.length = 0 by omega]
    rfl

theorem own_snoc {w : World} {B : Nat} {v : Value} {L : List Int} {x : Int} (h : OwnF w B 3 v (L.length + 1) (app L.length (fun j => .int .i64 (li L j)) (fun _ => .int .i64 x))) : OwnF w B 3 v (L ++ [x]).length (fun j => .int .i64 (li (L ++ [x]) j)) := by
  have e : (L ++ [x]).length = L.length + 1 := by simp
  rw [e]
  refine h.congr (fun j hj => ?_)
  rw [← li_snoc L x j hj]
  unfold app
  split <;> rfl

end Go.Proofs.Ytbaiaolgjlhioaa
