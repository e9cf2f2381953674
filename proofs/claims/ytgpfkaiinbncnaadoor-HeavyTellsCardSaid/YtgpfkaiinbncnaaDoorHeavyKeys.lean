/- The library's functions on the map: its keys, sorted; what is at nought struck. -/
import Derived.Test.YtgpfkaiinbncnaaDoorHeavyLaw
import Derived.Test.YtgpfkaiinbncnaaDoorDelF
import Derived.Test.YtgpfkaiinbncnaaDoorKeysF
import Derived.Test.YtgpfkaiinbncnaaDoorSortedF
import Derived.Test.YtgpfkaiinbncnaaDoorSortF
import Derived.Test.YtgpfkaiinbncnaaDoorInfo
namespace Go.Proofs.YtgpfkaiinbncnaaDoor
open Go.RowKit Go.Maps Go.Sort Go.Shelf

theorem lawInt : Keyed Tryd.prog 3 := int_keyed Tryd.underlying3
theorem zeroInt (w : World) : (zeroValue 3).run Tryd.prog w = .ok (.int .i64 0) w := by kernel_rfl

abbrev OwnM (w : World) (b n : Nat) (L : List (Int × Int)) : Prop := w.ownsMap Tryd.prog 3 (plainElem Tryd.prog 3) b n (dI L)

theorem OwnM.fr {w w' : World} {b n : Nat} {L : List (Int × Int)} {S : List Nat} (h : OwnM w b n L) (hf : Fr S w w') (hb : b ∉ S) : OwnM w' b n L := by
  have hlt := World.ownsMap.lt h
  obtain ⟨es, clock, hb', F, hs, hD⟩ := h
  exact ⟨es, clock, (hf.block b hlt hb).trans hb', F, hs, hD⟩

theorem OwnM.tight {w : World} {b n : Nat} {L : List (Int × Int)} (h : OwnM w b n L) : OwnM w b L.length L := by
  obtain ⟨es, clock, hb, F, hs, hD⟩ := h
  refine ⟨es, clock, hb, F, ?_, hD⟩
  have e := congrArg Maps.size hD
  rw [size_dI] at e
  rw [e]
  simp [Maps.size, length_sorted]

theorem Fr.of_turned {w w' : World} {b : Nat} (h : w.mapTurned w' b) : Fr [b] w w' := Fr.of_grown h.grown [b] (fun k hk => by cases hk; exact .inl (by simp))

theorem intKeys_dI (L : List (Int × Int)) : intKeys (dI L) = L.map (·.1) := by
  show (L.map encI).map (fun p => Go.intOf p.1) = L.map (·.1)
  rw [List.map_map]
  rfl

theorem sorted_keys {L : List (Int × Int)} (h : Asc L) {ss : List Int} (hp : ss.Perm (L.map (·.1))) : ss.mergeSort (fun x y => decide (x ≤ y)) = L.map (·.1) := by
  refine List.Perm.eq_of_pairwise (le := fun a b : Int => a ≤ b) ?_ ?_ ?_ ((List.mergeSort_perm _ _).trans hp)
  · intro a b _ _ h1 h2; omega
  · have := List.pairwise_mergeSort (le := fun x y : Int => decide (x ≤ y)) (by intro a b c; simp; omega) (by intro a b; simp; omega) ss
    exact this.imp (fun h => by simpa using h)
  · rw [List.pairwise_map]
    exact h.imp (fun h => Int.le_of_lt h)

theorem sortsF (m : Nat) : AnyZI.SortsIn Tryd.prog sortedFRen Fence.wide m :=
  ⟨fun blk off cap ss W hH hblk hsz => callsIn_wide.2 (AnyM.slices_Sort_int sortFLays blk off cap ss W hH hblk hsz),
   fun p cap W => callsIn_wide.2 (AnyM.slices_Sort_int_none sortFLays p cap W)⟩

/-- maps.Keys, and slices.Sorted at what it hands back -/
theorem keys_any (mb : Option Nat) (W : World) : Calls Tryd.prog 57 #[.map mb] W fun e w' => e = .returned (.func (.func 72) #[] #[.pointer (some ⟨W.heap.size, 0, none⟩)]) ∧ w' = W.alloc (.cells #[.map mb] 94) :=
  (callsIn_wide (n := 6)).1 (AnyZI.keys_in keysFLays Fence.wide 6 trivial rfl mb W)

set_option maxHeartbeats 2000000 in
theorem sorted_any (b : Nat) (L : List (Int × Int)) (w : World) (hown : OwnM w b L.length L) (ha : Asc L) (hl : L.length ≤ 1000000) :
    Calls Tryd.prog 56 #[.func (.func 72) #[] #[.pointer (some ⟨w.heap.size, 0, none⟩)]] (w.alloc (.cells #[.map (some b)] 94)) fun e w' =>
      ∃ v, e = .returned v ∧ OwnF w' (w.heap.size + 1) 3 v L.length (fun j => .int .i64 ((L.map (·.1)).getD j 0)) ∧ Fr [] (w.alloc (.cells #[.map (some b)] 94)) w' := by
  have hbl := World.ownsMap.lt hown
  have hsz := size_dI L
  have hseq : SeqGives Fence.wide 2 Tryd.prog 72 #[.pointer (some ⟨w.heap.size, 0, none⟩)] encZ (fun ss => ss.Perm (intKeys (dI L))) (Maps.size (dI L)) (w.alloc (.cells #[.map (some b)] 94)) :=
    AnyZI.keys_gives (ρ := keysFRen) { keysFLays with } Fence.wide _ trivial rfl (by omega) w.heap.size b L.length (dI L) _ (by simp) (by simp) (by
      obtain ⟨es, clock, hb, Ft, hs, hD⟩ := hown
      exact ⟨es, clock, (RowKit.Below.heap_alloc _ _ b hbl).trans hb, Ft, hs, hD⟩)
  have cS := AnyZI.sorted_in sortedFLays Fence.wide 5 trivial trivial trivial trivial rfl (by omega) (sortsF _) (enters_of Tryd.func71 (by kernel_rfl) rfl) 72 #[.pointer (some ⟨w.heap.size, 0, none⟩)] trivial (enters_of Tryd.func72 (by kernel_rfl) rfl) _ _ (by rw [hsz]; unfold maxLen; omega) (by rw [hsz]; omega) _ hseq
  change CallsIn _ _ Tryd.prog 56 _ _ _ at cS
  refine ((callsIn_wide (n := 5)).1 cS).mono ?_
  rintro e w' ⟨v, ss, rfl, hS, hrow, _, hb⟩
  rw [intKeys_dI] at hS
  rw [sorted_keys ha hS] at hrow
  have hlen : ss.length = L.length := by rw [hS.length_eq, List.length_map]
  rw [hlen] at hrow
  have hrow : w'.ownsRow (w.alloc (.cells #[.map (some b)] 94)).heap.size 3 1 v L.length ((L.map (·.1)).map encZ) := hrow
  refine ⟨v, rfl, ?_, Fr.of_below hb []⟩
  have h := OwnF.of_owns (f := fun j => .int .i64 ((L.map (·.1)).getD j 0)) hrow (fun j hj => by
    rw [List.getElem?_map, List.getElem?_map]
    have hj' : j < L.length := hj
    simp [List.getElem?_eq_getElem hj', encZ])
  simpa using h

/-- the closure that asks for nought -/
theorem zero_any (W : World) (key c : Int) : Calls Tryd.prog 55 #[.int .i64 key, .int .i64 c] W fun e w' => e = .returned (.bool (decide (c = 0))) ∧ W = w' := by
  go_enter Tryd.func55, Tryd.ntmps55
  go_wp2
  go_ret
  refine ⟨?_, rfl⟩
  by_cases h : c = 0
  · subst h; rfl
  · have h2 : (c == 0) = false := by simpa using h
    simp [h]

set_option maxHeartbeats 2000000 in
theorem delete_any (b n : Nat) (L : List (Int × Int)) (w : World) (hown : OwnM w b n L) :
    Calls Tryd.prog 54 #[.map (some b), .func (.func 55) #[] #[]] w fun e w' =>
      e = .returned (.tuple #[]) ∧ OwnM w' b n (L.filter (fun p => !decide (p.2 = 0))) ∧ Fr [b] w w' := by
  refine (AnyDf.maps_DeleteFunc delFLays lawInt (plainElem Tryd.prog 3) pdz 55 #[] b n (dI L) w (enters_of Tryd.func55 (by kernel_rfl) rfl) hown ?_).mono ?_
  · intro W key val kl yd yp _ hkey hval
    obtain ⟨x, rfl, rfl, _⟩ := Maps.keyOf_int_inv Tryd.underlying3 hkey
    obtain ⟨c, rfl, hc, _⟩ := plainElem_int_inv Tryd.underlying3 hval
    simp only [Prod.mk.injEq] at hc
    obtain ⟨rfl, _⟩ := hc
    refine (zero_any W x c).mono ?_
    rintro e w' ⟨rfl, rfl⟩
    exact ⟨rfl, ⟨rfl, rfl, rfl, Nat.le_refl _, fun _ _ _ => rfl⟩⟩
  · rintro e w' ⟨rfl, h1, h2⟩
    rw [del_dI] at h1
    exact ⟨rfl, h1, Fr.of_grown h2 [b] (fun k hk => by cases hk; exact .inl (by simp))⟩

end Go.Proofs.YtgpfkaiinbncnaaDoor
