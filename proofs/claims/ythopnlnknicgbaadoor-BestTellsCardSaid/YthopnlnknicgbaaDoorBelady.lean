/- Belady: nobody does better; in plain Lean. -/
import Derived.Test.YthopnlnknicgbaaDoorPlanLaw
namespace Go.Proofs.YthopnlnknicgbaaDoor

/-- somebody who holds no more than h, and what is asked for: the list behind k keys, and how many were missed -/
def Pag (kf : Nat → Int) (h : Nat) : Nat → List Int → Nat → Prop
  | 0, S, c => S = [] ∧ c = 0
  | k + 1, S', c' => ∃ S c, Pag kf h k S c ∧ S'.Nodup ∧ S'.length ≤ h ∧ kf k ∈ S' ∧ (∀ x, x ∈ S' → x ∈ S ∨ x = kf k) ∧ c' = c + if kf k ∈ S then 0 else 1

/-- x is asked for from t on, ahead of d -/
def ask (kf : Nat → Int) (t d : Nat) (x : Int) : Prop := ∃ j, t ≤ j ∧ j < d ∧ kf j = x

open Classical in
noncomputable def cnt (p : Int → Prop) (l : List Int) : Nat := (l.filter (fun x => decide (p x))).length

theorem cnt_sub {p q : Int → Prop} {l o : List Int} (hl : l.Nodup) (h : ∀ x, x ∈ l → p x → x ∈ o ∧ q x) : cnt p l ≤ cnt q o := by
  classical
  unfold cnt
  refine sub_len _ _ (hl.filter _) (fun x hx => ?_)
  rw [List.mem_filter] at hx ⊢
  obtain ⟨h1, h2⟩ := h x hx.1 (by simpa using hx.2)
  exact ⟨h1, by simpa using h2⟩

theorem cnt_len (p : Int → Prop) (l : List Int) : cnt p l ≤ l.length := by
  unfold cnt
  exact List.length_filter_le _ _

theorem cnt_all {p : Int → Prop} {l : List Int} (h : ∀ x, x ∈ l → p x) : cnt p l = l.length := by
  classical
  unfold cnt
  rw [List.filter_eq_self.2]
  intro x hx
  simpa using h x hx

open Classical in
theorem cnt_erase (p : Int → Prop) {l : List Int} {x : Int} (h : x ∈ l) : cnt p l = (if p x then 1 else 0) + cnt p (l.erase x) := by
  unfold cnt
  have := ((List.perm_cons_erase h).filter (fun y => decide (p y))).length_eq
  rw [this, List.filter_cons]
  by_cases hp : p x
  · rw [if_pos hp, if_pos (by simpa using hp)]; simp; omega
  · rw [if_neg hp, if_neg (by simpa using hp)]; omega

theorem cnt_same {p q : Int → Prop} {l o : List Int} (hl : l.Nodup) (ho : o.Nodup) (h1 : ∀ x, x ∈ l → p x → x ∈ o ∧ q x) (h2 : ∀ x, x ∈ o → q x → x ∈ l ∧ p x) : cnt p l = cnt q o :=
  Nat.le_antisymm (cnt_sub hl h1) (cnt_sub ho h2)

theorem ask_step (kf : Nat → Int) (t d : Nat) (x : Int) (h : t < d) : ask kf t d x ↔ x = kf t ∨ ask kf (t + 1) d x := by
  constructor
  · rintro ⟨j, h1, h2, rfl⟩
    by_cases hj : j = t
    · subst hj; exact .inl rfl
    · exact .inr ⟨j, by omega, h2, rfl⟩
  · rintro (rfl | ⟨j, h1, h2, rfl⟩)
    · exact ⟨t, Nat.le_refl _, h, rfl⟩
    · exact ⟨j, by omega, h2, rfl⟩

theorem ask_agn (kf : Nat → Int) (m t d : Nat) (y : Int) (hd : d ≤ m) : ask kf (t + 1) d y ↔ agn kf m t y < d - (t + 1) := by
  have hs := fst_spec (fun j => kf (t + 1 + j)) y (m - (t + 1))
  unfold agn
  constructor
  · rintro ⟨j, h1, h2, h3⟩
    by_cases h : fst (fun j => kf (t + 1 + j)) y (m - (t + 1)) ≤ j - (t + 1)
    · omega
    · have := hs.1 (j - (t + 1)) (by omega)
      exact absurd (show kf (t + 1 + (j - (t + 1))) = y by rw [show t + 1 + (j - (t + 1)) = j by omega]; exact h3) this
  · intro h
    exact ⟨_, Nat.le_add_right _ _, by omega, hs.2 (by omega)⟩

theorem wst_spec (kf : Nat → Int) (m t : Nat) (l : List Int) (j : Nat) : ∀ i, i < j → agn kf m t (lg l i) ≤ agn kf m t (lg l (wst kf m t l j)) := by
  induction j with
  | zero => intro i hi; omega
  | succ j ih =>
    intro i hi
    unfold wst
    by_cases hb : btr kf m t l j (wst kf m t l j)
    · rw [if_pos hb]
      unfold btr at hb
      by_cases hij : i = j
      · subst hij; exact Nat.le_refl _
      · have := ih i (by omega)
        omega
    · rw [if_neg hb]
      unfold btr at hb
      by_cases hij : i = j
      · subst hij; omega
      · exact ih i (by omega)

theorem nd_inj {l : List Int} (h : l.Nodup) {i j : Nat} (hi : i < l.length) (hj : j < l.length) (ez : l[i] = l[j]) : i = j := by
  have hp := List.pairwise_iff_getElem.1 h
  rcases Nat.lt_trichotomy i j with h1 | h1 | h1
  · exact absurd ez (hp i j hi hj h1)
  · exact h1
  · exact absurd ez.symm (hp j i hj hi h1)

/-- what a plan does at a miss -/
theorem pl_miss (kf : Nat → Int) (m n t : Nat) (hn : 0 < n) (hnd : (pl kf m n t).Nodup) (hx : kf t ∉ pl kf m n t) :
    (pl kf m n (t + 1)).Nodup ∧ ((∀ z, z ∈ pl kf m n (t + 1) ↔ z = kf t ∨ z ∈ pl kf m n t) ∨
      ((pl kf m n t).length = n ∧ ∃ y, y ∈ pl kf m n t ∧ (∀ z, z ∈ pl kf m n (t + 1) ↔ z = kf t ∨ (z ∈ pl kf m n t ∧ z ≠ y)) ∧ ∀ d, d ≤ m → ask kf (t + 1) d y → ∀ z, z ∈ pl kf m n t → ask kf (t + 1) d z)) := by
  have e : pl kf m n (t + 1) = if kf t ∈ pl kf m n t then pl kf m n t else if (pl kf m n t).length < n then pl kf m n t ++ [kf t] else (pl kf m n t).set (wst kf m t (pl kf m n t) (pl kf m n t).length) (kf t) := rfl
  have hl := pl_len kf m n t
  rw [e, if_neg hx]
  generalize pl kf m n t = l at *
  generalize kf t = s at *
  by_cases hlt : l.length < n
  · rw [if_pos hlt]
    refine ⟨?_, .inl (fun z => ?_)⟩
    · rw [List.nodup_append]
      refine ⟨hnd, by simp, fun a ha b hb => ?_⟩
      simp at hb
      subst hb
      exact fun e => hx (e ▸ ha)
    · rw [List.mem_append]; simp; exact Or.comm
  · rw [if_neg hlt]
    have hw := wst_lt kf m t l l.length l.length (Nat.le_refl _) (by omega)
    have hsp := wst_spec kf m t l l.length
    generalize wst kf m t l l.length = w at *
    have hmem : ∀ z, z ∈ l.set w s ↔ z = s ∨ (z ∈ l ∧ z ≠ l[w]) := fun z => by
      constructor
      · intro hz
        obtain ⟨j, hj, ez⟩ := List.getElem_of_mem hz
        rw [List.length_set] at hj
        by_cases hjw : j = w
        · subst hjw
          rw [List.getElem_set_self] at ez
          exact .inl ez.symm
        · rw [List.getElem_set_ne (by omega)] at ez
          right
          rw [← ez]
          exact ⟨List.getElem_mem _, fun e2 => hjw (nd_inj hnd hj hw e2)⟩
      · rintro (rfl | ⟨hz, hne⟩)
        · exact List.mem_set hw _
        · obtain ⟨j, hj, ez⟩ := List.getElem_of_mem hz
          have hjw : j ≠ w := fun h => by
            apply hne
            rw [← ez]
            simp only [h]
          rw [← ez]
          have : (l.set w s)[j]'(by rw [List.length_set]; exact hj) = l[j] := List.getElem_set_ne (by omega) _
          rw [← this]
          exact List.getElem_mem _
    refine ⟨?_, .inr ⟨by omega, l[w], List.getElem_mem _, hmem, fun d hd hy z hz => ?_⟩⟩
    · refine List.pairwise_iff_getElem.2 (fun a b ha hb hab => ?_)
      rw [List.length_set] at ha hb
      rw [List.getElem_set, List.getElem_set]
      by_cases h1 : w = a
      · rw [if_pos h1, if_neg (by omega)]
        exact fun e2 => hx (e2 ▸ List.getElem_mem _)
      · rw [if_neg h1]
        by_cases h2 : w = b
        · rw [if_pos h2]
          exact fun e2 => hx (e2 ▸ List.getElem_mem _)
        · rw [if_neg h2]
          exact fun e2 => by have := nd_inj hnd ha hb e2; omega
    · obtain ⟨j, hj, e⟩ := List.getElem_of_mem hz
      have h1 := hsp j hj
      rw [lg_lt hj, lg_lt hw, e] at h1
      rw [ask_agn kf m t d _ hd] at hy ⊢
      omega

theorem belady (kf : Nat → Int) (m n h : Nat) (hn : 0 < n) (hh : h ≤ n) (t : Nat) (ht : t ≤ m) : ∀ B c, Pag kf h t B c →
    B.Nodup ∧ B.length ≤ h ∧ (pl kf m n t).Nodup ∧ ∀ d, t ≤ d → d ≤ m → cnt (ask kf t d) B + pmi kf m n t ≤ cnt (ask kf t d) (pl kf m n t) + c := by
  classical
  induction t with
  | zero =>
    rintro B c ⟨rfl, rfl⟩
    exact ⟨List.nodup_nil, Nat.zero_le _, List.nodup_nil, fun d _ _ => Nat.le_refl _⟩
  | succ t ih =>
    rintro B' c' ⟨B, c, hB, hnd', hlen', hx', hsub, rfl⟩
    obtain ⟨hndB, hlB, hndA, inv⟩ := ih (by omega) B c hB
    obtain ⟨p1, p2, _⟩ := pl_step kf m n t hn
    have hmis := pl_miss kf m n t hn hndA
    have hlA := pl_len kf m n t
    have e3 : pmi kf m n (t + 1) = pmi kf m n t + if kf t ∈ pl kf m n t then 0 else 1 := rfl
    have inv0 := inv t (Nat.le_refl _) (by omega)
    have inv1 := inv (t + 1) (by omega) (by omega)
    have stp := fun d (hd : t + 1 ≤ d) y => ask_step kf t d y (by omega)
    have hz : ∀ d y, d ≤ t + 1 → ¬ ask kf (t + 1) d y := fun d y hd => by rintro ⟨j, h1, h2, _⟩; omega
    have hz0 : ∀ y, ¬ ask kf t t y := fun y => by rintro ⟨j, h1, h2, _⟩; omega
    rw [e3]
    clear ih hB e3
    generalize pl kf m n (t + 1) = A' at *
    generalize pl kf m n t = A at *
    generalize pmi kf m n t = a at *
    generalize kf t = s at *
    have hnA' : A'.Nodup := by
      by_cases hsA : s ∈ A
      · rw [p2 hsA]; exact hndA
      · exact (hmis hsA).1
    refine ⟨hnd', hlen', hnA', fun d hd hdm => ?_⟩
    have ivd := inv d (by omega) hdm
    -- a count of what is held, ahead and behind
    have cin : ∀ S : List Int, S.Nodup → s ∈ S → cnt (ask kf t d) S + (if ask kf (t + 1) d s then 1 else 0) = cnt (ask kf (t + 1) d) S + 1 := fun S hS hs => by
      rw [cnt_erase (ask kf t d) hs, cnt_erase (ask kf (t + 1) d) hs, if_pos ((stp d hd s).2 (.inl rfl))]
      have : cnt (ask kf t d) (S.erase s) = cnt (ask kf (t + 1) d) (S.erase s) := cnt_same (hS.erase _) (hS.erase _)
        (fun x hx hp => ⟨hx, ((stp d hd x).1 hp).elim (fun e => absurd (e ▸ hx) hS.not_mem_erase) id⟩) (fun x hx hq => ⟨hx, (stp d hd x).2 (.inr hq)⟩)
      omega
    have cout : ∀ S : List Int, S.Nodup → s ∉ S → cnt (ask kf t d) S = cnt (ask kf (t + 1) d) S := fun S hS hs =>
      cnt_same hS hS (fun x hx hp => ⟨hx, ((stp d hd x).1 hp).elim (fun e => absurd (e ▸ hx) hs) id⟩) (fun x hx hq => ⟨hx, (stp d hd x).2 (.inr hq)⟩)
    -- B, behind
    have hB'e := cnt_erase (ask kf (t + 1) d) hx'
    have hB's : cnt (ask kf (t + 1) d) (B'.erase s) ≤ cnt (ask kf (t + 1) d) (B.erase s) := cnt_sub (hnd'.erase _) (fun x hx hq => by
      have hxs : x ≠ s := fun e => hnd'.not_mem_erase (e ▸ hx)
      exact ⟨(List.mem_erase_of_ne hxs).2 ((hsub x (List.mem_of_mem_erase hx)).resolve_right hxs), hq⟩)
    have hB'l : cnt (ask kf (t + 1) d) (B'.erase s) ≤ n - 1 := by
      have h1 := cnt_len (ask kf (t + 1) d) (B'.erase s)
      rw [List.length_erase_of_mem hx'] at h1
      omega
    have hac : a ≤ c := by
      have h1 : cnt (ask kf t t) A ≤ 0 := by
        have := cnt_sub (o := []) (q := ask kf t t) hndA (fun x _ hp => absurd hp (hz0 x))
        simpa [cnt] using this
      omega
    have hac1 : s ∈ B → s ∉ A → a + 1 ≤ c := fun hsB hsA => by
      have h1 : cnt (ask kf t (t + 1)) A ≤ 0 := by
        have := cnt_sub (o := []) (q := ask kf t t) hndA (fun x hx hp => (((stp (t + 1) (Nat.le_refl _) x).1 hp).elim (fun e => absurd (e ▸ hx) hsA) (fun h => absurd h (hz (t + 1) x (Nat.le_refl _)))))
        simpa [cnt] using this
      have h2 := cnt_erase (ask kf t (t + 1)) hsB
      rw [if_pos ((stp (t + 1) (Nat.le_refl _) s).2 (.inl rfl))] at h2
      omega
    by_cases hsA : s ∈ A
    · rw [if_pos hsA, p2 hsA]
      have hA1 := cin A hndA hsA
      by_cases hsB : s ∈ B
      · rw [if_pos hsB]
        have hB1 := cin B hndB hsB
        have hB2 := cnt_erase (ask kf (t + 1) d) hsB
        omega
      · rw [if_neg hsB]
        have hB1 := cout B hndB hsB
        rw [List.erase_of_not_mem hsB] at hB's
        omega
    · rw [if_neg hsA]
      have hA1 := cout A hndA hsA
      have hA'e := cnt_erase (ask kf (t + 1) d) p1
      rcases (hmis hsA).2 with hm | ⟨hfull, y, hyA, hm, hvic⟩
      · have hA'c : cnt (ask kf (t + 1) d) (A'.erase s) = cnt (ask kf (t + 1) d) A := cnt_same (hnA'.erase _) hndA
          (fun x hx hq => ⟨((hm x).1 (List.mem_of_mem_erase hx)).resolve_left (fun e => hnA'.not_mem_erase (e ▸ hx)), hq⟩)
          (fun x hx hq => by
            have hxs : x ≠ s := fun e => hsA (e ▸ hx)
            exact ⟨(List.mem_erase_of_ne hxs).2 ((hm x).2 (.inr hx)), hq⟩)
        by_cases hsB : s ∈ B
        · rw [if_pos hsB]
          have hB1 := cin B hndB hsB
          have hB2 := cnt_erase (ask kf (t + 1) d) hsB
          omega
        · rw [if_neg hsB]
          have hB1 := cout B hndB hsB
          rw [List.erase_of_not_mem hsB] at hB's
          omega
      · have hA'c : cnt (ask kf (t + 1) d) (A'.erase s) = cnt (ask kf (t + 1) d) (A.erase y) := cnt_same (hnA'.erase _) (hndA.erase _)
          (fun x hx hq => by
            obtain ⟨h1, h2⟩ := ((hm x).1 (List.mem_of_mem_erase hx)).resolve_left (fun e => hnA'.not_mem_erase (e ▸ hx))
            exact ⟨(List.mem_erase_of_ne h2).2 h1, hq⟩)
          (fun x hx hq => by
            have hxA := List.mem_of_mem_erase hx
            have hxy : x ≠ y := fun e => hndA.not_mem_erase (e ▸ hx)
            have hxs : x ≠ s := fun e => hsA (e ▸ hxA)
            exact ⟨(List.mem_erase_of_ne hxs).2 ((hm x).2 (.inr ⟨hxA, hxy⟩)), hq⟩)
        have hAy := cnt_erase (ask kf (t + 1) d) hyA
        by_cases hqy : ask kf (t + 1) d y
        · have hall := cnt_all (p := ask kf (t + 1) d) (l := A) (fun z hz => hvic d hdm hqy z hz)
          rw [if_pos hqy] at hAy
          by_cases hsB : s ∈ B
          · rw [if_pos hsB]
            have := hac1 hsB hsA
            omega
          · rw [if_neg hsB]
            omega
        · rw [if_neg hqy] at hAy
          by_cases hsB : s ∈ B
          · rw [if_pos hsB]
            have hB1 := cin B hndB hsB
            have hB2 := cnt_erase (ask kf (t + 1) d) hsB
            omega
          · rw [if_neg hsB]
            have hB1 := cout B hndB hsB
            rw [List.erase_of_not_mem hsB] at hB's
            omega

theorem belady_told (kf : Nat → Int) (m n h : Nat) (hn : 0 < n) (hh : h ≤ n) (B : List Int) (c : Nat) (hB : Pag kf h m B c) : pmi kf m n m ≤ c := by
  obtain ⟨_, _, hnd, inv⟩ := belady kf m n h hn hh m (Nat.le_refl _) B c hB
  have h1 := inv m (Nat.le_refl _) (Nat.le_refl _)
  have h2 : cnt (ask kf m m) (pl kf m n m) ≤ 0 := by
    have := cnt_sub (p := ask kf m m) (o := []) (q := ask kf m m) hnd (fun x _ hp => by obtain ⟨j, h1, h2, _⟩ := hp; omega)
    simpa [cnt] using this
  omega

theorem pag_lru (kf : Nat → Int) (n : Nat) (hn : 1 ≤ n) (t : Nat) : Pag kf n t ((rcs kf t).take n) (msc kf n t) := by
  induction t with
  | zero => exact ⟨by simp [rcs], rfl⟩
  | succ t ih =>
    refine ⟨_, _, ih, (rcs_nodup2 kf (t + 1)).sublist (List.take_sublist _ _), List.length_take_le _ _, ?_, ?_, rfl⟩
    · rw [← rcs_take kf n t hn]
      obtain ⟨n, rfl⟩ : ∃ k, n = k + 1 := ⟨n - 1, by omega⟩
      unfold rcn
      rw [List.take_succ_cons]
      exact List.mem_cons_self ..
    · intro x hx
      rw [← rcs_take kf n t hn] at hx
      have h1 := List.mem_of_mem_take hx
      unfold rcn at h1
      rcases List.mem_cons.1 h1 with h2 | h2
      · exact .inr h2
      · exact .inl (List.mem_of_mem_erase h2)

theorem pl_nodup (kf : Nat → Int) (m n : Nat) (hn : 0 < n) (t : Nat) : (pl kf m n t).Nodup := by
  induction t with
  | zero => exact List.nodup_nil
  | succ t ih =>
    by_cases h : kf t ∈ pl kf m n t
    · rw [(pl_step kf m n t hn).2.1 h]; exact ih
    · exact (pl_miss kf m n t hn ih h).1

theorem pag_plan (kf : Nat → Int) (m n : Nat) (hn : 0 < n) (t : Nat) : Pag kf n t (pl kf m n t) (pmi kf m n t) := by
  induction t with
  | zero => exact ⟨rfl, rfl⟩
  | succ t ih =>
    refine ⟨_, _, ih, pl_nodup kf m n hn (t + 1), pl_len kf m n (t + 1), (pl_step kf m n t hn).1, fun x hx => ?_, rfl⟩
    by_cases h : kf t ∈ pl kf m n t
    · rw [(pl_step kf m n t hn).2.1 h] at hx
      exact .inl hx
    · rcases (pl_miss kf m n t hn (pl_nodup kf m n hn t) h).2 with hm | ⟨_, y, _, hm, _⟩
      · exact ((hm x).1 hx).symm
      · exact ((hm x).1 hx).elim .inr (fun h => .inl h.1)

end Go.Proofs.YthopnlnknicgbaaDoor
