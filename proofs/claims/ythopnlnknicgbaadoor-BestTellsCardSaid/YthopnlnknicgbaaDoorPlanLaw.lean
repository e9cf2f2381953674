/- best: the plan as a machine on lists, in plain Lean. -/
import Derived.Test.YthopnlnknicgbaaDoorLruLaw
import Derived.Test.YthopnlnknicgbaaDoorIdx
namespace Go.Proofs.YthopnlnknicgbaaDoor

/-- when a key is asked for again, behind i -/
def agn (kf : Nat → Int) (m i : Nat) (x : Int) : Nat := fst (fun j => kf (i + 1 + j)) x (m - (i + 1))

/-- does the j-th go rather than the w-th? -/
def btr (kf : Nat → Int) (m i : Nat) (l : List Int) (j w : Nat) : Prop :=
  agn kf m i (lg l w) < agn kf m i (lg l j) ∨ (agn kf m i (lg l j) = agn kf m i (lg l w) ∧ lg l j < lg l w)

instance (kf : Nat → Int) (m i : Nat) (l : List Int) (j w : Nat) : Decidable (btr kf m i l j w) := by unfold btr; infer_instance

/-- which one goes, of the first j -/
def wst (kf : Nat → Int) (m i : Nat) (l : List Int) : Nat → Nat
  | 0 => 0
  | j + 1 => if btr kf m i l j (wst kf m i l j) then j else wst kf m i l j

theorem wst_lt (kf : Nat → Int) (m i : Nat) (l : List Int) (j n : Nat) (hj : j ≤ n) (hn : 0 < n) : wst kf m i l j < n := by
  induction j with
  | zero => exact hn
  | succ j ih =>
    unfold wst
    split
    · omega
    · exact ih (by omega)

/-- those that are there, behind k keys -/
def pl (kf : Nat → Int) (m n : Nat) : Nat → List Int
  | 0 => []
  | k + 1 => if kf k ∈ pl kf m n k then pl kf m n k else if (pl kf m n k).length < n then pl kf m n k ++ [kf k] else (pl kf m n k).set (wst kf m k (pl kf m n k) (pl kf m n k).length) (kf k)

/-- how many were missed -/
def pmi (kf : Nat → Int) (m n : Nat) : Nat → Nat
  | 0 => 0
  | k + 1 => pmi kf m n k + if kf k ∈ pl kf m n k then 0 else 1

/-- which went -/
def pgo (kf : Nat → Int) (m n : Nat) : Nat → List Int
  | 0 => []
  | k + 1 => if kf k ∈ pl kf m n k then pgo kf m n k else if (pl kf m n k).length < n then pgo kf m n k else pgo kf m n k ++ [lg (pl kf m n k) (wst kf m k (pl kf m n k) (pl kf m n k).length)]

theorem pl_len (kf : Nat → Int) (m n k : Nat) : (pl kf m n k).length ≤ n := by
  induction k with
  | zero => simp [pl]
  | succ k ih =>
    unfold pl
    split
    · exact ih
    · split
      · rw [List.length_append]; simp; omega
      · rw [List.length_set]; exact ih

theorem pmi_le (kf : Nat → Int) (m n k : Nat) : pmi kf m n k ≤ k := by
  induction k with
  | zero => exact Nat.le_refl _
  | succ k ih => unfold pmi; split <;> omega

theorem pgo_len (kf : Nat → Int) (m n k : Nat) : (pgo kf m n k).length ≤ k := by
  induction k with
  | zero => exact Nat.le_refl _
  | succ k ih =>
    unfold pgo
    split
    · omega
    · split
      · omega
      · rw [List.length_append]; simp; omega

/-- behind a key it is there; and what was there is there, but for one -/
theorem pl_step (kf : Nat → Int) (m n k : Nat) (hn : 0 < n) : kf k ∈ pl kf m n (k + 1) ∧ (kf k ∈ pl kf m n k → pl kf m n (k + 1) = pl kf m n k) ∧ ∃ y, ∀ x, x ∈ pl kf m n k → x ∈ pl kf m n (k + 1) ∨ x = y := by
  show kf k ∈ (if kf k ∈ pl kf m n k then pl kf m n k else if (pl kf m n k).length < n then pl kf m n k ++ [kf k] else (pl kf m n k).set (wst kf m k (pl kf m n k) (pl kf m n k).length) (kf k)) ∧
    (kf k ∈ pl kf m n k → (if kf k ∈ pl kf m n k then pl kf m n k else if (pl kf m n k).length < n then pl kf m n k ++ [kf k] else (pl kf m n k).set (wst kf m k (pl kf m n k) (pl kf m n k).length) (kf k)) = pl kf m n k) ∧
    ∃ y, ∀ x, x ∈ pl kf m n k → x ∈ (if kf k ∈ pl kf m n k then pl kf m n k else if (pl kf m n k).length < n then pl kf m n k ++ [kf k] else (pl kf m n k).set (wst kf m k (pl kf m n k) (pl kf m n k).length) (kf k)) ∨ x = y
  generalize pl kf m n k = l
  by_cases h : kf k ∈ l
  · simp only [if_pos h]
    exact ⟨h, fun _ => by trivial, 0, fun x hx => .inl hx⟩
  · simp only [if_neg h]
    by_cases hl : l.length < n
    · simp only [if_pos hl]
      exact ⟨by simp, fun h2 => absurd h2 h, 0, fun x hx => .inl (by simp [hx])⟩
    · simp only [if_neg hl]
      have hw := wst_lt kf m k l l.length l.length (Nat.le_refl _) (by omega)
      generalize wst kf m k l l.length = w at *
      refine ⟨List.mem_set hw _, fun h2 => absurd h2 h, l[w], fun x hx => ?_⟩
      obtain ⟨j, hj, e⟩ := List.getElem_of_mem hx
      by_cases hjw : j = w
      · subst hjw; exact .inr e.symm
      · left
        rw [← e]
        have : (l.set w (kf k))[j]'(by rw [List.length_set]; exact hj) = l[j] := List.getElem_set_ne (by omega) _
        rw [← this]
        exact List.getElem_mem _

/-! Sleator and Tarjan. -/

/-- what the ones of l are worth that are not in O, the first one w, each behind it one less -/
def phi (O : List Int) : Nat → List Int → Nat
  | _, [] => 0
  | w, x :: l => (if x ∈ O then 0 else w) + phi O (w - 1) l

def cno (O : List Int) : List Int → Nat
  | [] => 0
  | x :: l => (if x ∈ O then 0 else 1) + cno O l

theorem phi_w (O : List Int) (l : List Int) : ∀ w w' : Nat, w ≤ w' → phi O w l ≤ phi O w' l := by
  induction l with
  | nil => intro w w' h; exact Nat.le_refl _
  | cons x l ih =>
    intro w w' h
    have := ih (w - 1) (w' - 1) (by omega)
    unfold phi
    split <;> omega

theorem phi_same (O O' : List Int) (l : List Int) (h : ∀ x, x ∈ l → x ∈ O → x ∈ O') : ∀ w, phi O' w l ≤ phi O w l := by
  induction l with
  | nil => intro w; exact Nat.le_refl _
  | cons x l ih =>
    intro w
    have h1 := ih (fun y hy => h y (List.mem_cons_of_mem _ hy)) (w - 1)
    have h2 := h x (List.mem_cons_self ..)
    unfold phi
    by_cases hx : x ∈ O
    · rw [if_pos hx, if_pos (h2 hx)]; omega
    · rw [if_neg hx]; split <;> omega

theorem phi_one (O O' : List Int) (y : Int) (l : List Int) (hl : l.Nodup) (h : ∀ x, x ∈ O → x ∈ O' ∨ x = y) : ∀ w, phi O' w l ≤ phi O w l + w := by
  induction l with
  | nil => intro w; simp [phi]
  | cons x l ih =>
    intro w
    obtain ⟨hx, hl⟩ := List.nodup_cons.1 hl
    unfold phi
    by_cases hxy : x = y
    · subst hxy
      have h1 := phi_same O O' l (fun z hz hzo => (h z hzo).elim id (fun e => absurd (e ▸ hz) hx)) (w - 1)
      split <;> split <;> omega
    · have h1 := ih hl (w - 1)
      by_cases h2 : x ∈ O
      · have h3 := (h x h2).elim id (fun e => absurd e hxy)
        rw [if_pos h2, if_pos h3]; omega
      · rw [if_neg h2]; split <;> omega

theorem phi_front (O : List Int) (s : Int) (hs : s ∈ O) (l : List Int) (hl : s ∈ l) : ∀ w, phi O (w - 1) (l.erase s) ≤ phi O w l := by
  induction l with
  | nil => cases hl
  | cons x l ih =>
    intro w
    by_cases hx : x = s
    · subst hx
      rw [List.erase_cons_head]
      show _ ≤ (if x ∈ O then 0 else w) + phi O (w - 1) l
      omega
    · have hl2 : s ∈ l := (List.mem_cons.1 hl).elim (fun e => absurd e.symm hx) id
      have h1 := ih hl2 (w - 1)
      rw [List.erase_cons_tail (by simpa using hx)]
      show (if x ∈ O then 0 else w - 1) + phi O (w - 1 - 1) (l.erase s) ≤ (if x ∈ O then 0 else w) + phi O (w - 1) l
      split <;> omega

theorem phi_drop (O : List Int) (l : List Int) : ∀ n, l.length ≤ n → phi O (n - 1) (l.take (n - 1)) + cno O l = phi O n l := by
  induction l with
  | nil => intro n _; simp [phi, cno]
  | cons x l ih =>
    intro n hn
    simp only [List.length_cons] at hn
    obtain ⟨n, rfl⟩ : ∃ n', n = n' + 1 := ⟨n - 1, by omega⟩
    have h1 := ih n (by omega)
    simp only [Nat.add_sub_cancel]
    cases n with
    | zero =>
      have : l = [] := List.length_eq_zero_iff.1 (by omega)
      subst this
      simp [phi, cno]
    | succ n =>
      rw [List.take_succ_cons]
      simp only [Nat.add_sub_cancel] at h1
      show ((if x ∈ O then 0 else n + 1) + phi O (n + 1 - 1) (l.take n)) + ((if x ∈ O then 0 else 1) + cno O l) = (if x ∈ O then 0 else n + 1 + 1) + phi O (n + 1 + 1 - 1) l
      simp only [Nat.add_sub_cancel]
      split <;> omega

theorem sub_len : ∀ (l o : List Int), l.Nodup → (∀ x, x ∈ l → x ∈ o) → l.length ≤ o.length
  | [], _, _, _ => Nat.zero_le _
  | x :: l, o, hn, h => by
    obtain ⟨hx, hl⟩ := List.nodup_cons.1 hn
    have hxo := h x (List.mem_cons_self ..)
    have h1 := sub_len l (o.erase x) hl (fun y hy => by
      have hyx : y ≠ x := fun e => hx (e ▸ hy)
      exact (List.mem_erase_of_ne hyx).2 (h y (List.mem_cons_of_mem _ hy)))
    rw [List.length_erase_of_mem hxo] at h1
    have := List.length_pos_of_mem hxo
    simp only [List.length_cons]
    omega

theorem cno_eq (O l : List Int) : cno O l + (l.filter (fun x => decide (x ∈ O))).length = l.length := by
  induction l with
  | nil => rfl
  | cons x l ih =>
    unfold cno
    rw [List.filter_cons]
    by_cases h : x ∈ O
    · rw [if_pos h, if_pos (by simpa using h)]; simp; omega
    · rw [if_neg h, if_neg (by simpa using h)]; simp; omega

theorem cno_ge (O l : List Int) (s : Int) (hn : l.Nodup) (hs : s ∈ O) (hl : s ∉ l) : l.length + 1 ≤ cno O l + O.length := by
  have h1 := cno_eq O l
  have h2 := sub_len (l.filter (fun x => decide (x ∈ O))) (O.erase s) (hn.filter _) (fun x hx => by
    rw [List.mem_filter] at hx
    have hxs : x ≠ s := fun e => hl (e ▸ hx.1)
    exact (List.mem_erase_of_ne hxs).2 (by simpa using hx.2))
  rw [List.length_erase_of_mem hs] at h2
  have := List.length_pos_of_mem hs
  omega

theorem rcs_nodup2 (kf : Nat → Int) (j : Nat) : (rcs kf j).Nodup := by
  induction j with
  | zero => exact List.nodup_nil
  | succ j ih =>
    show (kf j :: (rcs kf j).erase (kf j)).Nodup
    rw [List.nodup_cons]
    exact ⟨fun h => ih.not_mem_erase h, ih.erase _⟩

theorem twice (kf : Nat → Int) (m n h : Nat) (hh : 1 ≤ h) (hn : h ≤ n) (t : Nat) :
    msc kf n t * (n + 1 - h) + phi (pl kf m h t) n ((rcs kf t).take n) ≤ n * pmi kf m h t + (n + 1 - h) * ((rcs kf t).take n).length := by
  induction t with
  | zero => simp [msc, phi, rcs, pmi, pl]
  | succ t ih =>
    obtain ⟨p1, p2, y, p3⟩ := pl_step kf m h t (by omega)
    have hol := pl_len kf m h (t + 1)
    have hnd : ((rcs kf t).take n).Nodup := (rcs_nodup2 kf t).sublist (List.take_sublist _ _)
    have hlt := rcs_take kf n t (by omega)
    have hll : ((rcs kf t).take n).length ≤ n := List.length_take_le _ _
    have e1 : msc kf n (t + 1) = msc kf n t + if kf t ∈ (rcs kf t).take n then 0 else 1 := rfl
    have e2 : pmi kf m h (t + 1) = pmi kf m h t + if kf t ∈ pl kf m h t then 0 else 1 := rfl
    rw [← hlt]
    generalize (rcs kf t).take n = L at *
    generalize pl kf m h (t + 1) = O' at *
    generalize pl kf m h t = O at *
    generalize kf t = s at *
    generalize msc kf n t = a at *
    generalize pmi kf m h t = b at *
    generalize hk : n + 1 - h = k at *
    rw [e1, e2]
    -- what the other one does
    have hopt : a * k + phi O' n L ≤ n * (b + if s ∈ O then 0 else 1) + k * L.length := by
      by_cases ho : s ∈ O
      · rw [if_pos ho, p2 ho]; exact ih
      · rw [if_neg ho, Nat.mul_add]
        have := phi_one O O' y L hnd p3 n
        omega
    generalize (b + if s ∈ O then 0 else 1) = b' at *
    by_cases hs : s ∈ L
    · rw [if_pos hs]
      have e3 : (rcn s L).length = L.length := by rw [rcn_len, if_pos hs]
      rw [List.take_of_length_le (by omega), e3, Nat.add_zero]
      have h1 := phi_front O' s p1 L hs n
      have h2 : phi O' n (rcn s L) = phi O' (n - 1) (L.erase s) := by
        show (if s ∈ O' then 0 else n) + _ = _
        rw [if_pos p1, Nat.zero_add]
      omega
    · rw [if_neg hs]
      have e4 : rcn s L = s :: L := by unfold rcn; rw [List.erase_of_not_mem hs]
      rw [e4]
      obtain ⟨n', rfl⟩ : ∃ n', n = n' + 1 := ⟨n - 1, by omega⟩
      rw [List.take_succ_cons]
      have h2 : phi O' (n' + 1) (s :: L.take n') = phi O' n' (L.take n') := by
        show (if s ∈ O' then 0 else n' + 1) + _ = _
        rw [if_pos p1, Nat.zero_add]; rfl
      have h3 := phi_drop O' L (n' + 1) hll
      simp only [Nat.add_sub_cancel] at h3
      have h4 := cno_ge O' L s hnd p1 hs
      rw [h2, Nat.add_mul, Nat.one_mul, List.length_cons, List.length_take]
      by_cases hf : L.length = n' + 1
      · rw [show min n' L.length + 1 = L.length by omega]
        omega
      · rw [show min n' L.length + 1 = L.length + 1 by omega, Nat.mul_add, Nat.mul_one]
        omega

theorem twice_told (kf : Nat → Int) (m n h : Nat) (hh : 1 ≤ h) (hn : h ≤ n) : msc kf n m * (n + 1 - h) ≤ n * pmi kf m h m + n * (n + 1 - h) := by
  have h1 := twice kf m n h hh hn m
  have h2 : ((rcs kf m).take n).length ≤ n := List.length_take_le _ _
  have h3 := Nat.mul_le_mul_left (n + 1 - h) h2
  rw [Nat.mul_comm n (n + 1 - h)]
  omega

end Go.Proofs.YthopnlnknicgbaaDoor
