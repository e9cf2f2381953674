/- Maps of ints to ints that read as a list, the least key first. -/
import Derived.Test.YtgpfkaiinbncnaaDoorRangeStore
import Derived.Lib.SlMapFilter
namespace Go.Proofs.YtgpfkaiinbncnaaDoor
open Go.RowKit Go.ChangeMaps Go.WideShapes
open Go.Maps (Keyed)

def encI (p : Int × Int) : Lit × DataW Unit := (.int .i64 p.1, .lit (.int .i64 p.2))
def dI (L : List (Int × Int)) : DataW Unit := .map (L.map encI)
def Asc (L : List (Int × Int)) : Prop := L.Pairwise (fun p q => p.1 < q.1)

def hasK (L : List (Int × Int)) (x : Int) : Bool := L.any (fun p => p.1 == x)
/-- what is told of a key -/
def lk : List (Int × Int) → Int → Int
  | [], _ => 0
  | p :: L, x => if p.1 = x then p.2 else lk L x
/-- a key laid into its place -/
def insL (x c : Int) (L : List (Int × Int)) : List (Int × Int) := L.filter (fun p => decide (p.1 < x)) ++ (x, c) :: L.filter (fun p => decide (x < p.1))

theorem same_int (a b : Int) : (Lit.int .i64 a).sameKey (.int .i64 b) = (a == b) := by
  simp only [Lit.sameKey]
  rw [Bool.eq_iff_iff]
  simp

theorem has_dI (L : List (Int × Int)) (x : Int) : Maps.has (dI L) (.int .i64 x) = hasK L x := by
  unfold dI hasK
  rw [Maps.has_eq, List.any_map]
  congr 1
  funext p
  exact same_int _ _

theorem size_dI (L : List (Int × Int)) : Maps.size (dI L) = L.length := by
  unfold dI
  rw [Maps.size_eq, List.length_map]

theorem atKey_dI (L : List (Int × Int)) (x : Int) : (dI L).atKey (.int .i64 x) (.lit (.int .i64 0)) = .lit (.int .i64 (lk L x)) := by
  induction L with
  | nil => rfl
  | cons p L ih =>
    simp only [lk]
    by_cases h : p.1 = x
    · rw [if_pos h]
      simp only [dI, List.map_cons, encI, DataW.atKey, List.find?_cons, same_int, h, beq_self_eq_true]
    · rw [if_neg h, ← ih]
      have hb : (p.1 == x) = false := by simpa using h
      simp only [dI, List.map_cons, encI, DataW.atKey, List.find?_cons, same_int, hb]

theorem insert_map (x c : Int) : ∀ (L : List (Int × Int)), Asc L → DataW.insert (encI (x, c)) ((L.map encI).filter (notKey (.int .i64 x))) = (insL x c L).map encI
  | [], _ => rfl
  | p :: L, h => by
    obtain ⟨h1, h2⟩ := List.pairwise_cons.1 h
    have ih := insert_map x c L h2
    have hbig : x ≤ p.1 → L.filter (fun q => decide (q.1 < x)) = [] ∧ L.filter (fun q => decide (x < q.1)) = L ∧ (L.map encI).filter (notKey (.int .i64 x)) = L.map encI := fun hx => by
      refine ⟨List.filter_eq_nil_iff.2 fun q hq => ?_, List.filter_eq_self.2 fun q hq => ?_, List.filter_eq_self.2 fun q hq => ?_⟩
      · have := h1 q hq; simp; omega
      · have := h1 q hq; simp; omega
      · obtain ⟨q', hq', rfl⟩ := List.mem_map.1 hq
        have := h1 q' hq'
        simp only [notKey, encI, same_int]
        simp; omega
    unfold insL at ih ⊢
    rcases Int.lt_trichotomy p.1 x with hlt | heq | hgt
    · have hn : notKey (.int .i64 x) (encI p) = true := by simp only [notKey, encI, same_int]; simp; omega
      rw [List.map_cons, List.filter_cons, if_pos hn]
      rw [List.filter_cons, if_pos (by simpa using hlt), List.filter_cons, if_neg (by simp; omega)]
      unfold DataW.insert
      rw [if_neg (by simp [encI, Lit.before]; omega), ih]
      rfl
    · obtain ⟨e1, e2, e3⟩ := hbig (by omega)
      have hn : ¬ notKey (.int .i64 x) (encI p) = true := by simp only [notKey, encI, same_int]; simp; omega
      rw [List.map_cons, List.filter_cons, if_neg hn, e3]
      rw [List.filter_cons, if_neg (by simp; omega), List.filter_cons, if_neg (by simp; omega), e1, e2]
      cases L with
      | nil => rfl
      | cons q L =>
        have := h1 q (by simp)
        simp only [List.map_cons]
        unfold DataW.insert
        rw [if_pos (by simp [encI, Lit.before]; omega)]
        rfl
    · obtain ⟨e1, e2, e3⟩ := hbig (by omega)
      have hn : notKey (.int .i64 x) (encI p) = true := by simp only [notKey, encI, same_int]; simp; omega
      rw [List.map_cons, List.filter_cons, if_pos hn, e3]
      rw [List.filter_cons, if_neg (by simp; omega), List.filter_cons, if_pos (by simpa using hgt), e1, e2]
      unfold DataW.insert
      rw [if_pos (by simp [encI, Lit.before]; omega)]
      rfl

theorem put_dI (x c : Int) (L : List (Int × Int)) (h : Asc L) : (dI L).put (.int .i64 x) (.lit (.int .i64 c)) = dI (insL x c L) := by
  unfold dI
  rw [DataW.put_eq]
  unfold putKey
  rw [show ((Lit.int .i64 x, DataW.lit (.int .i64 c)) : Lit × DataW Unit) = encI (x, c) from rfl, insert_map x c L h]

/-- at a key that is there -/
theorem insL_at (x c : Int) : ∀ (L : List (Int × Int)), Asc L → hasK L x = true → insL x c L = L.map (fun p => if p.1 = x then (x, c) else p)
  | [], _, h => by simp [hasK] at h
  | p :: L, ha, h => by
    obtain ⟨h1, h2⟩ := List.pairwise_cons.1 ha
    unfold insL
    by_cases hp : p.1 = x
    · have e1 : L.filter (fun q => decide (q.1 < x)) = [] := List.filter_eq_nil_iff.2 fun q hq => by have := h1 q hq; simp; omega
      have e2 : L.filter (fun q => decide (x < q.1)) = L := List.filter_eq_self.2 fun q hq => by have := h1 q hq; simp; omega
      have e3 : L.map (fun p => if p.1 = x then (x, c) else p) = L := by
        conv => rhs; rw [← List.map_id L]
        refine List.map_congr_left fun q hq => ?_
        have := h1 q hq
        rw [if_neg (by omega)]; rfl
      rw [List.filter_cons, if_neg (by simp; omega), List.filter_cons, if_neg (by simp; omega), e1, e2, List.map_cons, if_pos hp, e3]
      rfl
    · have hL : hasK L x = true := by
        unfold hasK at h ⊢
        rw [List.any_cons] at h
        have : (p.1 == x) = false := by simpa using hp
        rw [this, Bool.false_or] at h
        exact h
      have ih := insL_at x c L h2 hL
      unfold insL at ih
      have hlt : p.1 < x := by
        obtain ⟨q, hq, hqx⟩ := List.any_eq_true.1 hL
        have := h1 q hq
        have : q.1 = x := by simpa using hqx
        omega
      rw [List.filter_cons, if_pos (by simpa using hlt), List.filter_cons, if_neg (by simp; omega), List.map_cons, if_neg hp, List.cons_append, ih]

theorem asc_map {L : List (Int × Int)} (h : Asc L) (f : Int × Int → Int × Int) (hf : ∀ p ∈ L, (f p).1 = p.1) : Asc (L.map f) := by
  unfold Asc at h ⊢
  rw [List.pairwise_map]
  exact List.Pairwise.imp_of_mem (fun {a b} ha hb hab => by rw [hf a ha, hf b hb]; exact hab) h

theorem asc_insL {x c : Int} {L : List (Int × Int)} (h : Asc L) : Asc (insL x c L) := by
  unfold insL Asc
  rw [List.pairwise_append]
  refine ⟨h.filter _, List.pairwise_cons.2 ⟨fun q hq => ?_, h.filter _⟩, fun a ha b hb => ?_⟩
  · have := (List.mem_filter.1 hq).2
    simpa using this
  · have h1 := (List.mem_filter.1 ha).2
    have h1' : a.1 < x := by simpa using h1
    rcases List.mem_cons.1 hb with rfl | hb
    · exact h1'
    · have h2 := (List.mem_filter.1 hb).2
      have h2' : x < b.1 := by simpa using h2
      show a.1 < b.1
      omega

/-- those of them that are still to come stand as they were -/
def decL (left : Lit → Bool) (L : List (Int × Int)) : List (Int × Int) := L.map (fun p => if left (.int .i64 p.1) = true then p else (p.1, p.2 - 1))

theorem decL_start (L : List (Int × Int)) : decL (Maps.has (dI L)) L = L := by
  unfold decL
  conv => rhs; rw [← List.map_id L]
  refine List.map_congr_left fun p hp => ?_
  rw [has_dI, if_pos]
  · rfl
  · exact List.any_eq_true.2 ⟨p, hp, by simp⟩

theorem decL_end {left : Lit → Bool} (h : ∀ kl, left kl = false) (L : List (Int × Int)) : decL left L = L.map (fun p => (p.1, p.2 - 1)) := by
  unfold decL
  refine List.map_congr_left fun p _ => ?_
  rw [h, if_neg (by decide)]

theorem decL_asc {left : Lit → Bool} {L : List (Int × Int)} (h : Asc L) : Asc (decL left L) := asc_map h _ (fun p _ => by split <;> rfl)

theorem hasK_map (L : List (Int × Int)) (f : Int × Int → Int × Int) (hf : ∀ p ∈ L, (f p).1 = p.1) (x : Int) : hasK (L.map f) x = hasK L x := by
  unfold hasK
  rw [List.any_map]
  induction L with
  | nil => rfl
  | cons p L ih =>
    simp only [List.any_cons, Function.comp]
    rw [hf p (by simp), ih fun q hq => hf q (List.mem_cons_of_mem _ hq)]

theorem lk_mem {L : List (Int × Int)} (h : Asc L) {p : Int × Int} (hp : p ∈ L) : lk L p.1 = p.2 := by
  induction L with
  | nil => simp at hp
  | cons q L ih =>
    obtain ⟨h1, h2⟩ := List.pairwise_cons.1 h
    simp only [lk]
    rcases List.mem_cons.1 hp with rfl | hp
    · rw [if_pos rfl]
    · have := h1 p hp
      rw [if_neg (by omega)]
      exact ih h2 hp

/-- one of them has its turn -/
theorem decL_step {left : Lit → Bool} {L : List (Int × Int)} (h : Asc L) {x c : Int} (hl : left (.int .i64 x) = true) (hc : lk (decL left L) x = c) (hk : hasK L x = true) :
    insL x (c - 1) (decL left L) = decL (fun z => left z && !z.sameKey (.int .i64 x)) L := by
  have hk2 : hasK (decL left L) x = true := by unfold decL; rw [hasK_map _ _ (fun p _ => by split <;> rfl)]; exact hk
  have ha := decL_asc (left := left) h
  rw [insL_at x (c - 1) _ ha hk2]
  unfold decL at ha hc ⊢
  rw [List.map_map]
  refine List.map_congr_left fun p hp => ?_
  simp only [Function.comp]
  by_cases hpx : p.1 = x
  · have e : (if left (.int .i64 p.1) = true then p else (p.1, p.2 - 1)) = p := by rw [if_pos (by rw [hpx]; exact hl)]
    have hpc : p.2 = c := by
      have hm : p ∈ L.map (fun p => if left (.int .i64 p.1) = true then p else (p.1, p.2 - 1)) := List.mem_map.2 ⟨p, hp, e⟩
      have := lk_mem ha hm
      rw [hpx, hc] at this
      exact this.symm
    rw [e, if_pos hpx, if_neg (by rw [hpx, same_int]; simp), hpx, hpc]
  · have e2 : ((left (.int .i64 p.1) && !(Lit.int .i64 p.1).sameKey (.int .i64 x)) = true) ↔ left (.int .i64 p.1) = true := by
      rw [same_int, show (p.1 == x) = false by simpa using hpx]
      simp
    by_cases hlp : left (.int .i64 p.1) = true
    · rw [if_pos hlp, if_neg hpx, if_pos (e2.2 hlp)]
    · rw [if_neg hlp, if_neg (by exact hpx), if_neg (fun hh => hlp (e2.1 hh))]

def pdz (_ : Lit) (d : DataW Unit) : Bool := match d with | .lit (.int _ c) => decide (c = 0) | _ => false

/-- what is at nought is struck -/
theorem del_dI (L : List (Int × Int)) : Lib.deleteFuncD pdz (dI L) = dI (L.filter (fun p => !decide (p.2 = 0))) := by
  have e : ∀ es : List (Lit × DataW Unit), Lib.deleteFuncD pdz (.map es) = .map (es.filter fun p => !pdz p.1 p.2) := fun _ => rfl
  unfold dI
  rw [e, List.filter_map]
  rfl

/-- the keys, behind one more: k may be kept -/
def kp (L : List (Int × Int)) (k : Nat) (x : Int) : List (Int × Int) :=
  if hasK L x = true then L.map (fun p => if p.1 = x then (x, lk L x + 1) else p)
  else if L.length < k then insL x 1 L
  else (L.map (fun p => (p.1, p.2 - 1))).filter (fun p => !decide (p.2 = 0))

end Go.Proofs.YtgpfkaiinbncnaaDoor
