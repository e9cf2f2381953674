/- Names, questions, records and messages as bytes: how they are written, in plain words; what was written is read as it was. -/
import Derived.Test.YtkdmkpdooiacaaaZbase1
namespace Go.Proofs.Ytkdmkpdooiacaaa
open Go.RowKit

/-- a number's lowest byte -/
def byt (n : Nat) : UInt8 := UInt8.ofNat n

theorem byt_nat {n : Nat} (h : n < 256) : (byt n).toNat = n := by unfold byt; simp; omega

/-- do just these labels stand there? -/
def stands (L : List UInt8) (ls : List ByteArray) (s : Nat) : Bool :=
  decide (s ≤ 16383) && (match rdNm L s s 1 with
    | .error _ => false
    | .ok x => decide (x.1 = ls))

/-- the first start at which just these labels stand -/
def fndP (L : List UInt8) (st : List Nat) (ls : List ByteArray) : Option Nat := st.find? (stands L ls)

/-- what is wrong with a name -/
def nmF (ls : List ByteArray) : Int := nmFault ls.length (fun j => ls.getD j .empty)

/-- a label as it is sent -/
def lbl (l : ByteArray) : List UInt8 := byt l.size :: l.data.toList

/-- a name behind a message, from so many of its labels on -/
def packG (L : List UInt8) (st : List Nat) : List ByteArray → List UInt8 × List Nat → List UInt8 × List Nat
  | [], o => (o.1 ++ [0], o.2)
  | l :: r, o => match fndP L st (l :: r) with
    | some p => (o.1 ++ [byt (192 + p / 256), byt (p % 256)], o.2)
    | none => packG L st r (o.1 ++ lbl l, if o.1.length ≤ 16383 then o.2 ++ [o.1.length] else o.2)

/-- a name behind a message, and where names begin -/
def pack (o : List UInt8 × List Nat) (ls : List ByteArray) : List UInt8 × List Nat := packG o.1 o.2 ls o

def wordB (x : Int) : Prop := 0 ≤ x ∧ x ≤ 65535
instance (x : Int) : Decidable (wordB x) := by unfold wordB; infer_instance

/-- two bytes of a number -/
def two (x : Int) : List UInt8 := [byt (x.toNat / 256), byt (x.toNat % 256)]

theorem two_len (x : Int) : (two x).length = 2 := rfl

/-- a question behind a message -/
def wrQ (o : List UInt8 × List Nat) (q : Qc) : Except Int (List UInt8 × List Nat) :=
  if nmF q.nm ≠ 0 then .error (nmF q.nm)
  else if ¬ (wordB q.ty ∧ wordB q.cl) then .error 6
  else .ok ((pack o q.nm).1 ++ (two q.ty ++ two q.cl), (pack o q.nm).2)

/-- a record behind a message -/
def wrR (o : List UInt8 × List Nat) (r : Rc) : Except Int (List UInt8 × List Nat) :=
  if nmF r.nm ≠ 0 then .error (nmF r.nm)
  else if ¬ (wordB r.ty ∧ wordB r.cl ∧ 0 ≤ r.tt ∧ r.tt ≤ 4294967295) then .error 6
  else if 65535 < r.dt.length then .error 7
  else .ok ((pack o r.nm).1 ++ (two r.ty ++ (two r.cl ++ (two (r.tt / 65536) ++ (two (r.tt % 65536) ++ (two r.dt.length ++ r.dt))))), (pack o r.nm).2)

/-- so many of them, one behind the other -/
def wrK {α : Type} (wr : List UInt8 × List Nat → α → Except Int (List UInt8 × List Nat)) (l : List α) (o : List UInt8 × List Nat) : Nat → Except Int (List UInt8 × List Nat)
  | 0 => .ok o
  | k + 1 => match wrK wr l o k with
    | .error e => .error e
    | .ok o' => match l[k]? with
      | some x => wr o' x
      | none => .ok o'

theorem wrK_err {α : Type} {wr : List UInt8 × List Nat → α → Except Int (List UInt8 × List Nat)} {l : List α} {o : List UInt8 × List Nat} {k : Nat} {e : Int} (h : wrK wr l o k = .error e) (n : Nat) (hn : k ≤ n) : wrK wr l o n = .error e := by
  induction n with
  | zero => obtain rfl : k = 0 := by omega
            exact h
  | succ n ih =>
    by_cases h2 : k = n + 1
    · subst h2; exact h
    · simp only [wrK]; rw [ih (by omega)]

theorem wrK_pre {α : Type} {wr : List UInt8 × List Nat → α → Except Int (List UInt8 × List Nat)} {l : List α} {o : List UInt8 × List Nat} {n : Nat} {x : List UInt8 × List Nat} (h : wrK wr l o n = .ok x) (k : Nat) (hk : k ≤ n) : ∃ y, wrK wr l o k = .ok y := by
  match hy : wrK wr l o k with
  | .ok y => exact ⟨y, rfl⟩
  | .error e => rw [wrK_err hy n hk] at h; cases h

def hdOkB (h : Hd) : Prop := wordB h.id ∧ (0 ≤ h.op ∧ h.op ≤ 15) ∧ (0 ≤ h.code ∧ h.code ≤ 15)
instance (h : Hd) : Decidable (hdOkB h) := by unfold hdOkB; infer_instance

def oneB (b : Bool) (n : Nat) : Nat := if b then n else 0

/-- a header's bytes -/
def hdL (h : Hd) : List UInt8 :=
  [byt (h.id.toNat / 256), byt (h.id.toNat % 256), byt (oneB h.an 128 + h.op.toNat * 8 + oneB h.aa 4 + oneB h.tc 2 + oneB h.rd 1), byt (oneB h.ra 128 + oneB h.z 64 + oneB h.ad 32 + oneB h.cd 16 + h.code.toNat)]

/-- the first twelve bytes -/
def wrTop (m : Mc) : List UInt8 := hdL m.h ++ (two m.qs.length ++ (two m.an.length ++ (two m.un.length ++ two m.mn.length)))

/-- a message's bytes -/
def wrMsg (m : Mc) : Except Int (List UInt8) :=
  if ¬ hdOkB m.h then .error 6
  else if 65535 < m.qs.length ∨ 65535 < m.an.length ∨ 65535 < m.un.length ∨ 65535 < m.mn.length then .error 7
  else match wrK wrQ m.qs (wrTop m, []) m.qs.length with
    | .error e => .error e
    | .ok o1 => match wrK wrR m.an o1 m.an.length with
      | .error e => .error e
      | .ok o2 => match wrK wrR m.un o2 m.un.length with
        | .error e => .error e
        | .ok o3 => match wrK wrR m.mn o3 m.mn.length with
          | .error e => .error e
          | .ok o4 => if 65535 < o4.1.length then .error 7 else .ok o4.1

/-! ## what was written is read as it was -/

theorem stands_iff {L : List UInt8} {ls : List ByteArray} {s : Nat} (h : stands L ls s = true) : s ≤ 16383 ∧ ∃ n, rdNm L s s 1 = .ok (ls, n) := by
  unfold stands at h
  rw [Bool.and_eq_true, decide_eq_true_iff] at h
  obtain ⟨h1, h2⟩ := h
  match hr : rdNm L s s 1, h2 with
  | .ok (l, n), h2 =>
    simp only [decide_eq_true_iff] at h2
    subst h2
    exact ⟨h1, n, rfl⟩

theorem gB_at {L M : List UInt8} {i : Nat} (h : i < M.length) : gB (L ++ M) (L.length + i) = gB M i := by
  unfold gB
  rw [List.getD_eq_getElem?_getD, List.getD_eq_getElem?_getD, List.getElem?_append_right (by omega), Nat.add_sub_cancel_left]

theorem gB_hd {L : List UInt8} {b : UInt8} {M : List UInt8} : gB (L ++ b :: M) L.length = b.toNat := by
  have := gB_at (L := L) (M := b :: M) (i := 0) (by simp)
  rw [Nat.add_zero] at this
  rw [this]
  rfl

theorem lab_at {L : List UInt8} {b : UInt8} (l : ByteArray) (M : List UInt8) : lab (L ++ b :: (l.data.toList ++ M)) (L.length + 1) l.size = l := by
  unfold lab
  rw [show L.length + 1 = (L ++ [b]).length by simp, show L ++ b :: (l.data.toList ++ M) = (L ++ [b]) ++ (l.data.toList ++ M) by simp, List.drop_left, List.take_append_of_le_length (by show l.data.size ≤ _; simp), List.take_of_length_le (by show _ ≤ l.data.size; simp)]

theorem pack_pre (L : List UInt8) (st : List Nat) (ls : List ByteArray) (o : List UInt8 × List Nat) : o.1 <+: (packG L st ls o).1 := by
  induction ls generalizing o with
  | nil => exact ⟨_, rfl⟩
  | cons l r ih =>
    simp only [packG]
    match fndP L st (l :: r) with
    | some p => exact ⟨_, rfl⟩
    | none => exact (List.prefix_append _ _).trans (ih (o.1 ++ lbl l, if o.1.length ≤ 16383 then o.2 ++ [o.1.length] else o.2))

/-- what packG adds lies behind: its shape -/
theorem packG_add (L : List UInt8) (st : List Nat) (ls : List ByteArray) (o : List UInt8 × List Nat) : ∃ M, (packG L st ls o).1 = o.1 ++ M := by
  obtain ⟨M, h⟩ := pack_pre L st ls o
  exact ⟨M, h.symm⟩

/-- the labels from a place on are read -/
theorem pack_read (L : List UInt8) (st : List Nat) (ls : List ByteArray) (o : List UInt8 × List Nat) (hL : L <+: o.1) (hb : ∀ l ∈ ls, 1 ≤ l.size ∧ l.size ≤ 63) (low sz : Nat) (hlow : L.length ≤ low) (hsz : sz + lsz ls ≤ 255) :
    rdNm (packG L st ls o).1 o.1.length low sz = .ok (ls, (packG L st ls o).1.length) := by
  induction ls generalizing o sz with
  | nil =>
    simp only [packG]
    rw [rdNm_end (by simp) (by rw [gB_hd]; rfl)]
    simp
  | cons l r ih =>
    simp only [packG]
    match hf : fndP L st (l :: r) with
    | some p =>
      simp only []
      have hp := List.find?_some hf
      obtain ⟨h1, n, h2⟩ := stands_iff hp
      have hpL : p < L.length := by
        by_cases h : p < L.length
        · exact h
        · rw [rdNm_out h] at h2; cases h2
      have e1 : gB (o.1 ++ [byt (192 + p / 256), byt (p % 256)]) o.1.length = 192 + p / 256 := by rw [gB_hd, byt_nat (by omega)]
      have e2 : gB (o.1 ++ [byt (192 + p / 256), byt (p % 256)]) (o.1.length + 1) = p % 256 := by
        rw [gB_at (by simp)]
        show (byt (p % 256)).toNat = _
        rw [byt_nat (by omega)]
      have e3 : (192 + p / 256 - 192) * 256 + p % 256 = p := by omega
      rw [rdNm_jump (by simp) (by rw [e1]; omega) (by simp) (by rw [e1, e2, e3]; omega), e1, e2, e3]
      rw [rdNm_ext (hL.trans (List.prefix_append _ _)) (rdNm_sz h2 sz (by simpa using hsz))]
      simp [rdNext]
    | none =>
      simp only []
      obtain ⟨M, hM⟩ := packG_add L st r (o.1 ++ lbl l, if o.1.length ≤ 16383 then o.2 ++ [o.1.length] else o.2)
      have ih' := ih (o.1 ++ lbl l, if o.1.length ≤ 16383 then o.2 ++ [o.1.length] else o.2) (hL.trans (List.prefix_append _ _)) (fun x hx => hb x (List.mem_cons_of_mem _ hx)) (sz + l.size + 1) (by simp only [lsz] at hsz; omega)
      rw [hM] at ih' ⊢
      simp only [] at ih'
      have hl := hb l (by simp)
      have hls : l.data.toList.length = l.size := rfl
      have eX : o.1 ++ lbl l ++ M = o.1 ++ byt l.size :: (l.data.toList ++ M) := by unfold lbl; simp
      have e1 : gB (o.1 ++ lbl l ++ M) o.1.length = l.size := by rw [eX, gB_hd, byt_nat (by omega)]
      have e4 : (o.1 ++ lbl l).length = o.1.length + 1 + l.size := by unfold lbl; simp [hls]; omega
      rw [rdNm_label (by rw [List.length_append, e4]; omega) (by rw [e1]; omega) (by rw [e1]; omega) (by rw [e1, List.length_append, e4]; omega) (by rw [e1]; simp only [lsz] at hsz; omega), e1]
      rw [e4] at ih'
      rw [ih']
      rw [show lab (o.1 ++ lbl l ++ M) (o.1.length + 1) l.size = l by rw [eX]; exact lab_at l M]
      rfl

theorem nmF_ok {ls : List ByteArray} (h : nmF ls = 0) : (∀ l ∈ ls, 1 ≤ l.size ∧ l.size ≤ 63) ∧ 1 + lsz ls ≤ 255 := by
  unfold nmF nmFault at h
  split at h
  · cases h
  rename_i hb
  split at h
  · cases h
  rename_i hz
  refine ⟨fun l hl => ?_, ?_⟩
  · obtain ⟨i, hi, rfl⟩ := List.getElem_of_mem hl
    have hg : ls.getD i .empty = ls[i] := by rw [List.getD_eq_getElem?_getD, List.getElem?_eq_getElem hi]; rfl
    by_cases h1 : (ls[i]).size < 1
    · exact absurd (lbad_true hi (s := fun j => ls.getD j .empty) (.inl (by rw [hg]; exact h1))) hb
    · by_cases h2 : 63 < (ls[i]).size
      · exact absurd (lbad_true hi (s := fun j => ls.getD j .empty) (.inr (by rw [hg]; exact h2))) hb
      · omega
  · have key : ∀ k, k ≤ ls.length → nsz (fun j => ls.getD j .empty) k ≤ 255 → nsz (fun j => ls.getD j .empty) k = 1 + lsz (ls.take k) := by
      intro k hk
      induction k with
      | zero => intro _; simp [nsz, lsz]
      | succ k ih =>
        intro h
        simp only [nsz] at h ⊢
        have hk' : k < ls.length := by omega
        have hg : ls.getD k .empty = ls[k] := by rw [List.getD_eq_getElem?_getD, List.getElem?_eq_getElem hk']; rfl
        rw [hg] at h ⊢
        rw [List.take_add_one, List.getElem?_eq_getElem hk', Option.toList_some, lsz_append]
        simp only [lsz]
        have := ih (by omega) (by omega)
        omega
    have := key ls.length (Nat.le_refl _) (by omega)
    rw [List.take_length] at this
    omega

theorem pack_name {o : List UInt8 × List Nat} {ls : List ByteArray} (h : nmF ls = 0) : o.1 <+: (pack o ls).1 ∧ rdNm (pack o ls).1 o.1.length o.1.length 1 = .ok (ls, (pack o ls).1.length) := by
  obtain ⟨h1, h2⟩ := nmF_ok h
  exact ⟨pack_pre _ _ _ _, pack_read _ _ _ _ (List.prefix_refl _) h1 _ _ (Nat.le_refl _) h2⟩

theorem pr_two {L M : List UInt8} {x : Int} (h : wordB x) : pr (L ++ (two x ++ M)) L.length = x.toNat := by
  obtain ⟨h0, h1⟩ := h
  have e1 : gB (L ++ (two x ++ M)) L.length = x.toNat / 256 := by
    show gB (L ++ byt (x.toNat / 256) :: _) L.length = _
    rw [gB_hd, byt_nat (by omega)]
  have e2 : gB (L ++ (two x ++ M)) (L.length + 1) = x.toNat % 256 := by
    rw [gB_at (by simp [two])]
    show (byt (x.toNat % 256)).toNat = _
    rw [byt_nat (by omega)]
  unfold pr
  rw [e1, e2]
  omega

theorem pr_off {L A M : List UInt8} {i n : Nat} {x : Int} (h : wordB x) (hi : i = L.length + n) (hn : n = A.length) : pr (L ++ (A ++ (two x ++ M))) i = x.toNat := by
  subst hi hn
  rw [← List.append_assoc, ← List.length_append]
  exact pr_two h

/-- a question that was written is read -/
theorem wrQ_read {o o' : List UInt8 × List Nat} {q : Qc} (h : wrQ o q = .ok o') : o.1 <+: o'.1 ∧ rdQ o'.1 o.1.length = .ok (q, o'.1.length) := by
  unfold wrQ at h
  split at h
  · cases h
  rename_i hz
  split at h
  · cases h
  rename_i hw
  cases h
  have hz : nmF q.nm = 0 := Decidable.not_not.1 hz
  have hw : wordB q.ty ∧ wordB q.cl := Decidable.not_not.1 hw
  obtain ⟨h1, h2⟩ := pack_name (o := o) hz
  refine ⟨h1.trans (List.prefix_append _ _), ?_⟩
  unfold rdQ
  rw [rdNm_ext (List.prefix_append _ _) h2]
  simp only []
  generalize (pack o q.nm).1 = P
  rw [if_neg (by simp [two])]
  rw [pr_two hw.1, show pr (P ++ (two q.ty ++ two q.cl)) (P.length + 2) = q.cl.toNat from by
    have := pr_off (L := P) (A := two q.ty) (M := []) (i := P.length + 2) hw.2 rfl rfl
    simpa using this]
  obtain ⟨⟨a, b⟩, c, d⟩ := hw
  have e1 : ((q.ty.toNat : Nat) : Int) = q.ty := by omega
  have e2 : ((q.cl.toNat : Nat) : Int) = q.cl := by omega
  rw [e1, e2]
  simp [two]

theorem wordB_div {x : Int} (h0 : 0 ≤ x) (h1 : x ≤ 4294967295) : wordB (x / 65536) ∧ wordB (x % 65536) := by unfold wordB; omega

/-- a record that was written is read -/
theorem wrR_read {o o' : List UInt8 × List Nat} {r : Rc} (h : wrR o r = .ok o') : o.1 <+: o'.1 ∧ rdR o'.1 o.1.length = .ok (r, o'.1.length) := by
  unfold wrR at h
  split at h
  · cases h
  rename_i hz
  split at h
  · cases h
  rename_i hw
  split at h
  · cases h
  rename_i hd
  cases h
  have hz : nmF r.nm = 0 := Decidable.not_not.1 hz
  obtain ⟨hw1, hw2, hw3, hw4⟩ : wordB r.ty ∧ wordB r.cl ∧ 0 ≤ r.tt ∧ r.tt ≤ 4294967295 := Decidable.not_not.1 hw
  obtain ⟨h1, h2⟩ := pack_name (o := o) hz
  refine ⟨h1.trans (List.prefix_append _ _), ?_⟩
  unfold rdR
  rw [rdNm_ext (List.prefix_append _ _) h2]
  simp only []
  generalize (pack o r.nm).1 = P
  obtain ⟨hw5, hw6⟩ := wordB_div hw3 hw4
  have hw7 : wordB (r.dt.length : Int) := by unfold wordB; omega
  have e0 := pr_two (L := P) (M := two r.cl ++ (two (r.tt / 65536) ++ (two (r.tt % 65536) ++ (two r.dt.length ++ r.dt)))) hw1
  have e2 := pr_off (L := P) (A := two r.ty) (M := two (r.tt / 65536) ++ (two (r.tt % 65536) ++ (two r.dt.length ++ r.dt))) (i := P.length + 2) hw2 rfl rfl
  have e4 := pr_off (L := P) (A := two r.ty ++ two r.cl) (M := two (r.tt % 65536) ++ (two r.dt.length ++ r.dt)) (i := P.length + 4) hw5 rfl rfl
  have e6 := pr_off (L := P) (A := two r.ty ++ two r.cl ++ two (r.tt / 65536)) (M := two r.dt.length ++ r.dt) (i := P.length + 6) hw6 rfl rfl
  have e8 := pr_off (L := P) (A := two r.ty ++ two r.cl ++ two (r.tt / 65536) ++ two (r.tt % 65536)) (M := r.dt) (i := P.length + 8) hw7 rfl rfl
  have ed : sub (P ++ (two r.ty ++ (two r.cl ++ (two (r.tt / 65536) ++ (two (r.tt % 65536) ++ (two r.dt.length ++ r.dt)))))) (P.length + 10) r.dt.length = r.dt := by
    unfold sub
    rw [show P ++ (two r.ty ++ (two r.cl ++ (two (r.tt / 65536) ++ (two (r.tt % 65536) ++ (two r.dt.length ++ r.dt))))) = (P ++ (two r.ty ++ two r.cl ++ two (r.tt / 65536) ++ two (r.tt % 65536) ++ two r.dt.length)) ++ r.dt by simp]
    rw [show P.length + 10 = (P ++ (two r.ty ++ two r.cl ++ two (r.tt / 65536) ++ two (r.tt % 65536) ++ two r.dt.length)).length by simp [two], List.drop_left, List.take_length]
  simp only [List.append_assoc] at e4 e6 e8
  have hlen : (P ++ (two r.ty ++ (two r.cl ++ (two (r.tt / 65536) ++ (two (r.tt % 65536) ++ (two r.dt.length ++ r.dt)))))).length = P.length + 10 + r.dt.length := by simp [two]; omega
  rw [e0, e2, e4, e6, e8, hlen]
  simp only [Int.toNat_natCast]
  rw [ed, if_neg (by omega), if_neg (by omega)]
  obtain ⟨a, b⟩ := hw1
  obtain ⟨c, d⟩ := hw2
  have f1 : ((r.ty.toNat : Nat) : Int) = r.ty := by omega
  have f2 : ((r.cl.toNat : Nat) : Int) = r.cl := by omega
  have f3 : ((((r.tt / 65536).toNat * 65536 + (r.tt % 65536).toNat : Nat)) : Int) = r.tt := by omega
  have f4 : (((r.tt / 65536).toNat : Nat) : Int) * 65536 + (((r.tt % 65536).toNat : Nat) : Int) = r.tt := by omega
  simp only [f1, f2, f3, f4]

/-- so many that were written are read -/
theorem wrK_read {α : Type} {wr : List UInt8 × List Nat → α → Except Int (List UInt8 × List Nat)} {rd : List UInt8 → Nat → Except Int (α × Nat)}
    (hr : ∀ o o' x, wr o x = .ok o' → o.1 <+: o'.1 ∧ rd o'.1 o.1.length = .ok (x, o'.1.length)) (hx : ∀ L M i x, L <+: M → rd L i = .ok x → rd M i = .ok x)
    {l : List α} {o o' : List UInt8 × List Nat} {k : Nat} (hk : k ≤ l.length) (h : wrK wr l o k = .ok o') : o.1 <+: o'.1 ∧ rdK (rd o'.1) o.1.length k = .ok (l.take k, o'.1.length) := by
  induction k generalizing o' with
  | zero => simp only [wrK, Except.ok.injEq] at h; subst h; exact ⟨List.prefix_refl _, by simp [rdK]⟩
  | succ k ih =>
    simp only [wrK] at h
    match hy : wrK wr l o k, h with
    | .ok y, h =>
      simp only [] at h
      rw [List.getElem?_eq_getElem (by omega)] at h
      simp only [] at h
      obtain ⟨h1, h2⟩ := ih (by omega) hy
      obtain ⟨h3, h4⟩ := hr _ _ _ h
      refine ⟨h1.trans h3, ?_⟩
      simp only [rdK]
      rw [rdK_ext (fun j x hj => hx _ _ _ _ h3 hj) h2]
      simp only []
      rw [h4]
      simp only []
      rw [List.take_add_one, List.getElem?_eq_getElem (by omega)]
      rfl

theorem bits_byte (a b c d e : Bool) (x : Nat) (hx : x ≤ 15) : (gB [byt (oneB a 128 + x * 8 + oneB b 4 + oneB c 2 + oneB d 1)] 0 = oneB a 128 + x * 8 + oneB b 4 + oneB c 2 + oneB d 1) ∧
    (gB [byt (oneB a 128 + oneB b 64 + oneB c 32 + oneB d 16 + x)] 0 = oneB a 128 + oneB b 64 + oneB c 32 + oneB d 16 + x) := by
  constructor
  · show (byt _).toNat = _
    refine byt_nat ?_
    unfold oneB
    cases a <;> cases b <;> cases c <;> cases d <;> simp <;> omega
  · show (byt _).toNat = _
    refine byt_nat ?_
    unfold oneB
    cases a <;> cases b <;> cases c <;> cases d <;> simp <;> omega

/-- a header that was written is read -/
theorem rdHd_hdL {h : Hd} (hok : hdOkB h) (M : List UInt8) : rdHd (hdL h ++ M) = h := by
  obtain ⟨id, an, op, aa, tc, rd, ra, z, ad, cd, code⟩ := h
  obtain ⟨⟨h1, h2⟩, ⟨h3, h4⟩, h5, h6⟩ := hok
  simp only at h1 h2 h3 h4 h5 h6
  have hx : op.toNat ≤ 15 := by omega
  have hy : code.toNat ≤ 15 := by omega
  have g2 : gB (hdL ⟨id, an, op, aa, tc, rd, ra, z, ad, cd, code⟩ ++ M) 2 = oneB an 128 + op.toNat * 8 + oneB aa 4 + oneB tc 2 + oneB rd 1 := (bits_byte an aa tc rd rd op.toNat hx).1
  have g3 : gB (hdL ⟨id, an, op, aa, tc, rd, ra, z, ad, cd, code⟩ ++ M) 3 = oneB ra 128 + oneB z 64 + oneB ad 32 + oneB cd 16 + code.toNat := (bits_byte ra z ad cd cd code.toNat hy).2
  have g0 : gB (hdL ⟨id, an, op, aa, tc, rd, ra, z, ad, cd, code⟩ ++ M) 0 = id.toNat / 256 := byt_nat (by show id.toNat / 256 < 256; omega)
  have g1 : gB (hdL ⟨id, an, op, aa, tc, rd, ra, z, ad, cd, code⟩ ++ M) 1 = id.toNat % 256 := byt_nat (by show id.toNat % 256 < 256; omega)
  unfold rdHd pr
  rw [g0, g1, g2, g3]
  have eo : ((op.toNat : Nat) : Int) = op := by omega
  have ec : ((code.toNat : Nat) : Int) = code := by omega
  have ei : ((id.toNat / 256 * 256 + id.toNat % 256 : Nat) : Int) = id := by omega
  generalize op.toNat = x at *
  generalize code.toNat = y at *
  have k1 : bitAt (oneB an 128 + x * 8 + oneB aa 4 + oneB tc 2 + oneB rd 1) 7 = an := by
    unfold bitAt oneB; cases an <;> cases aa <;> cases tc <;> cases rd <;> simp <;> omega
  have k2 : (oneB an 128 + x * 8 + oneB aa 4 + oneB tc 2 + oneB rd 1) / 8 % 16 = x := by
    unfold oneB; cases an <;> cases aa <;> cases tc <;> cases rd <;> simp <;> omega
  have k3 : bitAt (oneB an 128 + x * 8 + oneB aa 4 + oneB tc 2 + oneB rd 1) 2 = aa := by
    unfold bitAt oneB; cases an <;> cases aa <;> cases tc <;> cases rd <;> simp <;> omega
  have k4 : bitAt (oneB an 128 + x * 8 + oneB aa 4 + oneB tc 2 + oneB rd 1) 1 = tc := by
    unfold bitAt oneB; cases an <;> cases aa <;> cases tc <;> cases rd <;> simp <;> omega
  have k5 : bitAt (oneB an 128 + x * 8 + oneB aa 4 + oneB tc 2 + oneB rd 1) 0 = rd := by
    unfold bitAt oneB; cases an <;> cases aa <;> cases tc <;> cases rd <;> simp <;> omega
  have k6 : bitAt (oneB ra 128 + oneB z 64 + oneB ad 32 + oneB cd 16 + y) 7 = ra := by
    unfold bitAt oneB; cases ra <;> cases z <;> cases ad <;> cases cd <;> simp <;> omega
  have k7 : bitAt (oneB ra 128 + oneB z 64 + oneB ad 32 + oneB cd 16 + y) 6 = z := by
    unfold bitAt oneB; cases ra <;> cases z <;> cases ad <;> cases cd <;> simp <;> omega
  have k8 : bitAt (oneB ra 128 + oneB z 64 + oneB ad 32 + oneB cd 16 + y) 5 = ad := by
    unfold bitAt oneB; cases ra <;> cases z <;> cases ad <;> cases cd <;> simp <;> omega
  have k9 : bitAt (oneB ra 128 + oneB z 64 + oneB ad 32 + oneB cd 16 + y) 4 = cd := by
    unfold bitAt oneB; cases ra <;> cases z <;> cases ad <;> cases cd <;> simp <;> omega
  have kA : (oneB ra 128 + oneB z 64 + oneB ad 32 + oneB cd 16 + y) % 16 = y := by
    unfold oneB; cases ra <;> cases z <;> cases ad <;> cases cd <;> simp <;> omega
  rw [k1, k2, k3, k4, k5, k6, k7, k8, k9, kA, eo, ec, ei]

/-- MESSAGES ARE READ AS THEY WERE WRITTEN -/
theorem rd_wr {m : Mc} {L : List UInt8} (h : wrMsg m = .ok L) : rdMsg L = .ok m ∧ 12 ≤ L.length ∧ L.length ≤ 65535 := by
  unfold wrMsg at h
  split at h
  · cases h
  rename_i hh
  have hh : hdOkB m.h := Decidable.not_not.1 hh
  split at h
  · cases h
  rename_i hn
  match e1 : wrK wrQ m.qs (wrTop m, []) m.qs.length, h with
  | .ok o1, h =>
    simp only [] at h
    match e2 : wrK wrR m.an o1 m.an.length, h with
    | .ok o2, h =>
      simp only [] at h
      match e3 : wrK wrR m.un o2 m.un.length, h with
      | .ok o3, h =>
        simp only [] at h
        match e4 : wrK wrR m.mn o3 m.mn.length, h with
        | .ok o4, h =>
          simp only [] at h
          split at h
          · cases h
          rename_i hl
          cases h
          obtain ⟨p1, r1⟩ := wrK_read (rd := rdQ) (fun _ _ _ h => wrQ_read h) (fun _ _ _ _ h hx => rdQ_ext h hx) (Nat.le_refl _) e1
          obtain ⟨p2, r2⟩ := wrK_read (rd := rdR) (fun _ _ _ h => wrR_read h) (fun _ _ _ _ h hx => rdR_ext h hx) (Nat.le_refl _) e2
          obtain ⟨p3, r3⟩ := wrK_read (rd := rdR) (fun _ _ _ h => wrR_read h) (fun _ _ _ _ h hx => rdR_ext h hx) (Nat.le_refl _) e3
          obtain ⟨p4, r4⟩ := wrK_read (rd := rdR) (fun _ _ _ h => wrR_read h) (fun _ _ _ _ h hx => rdR_ext h hx) (Nat.le_refl _) e4
          rw [List.take_length] at r1 r2 r3 r4
          have ht : wrTop m <+: o4.1 := p1.trans (p2.trans (p3.trans p4))
          have h12 : (wrTop m).length = 12 := rfl
          have hle := ht.length_le
          have w1 : wordB (m.qs.length : Int) := by unfold wordB; omega
          have w2 : wordB (m.an.length : Int) := by unfold wordB; omega
          have w3 : wordB (m.un.length : Int) := by unfold wordB; omega
          have w4 : wordB (m.mn.length : Int) := by unfold wordB; omega
          have g1 : pr o4.1 4 = m.qs.length := (pr_pre ht (by omega)).trans (by have := pr_off (L := hdL m.h) (A := []) (M := two m.an.length ++ (two m.un.length ++ two m.mn.length)) (i := 4) w1 rfl rfl; simpa [wrTop] using this)
          have g2 : pr o4.1 6 = m.an.length := (pr_pre ht (by omega)).trans (by have := pr_off (L := hdL m.h) (A := two m.qs.length) (M := two m.un.length ++ two m.mn.length) (i := 6) w2 rfl rfl; simpa [wrTop] using this)
          have g3 : pr o4.1 8 = m.un.length := (pr_pre ht (by omega)).trans (by have := pr_off (L := hdL m.h) (A := two m.qs.length ++ two m.an.length) (M := two m.mn.length) (i := 8) w3 rfl rfl; simpa [wrTop] using this)
          have g4 : pr o4.1 10 = m.mn.length := (pr_pre ht (by omega)).trans (by have := pr_off (L := hdL m.h) (A := two m.qs.length ++ two m.an.length ++ two m.un.length) (M := []) (i := 10) w4 rfl rfl; simpa [wrTop] using this)
          refine ⟨?_, by omega, by omega⟩
          unfold rdMsg
          rw [if_neg (by omega), g1, g2, g3, g4]
          have s1 := rdK_ext (fun j x => rdQ_ext (p2.trans (p3.trans p4))) r1
          have s2 := rdK_ext (fun j x => rdR_ext (p3.trans p4)) r2
          have s3 := rdK_ext (fun j x => rdR_ext p4) r3
          rw [h12] at s1
          rw [s1]
          simp only []
          rw [s2]
          simp only []
          rw [s3]
          simp only []
          rw [r4]
          simp only []
          rw [if_neg (by omega)]
          obtain ⟨t, ht⟩ := ht
          rw [← ht]
          rw [show wrTop m ++ t = hdL m.h ++ ((two m.qs.length ++ (two m.an.length ++ (two m.un.length ++ two m.mn.length))) ++ t) by simp [wrTop], rdHd_hdL hh]

end Go.Proofs.Ytkdmkpdooiacaaa
