/- Names: small letters; are two labels alike. -/
import Derived.Test.YtgpfkaiinbncnaaDoorInfo
import Derived.IntWalk
import Derived.Lib.ConvBytes
import Derived.Laws.BytesString
import Derived.Laws.IdiomStrings
namespace Go.Proofs.YtgpfkaiinbncnaaDoor
open Go.RowKit

def lowI (x : Int) : Int := if 65 ≤ x ∧ x ≤ 90 then x + 32 else x
def lowB (b : UInt8) : UInt8 := if 65 ≤ b.toNat ∧ b.toNat ≤ 90 then b + 32 else b

theorem lowB_int (b : UInt8) : ((lowB b).toNat : Int) = lowI (b.toNat : Int) := by
  unfold lowB lowI
  by_cases h : 65 ≤ b.toNat ∧ b.toNat ≤ 90
  · rw [if_pos h, if_pos (by omega)]
    have : (b + 32).toNat = b.toNat + 32 := by
      rw [UInt8.toNat_add]
      have : (32 : UInt8).toNat = 32 := rfl
      rw [this]
      omega
    omega
  · rw [if_neg h, if_neg (by omega)]

/-- small letters -/
def smB (s : ByteArray) : ByteArray := ⟨(s.data.toList.map lowB).toArray⟩

theorem lower_any (w : World) (x : Int) (h0 : 0 ≤ x) (h1 : x ≤ 255) :
    Calls Tryd.prog 122 #[.int .u8 x] w fun e w' => e = .returned (.int .u8 (lowI x)) ∧ w = w' := by
  go_enter Tryd.func122, Tryd.ntmps122
  by_cases ha : 65 ≤ x
  · by_cases hb : x ≤ 90
    · have e : lowI x = x + 32 := by unfold lowI; rw [if_pos ⟨ha, hb⟩]
      have HE := Lib.hid e; clear e
      have hw : IntKind.u8.wrap (x + 32) = x + 32 := IntWalk.u8_in _ (by omega)
      go_wp2
      go_ret
      exact ⟨by rw [HE.out]; rfl, rfl⟩
    · have e : lowI x = x := by unfold lowI; rw [if_neg (by omega)]
      have HE := Lib.hid e; clear e
      go_wp2
      go_ret
      exact ⟨by rw [HE.out]; rfl, rfl⟩
  · have e : lowI x = x := by unfold lowI; rw [if_neg (by omega)]
    have HE := Lib.hid e; clear e
    go_wp2
    go_ret
    exact ⟨by rw [HE.out]; rfl, rfl⟩

/-- a row of bytes with a conversion's mark behind it -/
def RowT (w : World) (g n cap : Nat) (f : Nat → Int) : Prop :=
  ∃ cur, w.heap[g]? = some (.cells cur 5 (cap, cap + 1)) ∧ cur.size = cap ∧ n ≤ cap ∧ ∀ j, j < n → cur[j]? = some (.int .u8 (f j))

section
variable {w w' : World} {g n cap : Nat} {f : Nat → Int}
theorem RowT.cell (h : RowT w g n cap f) (j : Nat) (hj : j < n) : w.cell? ⟨g, j, none⟩ = some (.int .u8 (f j)) := by
  obtain ⟨cur, h1, h2, h3, h5⟩ := h
  simp [World.cell?, h1, h5 j hj]
theorem RowT.frozen (h : RowT w g n cap f) (j : Nat) (hj : j < n) : w.frozen? ⟨g, j, none⟩ = false := by
  obtain ⟨cur, h1, h2, h3, h5⟩ := h
  simp [World.frozen?, h1]
  omega
theorem RowT.stored (h : RowT w g n cap f) (k : Nat) (x : Int) : RowT (w.setCell ⟨g, k, none⟩ (.int .u8 x)) g n cap (fun j => if j = k then x else f j) := by
  obtain ⟨cur, h1, h2, h3, h5⟩ := h
  refine ⟨cur.setIfInBounds k (.int .u8 x), ?_, by simpa using h2, h3, fun j hj => ?_⟩
  · simp only [World.setCell]
    rw [Array.getElem?_modify, if_pos rfl, h1]
    rfl
  · have hjc : j < cur.size := by omega
    have := h5 j hj
    by_cases hjk : j = k
    · subst hjk; simp [hjc]
    · simp only [if_neg hjk]
      rw [Array.getElem?_setIfInBounds_ne (by omega), this]
theorem RowT.congr (h : RowT w g n cap f) {f' : Nat → Int} (he : ∀ j, j < n → f j = f' j) : RowT w g n cap f' := by
  obtain ⟨cur, h1, h2, h3, h5⟩ := h
  exact ⟨cur, h1, h2, h3, fun j hj => by rw [h5 j hj, he j hj]⟩
theorem RowT.kept {S : List Nat} (h : RowT w g n cap f) (hf : Fr S w w') (hn : g ∉ S) : RowT w' g n cap f := by
  obtain ⟨cur, h1, h2⟩ := h
  exact ⟨cur, (hf.block g (lt_of_blk h1) hn).trans h1, h2⟩
end

def byteAt (s : ByteArray) (j : Nat) : Int := ((s.data.toList.getD j 0).toNat : Int)

theorem bytes_row (w : World) (s : ByteArray) : RowT (Lib.bytesWorld w 5 s) w.heap.size s.size (grownCap w s.size 0 5) (byteAt s) ∧ Fr [] w (Lib.bytesWorld w 5 s) := by
  have hg := grownCap_ge w s.size 0 5
  have hsz : (Lib.bytesCells w 5 s).size = grownCap w s.size 0 5 := by
    simp only [Lib.bytesCells, Array.size_append, Array.size_map, Array.size_replicate]
    have : s.data.size = s.size := rfl
    omega
  refine ⟨⟨_, by rw [← hsz]; exact Lib.bytesWorld_at_new w _ s, hsz, hg, fun j hj => ?_⟩, ⟨rfl, rfl, rfl, by rw [Lib.bytesWorld_size]; omega, fun k hk _ => Lib.bytesWorld_at_old w _ s k hk⟩⟩
  have hj' : j < s.data.size := hj
  unfold Lib.bytesCells byteAt
  rw [Array.getElem?_append_left (by simpa using hj'), Array.getElem?_map, Array.getElem?_eq_getElem hj']
  simp [List.getD_eq_getElem?_getD, Array.getElem?_eq_getElem hj']

theorem sm_len (s : ByteArray) : (s.data.toList.map lowB).length = s.size := by simp

set_option maxHeartbeats 2000000 in
set_option maxRecDepth 100000 in
theorem small_any (w : World) (s : ByteArray) (hn : s.size ≤ 9223372036854775807) :
    Calls Tryd.prog 121 #[.string s] w fun e w' => e = .returned (.string (smB s)) ∧ Fr [] w w' := by
  have hcv := Go.Lib.run_convert_string_bytes (P := Tryd.prog) w 9 25 5 s Tryd.underlying9 Tryd.underlying25 Tryd.underlying5
  obtain ⟨hr, hf⟩ := bytes_row w s
  have HR := Lib.hid hr
  have HF := Lib.hid hf
  clear hr hf
  have HBD := Lib.hid (show ∀ j, 0 ≤ byteAt s j ∧ byteAt s j ≤ 255 from fun j => by
    unfold byteAt
    have := (s.data.toList.getD j 0).toNat_lt
    omega)
  go_enter Tryd.func121, Tryd.ntmps121
  go_wp2
  clear hcv
  generalize Lib.bytesWorld w 5 s = w1 at *
  generalize grownCap w s.size 0 5 = cap at *
  go_loopw [9] (fun vi wr => ∃ k : Nat, k ≤ s.size ∧ vi = .int .i64 k ∧ RowT wr w.heap.size s.size cap (fun j => if j < k then lowI (byteAt s j) else byteAt s j) ∧ Fr [] w wr) (fun vi _ => s.size - (intOf vi).toNat)
  case atStart => exact ⟨0, by omega, rfl, HR.out.congr (fun j _ => by rw [if_neg (by omega)]), HF.out⟩
  case round =>
    clear HR HF
    obtain ⟨k, hk, rfl, hR, hf⟩ := hrel
    have HR := Lib.hid hR
    have HF := Lib.hid hf; clear hf
    by_cases hlt : k < s.size
    · have c0 := hR.cell k hlt
      have z0 := hR.frozen k hlt
      rw [if_neg (by omega)] at c0
      clear hR
      have hb := HBD.out k
      have HR1 := Lib.hid ((HR.out.stored k (lowI (byteAt s k))).congr (f' := fun j => if j < k + 1 then lowI (byteAt s j) else byteAt s j) (fun j _ => by
        by_cases h : j = k
        · subst h; rw [if_pos rfl, if_pos (by omega)]
        · rw [if_neg h]
          by_cases h2 : j < k
          · rw [if_pos h2, if_pos (by omega)]
          · rw [if_neg h2, if_neg (by omega)]))
      have HF1 := Lib.hid (HF.out.setCell (p := ⟨w.heap.size, k, none⟩) (.inr (Nat.le_refl _)) (.int .u8 (lowI (byteAt s k))))
      have k0 : (0 : Int) ≤ (k : Int) := by omega
      have k1 : (k : Int) < (s.size : Int) := by omega
      generalize byteAt s k = x at *
      go_wp2_with fail
      refine (lower_any _ x hb.1 hb.2).mono ?_
      rintro e w2 ⟨rfl, rfl⟩
      generalize lowI x = y at *
      go_wp2
      go_roundw
      case rel => exact ⟨k + 1, by omega, by go_num, HR1.out, HF1.out⟩
      case measure => simp [intOf]; omega
    · obtain rfl : k = s.size := by omega
      have hcv := run_convert_bytes_back (P := Tryd.prog) wr 25 9 5 ⟨w.heap.size, 0, none⟩ cap (s.data.toList.map lowB) Tryd.underlying25 Tryd.underlying5 Tryd.underlying9 (fun j hj => by
        have hj2 : j < s.size := by rw [sm_len] at hj; exact hj
        have e : (⟨w.heap.size, 0, none⟩ : Addr).add j = ⟨w.heap.size, j, none⟩ := by unfold Addr.add; split <;> simp_all
        rw [e, hR.cell j hj2, if_pos hj2]
        have hj3 : j < s.data.size := hj2
        unfold byteAt
        simp [List.getD_eq_getElem?_getD, Array.getElem?_eq_getElem hj3, lowB_int])
      rw [sm_len] at hcv
      have HSM := Lib.hid (show (⟨(s.data.toList.map lowB).toArray⟩ : ByteArray) = smB s from rfl)
      rw [HSM.out] at hcv
      clear hR
      clear HSM
      obtain ⟨r, hr⟩ : ∃ r, smB s = r := ⟨_, rfl⟩
      rw [hr] at hcv
      have HRR := Lib.hid hr; clear hr
      go_wp2
      go_ret
      exact ⟨by rw [HRR.out]; rfl, HF.out⟩

/-- are two labels one, but for small letters? -/
def alk (s t : ByteArray) : Bool := (smB s).toList == (smB t).toList

set_option maxHeartbeats 2000000 in
theorem alike_any (w : World) (s t : ByteArray) (hs : s.size ≤ 9223372036854775807) (ht : t.size ≤ 9223372036854775807) :
    Calls Tryd.prog 119 #[.string s, .string t] w fun e w' => e = .returned (.bool (alk s t)) ∧ Fr [] w w' := by
  go_enter Tryd.func119, Tryd.ntmps119
  go_wp2_with fail
  refine (small_any _ s hs).mono ?_
  rintro e w1 ⟨rfl, hf1⟩
  go_wp2_with fail
  refine (small_any _ t ht).mono ?_
  rintro e w2 ⟨rfl, hf2⟩
  have HA := Lib.hid (show ((smB s).toList == (smB t).toList) = alk s t from rfl)
  generalize smB s = a at *
  generalize smB t = b at *
  go_wp2
  go_ret
  exact ⟨by rw [← HA.out]; rfl, hf1.trans hf2 (by simp)⟩

/-- do two names agree up to n? -/
def alkUpTo (s t : Nat → ByteArray) : Nat → Bool
  | 0 => true
  | n + 1 => alkUpTo s t n && alk (s n) (t n)

/-- are two names one, but for small letters? -/
def nmEq (n m : Nat) (s t : Nat → ByteArray) : Bool := decide (n = m) && alkUpTo s t n

theorem alkUpTo_false {s t : Nat → ByteArray} {k n : Nat} (hk : k < n) (h : alk (s k) (t k) = false) : alkUpTo s t n = false := by
  induction n with
  | zero => omega
  | succ n ih =>
    simp only [alkUpTo]
    by_cases e : k = n
    · subst e; rw [h, Bool.and_false]
    · rw [ih (by omega), Bool.false_and]

set_option maxHeartbeats 2000000 in
set_option maxRecDepth 100000 in
theorem equalFunc_any (w : World) (a b : Option Addr) (n m c d : Nat) (s t : Nat → ByteArray) (hs : RdF w (.slice a n c) n (fun j => .string (s j))) (ht : RdF w (.slice b m d) m (fun j => .string (t j)))
    (hss : ∀ j, j < n → (s j).size ≤ 9223372036854775807) (hts : ∀ j, j < m → (t j).size ≤ 9223372036854775807) :
    Calls Tryd.prog 118 #[.slice a n c, .slice b m d, .func (.func 119) #[] #[]] w fun e w' => e = .returned (.bool (nmEq n m s t)) ∧ Fr [] w w' := by
  have HS := Lib.hid hs; clear hs
  have HT := Lib.hid ht; clear ht
  have HSS := Lib.hid hss; clear hss
  have HTS := Lib.hid hts; clear hts
  go_enter Tryd.func118, Tryd.ntmps118
  by_cases hnm : n = m
  case neg =>
    have e : nmEq n m s t = false := by simp [nmEq, hnm]
    have HE := Lib.hid e
    have h1 : ((n : Int) != (m : Int)) = true := by simp; omega
    clear e hnm
    go_wp2
    go_ret
    exact ⟨by rw [HE.out]; rfl, Fr.refl _ _⟩
  subst hnm
  have HE := Lib.hid (show nmEq n n s t = alkUpTo s t n by simp [nmEq])
  go_wp2
  go_loopw [17] (fun vi wr => ∃ k : Nat, k ≤ n ∧ vi = .int .i64 k ∧ alkUpTo s t k = true ∧ Fr [] w wr) (fun vi _ => n - (intOf vi).toNat)
  case atStart => exact ⟨0, by omega, rfl, rfl, Fr.refl _ _⟩
  case round =>
    obtain ⟨k, hk, rfl, hal, hf⟩ := hrel
    have HAL := Lib.hid hal; clear hal
    have HF := Lib.hid hf; clear hf
    by_cases hlt : k < n
    · obtain ⟨b1, o1, c1, he1, hn1, hm1, _, hc1⟩ := HS.out.shape (by omega)
      have hnb : n ≤ 9223372036854775807 := by unfold maxLen at hm1; omega
      clear hn1 hm1
      obtain ⟨b2, o2, c2, he2, _, _, _, hc2⟩ := HT.out.shape (by omega)
      simp only [Value.slice.injEq, true_and] at he1 he2
      obtain ⟨rfl, rfl⟩ := he1
      obtain ⟨rfl, rfl⟩ := he2
      have k1 := HF.out.cell (hc1 k hlt) (by simp)
      have k2 := HF.out.cell (hc2 k hlt) (by simp)
      clear hc1 hc2
      have k0 : (0 : Int) ≤ (k : Int) := by omega
      have k3 : (k : Int) < (n : Int) := by omega
      have h1 := HSS.out k hlt
      have h2 := HTS.out k hlt
      have HST := Lib.hid (show alkUpTo s t (k + 1) = (alkUpTo s t k && alk (s k) (t k)) from rfl)
      have HFA := Lib.hid (fun (h : alk (s k) (t k) = false) => alkUpTo_false (s := s) (t := t) hlt h)
      generalize s k = sk at *
      generalize t k = tk at *
      go_wp2_with fail
      refine (alike_any _ sk tk h1 h2).mono ?_
      rintro e w2 ⟨rfl, hf2⟩
      have HF2 := Lib.hid (HF.out.trans hf2 (by simp))
      clear hf2
      by_cases ha : alk sk tk = true
      · have HN := Lib.hid (show alkUpTo s t (k + 1) = true by rw [HST.out, HAL.out, ha]; rfl)
        go_wp2
        go_roundw
        case rel => exact ⟨k + 1, by omega, by go_num, HN.out, HF2.out⟩
        case measure => simp [intOf]; omega
      · have hb : alk sk tk = false := by simpa using ha
        have HX := Lib.hid (HFA.out hb)
        clear ha
        go_wp2
        go_ret
        exact ⟨by rw [HE.out, HX.out]; rfl, HF2.out⟩
    · obtain rfl : k = n := by omega
      go_wp2
      go_ret
      exact ⟨by rw [HE.out, HAL.out]; rfl, HF.out⟩

theorem same_any (w : World) (a b : Option Addr) (n m c d : Nat) (s t : Nat → ByteArray) (hs : RdF w (.slice a n c) n (fun j => .string (s j))) (ht : RdF w (.slice b m d) m (fun j => .string (t j)))
    (hss : ∀ j, j < n → (s j).size ≤ 9223372036854775807) (hts : ∀ j, j < m → (t j).size ≤ 9223372036854775807) :
    Calls Tryd.prog 110 #[.slice a n c, .slice b m d] w fun e w' => e = .returned (.bool (nmEq n m s t)) ∧ Fr [] w w' := by
  have HC := Lib.hid (equalFunc_any w a b n m c d s t hs ht hss hts)
  clear hs ht hss hts
  generalize nmEq n m s t = r at *
  go_enter Tryd.func110, Tryd.ntmps110
  go_wp2_with fail
  refine HC.out.mono ?_
  rintro e w2 ⟨rfl, hf2⟩
  go_wp2
  go_ret
  exact ⟨rfl, hf2⟩

/-- is a name another one, or below it? -/
def undr (n m : Nat) (s t : Nat → ByteArray) : Bool := decide (m ≤ n) && nmEq m m (fun j => s (n - m + j)) t

set_option maxHeartbeats 2000000 in
theorem under_any (w : World) (a b : Option Addr) (n m c d : Nat) (s t : Nat → ByteArray) (hs : RdF w (.slice a n c) n (fun j => .string (s j))) (ht : RdF w (.slice b m d) m (fun j => .string (t j)))
    (hss : ∀ j, j < n → (s j).size ≤ 9223372036854775807) (hts : ∀ j, j < m → (t j).size ≤ 9223372036854775807) :
    Calls Tryd.prog 93 #[.slice a n c, .slice b m d] w fun e w' => e = .returned (.bool (undr n m s t)) ∧ Fr [] w w' := by
  have hbn := hs.le_cap
  have hbm := ht.le_cap
  unfold maxLen at hbn hbm
  by_cases hmn : m ≤ n
  case neg =>
    have HE := Lib.hid (show undr n m s t = false by simp [undr, hmn])
    clear hs ht hss hts
    have h1 : decide (m ≤ n) = false := by simpa using hmn
    go_enter Tryd.func93, Tryd.ntmps93
    go_wp2
    go_ret
    exact ⟨by rw [HE.out]; rfl, Fr.refl _ _⟩
  have HE := Lib.hid (show undr n m s t = nmEq m m (fun j => s (n - m + j)) t by simp [undr, hmn])
  have hp := hs.part (n - m) n (by omega) (by omega)
  rw [show n - (n - m) = m by omega] at hp
  have h1 : decide (m ≤ n) = true := by simpa using hmn
  have HC := Lib.hid (fun (w1 : World) (a1 : Option Addr) (c1 : Nat) (h : RdF w1 (.slice a1 m c1) m (fun j => .string (s (n - m + j)))) (h2 : RdF w1 (.slice b m d) m (fun j => .string (t j))) => same_any w1 a1 b m m c1 d (fun j => s (n - m + j)) t h h2 (fun j hj => hss _ (by omega)) hts)
  have HP := Lib.hid hp
  have HT := Lib.hid ht
  have HS := Lib.hid hs
  clear hs ht hss hts hp
  go_enter Tryd.func93, Tryd.ntmps93
  have e1 : n - (n - m) = m := by omega
  by_cases hcap : c = n - m
  · have hm0 : m = 0 := by omega
    subst hm0
    have hcn : c = n := by omega
    subst hcn
    have hc2 : (c == c) = true := by simp
    clear hcap e1
    have HS0 := Lib.hid (HS.out.empty (fun j => .string (s (c - 0 + j))))
    go_wp2_with fail
    refine (HC.out _ _ _ HS0.out HT.out).mono ?_
    rintro e w2 ⟨rfl, hf2⟩
    go_wp2
    go_ret
    exact ⟨by rw [HE.out]; rfl, hf2⟩
  · have hc2 : (c == n - m) = false := by simpa using hcap
    go_wp2_with fail
    refine (HC.out _ _ _ HP.out HT.out).mono ?_
    rintro e w2 ⟨rfl, hf2⟩
    clear e1
    generalize nmEq m m (fun j => s (n - m + j)) t = r at *
    go_wp2
    go_ret
    exact ⟨by rw [HE.out]; rfl, hf2⟩

end Go.Proofs.YtgpfkaiinbncnaaDoor
