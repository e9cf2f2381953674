/- (*wire.reader).labels and wire.Read: a name is read as the plain law says. -/
import Derived.Laws.BytesString
import Derived.Test.YtkdmkpdooiacaaaZbase1
namespace Go.Proofs.Ytkdmkpdooiacaaa
open Go.RowKit

/-- what was read so far, and what is to be read -/
def rdAll (out : List ByteArray) (nx : Nat) (r : Except Int (List ByteArray × Nat)) : Except Int (List ByteArray × Nat) := rdPut out (if nx = 0 then r else rdNext nx r)

theorem rdAll_nil (r : Except Int (List ByteArray × Nat)) : rdAll [] 0 r = r := by
  unfold rdAll
  rw [if_pos rfl]
  match r with
  | .error e => rfl
  | .ok (ls, n) => rfl

theorem rdAll_err (out : List ByteArray) (nx : Nat) (e : Int) : rdAll out nx (.error e) = .error e := by
  unfold rdAll
  split <;> rfl

theorem rdAll_end (out : List ByteArray) (nx n : Nat) : rdAll out nx (.ok ([], n)) = .ok (out, if nx = 0 then n else nx) := by
  unfold rdAll
  split <;> simp [rdPut, rdNext]

theorem rdAll_put (out : List ByteArray) (l : ByteArray) (nx : Nat) (r : Except Int (List ByteArray × Nat)) : rdAll out nx (rdPut [l] r) = rdAll (out ++ [l]) nx r := by
  unfold rdAll
  match r with
  | .error e => split <;> rfl
  | .ok (ls, n) => split <;> simp [rdPut, rdNext]

theorem rdAll_jump (out : List ByteArray) (nx i : Nat) (r : Except Int (List ByteArray × Nat)) : rdAll out nx (rdNext (i + 2) r) = rdAll out (if nx = 0 then i + 1 + 1 else nx) r := by
  unfold rdAll
  by_cases h : nx = 0
  · rw [if_pos h, if_pos h, if_neg (by omega)]
  · rw [if_neg h, if_neg h, if_neg h]
    match r with
    | .error e => rfl
    | .ok (ls, n) => rfl

/-- a reader's measure -/
def rdMs (len p : Nat) (w : World) : Nat := (intOf ((w.cell? ⟨p, 2, none⟩).getD undef)).toNat * (len + 1) + (len - (intOf ((w.cell? ⟨p, 1, none⟩).getD undef)).toNat)

theorem rdMs_at {w : World} {p : Nat} {v : Value} {i low nx sz : Nat} (h : Rdr w p v i low nx sz) (len : Nat) : rdMs len p w = low * (len + 1) + (len - i) := by
  unfold Rdr rdrC at h
  unfold rdMs
  rw [blk_cell h 2 rfl, blk_cell h 1 rfl]
  simp [intOf]

/-- strings of a list -/
def strV (l : List ByteArray) (j : Nat) : Value := .string (l.getD j .empty)

/-- what labels leaves -/
def LabGood (w w' : World) (p : Nat) (v : Value) (r : Except Int (List ByteArray × Nat)) (e : Ending) : Prop :=
  ((∃ z, r = .error z ∧ z ≠ 0 ∧ e = .returned (.tuple #[.slice none 0 0, .iface 52 (.int .i64 z)])) ∨
    ∃ ls n i low sz u, r = .ok (ls, n) ∧ e = .returned (.tuple #[u, .nilIface]) ∧ OwnF w' w.heap.size 9 u ls.length (strV ls) ∧ Rdr w' p v i low n sz) ∧ Fr [p] w w'

theorem strV_app (l : List ByteArray) (x : ByteArray) (j : Nat) (hj : j < l.length + 1) : app l.length (strV l) (fun _ => .string x) j = strV (l ++ [x]) j := by
  unfold app strV
  by_cases h : j < l.length
  · rw [if_pos h, List.getD_eq_getElem?_getD, List.getD_eq_getElem?_getD, List.getElem?_append_left h]
  · obtain rfl : j = l.length := by omega
    rw [if_neg h]
    simp [List.getD_eq_getElem?_getD]

theorem infoStrL : (Try.prog.info? 9).map (fun i => (i.zero, i.size, i.bytes)) = some (some (.string ⟨#[]⟩), 1, 16) := by kernel_rfl

theorem sub_get (L : List UInt8) (i n j : Nat) (hj : j < (sub L i n).length) : ((sub L i n)[j]).toNat = gB L (i + j) := by
  have h2 : ((L.drop i).take n)[j]? = some ((sub L i n)[j]) := List.getElem?_eq_getElem hj
  unfold gB
  have h3 : j < n := by
    have : (sub L i n).length ≤ n := by unfold sub; simp; omega
    omega
  rw [List.getElem?_take, if_pos h3, List.getElem?_drop] at h2
  rw [List.getD_eq_getElem?_getD, h2]
  rfl

/-- a block of another type is written: one's own row is as it was -/
theorem OwnF.keptP {w w' : World} {B p : Nat} {E T : TypeId} {v : Value} {n : Nat} {f : Nat → Value} {cs : Array Value} {z : Nat × Nat} (h : OwnF w B E v n f) (hf : Fr [p] w w') (hp : w.heap[p]? = some (.cells cs T z)) (hne : T ≠ E) : OwnF w' B E v n f :=
  h.kept hf (fun g hg hm => by
    simp only [List.mem_singleton] at hm
    subst hm
    rcases h with ⟨rfl, _⟩ | ⟨g', cap, rfl, _, cur, h1, _⟩
    · simp [Value.ownBlock] at hg
    · simp only [Value.ownBlock, Option.some.injEq] at hg
      subst hg
      rw [hp] at h1
      simp only [Option.some.injEq, Obj.cells.injEq] at h1
      exact hne h1.2.1)

/-- a row of one's own is written: a block of another type is as it was -/
theorem OwnF.keptQ {w w' : World} {B p : Nat} {E T : TypeId} {v : Value} {n : Nat} {f : Nat → Value} {cs : Array Value} {z : Nat × Nat} (h : OwnF w B E v n f) (hf : Fr v.ownBlock.toList w w') (hp : w.heap[p]? = some (.cells cs T z)) (hne : T ≠ E) : w'.heap[p]? = some (.cells cs T z) :=
  hf.blk hp (fun hm => by
    rcases h with ⟨rfl, _⟩ | ⟨g', cap, rfl, _, cur, h1, _⟩
    · simp [Value.ownBlock] at hm
    · simp only [Value.ownBlock, Option.toList_some, List.mem_singleton] at hm
      subst hm
      rw [hp] at h1
      simp only [Option.some.injEq, Obj.cells.injEq] at h1
      exact hne h1.2.1)

set_option maxHeartbeats 8000000 in
set_option maxRecDepth 100000 in
theorem labels_any (w : World) (p b o c : Nat) (L : List UInt8) (i0 : Nat) (hp : Rdr w p (.slice (some ⟨b, o, none⟩) L.length c) i0 i0 0 0) (hi : i0 < L.length) (hc : L.length ≤ c) (hm : c ≤ maxLen) (hpb : p ≠ b) (hpl : L.length ≤ 140737488355328)
    (hL : ∀ j, j < L.length → w.cell? ⟨b, o + j, none⟩ = some (.int .u8 (gB L j))) :
    Calls Try.prog 26 #[.pointer (some ⟨p, 0, none⟩)] w fun e w' => LabGood w w' p (.slice (some ⟨b, o, none⟩) L.length c) (rdNm L i0 i0 1) e := by
  have HP := Lib.hid hp
  have HL := Lib.hid hL
  have HPB := Lib.hid hpb
  have HCM := Lib.hid (And.intro hc hm)
  have HI := Lib.hid hi
  obtain ⟨R, hR⟩ : ∃ R, rdNm L i0 i0 1 = R := ⟨_, rfl⟩
  have HR := Lib.hid hR
  rw [hR]
  obtain ⟨len, hlen⟩ : ∃ n, L.length = n := ⟨_, rfl⟩
  have HLEN := Lib.hid hlen
  rw [hlen] at HP HL HCM HI hpl ⊢
  clear hp hL hpb hc hm hi hR hlen
  go_enter Try.func26, Try.ntmps26
  go_wp2_with fail
  go_loopw [4] (fun vo wr => ∃ (i low nx sz : Nat) (out : List ByteArray), Rdr wr p (.slice (some ⟨b, o, none⟩) len c) i low nx sz ∧ OwnF wr w.heap.size 9 vo out.length (strV out) ∧ R = rdAll out nx (rdNm L i low (1 + sz)) ∧ i ≤ len ∧ low ≤ len ∧ sz ≤ 254 ∧ out.length ≤ sz ∧ Fr [p] w wr) (fun _ wr => rdMs len p wr)
  case atStart => exact ⟨i0, i0, 0, 0, [], HP.out, OwnF.nil _ _ _ _, by rw [rdAll_nil]; exact HR.out.symm, Nat.le_of_lt HI.out, Nat.le_of_lt HI.out, by omega, by simp, Fr.refl _ _⟩
  case round =>
    clear HR HP
    obtain ⟨i, low, nx, sz, out, hp, ho, hr, hil, hll, hsz, hol, hf⟩ := hrel
    have HP := Lib.hid hp
    have HO := Lib.hid ho
    have HR := Lib.hid hr
    have HF := Lib.hid hf
    have HMS := Lib.hid (rdMs_at hp len)
    clear hp ho hr hf
    by_cases hlt : i < len
    case neg =>
      have hrr := HR.out
      rw [rdNm_out (by have := HLEN.out; omega), rdAll_err] at hrr
      have HRR := Lib.hid hrr
      clear hrr HR
      go_wp2_with fail
      refine (take_no wr p b o len c i low nx sz 1 HP.out (by omega) hil HCM.out.1 HCM.out.2).mono ?_
      rintro e w2 ⟨rfl, q2, rfl⟩
      go_wp2
      go_ret2
      exact ⟨.inl ⟨_, HRR.out, by decide, rfl⟩, HF.out.drewN _⟩
    go_wp2_with fail
    refine (take_ok wr p b o len c i low nx sz 1 HP.out (Nat.le_refl _) (by omega) HCM.out.1 HCM.out.2).mono ?_
    rintro e w2 ⟨rfl, hp2, hf2⟩
    have HP2 := Lib.hid hp2
    have HF2 := Lib.hid (HF.out.trans hf2 (fun x hx => .inl hx))
    have HB2 := Lib.hid (fun j (hj : j < len) => HF2.out.cell (HL.out j hj) (by have := HPB.out; simp; omega))
    have HO2 := Lib.hid (OwnF.keptP HO.out hf2 HP.out (by decide))
    have x0 := HB2.out i hlt
    have HLT := Lib.hid (show i < L.length from HLEN.out ▸ hlt)
    clear hp2 hf2 HF HO HP
    obtain ⟨x, hx⟩ : ∃ x, gB L i = x := ⟨_, rfl⟩
    have HX := Lib.hid hx
    have hx256 := gB_lt L i
    rw [hx] at x0 hx256
    have HXV := Lib.hid x0
    clear hx
    by_cases h0 : x = 0
    · -- the end
      have hrr := HR.out
      rw [rdNm_end HLT.out (by rw [HX.out]; exact h0), rdAll_end] at hrr
      clear HR HX
      subst h0
      have c3 := blk_cell HP2.out 3 (v := .int .i64 nx) rfl
      have c1 := blk_cell HP2.out 1 (v := .int .i64 (i + 1 : Nat)) rfl
      have z3 := blk_frozen HP2.out 3
      by_cases hn : nx = 0
      · rw [if_pos hn] at hrr
        have HRR := Lib.hid hrr
        clear hrr
        subst hn
        have HP3 := Lib.hid (obj_setk HP2.out 3 (.int .i64 ((i : Int) + 1)))
        have HF3 := Lib.hid (HF2.out.setCell (p := ⟨p, 3, none⟩) (.inl (by simp)) (.int .i64 ((i : Int) + 1)))
        have HO3 := Lib.hid (OwnF.keptP HO2.out ((Fr.refl [p] w2).setCell (p := ⟨p, 3, none⟩) (.inl (by simp)) (.int .i64 ((i : Int) + 1))) HP2.out (by decide))
        go_wp2
        go_ret2
        exact ⟨.inr ⟨out, i + 1, i + 1, low, sz, _, HRR.out, rfl, HO3.out, HP3.out⟩, HF3.out⟩
      · rw [if_neg hn] at hrr
        have HRR := Lib.hid hrr
        have hn' : ((nx : Int) == 0) = false := by simp; omega
        clear hrr hn
        go_wp2
        go_ret2
        exact ⟨.inr ⟨out, nx, i + 1, low, sz, _, HRR.out, rfl, HO2.out, HP2.out⟩, HF2.out⟩
    have hb0 : ((x : Int) == 0) = false := by simp; omega
    by_cases h192 : 192 ≤ x
    · -- a pointer
      have hI192 : (192 : Int) ≤ (x : Int) := by omega
      have HJ := Lib.hid (jump_any w2 p b o len c (i + 1) low nx sz x (gB L (i + 1)) HP2.out (by omega) HCM.out.1 HCM.out.2 HPB.out ⟨h192, hx256⟩ (gB_lt _ _) (fun h => by rw [← Nat.add_assoc] at *; exact HB2.out (i + 1) h))
      have HX0 := Lib.hid (And.intro h0 h192)
      clear h0 h192 hx256
      go_wp2_with fail
      refine HJ.out.mono ?_
      rintro e w3 ⟨h3, hf3⟩
      have HF3 := Lib.hid (HF2.out.trans hf3 (fun x hx => .inl hx))
      have HO3 := Lib.hid (OwnF.keptP HO2.out hf3 HP2.out (by decide))
      clear hf3 HJ
      rcases h3 with ⟨hn, rfl⟩ | ⟨hn, hl, rfl⟩ | ⟨hn, hl, rfl, hp3⟩
      · have hrr := HR.out
        rw [rdNm_cut HLT.out (by rw [HX.out]; exact HX0.out.2) (by rw [HLEN.out]; exact hn), rdAll_err] at hrr
        have HRR := Lib.hid hrr
        clear hrr HR hn
        go_wp2
        go_ret2
        exact ⟨.inl ⟨_, HRR.out, by decide, rfl⟩, HF3.out⟩
      · have hrr := HR.out
        rw [rdNm_far HLT.out (by rw [HX.out]; exact HX0.out.2) (by rw [HLEN.out]; exact hn) (by rw [HX.out]; exact hl), rdAll_err] at hrr
        have HRR := Lib.hid hrr
        clear hrr HR hn hl
        go_wp2
        go_ret2
        exact ⟨.inl ⟨_, HRR.out, by decide, rfl⟩, HF3.out⟩
      · have hrr := HR.out
        rw [rdNm_jump HLT.out (by rw [HX.out]; exact HX0.out.2) (by rw [HLEN.out]; exact hn) (by rw [HX.out]; exact hl), HX.out, rdAll_jump] at hrr
        have HRR := Lib.hid hrr
        have HP3 := Lib.hid hp3
        have HTL := Lib.hid hl
        clear hrr HR hn hl hp3
        go_wp2
        go_roundw
        case rel => exact ⟨_, _, _, sz, out, HP3.out, HO3.out, HRR.out, by have := HTL.out; omega, by have := HTL.out; omega, hsz, hol, HF3.out⟩
        case measure =>
          rw [rdMs_at HP3.out len, HMS.out]
          have h1 := HTL.out
          have h2 : ((x - 192) * 256 + gB L (i + 1) + 1) * (len + 1) ≤ low * (len + 1) := Nat.mul_le_mul_right _ (by omega)
          rw [Nat.add_mul] at h2
          omega
    have hI192 : ¬ (192 : Int) ≤ (x : Int) := by omega
    by_cases h63 : 63 < x
    · have hI63 : (63 : Int) < (x : Int) := by omega
      have hrr := HR.out
      rw [rdNm_wide HLT.out (by rw [HX.out]; exact h192) (by rw [HX.out]; exact h63), rdAll_err] at hrr
      have HRR := Lib.hid hrr
      clear hrr HR h63 h192 h0
      go_wp2
      go_ret2
      exact ⟨.inl ⟨_, HRR.out, by decide, rfl⟩, HF2.out⟩
    have hI63 : ¬ (63 : Int) < (x : Int) := by omega
    by_cases hfit : len < i + 1 + x
    · have hrr := HR.out
      rw [rdNm_short HLT.out (by rw [HX.out]; exact h0) (by rw [HX.out]; exact h63) (by rw [HX.out, HLEN.out]; exact hfit), rdAll_err] at hrr
      have HRR := Lib.hid hrr
      have HTN := Lib.hid (take_no w2 p b o len c (i + 1) low nx sz x HP2.out hfit (by omega) HCM.out.1 HCM.out.2)
      clear hrr HR hfit h192 h0 h63
      go_wp2_with fail
      refine HTN.out.mono ?_
      rintro e w3 ⟨rfl, q3, rfl⟩
      go_wp2
      go_ret2
      exact ⟨.inl ⟨_, HRR.out, by decide, rfl⟩, HF2.out.drewN _⟩
    have HTN := Lib.hid (take_ok w2 p b o len c (i + 1) low nx sz x HP2.out (by omega) (by omega) HCM.out.1 HCM.out.2)
    have HXB := Lib.hid (And.intro h0 (And.intro h63 hfit))
    clear h192 h0 h63 hfit
    go_wp2_with fail
    refine HTN.out.mono ?_
    rintro e w3 ⟨rfl, hp3, hf3⟩
    have HP3 := Lib.hid hp3
    have HF3 := Lib.hid (HF2.out.trans hf3 (fun x hx => .inl hx))
    have HO3 := Lib.hid (OwnF.keptP HO2.out hf3 HP2.out (by decide))
    have HB3 := Lib.hid (fun j (hj : j < len) => HF3.out.cell (HL.out j hj) (by have := HPB.out; simp; omega))
    have c4 := blk_cell hp3 4 (v := .int .i64 sz) rfl
    have z4 := blk_frozen hp3 4
    clear hp3 hf3
    have HP4 := Lib.hid (obj_setk HP3.out 4 (.int .i64 ((sz : Int) + ((x : Int) + 1))))
    have hs4 : Fr [p] w3 (w3.setCell ⟨p, 4, none⟩ (.int .i64 ((sz : Int) + ((x : Int) + 1)))) := (Fr.refl [p] w3).setCell (p := ⟨p, 4, none⟩) (.inl (by simp)) _
    have HF4 := Lib.hid (HF3.out.trans hs4 (fun x hx => .inl hx))
    have HO4 := Lib.hid (OwnF.keptP HO3.out hs4 HP3.out (by decide))
    have HB4 := Lib.hid (fun j (hj : j < len) => hs4.cell (HB3.out j hj) (by have := HPB.out; simp; omega))
    clear hs4
    go_upto_region 10 with fail
    clear c4 z4
    generalize w3.setCell ⟨p, 4, none⟩ (.int .i64 ((sz : Int) + ((x : Int) + 1))) = w4 at *
    have c4 := blk_cell HP4.out 4 (v := .int .i64 ((sz : Int) + ((x : Int) + 1))) rfl
    by_cases hlong : 254 < (sz : Int) + ((x : Int) + 1)
    · have hrr := HR.out
      rw [rdNm_long HLT.out (by rw [HX.out]; exact HXB.out.1) (by rw [HX.out]; exact HXB.out.2.1) (by rw [HX.out, HLEN.out]; exact HXB.out.2.2) (by rw [HX.out]; omega), rdAll_err] at hrr
      have HRR := Lib.hid hrr
      clear hrr HR
      go_wp2
      go_ret2
      exact ⟨.inl ⟨_, HRR.out, by decide, rfl⟩, HF4.out⟩
    have hrr := HR.out
    rw [rdNm_label HLT.out (by rw [HX.out]; exact HXB.out.1) (by rw [HX.out]; exact HXB.out.2.1) (by rw [HX.out, HLEN.out]; exact HXB.out.2.2) (by rw [HX.out]; omega), rdAll_put, HX.out] at hrr
    have HRR := Lib.hid hrr
    have HXC := HXB.out
    have HSX := Lib.hid (show sz + (x + 1) ≤ 254 by omega)
    have HLX := Lib.hid (lab_size (L := L) (i := i + 1) (n := x) (by have := HLEN.out; omega))
    have hll2 : (sub L (i + 1) x).length = x := by unfold sub; have := HLEN.out; simp; omega
    have hcv := run_convert_bytes_back (P := Try.prog) w4 27 9 5 ⟨b, o + (i + 1), none⟩ (c - (i + 1)) (sub L (i + 1) x) Try.underlying27 Try.underlying5 Try.underlying9 (fun j hj => by
      rw [hll2] at hj
      have ea : (⟨b, o + (i + 1), none⟩ : Addr).add j = ⟨b, o + (i + 1 + j), none⟩ := by unfold Addr.add; split <;> simp_all [Nat.add_assoc]
      rw [ea, HB4.out (i + 1 + j) (by omega)]
      rw [sub_get])
    rw [hll2, show (⟨(sub L (i + 1) x).toArray⟩ : ByteArray) = lab L (i + 1) x from rfl] at hcv
    clear hrr HR hll2 HXC
    obtain ⟨l, hl⟩ : ∃ l, lab L (i + 1) x = l := ⟨_, rfl⟩
    rw [hl] at HRR HLX hcv
    have HCV := Lib.hid (fun (o : Obj) => hcv)
    clear hl
    go_wp2_with (at_builtin; refine wpList_app rfl (.tmp 48) (.tmp 51) 54 rfl 9 infoStrL Try.underlying54 rfl (OwnF.alloc HO4.out _) rfl (rd_one _ _ _ rfl) rfl (fun _ _ => rfl) (by unfold maxLen; omega) (by omega) (by simp; have := HF4.out.size; omega) ?_; intro v5 w5 ho5 hf5 _)
    have HO5 := Lib.hid (show OwnF w5 w.heap.size 9 v5 (out ++ [l]).length (strV (out ++ [l])) by rw [List.length_append]; exact ho5.congr (fun j hj => strV_app out l j hj))
    have HP5 := Lib.hid (OwnF.keptQ (OwnF.alloc HO4.out (.cells #[.string l] 9)) hf5 ((Fr.refl [] w4).alloc (.cells #[.string l] 9) |>.blk HP4.out (by simp)) (by decide))
    have HF5 := Lib.hid (show Fr [p] w w5 from (HF4.out.alloc (.cells #[.string l] 9)).trans hf5 (fun x hx => .inr (OwnF.ge HO4.out x hx)))
    clear ho5 hf5
    go_roundw
    case rel => exact ⟨i + 1 + x, low, nx, sz + (x + 1), out ++ [l], HP5.out, HO5.out, by have := HRR.out; rw [show 1 + (sz + (x + 1)) = 1 + sz + x + 1 by omega]; exact this, by have := HXB.out; omega, hll, HSX.out, by simp; omega, HF5.out⟩
    case measure =>
      rw [rdMs_at (show Rdr w5 p _ (i + 1 + x) low nx (sz + (x + 1)) from HP5.out) len, HMS.out]
      omega

end Go.Proofs.Ytkdmkpdooiacaaa
