/- CacheTells: what both caches tell, in one form. -/
import Derived.Test.YtkdmkpdooiacaaaDoorZbase8
import Derived.Test.YtkdmkpdooiacaaaDoorZGetAll
import Derived.Test.YtkdmkpdooiacaaaDoorZRGetW
import Derived.Test.YtkdmkpdooiacaaaDoorZSame0
import Derived.Test.YtkdmkpdooiacaaaDoorZbase4
namespace Go.Proofs.YtkdmkpdooiacaaaDoor
open Go.RowKit

/-- an error's number -/
def erO (z : Int) : Option Int := if z = 0 then none else some z
theorem erO_num (z : Int) : numOf (erO z) = z := by
  unfold erO
  split
  · rename_i h; rw [h]; rfl
  · rfl
theorem erO_val (z : Int) : errOf (erO z) = erVn z := by
  unfold erO erVn
  split <;> rfl

/-- the empty message -/
def zM0 : Ms := ⟨zHd, 0, fun _ => ⟨0, fun _ => .empty, 0, 0⟩, 0, fun _ => ⟨0, fun _ => .empty, 0, 0, 0, 0, fun _ => 0⟩, 0, fun _ => ⟨0, fun _ => .empty, 0, 0, 0, 0, fun _ => 0⟩, 0, fun _ => ⟨0, fun _ => .empty, 0, 0, 0, 0, fun _ => 0⟩⟩

theorem zM0_ok (B : HB) (w : World) : MsOk B w zM0 (.slice none 0 0) (.slice none 0 0) (.slice none 0 0) (.slice none 0 0) :=
  ⟨⟨fun _ _ => undef, .inl ⟨rfl, rfl⟩, Cold.nil _ _, fun i hi => absurd hi (Nat.not_lt_zero _), fun i hi => absurd hi (Nat.not_lt_zero _), by decide⟩,
    ⟨fun _ _ => undef, .inl ⟨rfl, rfl⟩, Cold.nil _ _, fun i hi => absurd hi (Nat.not_lt_zero _), fun i hi => absurd hi (Nat.not_lt_zero _), by decide⟩,
    ⟨fun _ _ => undef, .inl ⟨rfl, rfl⟩, Cold.nil _ _, fun i hi => absurd hi (Nat.not_lt_zero _), fun i hi => absurd hi (Nat.not_lt_zero _), by decide⟩,
    ⟨fun _ _ => undef, .inl ⟨rfl, rfl⟩, Cold.nil _ _, fun i hi => absurd hi (Nat.not_lt_zero _), fun i hi => absurd hi (Nat.not_lt_zero _), by decide⟩, ⟨by decide, by decide, by decide⟩⟩

theorem zM0_val : msgV zM0.h (.slice none 0 0) (.slice none 0 0) (.slice none 0 0) (.slice none 0 0) = zMsg := rfl

/-- is it told, what, and what is kept then: the program's cache -/
def pGet (n : Int) (l : List En) (q : Ms) (now : Int) : Bool × Ms × List En :=
  if h : keyFault q (optZ q) = 0 ∧ ∃ hx : fIx (keyL (q.Q 0) q.h.rd (optDo q)) l < l.length, fresh now (l[fIx (keyL (q.Q 0) q.h.rd (optDo q)) l]) = true then
    (true, tolM q (l[fIx (keyL (q.Q 0) q.h.rd (optDo q)) l]'(h.2.elim fun hx _ => hx)).m (now - (l[fIx (keyL (q.Q 0) q.h.rd (optDo q)) l]'(h.2.elim fun hx _ => hx)).at_), frL (l[fIx (keyL (q.Q 0) q.h.rd (optDo q)) l]'(h.2.elim fun hx _ => hx)) n l)
  else (false, zM0, l)

/-- the reference's -/
def rGet (n : Nat) (l : List (En × RV)) (q : Ms) (now : Int) : Bool × Ms × List (En × RV) :=
  if h : keyFault q (optZ q) = 0 ∧ gIx (keyL (q.Q 0) q.h.rd (optDo q)) now l < l.length then
    (true, tolM q (l[gIx (keyL (q.Q 0) q.h.rd (optDo q)) now l]'h.2).1.m (now - (l[gIx (keyL (q.Q 0) q.h.rd (optDo q)) now l]'h.2).1.at_), withGo n (l[gIx (keyL (q.Q 0) q.h.rd (optDo q)) now l]'h.2).1.key [l[gIx (keyL (q.Q 0) q.h.rd (optDo q)) now l]'h.2] l)
  else (false, zM0, l)

theorem GetGood.gen {w w' : World} {B : HB} {p : Nat} {n : Int} {v : Value} {l : List En} {q : Ms} {now : Int} {e : Ending} (h : GetGood w w' B p n v l q (optDo q) (optZ q) now e) (hC : Ca B w p n v l) :
    ∃ vq va vu vm v', e = .returned (.tuple #[msgV (pGet n l q now).2.1.h vq va vu vm, .bool (pGet n l q now).1, erVn (keyFault q (optZ q))]) ∧ MsOk B w' (pGet n l q now).2.1 vq va vu vm ∧ Ca B w' p n v' (pGet n l q now).2.2 ∧ FrH B w w' := by
  rcases h with ⟨h0, rfl, hf⟩ | ⟨h0, hno, rfl, hf⟩ | ⟨h0, hx, hfr, vq, va, vu, vm, rfl, hm, v', hc, hf⟩
  · have e1 : pGet n l q now = (false, zM0, l) := by unfold pGet; rw [dif_neg (fun h => h0 h.1)]
    rw [e1]
    exact ⟨_, _, _, _, v, by rw [zM0_val]; unfold erVn; rw [if_neg h0], zM0_ok _ _, hC.fr0 hf, hf.hot0 B⟩
  · have e1 : pGet n l q now = (false, zM0, l) := by
      unfold pGet
      rw [dif_neg (fun h => by
        obtain ⟨_, hx, hfr⟩ := h
        rw [hno hx] at hfr
        cases hfr)]
    rw [e1]
    exact ⟨_, _, _, _, v, by rw [zM0_val]; unfold erVn; rw [if_pos h0], zM0_ok _ _, hC.fr0 hf, hf.hot0 B⟩
  · have e1 : pGet n l q now = (true, tolM q (l[fIx (keyL (q.Q 0) q.h.rd (optDo q)) l]'hx).m (now - (l[fIx (keyL (q.Q 0) q.h.rd (optDo q)) l]'hx).at_), frL (l[fIx (keyL (q.Q 0) q.h.rd (optDo q)) l]'hx) n l) := by
      unfold pGet
      rw [dif_pos ⟨h0, hx, hfr⟩]
    rw [e1]
    exact ⟨vq, va, vu, vm, v', by unfold erVn; rw [if_pos h0], hm, hc, hf⟩

theorem RGetGood.gen {w w' : World} {B : HB} {v : Value} {n : Nat} {l : List (En × RV)} {q : Ms} {vq : Value} {now : Int} {e : Ending} (h : RGetGood w B v n l q vq now e w') (hC : RCa B w v l) :
    ∃ xq xa xu xm v', e = .returned (.tuple #[.agg #[v', .int .i64 n], msgV (rGet n l q now).2.1.h xq xa xu xm, .bool (rGet n l q now).1, .int .i64 (keyFault q (optZ q))]) ∧ MsOk B w' (rGet n l q now).2.1 xq xa xu xm ∧ RCa B w' v' (rGet n l q now).2.2 ∧ Fr [] w w' := by
  obtain ⟨h, hf⟩ := h
  rcases h with ⟨h0, rfl⟩ | ⟨h0, hno, rfl⟩ | ⟨h0, hx, v', va, vu, vm, rfl, hm, hc⟩
  · have e1 : rGet n l q now = (false, zM0, l) := by unfold rGet; rw [dif_neg (fun h => h0 h.1)]
    rw [e1]
    exact ⟨_, _, _, _, v, by rw [zM0_val], zM0_ok _ _, hC.frH (hf.hot0 B), hf⟩
  · have e1 : rGet n l q now = (false, zM0, l) := by unfold rGet; rw [dif_neg (fun h => by have := h.2; omega)]
    rw [e1]
    exact ⟨_, _, _, _, v, by rw [zM0_val, h0], zM0_ok _ _, hC.frH (hf.hot0 B), hf⟩
  · have e1 : rGet n l q now = (true, tolM q (l[gIx (keyL (q.Q 0) q.h.rd (optDo q)) now l]'hx).1.m (now - (l[gIx (keyL (q.Q 0) q.h.rd (optDo q)) now l]'hx).1.at_), withGo n (l[gIx (keyL (q.Q 0) q.h.rd (optDo q)) now l]'hx).1.key [l[gIx (keyL (q.Q 0) q.h.rd (optDo q)) now l]'hx] l) := by
      unfold rGet
      rw [dif_pos ⟨h0, hx⟩]
    rw [e1]
    exact ⟨vq, va, vu, vm, v', by rw [h0], hm, hc, hf⟩

theorem PutGood.gen {w w' : World} {B : HB} {p : Nat} {n : Int} {v : Value} {l : List En} {q a : Ms} {now : Int} {e : Ending} (h : PutGood w w' B p n v l q a (optDo q) (optZ q) now e) (hC : Ca B w p n v l) :
    ∃ v', e = .returned (erVn (putZ q a (optZ q) now)) ∧ Ca B w' p n v' (if putZ q a (optZ q) now = 0 then frL (putE q a (optDo q) now) n l else l) ∧ FrH B w w' := by
  rcases h with ⟨h0, rfl, hf⟩ | ⟨h0, rfl, v', hc, hf, _⟩
  · exact ⟨v, by unfold erVn; rw [if_neg h0], by rw [if_neg h0]; exact hC.fr0 hf, hf.hot0 B⟩
  · exact ⟨v', by unfold erVn; rw [if_pos h0], by rw [if_pos h0]; exact hc, hf⟩

theorem RPutGood.gen {w w' : World} {B : HB} {v : Value} {n : Nat} {l : List (En × RV)} {q a : Ms} {now : Int} {e : Ending} (h : RPutGood w B v n l q a now e w') (hC : RCa B w v l) :
    ∃ v' r, e = .returned (.tuple #[.agg #[v', .int .i64 n], .int .i64 (putZ q a (optZ q) now)]) ∧ RCa B w' v' (if putZ q a (optZ q) now = 0 then withGo n (keyL (q.Q 0) q.h.rd (optDo q)) [(⟨keyL (q.Q 0) q.h.rd (optDo q), a, now, lifeV a⟩, r)] l else l) ∧ Fr [] w w' := by
  obtain ⟨h, hf⟩ := h
  rcases h with ⟨h0, rfl⟩ | ⟨h0, v', r, rfl, hc⟩
  · exact ⟨v, ⟨none, none, none, none, none, 0, 0, 0, 0, 0⟩, rfl, by rw [if_neg h0]; exact hC.frH (hf.hot0 B), hf⟩
  · exact ⟨v', r, by rw [h0], by rw [if_pos h0]; exact hc, hf⟩

theorem KeyGood.gen2 {w w' : World} {m : Ms} {dob : Bool} {z : Int} {e : Ending} (h : KeyGood w w' m dob z e) :
    ∃ (a : Option Addr) (c : Nat) (L : List UInt8), e = .returned (.tuple #[.slice a L.length c, errOf (erO (keyFault m z))]) ∧ OwnB w' w.heap.size (.slice a L.length c) L ∧ (keyFault m z = 0 → L = keyL (m.Q 0) m.h.rd dob) ∧ (keyFault m z ≠ 0 → L = []) ∧ Fr [] w w' := by
  obtain ⟨h1, hf⟩ := h
  rcases h1 with ⟨h1, v, rfl, ho⟩ | ⟨h1, rfl⟩
  · obtain ⟨a, c, rfl⟩ := OwnF.rd ho |>.slice
    exact ⟨a, c, _, by rw [erO_val, h1]; rfl, ho, fun _ => rfl, fun h => absurd h1 h, hf⟩
  · exact ⟨none, 0, [], by rw [erO_val]; unfold erVn; rw [if_neg h1]; rfl, OwnB.nil _ _, fun h => absurd h h1, fun _ => rfl, hf⟩

theorem RPutGood.gen2 {w w' : World} {B : HB} {v : Value} {n : Nat} {l : List (En × RV)} {q a : Ms} {now : Int} {e : Ending} (h : RPutGood w B v n l q a now e w') (hC : RCa B w v l) :
    ∃ (xa : Option Addr) (m c : Nat) (r : RV), m = (if putZ q a (optZ q) now = 0 then withGo n (keyL (q.Q 0) q.h.rd (optDo q)) [(⟨keyL (q.Q 0) q.h.rd (optDo q), a, now, lifeV a⟩, r)] l else l).length ∧
      e = .returned (.tuple #[.agg #[.slice xa m c, .int .i64 n], .int .i64 (putZ q a (optZ q) now)]) ∧ RCa B w' (.slice xa m c) (if putZ q a (optZ q) now = 0 then withGo n (keyL (q.Q 0) q.h.rd (optDo q)) [(⟨keyL (q.Q 0) q.h.rd (optDo q), a, now, lifeV a⟩, r)] l else l) ∧ Fr [] w w' := by
  obtain ⟨v', r, rfl, hc, hf⟩ := h.gen hC
  rcases hc.rd with ⟨rfl, h0⟩ | ⟨xa, c, rfl, h1⟩
  · exact ⟨none, 0, 0, r, h0.symm, rfl, hc, hf⟩
  · exact ⟨some xa, _, c, r, rfl, rfl, hc, hf⟩

theorem RGetGood.gen2 {w w' : World} {B : HB} {v : Value} {n : Nat} {l : List (En × RV)} {q : Ms} {vq : Value} {now : Int} {e : Ending} (h : RGetGood w B v n l q vq now e w') (hC : RCa B w v l) :
    ∃ (xa : Option Addr) (m c : Nat) (CM : Array Value) (xq xv xu xm : Value), m = (rGet n l q now).2.2.length ∧ CM = msgCs (rGet n l q now).2.1.h xq xv xu xm ∧
      e = .returned (.tuple #[.agg #[.slice xa m c, .int .i64 n], .agg CM, .bool (rGet n l q now).1, .int .i64 (keyFault q (optZ q))]) ∧ MsOk B w' (rGet n l q now).2.1 xq xv xu xm ∧ RCa B w' (.slice xa m c) (rGet n l q now).2.2 ∧ Fr [] w w' := by
  obtain ⟨xq, xv, xu, xm, v', rfl, hm, hc, hf⟩ := h.gen hC
  rcases hc.rd with ⟨rfl, h0⟩ | ⟨xa, c, rfl, h1⟩
  · exact ⟨none, 0, 0, _, xq, xv, xu, xm, h0.symm, rfl, rfl, hm, hc, hf⟩
  · exact ⟨some xa, _, c, _, xq, xv, xu, xm, rfl, rfl, rfl, hm, hc, hf⟩

theorem GetGood.gen2 {w w' : World} {B : HB} {p : Nat} {n : Int} {v : Value} {l : List En} {q : Ms} {now : Int} {e : Ending} (h : GetGood w w' B p n v l q (optDo q) (optZ q) now e ∧ Fr (p :: v.ownBlock.toList) w w') (hC : Ca B w p n v l) :
    ∃ (CM : Array Value) (xq xv xu xm v' : Value), CM = msgCs (pGet n l q now).2.1.h xq xv xu xm ∧ e = .returned (.tuple #[.agg CM, .bool (pGet n l q now).1, errOf (erO (keyFault q (optZ q)))]) ∧ MsOk B w' (pGet n l q now).2.1 xq xv xu xm ∧ Ca B w' p n v' (pGet n l q now).2.2 ∧ FrH B w w' ∧ Fr (p :: v.ownBlock.toList) w w' := by
  obtain ⟨vq, va, vu, vm, v', rfl, hm, hc, hf⟩ := h.1.gen hC
  exact ⟨_, vq, va, vu, vm, v', rfl, by rw [erO_val]; rfl, hm, hc, hf, h.2⟩

theorem PutGood.gen2 {w w' : World} {B : HB} {p : Nat} {n : Int} {v : Value} {l : List En} {q a : Ms} {now : Int} {e : Ending} (h : PutGood w w' B p n v l q a (optDo q) (optZ q) now e) (hC : Ca B w p n v l) :
    ∃ v', e = .returned (errOf (erO (putZ q a (optZ q) now))) ∧ Ca B w' p n v' (if putZ q a (optZ q) now = 0 then frL (putE q a (optDo q) now) n l else l) ∧ FrH B w w' ∧ Fr (p :: v.ownBlock.toList) w w' := by
  rcases h with ⟨h0, rfl, hf⟩ | ⟨h0, rfl, v', hc, hf, hf2⟩
  · exact ⟨v, by rw [erO_val]; unfold erVn; rw [if_neg h0], by rw [if_neg h0]; exact hC.fr0 hf, hf.hot0 B, hf.mono (by simp)⟩
  · exact ⟨v', by rw [erO_val]; unfold erVn; rw [if_pos h0], by rw [if_pos h0]; exact hc, hf, hf2⟩

theorem putZ_now {q a : Ms} {now : Int} (h : putZ q a (optZ q) now = 0) : 0 ≤ now := by
  unfold putZ at h
  by_cases h1 : keyFault q (optZ q) ≠ 0
  · rw [if_pos h1] at h; exact absurd h h1
  · rw [if_neg h1] at h
    by_cases h2 : (a.h.an && alikeF q a) = false
    · rw [if_pos h2] at h; cases h
    · rw [if_neg h2] at h
      by_cases h3 : now < 0
      · rw [if_pos h3] at h; cases h
      · omega

theorem MsSm.life {m : Ms} (h : MsSm m) : (m.an + m.un + m.mn + m.mn) * 72 ≤ 140737488355328 := by
  have := h.an
  have := h.un
  have := h.mn
  omega

theorem MsEq.refl (m : Ms) : msEq m m := by
  refine ⟨rfl, ⟨rfl, fun i _ => ⟨?_, rfl, rfl⟩⟩, ⟨rfl, fun i _ => rsEq_refl _⟩, ⟨rfl, fun i _ => rsEq_refl _⟩, ⟨rfl, fun i _ => rsEq_refl _⟩⟩
  rw [txEq_iff]
  exact ⟨rfl, fun _ _ => rfl⟩

/-- a message's numbers are in their types' reach -/
def MWf (m : Ms) : Prop := (∀ i, i < m.an → (m.A i).Wf) ∧ (∀ i, i < m.un → (m.U i).Wf) ∧ (∀ i, i < m.mn → (m.M i).Wf)
theorem MsOk.mwf {B : HB} {w : World} {m : Ms} {vq va vu vm : Value} (h : MsOk B w m vq va vu vm) : MWf m := by
  obtain ⟨_, ha⟩ := h.ha
  obtain ⟨_, hu⟩ := h.hu
  obtain ⟨_, hm⟩ := h.hm
  exact ⟨ha.wf, hu.wf, hm.wf⟩

/-- both caches put alike -/
theorem both_put {l : List En} {r : List (En × RV)} (h : LR l r) (hd : DK r) (q a : Ms) (now : Int) {n : Nat} (hn : 1 ≤ n) (rv : RV) :
    LR (if putZ q a (optZ q) now = 0 then frL (putE q a (optDo q) now) n l else l) (if putZ q a (optZ q) now = 0 then withGo n (keyL (q.Q 0) q.h.rd (optDo q)) [(⟨keyL (q.Q 0) q.h.rd (optDo q), a, now, lifeV a⟩, rv)] r else r) ∧
    DK (if putZ q a (optZ q) now = 0 then withGo n (keyL (q.Q 0) q.h.rd (optDo q)) [(⟨keyL (q.Q 0) q.h.rd (optDo q), a, now, lifeV a⟩, rv)] r else r) := by
  by_cases h0 : putZ q a (optZ q) now = 0
  · rw [if_pos h0, if_pos h0]
    exact put_rel h hd (e := putE q a (optDo q) now) (x := (⟨keyL (q.Q 0) q.h.rd (optDo q), a, now, lifeV a⟩, rv)) ⟨rfl, rfl, rfl, q, rfl⟩ hn
  · rw [if_neg h0, if_neg h0]
    exact ⟨h, hd⟩

/-- both caches tell alike -/
theorem both_get {l : List En} {r : List (En × RV)} (h : LR l r) (hd : DK r) (q : Ms) (now : Int) {n : Nat} (hn : 1 ≤ n) (hw : ∀ x ∈ r, MWf x.1.m) :
    (pGet n l q now).1 = (rGet n r q now).1 ∧ msEq (pGet n l q now).2.1 (rGet n r q now).2.1 ∧ LR (pGet n l q now).2.2 (rGet n r q now).2.2 ∧ DK (rGet n r q now).2.2 := by
  obtain ⟨g1, g2⟩ := get_rel (keyL (q.Q 0) q.h.rd (optDo q)) now h hd
  have hlen := h.len
  by_cases hp : keyFault q (optZ q) = 0 ∧ ∃ hx : fIx (keyL (q.Q 0) q.h.rd (optDo q)) l < l.length, fresh now (l[fIx (keyL (q.Q 0) q.h.rd (optDo q)) l]) = true
  · obtain ⟨h0, hx, hf⟩ := hp
    have hg := g1 hx hf
    have hr : gIx (keyL (q.Q 0) q.h.rd (optDo q)) now r < r.length := by omega
    unfold pGet rGet
    rw [dif_pos ⟨h0, hx, hf⟩, dif_pos ⟨h0, hr⟩]
    have he : ER (l[fIx (keyL (q.Q 0) q.h.rd (optDo q)) l]'hx) (r[gIx (keyL (q.Q 0) q.h.rd (optDo q)) now r]'hr).1 := by
      have h1 := h.get _ hx (by omega)
      rw [get_congrR hg hr (by omega)]
      exact h1
    have hmw := hw _ (List.getElem_mem hr)
    obtain ⟨k1, k2, k3, q0, k4⟩ := he
    refine ⟨rfl, ?_, ?_⟩
    · simp only []
      rw [k2, k4]
      exact tol_same q q0 _ _ hmw.1 hmw.2.1 hmw.2.2
    · exact put_rel h hd (x := r[gIx (keyL (q.Q 0) q.h.rd (optDo q)) now r]'hr) ⟨k1, k2, k3, q0, k4⟩ hn
  · have hr : ¬ (keyFault q (optZ q) = 0 ∧ gIx (keyL (q.Q 0) q.h.rd (optDo q)) now r < r.length) := fun hh => by
      have h3 := g2 (fun hx => by
        cases hb : fresh now (l[fIx (keyL (q.Q 0) q.h.rd (optDo q)) l]'hx) with
        | false => rfl
        | true => exact absurd ⟨hh.1, hx, hb⟩ hp)
      omega
    unfold pGet rGet
    rw [dif_neg hp, dif_neg hr]
    exact ⟨rfl, MsEq.refl _, h, hd⟩

/-- entries of the reference's stay in its lists -/
theorem withGo_le1 (n : Nat) (k : List UInt8) (r : List (En × RV)) (x : En × RV) (hn : 1 ≤ n) : (withGo n k [x] r).length ≤ n := by
  rw [withGo_eq n k r [x] (by simpa using hn)]
  simp only [List.length_take]
  omega

theorem rGet_keeps {n : Nat} {l : List (En × RV)} (q : Ms) (now : Int) (hn : 1 ≤ n) (hl : l.length ≤ n) (ha : ∀ x ∈ l, 0 ≤ x.1.at_) : (rGet n l q now).2.2.length ≤ n ∧ ∀ x ∈ (rGet n l q now).2.2, 0 ≤ x.1.at_ := by
  unfold rGet
  split
  · rename_i h
    refine ⟨withGo_le1 n _ l _ hn, fun x hx => ?_⟩
    rcases withGo_mem n _ _ l x hx with h1 | h1
    · simp only [List.mem_cons, List.not_mem_nil, or_false] at h1
      rw [h1]
      exact ha _ (List.getElem_mem h.2)
    · exact ha x h1
  · exact ⟨hl, ha⟩

theorem put_keeps {n : Nat} {l : List (En × RV)} (k : List UInt8) (a : Ms) (PZ now life : Int) (r : RV) (hn : 1 ≤ n) (hl : l.length ≤ n) (ha : ∀ x ∈ l, 0 ≤ x.1.at_) (h0 : PZ = 0 → 0 ≤ now) :
    (if PZ = 0 then withGo n k [(⟨k, a, now, life⟩, r)] l else l).length ≤ n ∧ ∀ x ∈ (if PZ = 0 then withGo n k [(⟨k, a, now, life⟩, r)] l else l), 0 ≤ x.1.at_ := by
  by_cases hz : PZ = 0
  · rw [if_pos hz]
    refine ⟨withGo_le1 n _ l _ hn, fun x hx => ?_⟩
    rcases withGo_mem n _ _ l x hx with h1 | h1
    · simp only [List.mem_cons, List.not_mem_nil, or_false] at h1
      rw [h1]
      exact h0 hz
    · exact ha x h1
  · rw [if_neg hz]
    exact ⟨hl, ha⟩

end Go.Proofs.YtkdmkpdooiacaaaDoor
