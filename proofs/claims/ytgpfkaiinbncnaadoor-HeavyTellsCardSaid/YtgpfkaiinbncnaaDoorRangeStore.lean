/- A store at a key that is there, in the round of a range over that very map. -/
import Derived.Maps.RangeWalk
import Derived.Test.YtgpfkaiinbncnaaDoorGen
namespace Go.Proofs.YtgpfkaiinbncnaaDoor
open Go.RowKit Go.ChangeMaps Go.MapKept Go.WideShapes
open Go.WideElems (Fit rd rg pl rd_key rd_val rg_of rd_mk rd_stay)
open Go.Maps (Keyed)

theorem filter_set_len {α : Type} (p : α → Bool) : ∀ (l : List α) (j : Nat) (x y : α), l[j]? = some x → p x = p y → ((l.set j y).filter p).length = (l.filter p).length
  | [], _, _, _, h, _ => by simp at h
  | a :: l, 0, x, y, h, hp => by
    simp only [List.getElem?_cons_zero, Option.some.injEq] at h
    subst h
    simp only [List.set_cons_zero, List.filter_cons, hp]
    split <;> rfl
  | a :: l, j + 1, x, y, h, hp => by
    simp only [List.getElem?_cons_succ] at h
    have := filter_set_len p l j x y h hp
    simp only [List.set_cons_succ, List.filter_cons]
    split <;> simp [this]

section
variable {H : Type} {P : Program} {k : TypeId} {R : Value → Option (DataW H × List MemPlace)} {w : World} {b r n : Nat} {D : DataW H} {left : Lit → Bool} {cnt : Nat}

theorem ranges_stored {t e : TypeId} (h : w.ranges P k R b r n D left cnt) (K : Keyed P k) (ht : P.underlying t = some (.map k e)) (hn : n < maxLen) {key val : Value} {kl : Lit} {d : DataW H} {ps : List MemPlace}
    (hkey : keyOf P k key = some kl) (hhas : Maps.has D kl = true) (hv : R val = some (d, ps)) :
    ∃ w', (Instr.mapUpdate t (.map (some b)) key val).run P w = .ok () w' ∧ w'.ranges P k R b r n (D.put kl d) left cnt ∧ w.mapTurned w' b := by
  have hne := h.ne
  obtain ⟨es, clock, since, seen, c0, hb, F, hs, rfl, hr, hold, rfl, hl1, hl2, hsc, hsk⟩ := h
  obtain ⟨es1, clock1, hrun1, F1, hput1, _, _, _⟩ := Maps.fit_store (R' := R) K ht hb F (Nat.lt_of_le_of_lt hs hn) (fun _ _ _ _ hz => hz) hkey hv
  rcases K.find w hkey es.toList F.keys with ⟨h1, h2⟩ | ⟨j, e0, h1, h2, h3⟩
  · exfalso
    obtain ⟨p, hp, hpk⟩ := List.any_eq_true.1 hhas
    obtain ⟨x, hx, rfl⟩ := List.mem_map.1 (mem_sorted.1 hp)
    have he := WideAt.sameKey_eq hpk
    obtain ⟨y, hy⟩ := F.reads x hx
    rw [rg_of hy] at he
    exact h2 x hx (K.inj (he ▸ rd_key hy) hkey)
  · have hj : es[j]? = some e0 := by simpa using h2
    have hrun2 : (Instr.mapUpdate t (.map (some b)) key val).run P w = .ok () (setBlock w b (.map (es.modify j (fun e' => { e' with key := key, val := val })) clock)) := by
      simp [Instr.mapUpdate, run_underlying ht, MapKept.run_getObj_map hb, K.check w false hkey, h1, hj, h3, K.stays w hkey, MapKept.run_setObj_map _ hb, Result.andThen, setBlock]
    rw [hrun1] at hrun2
    simp only [Result.ok.injEq, true_and] at hrun2
    have hb2 : (setBlock w b (.map es1 clock1)).heap[b]? = (setBlock w b (.map (es.modify j (fun e' => { e' with key := key, val := val })) clock)).heap[b]? := by rw [hrun2]
    rw [heap_setBlock_same hb _, heap_setBlock_same hb _] at hb2
    simp only [Option.some.injEq, Obj.map.injEq] at hb2
    obtain ⟨rfl, rfl⟩ := hb2
    have hlist : (es.modify j (fun e' => { e' with key := key, val := val })).toList = es.toList.set j { e0 with key := key, val := val } := by rw [Array.toList_modify, modify_eq_set _ _ _ _ h2]
    have hem : e0 ∈ es.toList := List.mem_of_getElem? h2
    have hkl0 : (rg P k R e0).1 = kl := by
      obtain ⟨y, hy⟩ := F.reads e0 hem
      rw [rg_of hy]
      have := rd_key hy
      rw [h3, hkey] at this
      exact (Option.some.inj this).symm
    have hnew : (rg P k R { e0 with key := key, val := val }).1 = kl := by rw [rg_of (rd_mk hkey hv)]
    have who : ∀ x ∈ es.toList.set j { e0 with key := key, val := val }, x = { e0 with key := key, val := val } ∨ x ∈ es.toList := fun x hx => by
      rcases List.mem_or_eq_of_mem_set hx with h | h
      · exact .inr h
      · exact .inl h
    refine ⟨_, hrun1, ⟨_, _, since, seen, c0, heap_setBlock_same hb _, F1, by simpa using hs, by rw [DataW.put_eq, hput1], (heap_setBlock_other hb _ hne).trans hr, fun x hx => ?_, ?_, fun x hx => ?_, fun kl' hkl' => ?_, hsc, hsk⟩, ⟨es, _, _, _, hb, rfl⟩⟩
    · rw [hlist] at hx
      rcases who x hx with rfl | hx
      · exact hold e0 hem
      · exact hold x hx
    · have e1 : ∀ a : Array MapEntry, (leftOf a seen).size = (a.toList.filter fun e => !seen.contains e.born).length := fun a => by
        unfold leftOf
        rw [← Array.toList_filter, Array.length_toList]
      rw [e1, e1, hlist]
      exact filter_set_len _ _ _ _ _ h2 rfl
    · rw [hlist] at hx
      rcases who x hx with rfl | hx
      · rw [hnew, ← hkl0]; exact hl1 e0 hem
      · exact hl1 x hx
    · obtain ⟨x, hx, hxk⟩ := hl2 kl' hkl'
      rw [hlist]
      by_cases hx0 : x = e0
      · subst hx0
        have hjl : j < es.toList.length := (List.getElem?_eq_some_iff.1 h2).1
        exact ⟨_, List.mem_iff_getElem?.2 ⟨j, List.getElem?_set_self hjl⟩, by rw [hnew, ← hxk, hkl0]⟩
      · obtain ⟨i, hi⟩ := List.getElem?_of_mem hx
        refine ⟨x, List.mem_iff_getElem?.2 ⟨i, ?_⟩, hxk⟩
        rw [List.getElem?_set_ne (fun e1 => hx0 (by rw [← e1, h2] at hi; exact (Option.some.inj hi).symm))]
        exact hi

/-- the same at the operation -/
theorem wpList_store_ranges {ops : Array Oper} {rest : List Oper} {o : Oper} {a : Act} {Q : Exit → Act → World → Prop} (hg : o.guard = none) (m x v : Operand) (t : TypeId) (hop : o.op = Op.mapUpdate t m x v)
    (e : TypeId) (K : Keyed P k) (ht : P.underlying t = some (.map k e)) (hm : a.eval m = .map (some b)) (h : w.ranges P k R b r n D left cnt) (hn : n < maxLen)
    (key val : Value) (kl : Lit) (hx : a.eval x = key) (hv : a.eval v = val) (hkey : keyOf P k key = some kl) (hhas : Maps.has D kl = true) (d : DataW H) (ps : List MemPlace) (hval : R val = some (d, ps))
    (hK : ∀ w', w'.ranges P k R b r n (D.put kl d) left cnt → w.mapTurned w' b → wpList P ops Q rest (a.put o.dst undef) w') : wpList P ops Q (o :: rest) a w := by
  refine wpList_plain hg fun K' hK' => ?_
  obtain ⟨w', hrun, r1, r2⟩ := ranges_stored h K ht hn hkey hhas hval
  unfold Oper.wp
  simp [execOp, hop, hm, hx, hv, hrun, Result.andThen]
  exact hK' _ _ (hK w' r1 r2)
end

end Go.Proofs.YtgpfkaiinbncnaaDoor
