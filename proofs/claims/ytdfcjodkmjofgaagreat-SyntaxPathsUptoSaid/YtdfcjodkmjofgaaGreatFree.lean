/-
  Operations whose order is drawn: where the edges let the first of them come in any order, they may be taken as they are written.
-/
import Derived.Test.YtdfcjodkmjofgaaGreatSound2
namespace Go.Proofs.YtdfcjodkmjofgaaGreat
open Go.RowKit

section
variable {P : Program}
theorem ev_congr {s s' : St} {o : Oper} (h : ∀ x ∈ o.op.operands.toList, s'.ev x = s.ev x) {x : Operand} (hx : x ∈ o.op.operands.toList) : s'.ev x = s.ev x := h x hx
theorem aval_congr {s s' : St} {o : Oper} {v : AV} (h : aval P s o = some v) (he : ∀ x ∈ o.op.operands.toList, s'.ev x = s.ev x) (hh : ∀ (k : Nat) b, s.heap[k]? = some b → s'.heap[k]? = some b) : aval P s' o = some v := by
  unfold aval at h ⊢
  split at h
  · rename_i x ho
    simp only [ho, Op.operands] at he ⊢
    rw [he x (by simp)]; exact h
  · rename_i x ho
    simp only [ho, Op.operands] at he ⊢
    rw [he x (by simp)]; exact h
  · rename_i c a b ho
    simp only [ho, Op.operands] at he ⊢
    rw [he c (by simp), he a (by simp), he b (by simp)]; exact h
  · rename_i x ho
    simp only [ho, Op.operands] at he ⊢
    rw [he x (by simp)]; exact h
  · rename_i t x f ho
    simp only [ho, Op.operands] at he ⊢
    rw [he x (by simp)]; exact h
  · rename_i t x f ho
    simp only [ho, Op.operands] at he ⊢
    rw [he x (by simp)]; exact h
  · rename_i t x ho
    simp only [ho, Op.operands] at he ⊢
    rw [he x (by simp)]
    split at h
    · rename_i o' k hx
      split at h
      · rename_i T c cs hcs
        simp only [hh _ _ hcs]
        exact h
      · cases h
    · exact h
    · cases h
  · rename_i t x i ho
    simp only [ho, Op.operands] at he ⊢
    rw [he x (by simp), he i (by simp)]; exact h
  · rename_i t x i ho
    simp only [ho, Op.operands] at he ⊢
    rw [he x (by simp), he i (by simp)]; exact h
  · rename_i op t x y t' ho
    simp only [ho, Op.operands] at he ⊢
    rw [he x (by simp), he y (by simp)]; exact h
  · rename_i t x ho
    simp only [ho, Op.operands] at he ⊢
    rw [he x (by simp)]; exact h
  · rename_i t t' x ho
    simp only [ho, Op.operands] at he ⊢
    rw [he x (by simp)]; exact h
  · rename_i t x lo hi ho
    simp only [ho, Op.operands] at he ⊢
    have h1 : lo.map s'.ev = lo.map s.ev := by
      cases lo with
      | none => rfl
      | some y => simp only [Option.map_some]; rw [he y (by simp)]
    have h2 : hi.map s'.ev = hi.map s.ev := by
      cases hi with
      | none => rfl
      | some y => simp only [Option.map_some]; rw [he y (by simp)]
    rw [he x (by simp), h1, h2]; exact h
  · rename_i x i ho
    simp only [ho, Op.operands] at he ⊢
    rw [he x (by simp)]; exact h
  · rename_i f first caps ho
    simp only [ho, Op.operands] at he ⊢
    have h1 : caps.toList.map s'.ev = caps.toList.map s.ev := List.map_congr_left fun x hx => he x (by simp at hx; simp [hx])
    rw [h1]; exact h
  · rename_i args tys ho
    simp only [ho, Op.operands, Call.operands] at he ⊢
    split at h
    · rename_i x t hargs htys
      have hargs' : args = #[x] := by simpa using congrArg List.toArray hargs
      rw [he x (by simp [hargs'])]
      exact h
    · cases h
  · cases h
theorem parts_congr {s s' : St} (parts : Array (Nat × Operand)) (he : ∀ x ∈ (parts.toList.map (·.2)), s'.ev x = s.ev x) : partsAv s' parts = partsAv s parts := by
  unfold partsAv
  exact List.map_congr_left fun x hx => by rw [he x.2 (List.mem_map.2 ⟨x, hx, rfl⟩)]
theorem callAv_congr {s s' : St} {f : Operand} {args : Array Operand} (hf : s'.ev f = s.ev f) (ha : ∀ x ∈ args.toList, s'.ev x = s.ev x) : callAv s' f args.toList = callAv s f args.toList := by
  unfold callAv
  rw [hf, List.map_congr_left (g := s.ev) fun x hx => ha x hx]
theorem OVal.congr {s s' : St} {o : Oper} {v : AV} (h : OVal P s o v) (he : ∀ x ∈ o.op.operands.toList, s'.ev x = s.ev x) (hh : ∀ (k : Nat) b, s.heap[k]? = some b → s'.heap[k]? = some b) : OVal P s' o v := by
  rcases h with h | ⟨t, parts, ho, h⟩ | ⟨t, len, parts, e, xs, ho, h, hv⟩ | ⟨f, args, tys, g, l, ho, h, hc⟩ | ⟨t, x, y, t', a, b, ho, hx, hy, hl, hv⟩
  · exact .inl (aval_congr h he hh)
  · refine .inr (.inl ⟨t, parts, ho, ?_⟩)
    rw [parts_congr (s := s)]
    · exact h
    · intro x hx
      exact he x (by rw [ho]; simpa [Op.operands] using hx)
  · refine .inr (.inr (.inl ⟨t, len, parts, e, xs, ho, ?_, hv⟩))
    rw [parts_congr (s := s)]
    · exact h
    · intro x hx
      exact he x (by rw [ho]; simpa [Op.operands] using hx)
  · refine .inr (.inr (.inr (.inl ⟨f, args, tys, g, l, ho, ?_, hc⟩)))
    rw [callAv_congr (s := s)]
    · exact h
    · exact he f (by rw [ho]; simp [Op.operands, Call.operands])
    · exact fun x hx => he x (by rw [ho]; simp [Op.operands, Call.operands] at hx ⊢; exact .inr hx)
  · refine .inr (.inr (.inr (.inr ⟨t, x, y, t', a, b, ho, ?_, ?_, hl, hv⟩)))
    · rw [he x (by rw [ho]; simp [Op.operands])]; exact hx
    · rw [he y (by rw [ho]; simp [Op.operands])]; exact hy
theorem OVal.astep {s : St} {o : Oper} {v : AV} (h : OVal P s o v) : astep P o s (· = s.put o.dst v) := by
  unfold Go.Proofs.YtdfcjodkmjofgaaGreat.astep
  rcases h with h | ⟨t, parts, ho, h⟩ | ⟨t, len, parts, e, xs, ho, h, hv⟩ | ⟨f, args, tys, g, l, ho, h, hc⟩ | ⟨t, x, y, t', a, b, ho, hx, hy, hl, hv⟩
  · simp only [h]
  · have hn : aval P s o = none := by simp only [aval, ho]
    simp only [hn, ho, h]
  · have hn : aval P s o = none := by simp only [aval, ho]
    simp only [hn, ho, h]
    exact ⟨fun e => by rw [hv, if_pos e], fun e => by rw [hv, if_neg e]⟩
  · have hn : aval P s o = none := by simp only [aval, ho]
    simp only [hn, ho, h]
    exact .inl ⟨_, hc, fun r e => by rw [e]⟩
  · have hn : aval P s o = none := by simp only [aval, ho, hx, hy, binAv, binStr]
    simp only [hn, ho, hx, hy]
    exact ⟨hl, by rw [hv]⟩
theorem alloc_run {w : World} {a : Act} {o : Oper} {b : TypeId × List AV} (h : allocOf P o = some b) : ∃ ti z, P.info? b.1 = some ti ∧ zcells z = some b.2 ∧ b.2.length = ti.size ∧ (execOp a.eval o).run P w = .ok (.value (.pointer (some ⟨w.heap.size, 0, none⟩))) (w.alloc (.cells z.cells b.1)) := by
  unfold allocOf at h
  split at h
  · rename_i e ho
    split at h
    · rename_i ti hti
      split at h
      · rename_i z hz
        split at h
        · rename_i cs hcs
          cases hl : cs.length == ti.size with
          | false => rw [hl] at h; cases h
          | true =>
            rw [hl, cond_true, Option.some.injEq] at h
            subst h
            exact ⟨ti, z, hti, hcs, by simpa using hl, by simp [execOp, ho, Instr.alloc, zeroValue, run_typeInfo hti, hz, newVar, newRow]⟩
        · cases h
      · cases h
    · cases h
  · cases h
theorem okpL_of {p : Nat → Bool} : ∀ {l : List AV}, (∀ (i : Nat) (a : AV), l[i]? = some a → a.okp p = true) → AV.okpL p l = true
  | [], _ => rfl
  | x :: l, h => by
    simp only [AV.okpL, Bool.and_eq_true]
    exact ⟨h 0 x rfl, okpL_of fun i a hi => h (i + 1) a (by simpa using hi)⟩
theorem ofCell_okp {p : Nat → Bool} (v : Value) : (AV.ofCell v).okp p = true := by
  unfold AV.ofCell
  split <;> rfl
theorem zcells_okp {p : Nat → Bool} {z : Value} {cs : List AV} (h : zcells z = some cs) : AV.okpL p cs = true := by
  unfold zcells at h
  split at h
  · injection h with h
    subst h
    refine okpL_of fun i a hi => ?_
    rw [List.getElem?_map, Option.map_eq_some_iff] at hi
    obtain ⟨v, _, rfl⟩ := hi
    exact ofCell_okp v
  · injection h with h
    subst h
    refine okpL_of fun i a hi => ?_
    cases i with
    | zero => simp at hi; subst hi; exact ofCell_okp z
    | succ i => simp at hi
/-- What a state tells of are its boxes. -/
theorem SRel.bnds {w0 : World} {X0 : Cx} {w : World} {X : Cx} {s : St} {a : Act} (h : SRel P w0 X0 w X s a) : AV.bndL s.heap.length s.slots = true ∧ ∀ b ∈ s.heap, AV.bndL s.heap.length b.2 = true := by
  rw [← h.hp.n]
  refine ⟨?_, fun b hb => ?_⟩
  · rw [AV.bndL_okpL]
    refine okpL_of fun i c hi => ?_
    have hlt : i < a.tmps.size := by rw [h.size]; exact (List.getElem?_eq_some_iff.1 hi).1
    rw [← AV.bnd_okp]
    exact (h.slot i c _ hi (Array.getElem?_eq_getElem hlt)).bnd
  · rw [AV.bndL_okpL]
    obtain ⟨o, ho, e⟩ := List.mem_iff_getElem.1 hb
    have hg : s.heap[o]? = some b := by rw [List.getElem?_eq_getElem ho, e]
    obtain ⟨T, cs⟩ := b
    refine okpL_of fun i c hi => ?_
    have hne : cs ≠ [] := by intro e; subst e; simp at hi
    obtain ⟨vs, _, ⟨h1, _⟩, h3⟩ := h.hp.box o _ _ hg hne
    have hlt : X.bo o + i < vs.size := Nat.lt_of_lt_of_le (Nat.add_lt_add_left (List.getElem?_eq_some_iff.1 hi).1 _) h1
    rw [← AV.bnd_okp]
    exact (h3 i c _ hi (Array.getElem?_eq_getElem hlt)).bnd
theorem gtest_congr {all : Array Oper} {s s' : St} {o : Oper} (h : ∀ t, guardSlots all o = [t] → s'.slots[t]? = s.slots[t]?) : gtest all s' o = gtest all s o := by
  unfold gtest
  cases hg : o.guard with
  | none => rfl
  | some g =>
    obtain ⟨j, want⟩ := g
    simp only
    cases hd : (all[j]?).bind (·.dst) with
    | none => rfl
    | some t =>
      simp only
      rw [h t (by simp [guardSlots, hg, hd])]

/-! ### the slots behind some of the head's operations -/
def slotsL (ops : Array Oper) (vs : List AV) (L : Nat → Bool) : Nat → List AV → List AV
  | 0, sl => sl
  | k + 1, sl => if L k = true then (match dstAt ops k, vs[k]? with
      | some d, some v => (slotsL ops vs L k sl).set d v
      | _, _ => slotsL ops vs L k sl) else slotsL ops vs L k sl
theorem slotsL_length (ops : Array Oper) (vs : List AV) (L : Nat → Bool) (sl : List AV) : ∀ n, (slotsL ops vs L n sl).length = sl.length
  | 0 => rfl
  | n + 1 => by
    simp only [slotsL]
    split
    · split
      · rw [List.length_set, slotsL_length ops vs L sl n]
      · exact slotsL_length ops vs L sl n
    · exact slotsL_length ops vs L sl n
theorem slotsL_none {ops : Array Oper} {vs : List AV} {L : Nat → Bool} {sl : List AV} {t : Nat} : ∀ n, (∀ j, j < n → L j = true → dstAt ops j ≠ some t) → (slotsL ops vs L n sl)[t]? = sl[t]?
  | 0, _ => rfl
  | n + 1, h => by
    have ih := slotsL_none (vs := vs) (sl := sl) n fun j hj => h j (by omega)
    simp only [slotsL]
    split
    · rename_i hL
      split
      · rename_i d v hd hv
        rw [List.getElem?_set, if_neg fun e => h n (by omega) hL (by rw [hd, e])]
        exact ih
      · exact ih
    · exact ih
theorem slotsL_some {ops : Array Oper} {vs : List AV} {L : Nat → Bool} {sl : List AV} {t j : Nat} {v : AV} (hL : L j = true) (hd : dstAt ops j = some t) (hv : vs[j]? = some v) (ht : t < sl.length) : ∀ n, j < n → (∀ k, k < n → k ≠ j → dstAt ops k ≠ some t) → (slotsL ops vs L n sl)[t]? = some v
  | 0, hj, _ => by omega
  | n + 1, hj, h => by
    simp only [slotsL]
    by_cases hjn : j = n
    · subst hjn
      rw [if_pos hL, hd, hv]
      simp only
      rw [List.getElem?_set, if_pos rfl, if_pos (by rw [slotsL_length]; exact ht)]
    · have ih := slotsL_some hL hd hv ht n (by omega) fun k hk => h k (by omega)
      split
      · split
        · rename_i d u hd' hu
          rw [List.getElem?_set, if_neg fun e => h n (by omega) (Ne.symm hjn) (by rw [hd', e])]
          exact ih
        · exact ih
      · exact ih
/-- One operation more. -/
theorem slotsL_add {ops : Array Oper} {vs : List AV} {L L' : Nat → Bool} {sl : List AV} {n i : Nat} {v : AV} (hi : i < n) (hLi : L i = false) (hL'i : L' i = true) (hL : ∀ j, j ≠ i → L' j = L j) (hv : vs[i]? = some v) (hvl : ∀ j, j < n → ∃ u, vs[j]? = some u)
    (hdd : ∀ j k, j < n → k < n → j ≠ k → dstAt ops j ≠ none → dstAt ops j ≠ dstAt ops k) : slotsL ops vs L' n sl = (match dstAt ops i with | some d => (slotsL ops vs L n sl).set d v | none => slotsL ops vs L n sl) := by
  have hlen : (match dstAt ops i with | some d => (slotsL ops vs L n sl).set d v | none => slotsL ops vs L n sl).length = sl.length := by
    split
    · rw [List.length_set, slotsL_length]
    · rw [slotsL_length]
  apply List.ext_getElem?
  intro t
  by_cases ht : t < sl.length
  · by_cases hw : ∃ j, j < n ∧ L' j = true ∧ dstAt ops j = some t
    · obtain ⟨j, hj, hLj, hdj⟩ := hw
      obtain ⟨u, hu⟩ := hvl j hj
      have huniq : ∀ k, k < n → k ≠ j → dstAt ops k ≠ some t := fun k hk hkj e => hdd k j hk hj hkj (by rw [e]; simp) (by rw [e, hdj])
      rw [slotsL_some hLj hdj hu ht n hj huniq]
      by_cases hji : j = i
      · subst hji
        rw [hdj]
        simp only
        rw [List.getElem?_set, if_pos rfl, if_pos (by rw [slotsL_length]; exact ht)]
        rw [hv] at hu
        exact hu.symm
      · have hLj' : L j = true := by rw [← hL j hji]; exact hLj
        have h1 := slotsL_some hLj' hdj hu ht n hj huniq
        split
        · rename_i d hd
          rw [List.getElem?_set, if_neg fun e => huniq i hi (Ne.symm hji) (by rw [hd, e])]
          exact h1.symm
        · exact h1.symm
    · have hno : ∀ j, j < n → L' j = true → dstAt ops j ≠ some t := fun j hj hLj e => hw ⟨j, hj, hLj, e⟩
      rw [slotsL_none n hno]
      have hno' : ∀ j, j < n → L j = true → dstAt ops j ≠ some t := fun j hj hLj => by
        by_cases hji : j = i
        · subst hji; rw [hLi] at hLj; cases hLj
        · exact hno j hj (by rw [hL j hji]; exact hLj)
      have h1 := slotsL_none (vs := vs) (sl := sl) n hno'
      split
      · rename_i d hd
        rw [List.getElem?_set, if_neg fun e => hno i hi hL'i (by rw [hd, e])]
        exact h1.symm
      · exact h1.symm
  · rw [List.getElem?_eq_none (by rw [slotsL_length]; omega), List.getElem?_eq_none (by rw [hlen]; omega)]

/-- The slots when an operation of the head comes up, as it is written. -/
theorem hrun_get {all : Array Oper} {bl : List BE} : ∀ (l : List Oper) (k : Nat) (s : St) (vs : List AV), HRun P all bl k l s vs → vs.length = l.length ∧ ∀ i o, l[i]? = some o → ∃ v, vs[i]? = some v ∧ HStep P all bl (k + i) ⟨hslots (l.take i) (vs.take i) s.slots, s.heap⟩ o v
  | [], k, s, vs, h => by simp only [HRun] at h; subst h; exact ⟨rfl, fun i o h => by simp at h⟩
  | o :: l, k, s, [], h => by simp only [HRun] at h
  | o :: l, k, s, v :: vs, h => by
    simp only [HRun] at h
    obtain ⟨h1, h2⟩ := h
    obtain ⟨h3, h4⟩ := hrun_get l (k + 1) _ vs h2
    refine ⟨by simp [h3], fun i o' hi => ?_⟩
    cases i with
    | zero =>
      simp at hi
      subst hi
      exact ⟨v, rfl, h1⟩
    | succ i =>
      obtain ⟨v', h5, h6⟩ := h4 i o' (by simpa using hi)
      refine ⟨v', by simpa using h5, ?_⟩
      have e : (s.put o.dst v).slots = (match o.dst with | some d => s.slots.set d v | none => s.slots) := by cases o.dst <;> rfl
      have e' : (s.put o.dst v).heap = s.heap := by cases o.dst <;> rfl
      rw [e, e', show k + 1 + i = k + (i + 1) by omega] at h6
      exact h6
theorem hslots_snoc : ∀ (l : List Oper) (vs : List AV) (o : Oper) (v : AV) (sl : List AV), vs.length = l.length → hslots (l ++ [o]) (vs ++ [v]) sl = (match o.dst with | some d => (hslots l vs sl).set d v | none => hslots l vs sl)
  | [], [], o, v, sl, _ => rfl
  | [], _ :: _, o, v, sl, h => by simp at h
  | _ :: _, [], o, v, sl, h => by simp at h
  | p :: l, u :: vs, o, v, sl, h => by
    simp only [List.cons_append, hslots]
    exact hslots_snoc l vs o v _ (by simpa using h)
theorem hslots_slotsL {ops : Array Oper} {vs : List AV} {sl : List AV} {n : Nat} (hn : n ≤ ops.size) (hv : vs.length = n) : ∀ i, i ≤ n → hslots (ops.toList.take i) (vs.take i) sl = slotsL ops vs (fun j => Nat.blt j i) i sl
  | 0, _ => by simp [hslots, slotsL]
  | i + 1, hi => by
    have hi' : i < ops.size := by omega
    have h1 : ops.toList.take (i + 1) = ops.toList.take i ++ [ops[i]] := by rw [List.take_add_one]; simp [hi']
    have h2 : vs.take (i + 1) = vs.take i ++ [vs[i]'(by omega)] := by rw [List.take_add_one, List.getElem?_eq_getElem (by omega)]; rfl
    rw [h1, h2, hslots_snoc _ _ _ _ _ (by simp; omega), hslots_slotsL hn hv i (by omega)]
    have h3 : ∀ k, k ≤ i → slotsL ops vs (fun j => Nat.blt j i) k sl = slotsL ops vs (fun j => Nat.blt j (i + 1)) k sl := by
      intro k
      induction k with
      | zero => intro _; rfl
      | succ k ih =>
        intro hk
        have e1 : Nat.blt k i = true := by simp [Nat.blt_eq]; omega
        have e2 : Nat.blt k (i + 1) = true := by simp [Nat.blt_eq]; omega
        simp only [slotsL, e1, e2, ih (by omega)]
    have e2 : Nat.blt i (i + 1) = true := by simp [Nat.blt_eq]
    have e3 : dstAt ops i = ops[i].dst := by simp [dstAt, hi']
    rw [h3 i (Nat.le_refl _)]
    simp only [slotsL, e2, e3, List.getElem?_eq_getElem (show i < vs.length by omega)]
    cases ops[i].dst <;> rfl
theorem slotsL_stop {ops : Array Oper} {vs : List AV} {sl : List AV} {i : Nat} : ∀ n, i ≤ n → slotsL ops vs (fun j => Nat.blt j i) n sl = slotsL ops vs (fun j => Nat.blt j i) i sl
  | 0, h => by
    have : i = 0 := by omega
    subst this
    rfl
  | n + 1, h => by
    by_cases hi : i = n + 1
    · rw [hi]
    · have e1 : Nat.blt n i = false := by
        cases hb : Nat.blt n i with
        | false => rfl
        | true => simp [Nat.blt_eq] at hb; omega
      simp only [slotsL, e1]
      exact slotsL_stop n (by omega)

theorem wpAny_more {md : Region.Mode} {ops : Array Oper} {Q : Exit → Act → World → Prop} : ∀ (f : Nat) (listed : Array Bool) (a : Act) (w : World), wpAny P md ops Q f listed a w → wpAny P md ops Q (f + 1) listed a w
  | 0, listed, a, w, h => ⟨fun _ => h.2, fun i hi => by rw [h.1] at hi; cases hi⟩
  | f + 1, listed, a, w, h => ⟨h.1, fun i hi => wpOp_mono (fun a' w' h' => wpAny_more f _ a' w' h') (h.2 i hi)⟩
theorem wpAny_le {md : Region.Mode} {ops : Array Oper} {Q : Exit → Act → World → Prop} {f g : Nat} (h : f ≤ g) {listed : Array Bool} {a : Act} {w : World} (hf : wpAny P md ops Q f listed a w) : wpAny P md ops Q g listed a w := by
  induction h with
  | refl => exact hf
  | step _ ih => exact wpAny_more _ _ _ _ ih
/-- How many of the first n are still to come. -/
def unl (L : Nat → Bool) : Nat → Nat
  | 0 => 0
  | n + 1 => unl L n + (if L n = true then 0 else 1)
theorem unl_same {L L' : Nat → Bool} : ∀ n, (∀ j, j < n → L' j = L j) → unl L' n = unl L n
  | 0, _ => rfl
  | n + 1, h => by simp only [unl]; rw [unl_same n fun j hj => h j (by omega), h n (by omega)]
theorem unl_add {L L' : Nat → Bool} {i : Nat} (hi : L i = false) (hi' : L' i = true) (h : ∀ j, j ≠ i → L' j = L j) : ∀ n, i < n → unl L' n + 1 = unl L n
  | 0, hn => by omega
  | n + 1, hn => by
    simp only [unl]
    by_cases e : i = n
    · subst e
      rw [unl_same i fun j hj => h j (by omega), hi, hi']
      simp
    · have := unl_add hi hi' h n (by omega)
      rw [h n (by omega)]
      omega
theorem unl_zero {L : Nat → Bool} : ∀ n, unl L n = 0 → ∀ j, j < n → L j = true
  | 0, _, j, hj => by omega
  | n + 1, h, j, hj => by
    simp only [unl] at h
    by_cases e : j = n
    · subst e
      cases hl : L j with
      | true => rfl
      | false => rw [hl] at h; simp at h
    · exact unl_zero n (by omega) j (by omega)
theorem unl_pos {L : Nat → Bool} : ∀ n, unl L n ≠ 0 → ∃ j, j < n ∧ L j = false ∧ ∀ k, k < j → L k = true
  | 0, h => absurd rfl h
  | n + 1, h => by
    by_cases h0 : unl L n = 0
    · simp only [unl, h0] at h
      refine ⟨n, by omega, ?_, unl_zero n h0⟩
      cases hl : L n with
      | true => rw [hl] at h; simp at h
      | false => rfl
    · obtain ⟨j, h1, h2, h3⟩ := unl_pos n h0
      exact ⟨j, by omega, h2, h3⟩

theorem slotsL_from {ops : Array Oper} {vs : List AV} {L : Nat → Bool} {sl : List AV} {t : Nat} {c : AV} : ∀ n, (slotsL ops vs L n sl)[t]? = some c → sl[t]? = some c ∨ ∃ j, j < n ∧ L j = true ∧ vs[j]? = some c
  | 0, h => .inl h
  | n + 1, h => by
    have up : (slotsL ops vs L n sl)[t]? = some c → sl[t]? = some c ∨ ∃ j, j < n + 1 ∧ L j = true ∧ vs[j]? = some c := fun h => by
      rcases slotsL_from n h with h | ⟨j, h1, h2, h3⟩
      · exact .inl h
      · exact .inr ⟨j, by omega, h2, h3⟩
    simp only [slotsL] at h
    split at h
    · rename_i hL
      split at h
      · rename_i d v hd hv
        rw [List.getElem?_set] at h
        split at h
        · split at h
          · injection h with h
            subst h
            exact .inr ⟨n, by omega, hL, hv⟩
          · cases h
        · exact up h
      · exact up h
    · exact up h
theorem BE.cells_same {b : BE} {L L' : Nat → Bool} {i : Nat} (h : ∀ j, j ≠ i → L' j = L j) (hb : b.has i = false) : b.cells L' = b.cells L := by
  simp only [BE.has, Bool.or_eq_false_iff, beq_eq_false_iff_ne] at hb
  obtain ⟨h1, h2⟩ := hb
  unfold BE.cells
  cases hs : b.st with
  | none => simp only; rw [h _ h1]
  | some x =>
    obtain ⟨j, vc⟩ := x
    rw [hs] at h2
    simp only [beq_eq_false_iff_ne] at h2
    simp only
    rw [h _ h1, h _ h2]
theorem heapB_same {bl : List BE} {L L' : Nat → Bool} {i : Nat} (h : ∀ j, j ≠ i → L' j = L j) (hb : bl.all (fun b => !b.has i) = true) : heapB bl L' = heapB bl L := by
  unfold heapB
  refine List.map_congr_left fun b hm => ?_
  have := List.all_eq_true.1 hb b hm
  rw [BE.cells_same h (by simpa using this)]
theorem heapB_set {bl : List BE} {L L' : Nat → Bool} {r : Nat} {b : BE} (hb : bl[r]? = some b) (h : ∀ r' b', bl[r']? = some b' → r' ≠ r → b'.cells L' = b'.cells L) : heapB bl L' = (heapB bl L).set r (b.T, b.cells L') := by
  apply List.ext_getElem?
  intro k
  simp only [heapB, List.getElem?_map, List.getElem?_set, List.length_map]
  by_cases hk : r = k
  · subst hk
    rw [if_pos rfl, if_pos (List.getElem?_eq_some_iff.1 hb).1, hb]
    rfl
  · rw [if_neg hk]
    cases hbk : bl[k]? with
    | none => rfl
    | some b' =>
      simp only [Option.map_some]
      rw [h k b' hbk fun e => hk e.symm]
theorem set_append_right' {α : Type} (l1 l2 : List α) (r : Nat) (x : α) : (l1 ++ l2).set (l1.length + r) x = l1 ++ l2.set r x := by
  rw [List.set_append]
  rw [if_neg (by omega), Nat.add_sub_cancel_left]
end
end Go.Proofs.YtdfcjodkmjofgaaGreat
