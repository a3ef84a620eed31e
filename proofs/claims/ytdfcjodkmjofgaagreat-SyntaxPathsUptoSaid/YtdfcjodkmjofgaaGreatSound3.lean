/-
  The calculus over abstract states is sound: regions in any order, whole bodies, calls.
-/
import Derived.Test.YtdfcjodkmjofgaaGreatFree
namespace Go.Proofs.YtdfcjodkmjofgaaGreat
open Go.RowKit

section
variable {P : Program} {w0 : World} {X0 : Cx} {w : World} {X : Cx} {s : St} {a : Act} {o : Oper} {all : Array Oper}

theorem gtest_sound (hs : SRel P w0 X0 w X s a) : (gtest all s o = some none → Region.wanted o (yielded all a.tmps) = true) ∧ ∀ b, gtest all s o = some (some b) → Region.wanted o (yielded all a.tmps) = b := by
  unfold gtest Region.wanted
  cases hg : o.guard with
  | none => exact ⟨fun _ => rfl, fun b h => by simp at h⟩
  | some g =>
    obtain ⟨j, want⟩ := g
    refine ⟨fun h => ?_, fun b h => ?_⟩
    · simp only at h
      split at h
      · split at h <;> simp at h
      · cases h
    · simp only at h
      split at h
      · rename_i t ht
        split at h
        · rename_i c hc
          simp only [Option.some.injEq] at h
          have hlt : t < a.tmps.size := by rw [hs.size]; exact (List.getElem?_eq_some_iff.1 hc).1
          have hv := bool_rel (hs.slot t _ _ hc (Array.getElem?_eq_getElem hlt))
          subst h
          simp only [yielded, ht, Option.bind_some]
          rw [Array.getElem?_eq_getElem hlt, hv]
          cases c <;> cases want <;> rfl
        · cases h
      · cases h

theorem aops_sound : ∀ (l : List Oper) (s : St) (w : World) (X : Cx) (a : Act) {K : St → Prop} {Q : Exit → Act → World → Prop}, SRel P w0 X0 w X s a → aops P all l s K → (∀ a' w', Told P w0 X0 K a' w' → Q .normal a' w') → wpList P all Q l a w
  | [], s, w, X, a, K, Q, hs, h, hQ => hQ _ _ ⟨s, X, h, hs⟩
  | o :: rest, s, w, X, a, K, Q, hs, h, hQ => by
    obtain ⟨hg1, hg2⟩ := gtest_sound (o := o) (all := all) hs
    unfold wpList
    simp only [aops] at h
    split at h
    · cases h
    · rename_i hg
      rw [if_pos (hg1 hg)]
      exact .inl (astep_sound hs h fun a' w' ⟨s', X', h', hs'⟩ => aops_sound rest s' w' X' a' hs' h' hQ)
    · rename_i b hg
      cases b with
      | true =>
        rw [if_pos (hg2 _ hg)]
        exact .inl (astep_sound hs (h.1 rfl) fun a' w' ⟨s', X', h', hs'⟩ => aops_sound rest s' w' X' a' hs' h' hQ)
      | false =>
        rw [if_neg (by rw [hg2 _ hg]; simp)]
        exact aops_sound rest _ w X _ (hs.put o.dst (.top undef)) (h.2 rfl) hQ

theorem free_any {ops : Array Oper} {n : Nat} {vs : List AV} {bl : List BE} {s : St} {K : St → Prop} {Q : Exit → Act → World → Prop} (hX0 : X0.n ≤ s.heap.length) (hbs : AV.bndL s.heap.length s.slots = true ∧ ∀ b ∈ s.heap, AV.bndL s.heap.length b.2 = true) (hB : freeB .any ops n = true) (hbB : blB .any ops n bl = true) (hrun : HRun P ops bl 0 (ops.toList.take n) s vs)
    (ht : aops P ops (ops.toList.drop n) ⟨hslots (ops.toList.take n) vs s.slots, s.heap ++ heapB bl fun _ => true⟩ K) (hQ : ∀ a' w', Told P w0 X0 K a' w' → Q .normal a' w') :
    ∀ (m : Nat) (listed : Array Bool) (a : Act) (w : World) (X : Cx), HeadInv .any ops n listed → unl (fun j => listed.getD j false) n = m → SRel P w0 X0 w X ⟨slotsL ops vs (fun j => listed.getD j false) n s.slots, s.heap ++ heapB bl (fun j => listed.getD j false)⟩ a →
      wpAny P .any ops Q (m + (ops.size - n)) listed a w := by
  simp only [freeB, Bool.and_eq_true] at hB
  obtain ⟨⟨⟨hnle, hhead⟩, hend⟩, hseq⟩ := hB
  simp only [blB, Bool.and_eq_true] at hbB
  obtain ⟨hb1, hb2⟩ := hbB
  have hn : n ≤ ops.size := by simpa using hnle
  obtain ⟨hvl, hget⟩ := hrun_get _ _ _ _ hrun
  have htl : (ops.toList.take n).length = n := by simp; omega
  rw [htl] at hvl
  -- the boxes
  have hbe : ∀ (r : Nat) (b : BE), bl[r]? = some b → b.al < n ∧ ∀ j vc, b.st = some (j, vc) → j < n ∧ b.al < j ∧ Region.waitsFor .any ops j b.al = true := by
    intro r b hr
    have := List.all_eq_true.1 hb1 b (List.mem_of_getElem? hr)
    simp only [Bool.and_eq_true, Nat.blt_eq] at this
    refine ⟨this.1, fun j vc hs => ?_⟩
    have h2 := this.2
    rw [hs] at h2
    simp only [Bool.and_eq_true, Nat.blt_eq] at h2
    exact ⟨h2.1.1, h2.1.2, h2.2⟩
  have hbu : ∀ (r r' : Nat) (b b' : BE) (i : Nat), bl[r]? = some b → bl[r']? = some b' → i < n → b.has i = true → b'.has i = true → r = r' := by
    intro r r' b b' i hr hr' hi h1 h2
    have := List.all_eq_true.1 (List.all_eq_true.1 hb2 r (List.mem_range.2 (List.getElem?_eq_some_iff.1 hr).1)) r' (List.mem_range.2 (List.getElem?_eq_some_iff.1 hr').1)
    simp only [hr, hr', Bool.or_eq_true, beq_iff_eq] at this
    rcases this with this | this
    · exact this
    · have := List.all_eq_true.1 this i (List.mem_range.2 hi)
      rw [h1, h2] at this
      cases this
  -- the facts of one operation of the head
  have hop : ∀ i, i < n → ∃ o, ops[i]? = some o ∧ (∀ e ∈ o.after, Region.binds .any e = true → e.on < i) ∧ (∀ t ∈ opReads ops o, ∀ j, j < n → dstAt ops j = some t → j < i ∧ Region.waitsFor .any ops i j = true) ∧ (∀ j, j < n → j ≠ i → o.dst ≠ none → dstAt ops j ≠ o.dst) ∧
      ∃ v, vs[i]? = some v ∧ HStep P ops bl i ⟨slotsL ops vs (fun j => Nat.blt j i) n s.slots, s.heap⟩ o v := by
    intro i hi
    have h1 := List.all_eq_true.1 hhead i (List.mem_range.2 hi)
    cases ho : ops[i]? with
    | none => rw [ho] at h1; cases h1
    | some o =>
      rw [ho] at h1
      simp only [Bool.and_eq_true] at h1
      obtain ⟨⟨h2, h3⟩, h4⟩ := h1
      refine ⟨o, rfl, fun e he hb => ?_, fun t htr j hj hd => ?_, fun j hj hji hdn => ?_, ?_⟩
      · have := Array.all_eq_true'.1 h2 e he
        rw [hb] at this
        simpa using this
      · have := List.all_eq_true.1 (List.all_eq_true.1 h3 t htr) j (List.mem_range.2 hj)
        rw [hd] at this
        simpa using this
      · have := List.all_eq_true.1 h4 j (List.mem_range.2 hj)
        simp only [Bool.or_eq_true, beq_iff_eq, Bool.not_eq_true', beq_eq_false_iff_ne] at this
        rcases this with (this | this) | this
        · exact absurd this hji
        · exact absurd this hdn
        · exact this
      · obtain ⟨v, h5, h6⟩ := hget i o (by rw [List.getElem?_take, if_pos hi]; simpa using ho)
        refine ⟨v, h5, ?_⟩
        rw [Nat.zero_add, List.take_take, Nat.min_eq_left (Nat.le_of_lt hi), hslots_slotsL hn hvl i (Nat.le_of_lt hi), ← slotsL_stop n (Nat.le_of_lt hi)] at h6
        exact h6
  have hvl' : ∀ j, j < n → ∃ u, vs[j]? = some u := fun j hj => ⟨vs[j]'(by omega), List.getElem?_eq_getElem _⟩
  have hdd : ∀ j k, j < n → k < n → j ≠ k → dstAt ops j ≠ none → dstAt ops j ≠ dstAt ops k := by
    intro j k hj hk hjk hd e
    obtain ⟨o, h1, _, _, h2, _⟩ := hop j hj
    have h3 : dstAt ops j = o.dst := by simp [dstAt, h1]
    exact h2 k hk (fun e => hjk e.symm) (by rw [← h3]; exact hd) (by rw [← e, h3])
  intro m
  induction m with
  | zero =>
    intro listed a w X inv hu hs
    have hall := unl_zero n hu
    have hlst : listed = listedTo ops.size n := by
      apply Array.ext
      · simp [listedTo, inv.size]
      · intro j h1 h2
        have hj : j < ops.size := by rw [← inv.size]; exact h1
        by_cases hjn : j < n
        · have := hall j hjn
          simp only [Array.getD_eq_getD_getElem?, Array.getElem?_eq_getElem h1, Option.getD_some] at this
          rw [this]
          simp [listedTo, Nat.blt_eq, hjn]
        · have := inv.tail j (by omega) hj
          simp only [Array.getD_eq_getD_getElem?, Array.getElem?_eq_getElem h1, Option.getD_some] at this
          rw [this]
          have : Nat.blt j n = false := by cases hb : Nat.blt j n with | false => rfl | true => simp [Nat.blt_eq] at hb; omega
          simp [listedTo, this]
    have e1 : slotsL ops vs (fun j => listed.getD j false) n s.slots = hslots (ops.toList.take n) vs s.slots := by
      have h1 : vs.take n = vs := List.take_of_length_le (by omega)
      have h2 := hslots_slotsL (sl := s.slots) hn hvl n (Nat.le_refl _)
      rw [h1] at h2
      rw [h2]
      have h3 : ∀ k, k ≤ n → slotsL ops vs (fun j => listed.getD j false) k s.slots = slotsL ops vs (fun j => Nat.blt j n) k s.slots := by
        intro k
        induction k with
        | zero => intro _; rfl
        | succ k ih =>
          intro hk
          have e2 : Nat.blt k n = true := by simp [Nat.blt_eq]; omega
          have e3 := hall k (by omega)
          simp only [slotsL, e2, ih (by omega)]
          replace e3 : listed.getD k false = true := e3
          rw [e3]
          simp
      exact h3 n (Nat.le_refl _)
    have e2 : heapB bl (fun j => listed.getD j false) = heapB bl fun _ => true := by
      unfold heapB
      refine List.map_congr_left fun b hm => ?_
      obtain ⟨r, hr, hre⟩ := List.mem_iff_getElem.1 hm
      obtain ⟨h1, h2⟩ := hbe r b (by rw [List.getElem?_eq_getElem hr, hre])
      have h3 : listed.getD b.al false = true := hall _ h1
      unfold BE.cells
      cases hst : b.st with
      | none => simp only [h3]
      | some x =>
        obtain ⟨j, vc⟩ := x
        have h4 : listed.getD j false = true := hall _ (h2 j vc hst).1
        simp only [h3, h4]
    rw [e1, e2] at hs
    have hw := aops_sound _ _ w X a hs ht hQ
    have hdl : (ops.toList.drop n).length = ops.size - n := by simp
    have := wpAny_of_seq (P := P) (md := .any) (Q' := Q) (ops.toList.drop n) n listed a w (fun j => by simp [List.getElem?_drop]) (by rw [hdl, hlst]; exact hseq) hw
    rw [hdl] at this
    rw [Nat.zero_add]
    exact this
  | succ m ih =>
    intro listed a w X inv hu hs
    rw [show m + 1 + (ops.size - n) = (m + (ops.size - n)) + 1 by omega]
    obtain ⟨k, hk, hkL, hkmin⟩ := unl_pos n (by omega : unl (fun j => listed.getD j false) n ≠ 0)
    have hready : k ∈ Region.ready .any ops listed := by
      obtain ⟨o, ho, hdep, _⟩ := hop k hk
      have hks : k < listed.size := by rw [inv.size]; omega
      exact mem_ready.2 ⟨getD_in hks hkL, o, ho, fun e he hb => hkmin _ (hdep e he hb)⟩
    refine ⟨fun h0 => (by rw [h0] at hready; cases hready), fun i hi => ?_⟩
    have hin : i < n := by
      rcases Nat.lt_or_ge i n with h | h
      · exact h
      · have hie := mem_ready.1 hi
        obtain ⟨_, o, ho, _⟩ := hie
        have hilt : i < ops.size := (Array.getElem?_eq_some_iff.1 ho).1
        simp only [Bool.or_eq_true, beq_iff_eq, Bool.and_eq_true] at hend
        rcases hend with hend | hend
        · omega
        · exact absurd hi (tail_waits hend.1 hend.2 (by omega) inv _ k rfl hk (getD_in (by rw [inv.size]; omega) hkL) i h)
    obtain ⟨hiun, oi, hoi, hideps⟩ := mem_ready.1 hi
    obtain ⟨o, ho, hdep, hsep, hdst, v, hv, hst⟩ := hop i hin
    rw [hoi] at ho
    injection ho with ho
    subst ho
    have hLi : listed.getD i false = false := getD_both hiun
    have his : i < listed.size := by rw [inv.size]; omega
    -- the slots that it reads
    have hrd : ∀ t ∈ opReads ops oi, (slotsL ops vs (fun j => listed.getD j false) n s.slots)[t]? = (slotsL ops vs (fun j => Nat.blt j i) n s.slots)[t]? := by
      intro t htr
      by_cases hw : ∃ j, j < n ∧ dstAt ops j = some t
      · obtain ⟨j, hj, hdj⟩ := hw
        obtain ⟨hji, hwf⟩ := hsep t htr j hj hdj
        obtain ⟨o', ho', e, he, hb, hon⟩ := Region.waitsFor_spec hwf
        rw [hoi] at ho'
        injection ho' with ho'
        subst ho'
        have hLj := hideps e he hb
        rw [hon] at hLj
        have huniq : ∀ k, k < n → k ≠ j → dstAt ops k ≠ some t := fun k hk hkj e => hdd k j hk hj hkj (by rw [e]; simp) (by rw [e, hdj])
        obtain ⟨u, hu⟩ := hvl' j hj
        by_cases htl : t < s.slots.length
        · rw [slotsL_some (L := fun j => listed.getD j false) hLj hdj hu htl n hj huniq, slotsL_some (L := fun j => Nat.blt j i) (by simp [Nat.blt_eq, hji]) hdj hu htl n hj huniq]
        · rw [List.getElem?_eq_none (by rw [slotsL_length]; exact Nat.le_of_not_lt htl), List.getElem?_eq_none (by rw [slotsL_length]; exact Nat.le_of_not_lt htl)]
      · rw [slotsL_none n fun j hj _ e => hw ⟨j, hj, e⟩, slotsL_none n fun j hj _ e => hw ⟨j, hj, e⟩]
    have hev : ∀ x ∈ oi.op.operands.toList, St.ev ⟨slotsL ops vs (fun j => listed.getD j false) n s.slots, s.heap ++ heapB bl (fun j => listed.getD j false)⟩ x = St.ev ⟨slotsL ops vs (fun j => Nat.blt j i) n s.slots, s.heap⟩ x := by
      intro x hx
      cases x with
      | tmp t =>
        have := hrd t (List.mem_append.2 (.inl (List.mem_filterMap.2 ⟨.tmp t, hx, rfl⟩)))
        simp only [St.ev, List.getD_eq_getElem?_getD, this]
      | _ => rfl
    have hgt : gtest ops ⟨slotsL ops vs (fun j => listed.getD j false) n s.slots, s.heap ++ heapB bl (fun j => listed.getD j false)⟩ oi = gtest ops ⟨slotsL ops vs (fun j => Nat.blt j i) n s.slots, s.heap⟩ oi :=
      gtest_congr fun t htt => hrd t (List.mem_append.2 (.inr (by rw [htt]; simp)))
    have hL' : ∀ j, j ≠ i → (listed.setIfInBounds i true).getD j false = listed.getD j false := fun j hji => getD_set_ne false (Ne.symm hji)
    have hL'i : (listed.setIfInBounds i true).getD i false = true := by simp [his]
    have hda : dstAt ops i = oi.dst := by simp [dstAt, hoi]
    have hslots := slotsL_add (ops := ops) (vs := vs) (sl := s.slots) (L := fun j => listed.getD j false) (L' := fun j => (listed.setIfInBounds i true).getD j false) hin hLi hL'i hL' hv hvl' hdd
    rw [hda] at hslots
    have hunl : unl (fun j => (listed.setIfInBounds i true).getD j false) n = m := by
      have := unl_add (L := fun j => listed.getD j false) (L' := fun j => (listed.setIfInBounds i true).getD j false) hLi hL'i hL' n hin
      omega
    have next : ∀ a' w' X', SRel P w0 X0 w' X' ⟨(match oi.dst with | some d => (slotsL ops vs (fun j => listed.getD j false) n s.slots).set d v | none => slotsL ops vs (fun j => listed.getD j false) n s.slots), s.heap ++ heapB bl (fun j => (listed.setIfInBounds i true).getD j false)⟩ a' →
        wpAny P .any ops Q (m + (ops.size - n)) (listed.setIfInBounds i true) a' w' := by
      intro a' w' X' hs'
      refine ih _ a' w' X' (inv.set hi hin) hunl ?_
      rw [hslots]
      exact hs'
    have hputeq : ∀ (sl : List AV) (H : List (TypeId × List AV)), St.put ⟨sl, H⟩ oi.dst v = ⟨(match oi.dst with | some d => sl.set d v | none => sl), H⟩ := by intro sl H; cases oi.dst <;> rfl
    have hnoal : bl.all (fun b => !b.has i) = true → heapB bl (fun j => (listed.setIfInBounds i true).getD j false) = heapB bl (fun j => listed.getD j false) := fun e => heapB_same hL' e
    have hoth : ∀ (r : Nat) (b : BE), bl[r]? = some b → b.has i = true → ∀ r' b', bl[r']? = some b' → r' ≠ r → b'.cells (fun j => (listed.setIfInBounds i true).getD j false) = b'.cells (fun j => listed.getD j false) := fun r b hr hh r' b' hr' hne => BE.cells_same hL' (by
      cases hq : b'.has i with
      | false => rfl
      | true => exact absurd (hbu r r' b b' i hr hr' hin hh hq).symm hne)
    have hkeepL : ∀ (r : Nat) (b : BE) (j : Nat) (vc : List AV), bl[r]? = some b → b.st = some (j, vc) → listed.getD j false = true → listed.getD b.al false = true := by
      intro r b j vc hr hsb hj
      obtain ⟨_, h2⟩ := hbe r b hr
      obtain ⟨h3, h4, h5⟩ := h2 j vc hsb
      obtain ⟨o', ho', e, he, hb, hon⟩ := Region.waitsFor_spec h5
      have := inv.closed j o' ho' hj e he hb
      rwa [hon] at this
    obtain ⟨hg1, hg2⟩ := gtest_sound (o := oi) (all := ops) hs
    rw [hgt] at hg1 hg2
    unfold wpOp
    simp only [hoi]
    unfold HStep at hst
    have go : ((OVal P ⟨slotsL ops vs (fun j => Nat.blt j i) n s.slots, s.heap⟩ oi v ∧ v.bnd s.heap.length = true ∧ bl.all (fun b => !b.has i) = true) ∨
      (∃ (r : Nat) (b : BE), bl[r]? = some b ∧ b.al = i ∧ allocOf P oi = some (b.T, b.zc) ∧ v = .ptr (s.heap.length + r) 0) ∨
      (∃ (r : Nat) (b : BE) (vc : List AV) (t : TypeId) (x y : Operand) (ti : TypeInfo), bl[r]? = some b ∧ b.st = some (i, vc) ∧ v = .top ∧ oi.op = .store t x y ∧ St.ev ⟨slotsL ops vs (fun j => Nat.blt j i) n s.slots, s.heap⟩ x = .ptr (s.heap.length + r) 0 ∧ (St.ev ⟨slotsL ops vs (fun j => Nat.blt j i) n s.slots, s.heap⟩ y).cells = some vc ∧ P.info? t = some ti ∧
        (vc.all AV.one && (vc.length == ti.size) && (vc.length == b.zc.length) && Nat.blt 0 vc.length && AV.bndL s.heap.length vc) = true)) → oi.wp P a w (wpAny P .any ops Q (m + (ops.size - n)) (listed.setIfInBounds i true)) Q := by
      rintro (⟨hov, _, hno⟩ | ⟨r, b, hr, hal, hao, hvp⟩ | ⟨r, b, vc, t, x, y, ti, hr, hsb, hvt, hos, hx, hy, hti, hok⟩)
      · have hov' := hov.congr (s' := ⟨slotsL ops vs (fun j => listed.getD j false) n s.slots, s.heap ++ heapB bl (fun j => listed.getD j false)⟩) hev fun k b hk => by rw [List.getElem?_append_left (List.getElem?_eq_some_iff.1 hk).1]; exact hk
        refine astep_sound hs hov'.astep ?_
        rintro a' w' ⟨s', X', rfl, hs'⟩
        rw [hputeq] at hs'
        refine next a' w' X' ?_
        rw [hnoal hno]
        exact hs'
      · -- a box is laid where it was held
        obtain ⟨ti, z, hti, hz, hzl, hrun'⟩ := alloc_run (w := w) (a := a) hao
        have hbi : b.has i = true := by simp [BE.has, hal]
        have hcell0 : b.cells (fun j => listed.getD j false) = [] := by
          unfold BE.cells
          cases hst' : b.st with
          | none => simp only; rw [hal, hLi]; rfl
          | some q =>
            obtain ⟨j, vc⟩ := q
            simp only
            have hj : listed.getD j false = false := by
              cases hq : listed.getD j false with
              | false => rfl
              | true => have := hkeepL r b j vc hr hst' hq; rw [hal, hLi] at this; cases this
            rw [hj, hal, hLi]
            rfl
        have hcell1 : b.cells (fun j => (listed.setIfInBounds i true).getD j false) = b.zc := by
          unfold BE.cells
          have h1 : (listed.setIfInBounds i true).getD b.al false = true := by rw [hal]; exact hL'i
          cases hst' : b.st with
          | none => simp only; rw [h1]; rfl
          | some q =>
            obtain ⟨j, vc⟩ := q
            simp only
            have hji : j ≠ i := by have := ((hbe r b hr).2 j vc hst').2.1; omega
            have hj : (listed.setIfInBounds i true).getD j false = false := by
              rw [hL' j hji]
              cases hq : listed.getD j false with
              | false => rfl
              | true => have := hkeepL r b j vc hr hst' hq; rw [hal, hLi] at this; cases this
            rw [hj, h1]
            rfl
        have hheld : (s.heap ++ heapB bl (fun j => listed.getD j false))[s.heap.length + r]? = some (b.T, []) := by
          rw [List.getElem?_append_right (Nat.le_add_right _ _), Nat.add_sub_cancel_left]
          simp only [heapB, List.getElem?_map, hr, Option.map_some, hcell0]
        have hlt : ∀ q : Nat, Nat.blt q s.heap.length = true → (!(q == s.heap.length + r)) = true := fun q hq => by
          rw [Nat.blt_eq] at hq
          simp
          omega
        have hokb : ∀ c : AV, c.bnd s.heap.length = true → c.okp (fun q => !(q == s.heap.length + r)) = true := fun c hc => AV.okp_mono hlt c (by rw [← AV.bnd_okp]; exact hc)
        have hnoref : ∀ (j : Nat) (u : AV), j < n → listed.getD j false = true → vs[j]? = some u → u.okp (fun q => !(q == s.heap.length + r)) = true := by
          intro j u hj hLj hu
          obtain ⟨oj, _, _, _, _, u', hu', hsj⟩ := hop j hj
          rw [hu] at hu'
          injection hu' with hu'
          subst hu'
          have fin : ((OVal P ⟨slotsL ops vs (fun k => Nat.blt k j) n s.slots, s.heap⟩ oj u ∧ u.bnd s.heap.length = true ∧ bl.all (fun b => !b.has j) = true) ∨
              (∃ (r : Nat) (b : BE), bl[r]? = some b ∧ b.al = j ∧ allocOf P oj = some (b.T, b.zc) ∧ u = .ptr (s.heap.length + r) 0) ∨ (∃ (r : Nat) (b : BE) (vc : List AV) (t : TypeId) (x y : Operand) (ti : TypeInfo), bl[r]? = some b ∧ b.st = some (j, vc) ∧ u = .top ∧ oj.op = .store t x y ∧ St.ev ⟨slotsL ops vs (fun k => Nat.blt k j) n s.slots, s.heap⟩ x = .ptr (s.heap.length + r) 0 ∧ (St.ev ⟨slotsL ops vs (fun k => Nat.blt k j) n s.slots, s.heap⟩ y).cells = some vc ∧ P.info? t = some ti ∧
              (vc.all AV.one && (vc.length == ti.size) && (vc.length == b.zc.length) && Nat.blt 0 vc.length && AV.bndL s.heap.length vc) = true)) → u.okp (fun q => !(q == s.heap.length + r)) = true := by
            rintro (⟨_, hb', _⟩ | ⟨r', b', hr', hal', _, rfl⟩ | ⟨r', b', vc', _, _, _, _, _, _, rfl, _⟩)
            · exact hokb u hb'
            · have hrr : r' ≠ r := fun e => by
                subst e
                rw [hr] at hr'
                injection hr' with hr'
                subst hr'
                rw [← hal', hal, hLi] at hLj
                cases hLj
              simp only [AV.okp]
              simp
              omega
            · rfl
          unfold HStep at hsj
          split at hsj
          · cases hsj
          · rw [hsj.1]; rfl
          · exact fin hsj
        have hno : AV.okpL (fun q => !(q == s.heap.length + r)) (slotsL ops vs (fun j => listed.getD j false) n s.slots) = true ∧ ∀ b' ∈ (s.heap ++ heapB bl (fun j => listed.getD j false)), AV.okpL (fun q => !(q == s.heap.length + r)) b'.2 = true := by
          refine ⟨okpL_of fun t c hc => ?_, fun b' hb' => ?_⟩
          · rcases slotsL_from n hc with hc | ⟨j, hj, hLj, hc⟩
            · have := hbs.1
              rw [AV.bndL_okpL] at this
              exact AV.okp_mono hlt c (AV.okpL_get this hc)
            · exact hnoref j c hj hLj hc
          · rcases List.mem_append.1 hb' with hb' | hb'
            · have := hbs.2 b' hb'
              rw [AV.bndL_okpL] at this
              exact AV.okpL_mono hlt _ this
            · simp only [heapB, List.mem_map] at hb'
              obtain ⟨b2, hm2, rfl⟩ := hb'
              obtain ⟨r2, hr2l, hr2e⟩ := List.mem_iff_getElem.1 hm2
              have hr2 : bl[r2]? = some b2 := by rw [List.getElem?_eq_getElem hr2l, hr2e]
              have hzc : AV.okpL (fun q => !(q == s.heap.length + r)) b2.zc = true ∨ listed.getD b2.al false = false := by
                cases hq : listed.getD b2.al false with
                | false => exact .inr rfl
                | true =>
                  left
                  obtain ⟨oj, hoj, _, _, _, u', hu', hsj⟩ := hop b2.al (hbe r2 b2 hr2).1
                  have hb2i : b2.has b2.al = true := by simp [BE.has]
                  have fin : ∀ (h : (OVal P ⟨slotsL ops vs (fun k => Nat.blt k b2.al) n s.slots, s.heap⟩ oj u' ∧ u'.bnd s.heap.length = true ∧ bl.all (fun b => !b.has b2.al) = true) ∨
                      (∃ (r : Nat) (b : BE), bl[r]? = some b ∧ b.al = b2.al ∧ allocOf P oj = some (b.T, b.zc) ∧ u' = .ptr (s.heap.length + r) 0) ∨ (∃ (r : Nat) (b : BE) (vc : List AV) (t : TypeId) (x y : Operand) (ti : TypeInfo), bl[r]? = some b ∧ b.st = some (b2.al, vc) ∧ u' = .top ∧ oj.op = .store t x y ∧ St.ev ⟨slotsL ops vs (fun k => Nat.blt k b2.al) n s.slots, s.heap⟩ x = .ptr (s.heap.length + r) 0 ∧ (St.ev ⟨slotsL ops vs (fun k => Nat.blt k b2.al) n s.slots, s.heap⟩ y).cells = some vc ∧ P.info? t = some ti ∧
                      (vc.all AV.one && (vc.length == ti.size) && (vc.length == b.zc.length) && Nat.blt 0 vc.length && AV.bndL s.heap.length vc) = true)), AV.okpL (fun q => !(q == s.heap.length + r)) b2.zc = true := by
                    rintro (⟨_, _, hno'⟩ | ⟨r', b', hr', hal', hao', _⟩ | ⟨r', b', vc', _, _, _, _, hr', hst', _⟩)
                    · have := List.all_eq_true.1 hno' b2 (List.mem_of_getElem? hr2)
                      rw [hb2i] at this
                      cases this
                    · have hb'i : b'.has b2.al = true := by simp [BE.has, hal']
                      have := hbu r2 r' b2 b' _ hr2 hr' (hbe r2 b2 hr2).1 hb2i hb'i
                      subst this
                      rw [hr2] at hr'
                      injection hr' with hr'
                      subst hr'
                      obtain ⟨_, z', _, hz', _⟩ := alloc_run (w := w) (a := a) hao'
                      exact zcells_okp hz'
                    · have hb'i : b'.has b2.al = true := by simp [BE.has, hst']
                      have := hbu r2 r' b2 b' _ hr2 hr' (hbe r2 b2 hr2).1 hb2i hb'i
                      subst this
                      rw [hr2] at hr'
                      injection hr' with hr'
                      subst hr'
                      have := ((hbe r2 b2 hr2).2 _ _ hst').2.1
                      omega
                  unfold HStep at hsj
                  split at hsj
                  · cases hsj
                  · have := List.all_eq_true.1 hsj.2 b2 (List.mem_of_getElem? hr2)
                    rw [hb2i] at this
                    cases this
                  · exact fin hsj
              have hvc : ∀ j vc, b2.st = some (j, vc) → listed.getD j false = true → AV.okpL (fun q => !(q == s.heap.length + r)) vc = true := by
                intro j vc hst2 hLj
                obtain ⟨oj, hoj, _, _, _, u', hu', hsj⟩ := hop j ((hbe r2 b2 hr2).2 j vc hst2).1
                have hb2i : b2.has j = true := by simp [BE.has, hst2]
                have fin : ∀ (h : (OVal P ⟨slotsL ops vs (fun k => Nat.blt k j) n s.slots, s.heap⟩ oj u' ∧ u'.bnd s.heap.length = true ∧ bl.all (fun b => !b.has j) = true) ∨
                    (∃ (r : Nat) (b : BE), bl[r]? = some b ∧ b.al = j ∧ allocOf P oj = some (b.T, b.zc) ∧ u' = .ptr (s.heap.length + r) 0) ∨ (∃ (r : Nat) (b : BE) (vc : List AV) (t : TypeId) (x y : Operand) (ti : TypeInfo), bl[r]? = some b ∧ b.st = some (j, vc) ∧ u' = .top ∧ oj.op = .store t x y ∧ St.ev ⟨slotsL ops vs (fun k => Nat.blt k j) n s.slots, s.heap⟩ x = .ptr (s.heap.length + r) 0 ∧ (St.ev ⟨slotsL ops vs (fun k => Nat.blt k j) n s.slots, s.heap⟩ y).cells = some vc ∧ P.info? t = some ti ∧
                    (vc.all AV.one && (vc.length == ti.size) && (vc.length == b.zc.length) && Nat.blt 0 vc.length && AV.bndL s.heap.length vc) = true)), AV.okpL (fun q => !(q == s.heap.length + r)) vc = true := by
                  rintro (⟨_, _, hno'⟩ | ⟨r', b', hr', hal', hao', _⟩ | ⟨r', b', vc', _, _, _, _, hr', hst', _, _, _, _, _, hok'⟩)
                  · have := List.all_eq_true.1 hno' b2 (List.mem_of_getElem? hr2)
                    rw [hb2i] at this
                    cases this
                  · have hb'i : b'.has j = true := by simp [BE.has, hal']
                    have := hbu r2 r' b2 b' _ hr2 hr' ((hbe r2 b2 hr2).2 j vc hst2).1 hb2i hb'i
                    subst this
                    rw [hr2] at hr'
                    injection hr' with hr'
                    subst hr'
                    have := ((hbe r2 b2 hr2).2 _ _ hst2).2.1
                    omega
                  · have hb'i : b'.has j = true := by simp [BE.has, hst']
                    have := hbu r2 r' b2 b' _ hr2 hr' ((hbe r2 b2 hr2).2 j vc hst2).1 hb2i hb'i
                    subst this
                    rw [hr2] at hr'
                    injection hr' with hr'
                    subst hr'
                    rw [hst2] at hst'
                    injection hst' with hst'
                    injection hst' with _ hst'
                    subst hst'
                    simp only [Bool.and_eq_true] at hok'
                    have h9 := hok'.2
                    rw [AV.bndL_okpL] at h9
                    exact AV.okpL_mono hlt _ h9
                unfold HStep at hsj
                split at hsj
                · cases hsj
                · have := List.all_eq_true.1 hsj.2 b2 (List.mem_of_getElem? hr2)
                  rw [hb2i] at this
                  cases this
                · exact fin hsj
              have hzz : AV.okpL (fun q => !(q == s.heap.length + r)) (bif listed.getD b2.al false then b2.zc else []) = true := by
                rcases hzc with h | h
                · cases listed.getD b2.al false
                  · rfl
                  · exact h
                · rw [h]; rfl
              show AV.okpL _ (b2.cells _) = true
              unfold BE.cells
              cases hst2 : b2.st with
              | none => exact hzz
              | some q =>
                obtain ⟨j, vc⟩ := q
                simp only
                cases hq : listed.getD j false with
                | true => exact hvc j vc hst2 hq
                | false => exact hzz
        have hbl := (Below.refl w.heap.size w).alloc (Nat.le_refl _) (.cells z.cells b.T)
        have h1 := hs.alloc (.cells z.cells b.T)
        have hf := hs.fresh (b := w.heap.size) (Nat.le_refl _)
        obtain ⟨hzs, hzr⟩ := zcells_rel (P := P) (w := w.alloc (.cells z.cells b.T)) (X := X) hz
        obtain ⟨X', h2, h3⟩ := h1.fill (cap := 1) hheld (by omega) hno (heap_alloc_new w _) (hs.le _ (Nat.le_refl _)) hf.1 hf.2.1 hf.2.2 ⟨by rw [hzs]; exact Nat.le_refl _, by simp only [maxLen]; omega, fun ti' hti' => by rw [hti] at hti'; injection hti' with hti'; subst hti'; rw [hzs, hzl, Nat.one_mul]⟩ hzr (zcells_okp hz)
        refine wp_value hrun' (next _ _ X' ?_)
        have h4 := h2.put oi.dst h3
        rw [hvp] at hputeq ⊢
        have e3 : heapB bl (fun j => (listed.setIfInBounds i true).getD j false) = (heapB bl (fun j => listed.getD j false)).set r (b.T, b.zc) := by rw [heapB_set hr (hoth r b hr hbi), hcell1]
        rw [e3, ← set_append_right', ← hputeq]
        exact h4
      · -- the box is written
        simp only [Bool.and_eq_true, beq_iff_eq, Nat.blt_eq] at hok
        obtain ⟨⟨⟨⟨hone, hlen⟩, hlz⟩, hpos⟩, _⟩ := hok
        obtain ⟨_, hbst⟩ := hbe r b hr
        obtain ⟨_, hali, hwf⟩ := hbst i vc hsb
        have hbi : b.has i = true := by simp [BE.has, hsb]
        obtain ⟨o', ho', e, he, hb, hon⟩ := Region.waitsFor_spec hwf
        rw [hoi] at ho'
        injection ho' with ho'
        subst ho'
        have hLal := hideps e he hb
        rw [hon] at hLal
        have hcell0 : b.cells (fun j => listed.getD j false) = b.zc := by
          unfold BE.cells
          simp only [hsb]
          rw [hLi, hLal]
          rfl
        have hcell1 : b.cells (fun j => (listed.setIfInBounds i true).getD j false) = vc := by
          unfold BE.cells
          simp only [hsb]
          rw [hL'i]
          rfl
        have hhas : (s.heap ++ heapB bl (fun j => listed.getD j false))[s.heap.length + r]? = some (b.T, b.zc) := by
          rw [List.getElem?_append_right (Nat.le_add_right _ _), Nat.add_sub_cancel_left]
          simp only [heapB, List.getElem?_map, hr, Option.map_some, hcell0]
        have hx' := (hev x (by rw [hos]; simp [Op.operands])).trans hx
        have hy' : (St.ev ⟨slotsL ops vs (fun j => listed.getD j false) n s.slots, s.heap ++ heapB bl (fun j => listed.getD j false)⟩ y).cells = some vc := by rw [hev y (by rw [hos]; simp [Op.operands])]; exact hy
        have hstep : astep P oi ⟨slotsL ops vs (fun j => listed.getD j false) n s.slots, s.heap ++ heapB bl (fun j => listed.getD j false)⟩ (· = St.put ⟨slotsL ops vs (fun j => listed.getD j false) n s.slots, (s.heap ++ heapB bl (fun j => listed.getD j false)).set (s.heap.length + r) (b.T, vc)⟩ oi.dst v) := by
          have hnn : aval P ⟨slotsL ops vs (fun j => listed.getD j false) n s.slots, s.heap ++ heapB bl (fun j => listed.getD j false)⟩ oi = none := by simp only [aval, hos]
          unfold astep
          simp only [hnn, hos, hx', hy', hti, hhas]
          refine ⟨?_, ?_⟩
          · simp only [Bool.and_eq_true, beq_iff_eq, Nat.ble_eq, Nat.blt_eq]
            exact ⟨⟨⟨hone, hlen⟩, by omega⟩, hpos⟩
          · rw [hvt, List.take_zero, List.nil_append, List.drop_of_length_le (by omega), List.append_nil]
        refine astep_sound hs hstep ?_
        rintro a' w' ⟨s', X', rfl, hs'⟩
        refine next a' w' X' ?_
        have e3 : heapB bl (fun j => (listed.setIfInBounds i true).getD j false) = (heapB bl (fun j => listed.getD j false)).set r (b.T, vc) := by rw [heapB_set hr (hoth r b hr hbi), hcell1]
        rw [e3, ← set_append_right', ← hputeq]
        exact hs'
    split at hst
    · cases hst
    · rename_i hg
      rw [if_neg (by rw [hg2 _ hg]; simp)]
      obtain ⟨rfl, hno⟩ := hst
      refine next _ w X ?_
      rw [hnoal hno, ← hputeq]
      exact hs.put oi.dst (.top undef)
    · rename_i hx hnf
      have hwant : Region.wanted oi (yielded ops a.tmps) = true := by
        cases hgx : gtest ops ⟨slotsL ops vs (fun j => Nat.blt j i) n s.slots, s.heap⟩ oi with
        | none => exact absurd hgx hx
        | some g =>
          cases g with
          | none => exact hg1 hgx
          | some b =>
            cases b with
            | true => exact hg2 _ hgx
            | false => exact absurd hgx hnf
      rw [if_pos hwant]
      exact .inl (go hst)

theorem free_region {id : Nat} {ops : Array Oper} {n : Nat} {vs : List AV} {bl : List BE} {K : St → Prop} {Q : Exit → Act → World → Prop} (hm : P.follows .mixedOrders = true) (hs : SRel P w0 X0 w X s a) (hB : freeB .any ops n = true) (hbB : blB .any ops n bl = true) (hrun : HRun P ops bl 0 (ops.toList.take n) s vs)
    (ht : aops P ops (ops.toList.drop n) ⟨hslots (ops.toList.take n) vs s.slots, s.heap ++ heapB bl fun _ => true⟩ K) (hQ : ∀ a' w', Told P w0 X0 K a' w' → Q .normal a' w') : (Code.region id ops true).wp P Q a w := by
  refine wp_region_any hm ?_
  have hd : Below w.heap.size w { w with drawn := w.drawn + 1 } := ⟨rfl, rfl, rfl, Nat.le_refl _, fun _ _ => rfl⟩
  have hn : n ≤ ops.size := by
    have := hB
    simp only [freeB, Bool.and_eq_true] at this
    simpa using this.1.1.1
  have hL0 : ∀ j, (Array.replicate ops.size false).getD j false = false := fun j => getD_replicate_false _ _
  have h1 : ∀ k, slotsL ops vs (fun j => (Array.replicate ops.size false).getD j false) k s.slots = s.slots := by
    intro k
    induction k with
    | zero => rfl
    | succ k ih => simp only [slotsL, ih]; rw [hL0]; simp
  have h2 : heapB bl (fun j => (Array.replicate ops.size false).getD j false) = (bl.map (·.T)).map fun t => (t, []) := by
    unfold heapB
    rw [List.map_map]
    refine List.map_congr_left fun b _ => ?_
    simp only [Function.comp]
    unfold BE.cells
    cases b.st with
    | none => simp only; rw [hL0]; rfl
    | some q => obtain ⟨j, vc⟩ := q; simp only; rw [hL0, hL0]; rfl
  have h3 : ∀ k, unl (fun j => (Array.replicate ops.size false).getD j false) k = k := by
    intro k
    induction k with
    | zero => rfl
    | succ k ih => simp only [unl, ih]; rw [if_neg (by rw [hL0]; simp)]
  have hX0 : X0.n ≤ s.heap.length := by rw [← hs.hp.n]; exact hs.po.mn
  have := free_any (P := P) hX0 hs.bnds hB hbB hrun ht hQ n (Array.replicate ops.size false) a _ _ ⟨by simp, fun j oj _ hl => (by rw [hL0] at hl; cases hl), fun t _ ht => getD_in (by simpa using ht) (getD_replicate_false _ _)⟩ (h3 n)
    (by rw [h1, h2]; exact (hs.world hd).hold _)
  rwa [show n + (ops.size - n) = ops.size by omega] at this

theorem aop1_sound (hs : SRel P w0 X0 w X s a) {i : Nat} {K : St → Prop} {N : Act → World → Prop} {Q : Exit → Act → World → Prop} (hi : all[i]? = some o) (h : aop1 P all o s K) (hN : ∀ a' w', Told P w0 X0 K a' w' → N a' w') : wpOp P all Q i N a w := by
  obtain ⟨hg1, hg2⟩ := gtest_sound (o := o) (all := all) hs
  unfold wpOp
  simp only [hi]
  unfold aop1 at h
  split at h
  · cases h
  · rename_i hg
    rw [if_pos (hg1 hg)]
    exact .inl (astep_sound hs h hN)
  · rename_i b hg
    cases b with
    | true =>
      rw [if_pos (hg2 _ hg)]
      exact .inl (astep_sound hs (h.1 rfl) hN)
    | false =>
      rw [if_neg (by rw [hg2 _ hg]; simp)]
      exact hN _ _ ⟨_, X, h.2 rfl, hs.put o.dst (.top undef)⟩
theorem aany_sound {nb : Nat} (hnb : X0.n = nb) {ops : Array Oper} {K : St → Prop} {Q : Exit → Act → World → Prop} (hQ : ∀ a' w', Told P w0 X0 K a' w' → Q .normal a' w') : ∀ (f : Nat) (listed : Array Bool) (s : St) (w : World) (X : Cx) (a : Act), SRel P w0 X0 w X s a → aany P nb ops f listed s K → wpAny P .any ops Q f listed a w
  | 0, listed, s, w, X, a, hs, h => ⟨h.1, hQ _ _ ⟨s, X, h.2, hs⟩⟩
  | f + 1, listed, s, w, X, a, hs, h => by
    refine ⟨fun h0 => hQ _ _ ⟨s, X, h.1 h0, hs⟩, fun i hi => ?_⟩
    have h2 := h.2 i hi
    split at h2
    · rename_i o ho
      exact aop1_sound hs ho h2 fun a' w' ⟨s', X', ⟨s2, hwk, hk⟩, hs'⟩ => (hwk _ _ _ _ _ hnb hs').elim fun X2 hs2 => aany_sound hnb hQ f _ s2 w' X2 a' hs2 hk
    · cases h2

theorem flat_val {w w' : World} {Pm Pm' : Addr → Prop} {d : Dat} {v v' : Value} (h : d.flat = true) (h1 : DRel w Pm d v) (h2 : DRel w' Pm' d v') : v' = v := by
  cases h1 <;> cases h2 <;> first | rfl | (simp [Dat.flat] at h)
def Dat.val : Dat → Value
  | .int k n => .int k n
  | .bool b => .bool b
  | .str s => .string ⟨s.toArray⟩
  | .list _ => undef
theorem Dat.val_rel {w : World} {Pm : Addr → Prop} {d : Dat} (h : d.flat = true) : DRel w Pm d d.val := by
  cases d with
  | int k n => exact .int k n
  | bool b => exact .bool b
  | str s => exact .str s
  | list xs => simp [Dat.flat] at h

theorem aqstep_sound (hs : SRel P w0 X0 w X s a) {K : St → Prop} {N : Act → Prop} (h : aqstep P o s K) (hN : ∀ a', (∃ s', K s' ∧ SRel P w0 X0 w X s' a') → N a') : o.quiet P a (fun w' => Below w.heap.size w w') N := by
  unfold aqstep at h
  unfold Oper.quiet Oper.quietAt
  split at h
  · rename_i v hv
    obtain ⟨u, hu, hy⟩ := aval_sound hs hv
    exact ⟨u, fun w' hb => by rw [hy w' hb]; exact ⟨rfl, rfl⟩, hN _ ⟨_, h, hs.put o.dst hu⟩⟩
  · split at h
    · rename_i t parts ho
      split at h
      · rename_i v hv
        obtain ⟨r, h1, h2⟩ := build_sound hv (parts_rel hs parts)
        refine ⟨r, fun w' hb => ?_, hN _ ⟨_, h, hs.put o.dst h1⟩⟩
        have : (execOp a.eval o).run P w' = .ok (.value r) w' := by
          simp only [execOp, ho]
          rw [Sem.run_bind, h2 w']
          rfl
        rw [this]
        exact ⟨rfl, rfl⟩
      · cases h
    · rename_i f args tys ho
      split at h
      · rename_i g l hca
        obtain ⟨d, hcr, hfl, h⟩ := h
        obtain ⟨vs, hcl, hrun⟩ := call_run hs ho hca hcr
        refine ⟨d.val, fun w' hb => ?_, hN _ ⟨_, h, hs.put o.dst (.dat _ _ (Dat.val_rel hfl))⟩⟩
        rw [hrun w']
        refine ⟨rfl, (hcr.run w' X.Pm vs (fun ad hp => ?_) (hcl w' hb)).mono ?_⟩
        · obtain ⟨u, hu⟩ := hs.hp.pm ad hp
          exact ⟨u, below_cell hb hu⟩
        · rintro e w'' ⟨v, r, X', rfl, rfl, hb', hX, hr, hbn⟩
          cases hr with
          | dat _ _ hd => exact ⟨by rw [flat_val hfl (Dat.val_rel (w := w) (Pm := X.Pm) hfl) hd], hb.trans (hb'.mono hb.size)⟩
      · cases h
    · cases h
theorem aquiet_sound : ∀ (l : List Oper) (s : St) (a : Act) {K : St → Prop} {N : Act → Prop}, SRel P w0 X0 w X s a → aquiet P all l s K → (∀ a', (∃ s', K s' ∧ SRel P w0 X0 w X s' a') → N a') → wpQuiet P all (fun w' => Below w.heap.size w w') N l a
  | [], s, a, K, N, hs, h, hN => hN _ ⟨s, h, hs⟩
  | o :: rest, s, a, K, N, hs, h, hN => by
    obtain ⟨hg1, hg2⟩ := gtest_sound (o := o) (all := all) hs
    unfold wpQuiet
    simp only [aquiet] at h
    split at h
    · cases h
    · rename_i hg
      rw [if_pos (hg1 hg)]
      exact aqstep_sound hs h fun a' ⟨s', h', hs'⟩ => aquiet_sound rest s' a' hs' h' hN
    · rename_i b hg
      cases b with
      | true =>
        rw [if_pos (hg2 _ hg)]
        exact aqstep_sound hs (h.1 rfl) fun a' ⟨s', h', hs'⟩ => aquiet_sound rest s' a' hs' h' hN
      | false =>
        rw [if_neg (by rw [hg2 _ hg]; simp)]
        exact aquiet_sound rest _ _ (hs.put o.dst (.top undef)) (h.2 rfl) hN
theorem aval_still (hs : SRel P w0 X0 w X s a) {v : AV} (hv : aval P s o = some v) {N : Act → Prop} (hN : ∀ u, VRel P w X v u → N (a.put o.dst u)) : o.still P a w N := by
  obtain ⟨u, hu, hy⟩ := aval_sound hs hv
  unfold Oper.still
  rw [hy w (Below.refl _ _), Oper.stillUpon_value]
  exact hN u hu
theorem ahead_sound : ∀ (l : List Oper) (s : St) (a : Act) {K : St → Prop} {N : Act → Prop}, SRel P w0 X0 w X s a → ahead P all l s K → (∀ a', (∃ s', K s' ∧ SRel P w0 X0 w X s' a') → N a') → wpStill P all w N l a
  | [], s, a, K, N, hs, h, hN => hN _ ⟨s, h, hs⟩
  | o :: rest, s, a, K, N, hs, h, hN => by
    obtain ⟨hg1, hg2⟩ := gtest_sound (o := o) (all := all) hs
    unfold wpStill
    simp only [ahead] at h
    split at h
    · cases h
    · rename_i hg
      rw [if_pos (hg1 hg)]
      split at h
      · rename_i v hv
        exact aval_still hs hv fun u hu => ahead_sound rest _ _ (hs.put o.dst hu) h hN
      · cases h
    · rename_i b hg
      cases b with
      | true =>
        rw [if_pos (hg2 _ hg)]
        have h' := h.1 rfl
        split at h'
        · rename_i v hv
          exact aval_still hs hv fun u hu => ahead_sound rest _ _ (hs.put o.dst hu) h' hN
        · cases h'
      | false =>
        rw [if_neg (by rw [hg2 _ hg]; simp)]
        exact ahead_sound rest _ _ (hs.put o.dst (.top undef)) (h.2 rfl) hN
end

theorem least (p : Nat → Prop) (h : ∃ n, p n) : ∃ n, p n ∧ ∀ m, p m → n ≤ m := by
  obtain ⟨n, hn⟩ := h
  induction n using Nat.strongRecOn with
  | _ n ih =>
    by_cases hq : ∃ m, m < n ∧ p m
    · obtain ⟨m, hm, hp⟩ := hq
      exact ih m hm hp
    · exact ⟨n, hn, fun m hp => Nat.le_of_not_lt fun hlt => hq ⟨m, hlt, hp⟩⟩
def AEx.ex : AEx → Exit
  | .norm => .normal
  | .exit id => .exit id
  | .ret => .ret
theorem awp_sound {P : Program} {w0 : World} {X0 : Cx} {nb : Nat} (hnb : X0.n = nb) (hm : P.follows .mixedOrders = true) : ∀ (c : Code) (s : St) (w : World) (X : Cx) (a : Act) {K : AEx → St → Prop} {Q : Exit → Act → World → Prop}, SRel P w0 X0 w X s a → awp P nb c s K →
    (∀ e a' w', Told P w0 X0 (K e) a' w' → Q e.ex a' w') → c.wp P Q a w
  | .skip, s, w, X, a, K, Q, hs, h, hQ => wp_skip (hQ .norm _ _ ⟨s, X, by simpa only [awp] using h, hs⟩)
  | .region id ops false, s, w, X, a, K, Q, hs, h, hQ => by
    simp only [awp] at h
    rcases h with h | h
    · exact wp_region_list (aops_sound ops.toList s w X a hs h fun a' w' ht => hQ .norm _ _ ht)
    · refine wp_region_list (aops_sound ops.toList s w X a hs h fun a' w' ht => hQ .norm _ _ ?_)
      obtain ⟨s1, X1, ⟨s2, hwk, hk⟩, hs1⟩ := ht
      obtain ⟨X2, hs2⟩ := hwk _ _ _ _ _ hnb hs1
      exact ⟨s2, X2, hk, hs2⟩
  | .region id ops true, s, w, X, a, K, Q, hs, h, hQ => by
    simp only [awp] at h
    have hd : Below w.heap.size w { w with drawn := w.drawn + 1 } := ⟨rfl, rfl, rfl, Nat.le_refl _, fun _ _ => rfl⟩
    rcases h with ⟨hB, h⟩ | ⟨n, hB, h⟩ | ⟨n, vs, bl, hB, hbB, hr, h⟩ | h
    · exact wp_region_quiet (C := fun w' => Below w.heap.size w w') hm hB hd (aquiet_sound ops.toList s a hs h fun a' ⟨s', hk, hs'⟩ w' hb => hQ .norm _ _ ⟨s', X, hk, hs'.world hb⟩)
    · have hs' := hs.world hd
      have e : ops = ops.toList.toArray := by simp
      rw [e] at hB ⊢
      refine wp_region_still_tail n hm hB ?_
      rw [e] at h
      exact ahead_sound _ s a hs' h fun a' ⟨s1, hk, hs1⟩ => aops_sound _ s1 _ X a' hs1 hk fun a2 w2 ht => hQ .norm _ _ ht
    · exact free_region hm hs hB hbB hr h fun a' w' ht => hQ .norm _ _ ht
    · refine wp_region_any hm (aany_sound hnb (fun a' w' ht => hQ .norm _ _ ?_) _ _ s _ X a (hs.world hd) h)
      obtain ⟨s1, X1, ⟨s2, hwk, hk⟩, hs1⟩ := ht
      obtain ⟨X2, hs2⟩ := hwk _ _ _ _ _ hnb hs1
      exact ⟨s2, X2, hk, hs2⟩
  | .seq x y, s, w, X, a, K, Q, hs, h, hQ => by
    simp only [awp] at h
    refine wp_seq (awp_sound hnb hm x s w X a hs h fun e a' w' ht => ?_)
    obtain ⟨s', X', hk, hs'⟩ := ht
    cases e with
    | norm => exact awp_sound hnb hm y s' w' X' a' hs' hk hQ
    | exit id => exact hQ (.exit id) _ _ ⟨s', X', hk, hs'⟩
    | ret => exact hQ .ret _ _ ⟨s', X', hk, hs'⟩
  | .cond c t e, s, w, X, a, K, Q, hs, h, hQ => by
    simp only [awp] at h
    split at h
    · rename_i b hc
      have hv := hs.ev c
      rw [hc] at hv
      refine wp_cond_split (bool_rel hv) (fun hb => awp_sound hnb hm t s w X a hs (h.1 hb) hQ) (fun hb => awp_sound hnb hm e s w X a hs (h.2 hb) hQ)
    · rename_i hc
      have hv := hs.ev c
      rw [hc] at hv
      generalize hce : a.eval c = cv at hv
      cases hv with
      | anyb b => exact wp_cond_split hce (fun _ => awp_sound hnb hm t s w X a hs h.1 hQ) (fun _ => awp_sound hnb hm e s w X a hs h.2 hQ)
    · cases h
  | .block id c, s, w, X, a, K, Q, hs, h, hQ => by
    simp only [awp] at h
    refine wp_block (awp_sound hnb hm c s w X a hs h fun e a' w' ht => ?_)
    obtain ⟨s', X', hk, hs'⟩ := ht
    cases e with
    | norm => exact hQ .norm _ _ ⟨s', X', hk, hs'⟩
    | ret => exact hQ .ret _ _ ⟨s', X', hk, hs'⟩
    | exit i =>
      simp only at hk
      show Exit.inBlock id Q (.exit i) a' w'
      simp only [Exit.inBlock]
      split at hk
      · rename_i e
        rw [if_pos e]
        exact hQ .norm _ _ ⟨s', X', hk, hs'⟩
      · rename_i e
        rw [if_neg e]
        exact hQ (.exit i) _ _ ⟨s', X', hk, hs'⟩
  | .loop c, s, w, X, a, K, Q, hs, h, hQ => by
    simp only [awp] at h
    obtain ⟨I, ⟨n0, s0, hw0, hI0⟩, hround⟩ := h
    let J : Nat → Act → World → Prop := fun n a w => ∃ s X, I n s ∧ SRel P w0 X0 w X s a
    obtain ⟨X0, hs0⟩ := hw0 _ _ _ _ _ hnb hs
    have hJ0 : ∃ n, J n a w := ⟨n0, s0, X0, hI0, hs0⟩
    have hex : ∀ p : Act × World, ∃ k, ∀ h : ∃ n, J n p.1 p.2, J k p.1 p.2 ∧ ∀ m, J m p.1 p.2 → k ≤ m := by
      intro p
      by_cases h : ∃ n, J n p.1 p.2
      · obtain ⟨k, h1, h2⟩ := least (fun n => J n p.1 p.2) h
        exact ⟨k, fun _ => ⟨h1, h2⟩⟩
      · exact ⟨0, fun h' => absurd h' h⟩
    obtain ⟨μ, hmu⟩ := Classical.axiomOfChoice hex
    refine wp_loop (fun a w => ∃ n, J n a w) (fun a w => μ (a, w)) hJ0 fun a w hJ => ?_
    have hμ : J (μ (a, w)) a w := (hmu (a, w) hJ).1
    obtain ⟨s1, X1, hI1, hs1⟩ := hμ
    refine awp_sound hnb hm c s1 w X1 a hs1 (hround _ _ hI1) fun e a' w' ht => ?_
    obtain ⟨s', X', hk, hs'⟩ := ht
    cases e with
    | norm =>
      obtain ⟨n', s2, hlt, hwk, hI2⟩ := hk
      obtain ⟨X2, hs2⟩ := hwk _ _ _ _ _ hnb hs'
      have hJ' : ∃ n, J n a' w' := ⟨n', s2, X2, hI2, hs2⟩
      refine ⟨hJ', ?_⟩
      exact Nat.lt_of_le_of_lt ((hmu (a', w') hJ').2 n' ⟨s2, X2, hI2, hs2⟩) hlt
    | exit id => exact hQ (.exit id) _ _ ⟨s', X', hk, hs'⟩
    | ret => exact hQ .ret _ _ ⟨s', X', hk, hs'⟩
  | .exit id, s, w, X, a, K, Q, hs, h, hQ => wp_exit (hQ (.exit id) _ _ ⟨s, X, by simpa only [awp] using h, hs⟩)
  | .ret, s, w, X, a, K, Q, hs, h, hQ => wp_ret (hQ .ret _ _ ⟨s, X, by simpa only [awp] using h, hs⟩)
  | .rangeFunc .., s, w, X, a, K, Q, hs, h, hQ => by simp only [awp] at h
  | .scope _, s, w, X, a, K, Q, hs, h, hQ => by simp only [awp] at h
  | .label _, s, w, X, a, K, Q, hs, h, hQ => by simp only [awp] at h
  | .goto _, s, w, X, a, K, Q, hs, h, hQ => by simp only [awp] at h
  | .refuse _, s, w, X, a, K, Q, hs, h, hQ => by simp only [awp] at h
end Go.Proofs.YtdfcjodkmjofgaaGreat
