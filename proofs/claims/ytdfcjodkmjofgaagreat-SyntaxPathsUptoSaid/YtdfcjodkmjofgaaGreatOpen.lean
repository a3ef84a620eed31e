/-
  An append whose new elements stay open: they become a box behind the elements that were there.
-/
import Derived.Test.YtdfcjodkmjofgaaGreatBuild
namespace Go.Proofs.YtdfcjodkmjofgaaGreat
open Go.RowKit

theorem flatten_get {sz : Nat} (hs : 0 < sz) : ∀ (l : List (List Dat)) (i : Nat) (d : Dat), (∀ x ∈ l, x.length = sz) → l.flatten[i]? = some d → ∃ x, l[i / sz]? = some x ∧ x[i % sz]? = some d
  | [], i, d, _, h => by simp at h
  | q :: l, i, d, hl, h => by
    have hq : q.length = sz := hl q (by simp)
    rw [List.flatten_cons, List.getElem?_append] at h
    split at h
    · rename_i hlt
      rw [hq] at hlt
      exact ⟨q, by rw [Nat.div_eq_of_lt hlt]; rfl, by rw [Nat.mod_eq_of_lt hlt]; exact h⟩
    · rename_i hge
      rw [hq] at hge h
      obtain ⟨x, h2, h3⟩ := flatten_get hs l (i - sz) d (fun x hx => hl x (by simp [hx])) h
      have hge' : sz ≤ i := Nat.le_of_not_lt hge
      refine ⟨x, ?_, ?_⟩
      · rw [Nat.div_eq_sub_div hs hge', List.getElem?_cons_succ]
        exact h2
      · rw [Nat.mod_eq_sub_mod hge']
        exact h3
theorem flatten_len {sz : Nat} : ∀ (l : List (List Dat)), (∀ x ∈ l, x.length = sz) → l.flatten.length = l.length * sz
  | [], _ => by simp
  | q :: l, hl => by
    rw [List.flatten_cons, List.length_append, hl q (by simp), flatten_len l fun x hx => hl x (by simp [hx]), List.length_cons, Nat.succ_mul, Nat.add_comm]

/-- A block whose first cells are data, told of by no own slice: the cells behind them become a box. -/
theorem SRel.openBlock {P : Program} {w0 : World} {X0 : Cx} {w : World} {X : Cx} {s : St} {a : Act} (h : SRel P w0 X0 w X s a) {b c id : Nat} {cur : Array Value} {e : TypeId} {ti : TypeInfo} {xs ys : List (List Dat)} (hti : P.info? e = some ti) (hs0 : 0 < ti.size)
    (hno : AV.noOwnL id s.slots = true ∧ ∀ b ∈ s.heap, AV.noOwnL id b.2 = true) (hlab : X.lab b = some id) (hh : w.heap[b]? = some (.cells cur e (0, 0))) (hb : X.my b) (hp : ∀ k, X.Pm ⟨b, k, none⟩ ↔ k < xs.length * ti.size)
    (hne : ∀ o T cs, s.heap[o]? = some (T, cs) → cs ≠ [] → X.m o ≠ b) (hc : xs.length + ys.length ≤ c) (hm : c ≤ maxLen) (hsz : cur.size = c * ti.size) (hx : ∀ x ∈ xs ++ ys, x.length = ti.size)
    (hr : ∀ (j : Nat) (x : List Dat) (k : Nat) (d : Dat), (xs ++ ys)[j]? = some x → x[k]? = some d → ∃ v, cur[j * ti.size + k]? = some v ∧ DRel w X.Pm d v) :
    ∃ X', SRel P w0 X0 w X' { s with heap := s.heap ++ [(e, (ys.flatten).map .dat)] } a ∧ VRel P w X' (.sl s.heap.length e xs ys.length) (.slice (some ⟨b, 0, none⟩) (xs.length + ys.length) c) := by
  have hyl : ∀ x ∈ ys, x.length = ti.size := fun x hx' => hx x (by simp [hx'])
  let X1 : Cx := { X with lab := fun k => if k = b then none else X.lab k }
  have h1 : SRel P w0 X0 w X1 s a := by
    refine h.movb (bad := some id) ⟨fun _ h => h, fun _ hp => ⟨hp, rfl⟩, fun b' id' hl' hne' => ?_, Nat.le_refl _, fun _ _ => ⟨rfl, rfl, rfl⟩⟩ (fun id' e' => by injection e' with e'; subst e'; exact hno) ⟨rfl, Kept.refl _ _, Nat.le_refl _, fun _ hp => ⟨hp, rfl⟩, Nat.le_refl _, fun _ _ => ⟨rfl, rfl, rfl⟩, fun _ _ => Iff.rfl⟩ rfl (fun o T cs ho hn => ⟨rfl, ?_, (h.hp.boxb o T cs ho hn).2.2⟩) h.hp.pm fun b' hb' => ?_
    · have hbb : b' ≠ b := fun e' => by rw [e', hlab] at hl'; injection hl' with hl'; exact hne' (by rw [hl'])
      exact ⟨by show (if b' = b then none else X.lab b') = _; rw [if_neg hbb]; exact hl', rfl, fun _ => Iff.rfl⟩
    · show (if X.m o = b then none else X.lab (X.m o)) = none
      rw [if_neg (hne o T cs ho hn)]
      exact (h.hp.boxb o T cs ho hn).2.1
    · replace hb' : (if b' = b then none else X.lab b') ≠ none := hb'
      split at hb'
      · exact absurd rfl hb'
      · exact h.hp.lab b' hb'
  have hfl := flatten_len ys hyl
  obtain ⟨k1, _, hn, hmm, hcc, hbo, hmv⟩ := h1.push (cap := c) (bo := xs.length * ti.size) (cs := (ys.flatten).map .dat) hh hb (by show (if b = b then none else X.lab b) = none; rw [if_pos rfl]) (fun i hi hq => by have := (hp i).1 hq; omega) hne
    ⟨by rw [List.length_map, hfl, ← Nat.add_mul, hsz]; exact Nat.mul_le_mul_right _ hc, hm, fun ti' hti' => by rw [hti] at hti'; injection hti' with hti'; subst hti'; exact ⟨hsz, Nat.dvd_mul_left _ _⟩⟩ (fun i d v hi hv => by
      rw [List.getElem?_map, Option.map_eq_some_iff] at hi
      obtain ⟨d, hi, rfl⟩ := hi
      obtain ⟨x, h2, h3⟩ := flatten_get hs0 ys i d hyl hi
      have hjl := (List.getElem?_eq_some_iff.1 h2).1
      obtain ⟨q, hq, hdq⟩ := hr (xs.length + i / ti.size) x _ d (by rw [List.getElem?_append_right (Nat.le_add_right _ _), Nat.add_sub_cancel_left]; exact h2) h3
      have e1 : (xs.length + i / ti.size) * ti.size + i % ti.size = xs.length * ti.size + i := by rw [Nat.add_mul, Nat.add_assoc, Nat.div_add_mod']
      rw [e1] at hq
      rw [hq] at hv
      injection hv with hv
      subst hv
      exact .dat _ _ hdq)
  refine ⟨_, k1, ?_⟩
  have k2 := VRel.sl (P := P) (w := w) (X := X1.push b c (xs.length * ti.size)) s.heap.length e xs ys.length ti hti (by rw [hn]; exact Nat.lt_succ_self _) (by rw [hcc]; exact hc) hbo (fun j x hj => hx x (by simp [List.mem_of_getElem? hj])) (fun j x k d hj hk => by
    rw [hmm]
    have hjl := (List.getElem?_eq_some_iff.1 hj).1
    obtain ⟨q, hq, hdq⟩ := hr j x k d (by rw [List.getElem?_append_left hjl]; exact hj) hk
    have hkl : k < ti.size := by rw [← hx x (by simp [List.mem_of_getElem? hj])]; exact (List.getElem?_eq_some_iff.1 hk).1
    have h3 : j * ti.size + ti.size ≤ xs.length * ti.size := by rw [← Nat.succ_mul]; exact Nat.mul_le_mul_right _ hjl
    exact ⟨q, (hp _).2 (by omega), by rw [cell_of_row w b _ cur e (0, 0) hh]; exact hq, hdq⟩)
  rw [hmm, hcc] at k2
  exact k2

/-- A fresh block with these elements, the first of them data from now on, the others open. -/
theorem SRel.openNew {P : Program} {w0 : World} {X0 : Cx} {w : World} {X : Cx} {s : St} {a : Act} (h : SRel P w0 X0 w X s a) {b c : Nat} (id : Nat) {cur : Array Value} {e : TypeId} {ti : TypeInfo} {xs ys : List (List Dat)} (hti : P.info? e = some ti) (hs0 : 0 < ti.size)
    (hno : AV.noOwnL id s.slots = true ∧ ∀ b ∈ s.heap, AV.noOwnL id b.2 = true) (hlab : X.lab b = none) (hh : w.heap[b]? = some (.cells cur e (0, 0))) (hb : X.my b) (hp : ∀ k, ¬ X.Pm ⟨b, k, none⟩)
    (hne : ∀ o T cs, s.heap[o]? = some (T, cs) → cs ≠ [] → X.m o ≠ b) (hc : xs.length + ys.length ≤ c) (hm : c ≤ maxLen) (hsz : cur.size = c * ti.size) (hx : ∀ x ∈ xs ++ ys, x.length = ti.size)
    (hr : ∀ (j : Nat) (x : List Dat) (k : Nat) (d : Dat), (xs ++ ys)[j]? = some x → x[k]? = some d → ∃ v, cur[j * ti.size + k]? = some v ∧ DRel w X.Pm d v) :
    ∃ X', SRel P w0 X0 w X' { s with heap := s.heap ++ [(e, (ys.flatten).map .dat)] } a ∧ VRel P w X' (.sl s.heap.length e xs ys.length) (.slice (some ⟨b, 0, none⟩) (xs.length + ys.length) c) := by
  let X1 : Cx := { X with Pm := fun ad => X.Pm ad ∨ ∃ k, k < xs.length * ti.size ∧ ad = ⟨b, k, none⟩, lab := fun k => if k = b then some id else X.lab k }
  have hlt : b < w.heap.size := (Array.getElem?_eq_some_iff.1 hh).1
  have hp0 : ∀ ad : Addr, ¬ X.my ad.block → ((X.Pm ad ∨ ∃ k, k < xs.length * ti.size ∧ ad = ⟨b, k, none⟩) ↔ X.Pm ad) := by
    intro ad ha
    refine ⟨fun hq => ?_, .inl⟩
    rcases hq with hq | ⟨k, _, rfl⟩
    · exact hq
    · exact absurd hb ha
  have h1 : SRel P w0 X0 w X1 s a := by
    refine h.mov ⟨fun _ h => h, fun ad hp => ⟨.inl hp, rfl⟩, fun b' id' hl' _ => ?_, Nat.le_refl _, fun _ _ => ⟨rfl, rfl, rfl⟩⟩ ⟨rfl, Kept.refl _ _, Nat.le_refl _, fun ad hp => ⟨.inl hp, rfl⟩, Nat.le_refl _, fun _ _ => ⟨rfl, rfl, rfl⟩, hp0⟩ rfl (fun o T cs ho hn => ⟨rfl, ?_, ?_⟩) ?_ ?_
    · have hbb : b' ≠ b := fun e => by rw [e, hlab] at hl'; cases hl'
      refine ⟨by show (if b' = b then some id else X.lab b') = _; rw [if_neg hbb]; exact hl', rfl, fun j => ⟨fun hq => ?_, .inl⟩⟩
      rcases hq with hq | ⟨k, _, hk⟩
      · exact hq
      · injection hk with hk
        exact absurd hk hbb
    · show (if X.m o = b then some id else X.lab (X.m o)) = none
      rw [if_neg (hne o T cs ho hn)]
      exact (h.hp.boxb o T cs ho hn).2.1
    · rintro i hle (hq | ⟨k, _, hk⟩)
      · exact (h.hp.boxb o T cs ho hn).2.2 i hle hq
      · injection hk with hk
        exact hne o T cs ho hn hk
    · rintro ad (hq | ⟨k, hk, rfl⟩)
      · exact h.hp.pm ad hq
      · have h3 : xs.length * ti.size ≤ c * ti.size := Nat.mul_le_mul_right _ (by omega)
        have hks : k < cur.size := by omega
        exact ⟨cur[k], by rw [cell_of_row w b k cur e (0, 0) hh, Array.getElem?_eq_getElem hks]⟩
    · intro b' hb'
      replace hb' : (if b' = b then some id else X.lab b') ≠ none := hb'
      split at hb'
      · rename_i e
        subst e
        exact ⟨hb, hlt⟩
      · exact h.hp.lab b' hb'
  refine h1.openBlock (id := id) hti hs0 hno (by show (if b = b then some id else X.lab b) = _; rw [if_pos rfl]) hh hb (fun k => ⟨fun hq => ?_, fun hk => .inr ⟨k, hk, rfl⟩⟩) hne hc hm hsz hx fun j x k d hj hk => ?_
  · rcases hq with hq | ⟨k', hk', e'⟩
    · exact absurd hq (hp k)
    · injection e' with _ e'
      omega
  · obtain ⟨v, k1, k2⟩ := hr j x k d hj hk
    exact ⟨v, k1, k2.mv fun _ hp => ⟨.inl hp, rfl⟩⟩

/-- An append of something to nothing, its elements open. -/
theorem append_open_nil {P : Program} {w0 : World} {X0 : Cx} {w : World} {X : Cx} {s : St} {a : Act} (h : SRel P w0 X0 w X s a) {t ty e : TypeId} {ti : TypeInfo} {z : Value} (id : Nat) {yx : AV} {ys : List (List Dat)} {v : Value}
    (ht : P.underlying t = some (.slice e)) (hti : P.info? e = some ti) (hz : ti.zero = some z) (hzs : z.cells.size = ti.size) (hs0 : 0 < ti.size) (hy : yx.elems = some ys) (hyx : VRel P w X yx v)
    (hyl : ∀ x ∈ ys, x.length = ti.size) (hlen : ys.length * ti.bytes ≤ 140737488355328) (hb0 : 0 < ti.bytes) (h0 : 0 < ys.length) :
    ∃ r w' X', (Builtin.append_ #[t, t] ty #[.slice none 0 0, v]).run P w = .ok r w' ∧ SRel P w0 X0 w' X' { s.dem id with heap := (s.dem id).heap ++ [(e, (ys.flatten).map .dat)] } a ∧ VRel P w' X' (.sl (s.dem id).heap.length e [] ys.length) r := by
  have hle : ys.length ≤ 140737488355328 := Nat.le_trans (Nat.le_mul_of_pos_right _ hb0) hlen
  obtain ⟨A, c, flat, rfl, hAc, hfl, hfr, hf1, hfc⟩ := dlist_flat (elems_rel hyx hy) hyl
  obtain ⟨ad, rfl, hcl⟩ := hfc h0
  obtain ⟨r, w', hrun, hown, hg, _, _⟩ := run_append_own_at (P := P) w w.heap.size t ty e ti z ti.size ti.bytes ht hti hz rfl rfl hzs hs0 _ 0 [] (World.ownsRow_nil _ _ _ _) ad ys.length c flat hfl hcl hf1 (by simp only [maxLen]; omega) (by simpa using hlen) (Nat.le_refl _)
  have hbw : Below w.heap.size w w' := ⟨hg.os, hg.tape, hg.output, hg.size, fun k hk => hg.block k hk (by simp [Value.ownBlock])⟩
  obtain ⟨_, hv⟩ := hown
  rcases hv with ⟨rfl, hz0⟩ | ⟨g, cap, cur, rfl, hgb, hh, hc, hm, hs, htk⟩
  · omega
  · rw [Nat.zero_add] at hc htk
    obtain ⟨f1, f2, f3⟩ := (h.dem id).fresh hgb
    obtain ⟨X', k1, k2⟩ := ((h.dem id).world hbw).openNew (c := cap) (xs := []) (ys := ys) id hti hs0 (St.dem_noOwn id s) f1 hh (h.le _ hgb) f2 f3 (by simpa using hc) hm hs (by simpa using hyl) (fun j x k d hj hk => by
      obtain ⟨q, hq, hdq⟩ := hfr j x k d (by simpa using hj) hk
      rw [List.nil_append] at htk
      rw [← htk, List.getElem?_take] at hq
      split at hq
      · exact ⟨q, by simpa using hq, hdq.mv fun ad hp => ⟨hp, hbw.cell (h.pmlt hp)⟩⟩
      · cases hq)
    exact ⟨_, w', X', hrun, k1, by simpa using k2⟩

theorem append_open {P : Program} {w0 : World} {X0 : Cx} {w : World} {X : Cx} {s : St} {a : Act} (h : SRel P w0 X0 w X s a) {t ty e : TypeId} {ti : TypeInfo} {z : Value} {d id : Nat} {bx yx : AV} {xs ys : List (List Dat)} {u v : Value}
    (ht : P.underlying t = some (.slice e)) (hti : P.info? e = some ti) (hz : ti.zero = some z) (hzs : z.cells.size = ti.size) (hs0 : 0 < ti.size) (hb : baseAv d e bx = some (id, xs)) (hbx : VRel P w X bx u) (hy : yx.elems = some ys) (hyx : VRel P w X yx v)
    (hyl : ∀ x ∈ ys, x.length = ti.size) (hlen : (xs.length + ys.length) * ti.bytes ≤ 140737488355328) (hb0 : 0 < ti.bytes) (h0 : 0 < ys.length) :
    ∃ r w' X', (Builtin.append_ #[t, t] ty #[u, v]).run P w = .ok r w' ∧ SRel P w0 X0 w' X' { s.dem id with heap := (s.dem id).heap ++ [(e, (ys.flatten).map .dat)] } a ∧ VRel P w' X' (.sl (s.dem id).heap.length e xs ys.length) r := by
  have hd := h.dem id
  have hle : xs.length + ys.length ≤ 140737488355328 := Nat.le_trans (Nat.le_mul_of_pos_right _ hb0) hlen
  cases hbx with
  | nils =>
    simp only [baseAv, Option.some.injEq, Prod.mk.injEq] at hb
    obtain ⟨rfl, rfl⟩ := hb
    exact append_open_nil h d ht hti hz hzs hs0 hy hyx hyl (by simpa using hlen) hb0 h0
  | ownNil id' e' =>
    simp only [baseAv] at hb
    cases he : e' == e with
    | false => rw [he] at hb; cases hb
    | true =>
      rw [he, cond_true, Option.some.injEq, Prod.mk.injEq] at hb
      obtain ⟨rfl, rfl⟩ := hb
      exact append_open_nil h id' ht hti hz hzs hs0 hy hyx hyl (by simpa using hlen) hb0 h0
  | own id' e' xs' b cp cur ti' hti' hbB hl hh hc hm hs hx hr hp =>
    simp only [baseAv] at hb
    cases he : e' == e with
    | false => rw [he] at hb; cases hb
    | true =>
      rw [he, cond_true, Option.some.injEq, Prod.mk.injEq] at hb
      obtain ⟨rfl, rfl⟩ := hb
      have he' : e' = e := by simpa using he
      subst he'
      obtain rfl : ti' = ti := by rw [hti'] at hti; exact Option.some.inj hti
      obtain ⟨A, c, flat, rfl, hAc, hfl, hfr, hf1, hfc⟩ := dlist_flat (elems_rel hyx hy) hyl
      obtain ⟨ad, rfl, hcl⟩ := hfc h0
      have hlt : b < w.heap.size := (Array.getElem?_eq_some_iff.1 hh).1
      have hcz : cur.toList.length = cur.size := by simp
      have hpre : xs'.length * ti'.size ≤ cur.size := by rw [hs]; exact Nat.mul_le_mul_right _ hc
      have hown : w.ownsRow 0 e' ti'.size (.slice (some ⟨b, 0, none⟩) xs'.length cp) xs'.length (cur.toList.take (xs'.length * ti'.size)) :=
        ⟨by rw [List.length_take]; omega, .inr ⟨b, cp, cur, rfl, Nat.zero_le _, hh, hc, hm, hs, rfl⟩⟩
      have hold : ∀ (j : Nat) (x : List Dat) (k : Nat) (d' : Dat), xs'[j]? = some x → x[k]? = some d' → j * ti'.size + k < xs'.length * ti'.size ∧ ∃ q, cur[j * ti'.size + k]? = some q ∧ DRel w X.Pm d' q := fun j x k d' hj hk => by
        have hjl := (List.getElem?_eq_some_iff.1 hj).1
        have hkl : k < ti'.size := by rw [← hx j x hj]; exact (List.getElem?_eq_some_iff.1 hk).1
        have h3 : j * ti'.size + ti'.size ≤ xs'.length * ti'.size := by rw [← Nat.succ_mul]; exact Nat.mul_le_mul_right _ hjl
        exact ⟨by omega, hr j x k d' hj hk⟩
      have both : ∀ (j : Nat) (x : List Dat) (k : Nat) (d' : Dat), (xs' ++ ys)[j]? = some x → x[k]? = some d' → ∃ q, (cur.toList.take (xs'.length * ti'.size) ++ flat)[j * ti'.size + k]? = some q ∧ DRel w X.Pm d' q := by
        intro j x k d' hj hk
        have htl : (cur.toList.take (xs'.length * ti'.size)).length = xs'.length * ti'.size := by rw [List.length_take]; omega
        rcases Nat.lt_or_ge j xs'.length with hjx | hjx
        · rw [List.getElem?_append_left hjx] at hj
          obtain ⟨h1, q, hq, hdq⟩ := hold j x k d' hj hk
          exact ⟨q, by rw [List.getElem?_append_left (by omega), List.getElem?_take, if_pos h1]; simpa using hq, hdq⟩
        · rw [List.getElem?_append_right hjx] at hj
          obtain ⟨i, rfl⟩ := Nat.exists_eq_add_of_le hjx
          rw [Nat.add_sub_cancel_left] at hj
          obtain ⟨q, hq, hdq⟩ := hfr i x k d' hj hk
          refine ⟨q, ?_, hdq⟩
          rw [Nat.add_mul, List.getElem?_append_right (by omega), htl, Nat.add_assoc, Nat.add_sub_cancel_left]
          exact hq
      have hall : ∀ x ∈ xs' ++ ys, x.length = ti'.size := fun x hxm => by
        rcases List.mem_append.1 hxm with hxm | hxm
        · obtain ⟨j, hj, rfl⟩ := List.mem_iff_getElem.1 hxm
          exact hx j _ (List.getElem?_eq_getElem hj)
        · exact hyl x hxm
      rcases Nat.lt_or_ge cp (xs'.length + ys.length) with hgrow | hroom
      · obtain ⟨r, w', hrun, hown', hg⟩ := run_append_arg_grows (P := P) w t ty e' ti' z ti'.size ti'.bytes ht hti' hz rfl rfl hzs hs0 ⟨b, 0, none⟩ xs'.length cp (cur.toList.take (xs'.length * ti'.size)) hown.1 (fun j u hu => by
          rw [List.getElem?_take] at hu
          split at hu
          · rw [add_plain, cell_of_row w b j cur e' (0, 0) hh]; simpa using hu
          · cases hu) ad ys.length c flat hfl hcl hgrow (by simp only [maxLen]; omega) hlen
        have hbw : Below w.heap.size w w' := ⟨hg.os, hg.tape, hg.output, hg.size, fun k hk => hg.block k hk (by simp)⟩
        obtain ⟨_, hv⟩ := hown'
        rcases hv with ⟨rfl, hz0⟩ | ⟨g, cap, cur', rfl, hgb, hh', hc', hm', hs', htk⟩
        · omega
        · obtain ⟨f1, f2, f3⟩ := hd.fresh hgb
          obtain ⟨X', k1, k2⟩ := (hd.world hbw).openNew (c := cap) (xs := xs') (ys := ys) id' hti' hs0 (St.dem_noOwn id' s) f1 hh' (h.le _ hgb) f2 f3 hc' hm' hs' hall (fun j x k d hj hk => by
            obtain ⟨q, hq, hdq⟩ := both j x k d hj hk
            rw [← htk, List.getElem?_take] at hq
            split at hq
            · exact ⟨q, by simpa using hq, hdq.mv fun ad hp => ⟨hp, hbw.cell (h.pmlt hp)⟩⟩
            · cases hq)
          exact ⟨_, w', X', hrun, k1, k2⟩
      · obtain ⟨w', hrun, hown', hg⟩ := run_append_fits (P := P) w 0 t ty e' ti' ti'.size ht hti' rfl b xs'.length cp _ hown ad ys.length c flat hfl hcl hf1 hroom
        obtain ⟨hl2, hv2⟩ := hown'
        rcases hv2 with ⟨hv2, _⟩ | ⟨g2, cap2, cur2, hv2, _, hh2, hc2, hm2, hs2, ht2⟩
        · cases hv2
        · simp only [Value.slice.injEq, Option.some.injEq, Addr.mk.injEq, and_true, true_and] at hv2
          obtain ⟨rfl, rfl⟩ := hv2
          have hoth : ∀ k, k < w.heap.size → k ≠ b → w'.heap[k]? = w.heap[k]? := fun k hk hne => hg.block k hk (by simp; exact hne)
          have hpc : ∀ ad, X.Pm ad → w'.cell? ad = w.cell? ad := by
            intro ad hpa
            by_cases hab : ad.block = b
            · obtain ⟨q, hq⟩ := h.hp.pm ad hpa
              have hsp : ad.spot = none := by
                unfold World.cell? at hq
                split at hq
                · by_cases hq' : ad.spot.isSome
                  · rw [if_pos hq'] at hq; cases hq
                  · simpa using hq'
                · cases hq
              have had : ad = ⟨b, ad.off, none⟩ := by cases ad; simp_all
              rw [had] at hpa ⊢
              have hk := (hp _).1 hpa
              rw [cell_of_row w' b _ cur2 e' (0, 0) hh2, cell_of_row w b _ cur e' (0, 0) hh]
              have h1 : (cur2.toList.take ((xs'.length + ys.length) * ti'.size))[ad.off]? = cur2[ad.off]? := by
                rw [List.getElem?_take, if_pos (by rw [Nat.add_mul]; omega)]; simp
              rw [← h1, ht2, List.getElem?_append_left (by rw [List.length_take]; omega), List.getElem?_take, if_pos hk]
              simp
            · exact World.cell?_of_block (hoth _ (h.pmlt hpa) hab)
          have hbw : Kept X.my w w' := ⟨hg.os, hg.tape, hg.output, hg.size, fun k hk => hoth k (Nat.lt_of_not_le fun hle => hk (h.le k hle)) (fun e => hk (e ▸ hbB))⟩
          have hnb : ∀ o T cs, (s.dem id').heap[o]? = some (T, cs) → cs ≠ [] → X.m o ≠ b := fun o T cs ho hn e => by have := (hd.hp.boxb o T cs ho hn).2.1; rw [e, hl] at this; cases this
          have hd' : SRel P w0 X0 w' X (s.dem id') a := by
            refine hd.movb (bad := some id') ⟨fun _ h => h, fun ad hpa => ⟨hpa, hpc ad hpa⟩, fun b' id2 hl' hne => ?_, Nat.le_refl _, fun _ _ => ⟨rfl, rfl, rfl⟩⟩ (fun i e => by injection e with e; subst e; exact St.dem_noOwn _ s) ⟨rfl, hbw, hg.size, fun ad hpa => ⟨hpa, hpc ad hpa⟩, Nat.le_refl _, fun _ _ => ⟨rfl, rfl, rfl⟩, fun _ _ => Iff.rfl⟩ rfl (fun o T cs ho hn => ⟨hoth _ (hd.hp.boxlt ho hn) (hnb o T cs ho hn), (hd.hp.boxb o T cs ho hn).2⟩) (fun ad hq => ?_) fun b' hb' => ?_
            · have hbb : b' ≠ b := fun e => by rw [e, hl] at hl'; injection hl' with hl'; exact hne (by rw [hl'])
              exact ⟨hl', hoth b' (h.hp.lab b' (by rw [hl']; simp)).2 hbb, fun j => Iff.rfl⟩
            · obtain ⟨q, hq'⟩ := h.hp.pm ad hq
              exact ⟨q, (hpc ad hq).trans hq'⟩
            · have := h.hp.lab b' hb'
              exact ⟨this.1, Nat.lt_of_lt_of_le this.2 hg.size⟩
          obtain ⟨X', k1, k2⟩ := hd'.openBlock (c := cp) (xs := xs') (ys := ys) (id := id') hti' hs0 (St.dem_noOwn id' s) hl hh2 hbB hp hnb hc2 hm2 hs2 hall (fun j x k d hj hk => by
            obtain ⟨q, hq, hdq⟩ := both j x k d hj hk
            rw [← ht2, List.getElem?_take] at hq
            split at hq
            · exact ⟨q, by simpa using hq, hdq.mv fun ad hp => ⟨hp, hpc ad hp⟩⟩
            · cases hq)
          exact ⟨_, w', X', hrun, k1, k2⟩
  | _ => cases hb
end Go.Proofs.YtdfcjodkmjofgaaGreat
