/-
  Slices over boxes: a new row that an append lays becomes a box; a box becomes an own slice again; boxes are forgotten.
-/
import Derived.Test.YtdfcjodkmjofgaaGreatOpen
namespace Go.Proofs.YtdfcjodkmjofgaaGreat
open Go.RowKit

/-- An append of something to a slice of capacity 0 does as one to nil. -/
theorem append_nil_run {P : Program} {w : World} {t ty e : TypeId} {ti : TypeInfo} (ht : P.underlying t = some (.slice e)) (hti : P.info? e = some ti) (A : Option Addr) {B : Option Addr} {n c : Nat} (h0 : 0 < n) (hb : n * ti.bytes ≤ 140737488355328) (hm : n ≤ 140737488355328) (hbp : 0 < ti.bytes) :
    (Builtin.append_ #[t, t] ty #[.slice A 0 0, .slice B n c]).run P w = (Builtin.append_ #[t, t] ty #[.slice none 0 0, .slice B n c]).run P w := by
  cases A with
  | none => rfl
  | some a =>
    have hn : ¬ n = 0 := by omega
    have hcap : Builtin.nextslicecap n 0 = n := by
      unfold Builtin.nextslicecap
      rw [if_pos (by omega)]
    have hno : ¬ 281474976710656 < Builtin.nextslicecap n 0 * ti.bytes := by rw [hcap]; omega
    have hbz : ¬ ti.bytes = 0 := by omega
    have hlc : ∀ w', (loadCells a 0).run P w' = .ok #[] w' := fun w' => by
      have := run_loadCells_list (P := P) w' a [] (fun j v hj => by simp at hj)
      simpa using this
    unfold Builtin.append_
    simp [run_underlying ht, run_sizeOf hti, run_typeInfo hti, Builtin.lenOf, Builtin.firstCells, hn, hno, hbz, hlc]

/-- What an append to a slice of capacity 0 leaves: a row of its own. -/
theorem append_emp {P : Program} {w : World} {X : Cx} {t ty e : TypeId} {ti : TypeInfo} {z : Value} {yx : AV} {ys : List (List Dat)} {u v : Value}
    (ht : P.underlying t = some (.slice e)) (hti : P.info? e = some ti) (hz : ti.zero = some z) (hzs : z.cells.size = ti.size) (hs0 : 0 < ti.size) (hbx : VRel P w X .emp u) (hy : yx.elems = some ys) (hyx : VRel P w X yx v)
    (hyl : ∀ x ∈ ys, x.length = ti.size) (hlen : ys.length * ti.bytes ≤ 140737488355328) (hb0 : 0 < ti.bytes) (h0 : 0 < ys.length) (hpm : ∀ a, X.Pm a → ∃ u, w.cell? a = some u) :
    ∃ b c cur w', (Builtin.append_ #[t, t] ty #[u, v]).run P w = .ok (.slice (some ⟨b, 0, none⟩) ys.length c) w' ∧ Below w.heap.size w w' ∧ w.heap.size ≤ b ∧ w'.heap[b]? = some (.cells cur e (0, 0)) ∧ ys.length ≤ c ∧ c ≤ maxLen ∧ cur.size = c * ti.size ∧
      ∀ (j : Nat) (x : List Dat) (k : Nat) (d : Dat), ys[j]? = some x → x[k]? = some d → ∃ q, cur[j * ti.size + k]? = some q ∧ DRel w' X.Pm d q := by
  have hle : ys.length ≤ 140737488355328 := Nat.le_trans (Nat.le_mul_of_pos_right _ hb0) hlen
  obtain ⟨A, c, flat, rfl, hAc, hfl, hfr, hf1, hfc⟩ := dlist_flat (elems_rel hyx hy) hyl
  obtain ⟨ad, rfl, hcl⟩ := hfc h0
  cases hbx with
  | emp A' =>
  obtain ⟨r, w', hrun, hown, hg, _, _⟩ := run_append_own_at (P := P) w w.heap.size t ty e ti z ti.size ti.bytes ht hti hz rfl rfl hzs hs0 _ 0 [] (World.ownsRow_nil _ _ _ _) ad ys.length c flat hfl hcl hf1 (by simp only [maxLen]; omega) (by simpa using hlen) (Nat.le_refl _)
  have hbw : Below w.heap.size w w' := ⟨hg.os, hg.tape, hg.output, hg.size, fun k hk => hg.block k hk (by simp [Value.ownBlock])⟩
  rw [← append_nil_run (w := w) (ty := ty) ht hti A' h0 hlen hle hb0] at hrun
  obtain ⟨_, hv⟩ := hown
  rcases hv with ⟨rfl, hz0⟩ | ⟨g, cap, cur, rfl, hgb, hh, hc, hm, hs, htk⟩
  · omega
  · simp only [Nat.zero_add] at hrun hc htk
    refine ⟨g, cap, cur, w', hrun, hbw, hgb, hh, hc, hm, hs, fun j x k d hj hk => ?_⟩
    obtain ⟨q, hq, hdq⟩ := hfr j x k d hj hk
    rw [List.nil_append] at htk
    rw [← htk, List.getElem?_take] at hq
    split at hq
    · refine ⟨q, by simpa using hq, hdq.mv fun ad hp => ⟨hp, hbw.cell ?_⟩⟩
      obtain ⟨u, hu⟩ := hpm ad hp
      exact World.block_lt_of_cell? w ad hu
    · cases hq

/-- A box is forgotten. -/
def St.drop (o : Nat) (s : St) : St := { s with heap := s.heap.modify o fun b => (b.1, []) }
theorem drop_get {H : List (TypeId × List AV)} {o p : Nat} {T : TypeId} {cs : List AV} (h : (H.modify o fun b => (b.1, []))[p]? = some (T, cs)) (hne : cs ≠ []) : H[p]? = some (T, cs) ∧ p ≠ o := by
  rw [List.getElem?_modify] at h
  split at h
  · rename_i e
    subst e
    simp only [Option.map_eq_map, Option.map_eq_some_iff, Prod.mk.injEq] at h
    obtain ⟨b, _, _, rfl⟩ := h
    exact absurd rfl hne
  · rename_i e
    simp at h
    exact ⟨h, fun e' => e e'.symm⟩
theorem HRel.drop {P : Program} {w : World} {X : Cx} {H : List (TypeId × List AV)} (h : HRel P w X H) (o : Nat) : HRel P w X (H.modify o fun b => (b.1, [])) :=
  ⟨by simp [h.n], h.le, fun p T cs hp hne => h.boxb p T cs (drop_get hp hne).1 hne, fun p T cs hp hne => h.box p T cs (drop_get hp hne).1 hne,
    fun p p' T T' cs cs' hp h1 hp' h2 e => h.inj p p' T T' cs cs' (drop_get hp h1).1 h1 (drop_get hp' h2).1 h2 e, h.pm, h.lab⟩
theorem SRel.drop {P : Program} {w0 : World} {X0 : Cx} {w : World} {X : Cx} {s : St} {a : Act} (h : SRel P w0 X0 w X s a) (o : Nat) : SRel P w0 X0 w X (s.drop o) a :=
  ⟨h.defers, h.size, h.slot, h.hp.drop o, h.po⟩

mutual
/-- Slices over box o become own slices; pointers into it are told of no more. -/
def AV.frz (o : Nat) (e : TypeId) (sz : Nat) (ds : List Dat) : AV → AV
  | .sl p e' xs n => bif p == o then (bif e' == e && n * sz == ds.length then .own (o + 1000000) e (xs ++ chunks sz n ds) else .top) else .sl p e' xs n
  | .ptr p k => .ptr p k
  | .agg cs => .agg (AV.frzL o e sz ds cs)
  | .tup cs => .tup (AV.frzL o e sz ds cs)
  | .fn f cs => .fn f (AV.frzL o e sz ds cs)
  | .own id e xs => .own id e xs
  | .top => .top
  | .dat d => .dat d
  | .nils => .nils
  | .nilp => .nilp
  | .rptr c => .rptr c
  | .emp => .emp
  | .anyb => .anyb
def AV.frzL (o : Nat) (e : TypeId) (sz : Nat) (ds : List Dat) : List AV → List AV
  | [] => []
  | a :: l => a.frz o e sz ds :: AV.frzL o e sz ds l
end
theorem AV.frzL_length (o : Nat) (e : TypeId) (sz : Nat) (ds : List Dat) : (l : List AV) → (AV.frzL o e sz ds l).length = l.length
  | [] => rfl
  | x :: l => by simp [AV.frzL, AV.frzL_length o e sz ds l]
theorem AV.frzL_get {o : Nat} {e : TypeId} {sz : Nat} {ds : List Dat} : {l : List AV} → {i : Nat} → {a : AV} → (AV.frzL o e sz ds l)[i]? = some a → ∃ x, l[i]? = some x ∧ a = x.frz o e sz ds
  | [], _, _, h => by simp [AV.frzL] at h
  | x :: l, 0, a, h => by simp [AV.frzL] at h; exact ⟨x, rfl, h.symm⟩
  | x :: l, i + 1, a, h => by simp [AV.frzL] at h; simpa using AV.frzL_get h
/-- Box o, a row of slices' elements, becomes a block of own slices. -/
def St.freeze (P : Program) (o : Nat) (s : St) : St :=
  match s.heap[o]? with
  | some (e, cs) => match P.info? e, datL cs with
    | some ti, some ds => bif cs.isEmpty then s else ⟨AV.frzL o e ti.size ds s.slots, (s.heap.modify o fun b => (b.1, [])).map fun b => (b.1, AV.frzL o e ti.size ds b.2)⟩
    | _, _ => s
  | none => s
theorem VRel.frz {P : Program} {w : World} {X X' : Cx} {o : Nat} {e : TypeId} {ti : TypeInfo} {ds : List Dat} (hm : Mov w X w X' none X.n)
    (hslv : ∀ xs n v, VRel P w X (.sl o e xs n) v → n * ti.size = ds.length → VRel P w X' (.own (o + 1000000) e (xs ++ chunks ti.size n ds)) v) : {a : AV} → {v : Value} → VRel P w X a v → VRel P w X' (a.frz o e ti.size ds) v
  | _, _, .top v => .top v
  | _, _, .dat d v hd => .dat d v (hd.mv hm.pm)
  | _, _, .nils => .nils
  | _, _, .ownNil i e => .ownNil i e
  | _, _, .own i e xs b c cur ti he hb hl hh hc hm' hs hx hr hp => VRel.mv hm (.own i e xs b c cur ti he hb hl hh hc hm' hs hx hr hp) (fun _ e => by cases e) rfl
  | _, _, .ptr p off ho => VRel.mv hm (.ptr p off ho) (fun _ e => by cases e) (VRel.bnd (P := P) (w := w) (.ptr p off ho))
  | _, _, .nilp => .nilp
  | _, _, .sl p e' xs n ti' he' ho hl hb hx hr => by
    simp only [AV.frz]
    cases hp : p == o with
    | false => exact VRel.mv hm (.sl p e' xs n ti' he' ho hl hb hx hr) (fun _ e => by cases e) (VRel.bnd (P := P) (w := w) (.sl p e' xs n ti' he' ho hl hb hx hr))
    | true =>
      have hp' : p = o := by simpa using hp
      subst hp'
      cases hq : (e' == e && n * ti.size == ds.length) with
      | false => exact .top _
      | true =>
        simp only [Bool.and_eq_true, beq_iff_eq] at hq
        obtain ⟨rfl, hq⟩ := hq
        exact hslv xs n _ (.sl p e' xs n ti' he' ho hl hb hx hr) hq
  | _, _, .emp A => .emp A
  | _, _, .anyb b => .anyb b
  | _, _, .rptr cells ad hc => VRel.mv hm (.rptr cells ad hc) (fun _ e => by cases e) rfl
  | _, _, .fn f caps vs hs hc => .fn f _ vs (by rw [AV.frzL_length]; exact hs) fun i c v hi hv => by
    obtain ⟨x, hx, rfl⟩ := AV.frzL_get hi
    exact VRel.frz hm hslv (hc i x v hx hv)
  | _, _, .agg caps vs hs hc => .agg _ vs (by rw [AV.frzL_length]; exact hs) fun i c v hi hv => by
    obtain ⟨x, hx, rfl⟩ := AV.frzL_get hi
    exact VRel.frz hm hslv (hc i x v hx hv)
  | _, _, .tup caps vs hs hc => .tup _ vs (by rw [AV.frzL_length]; exact hs) fun i c v hi hv => by
    obtain ⟨x, hx, rfl⟩ := AV.frzL_get hi
    exact VRel.frz hm hslv (hc i x v hx hv)

theorem SRel.freeze {P : Program} {w0 : World} {X0 : Cx} {w : World} {X : Cx} {s : St} {a : Act} (h : SRel P w0 X0 w X s a) (o : Nat) : ∃ X', SRel P w0 X0 w X' (s.freeze P o) a := by
  unfold St.freeze
  split
  · rename_i e cs hcs
    split
    · rename_i ti ds hti hds
      cases hemp : cs.isEmpty with
      | true => exact ⟨X, h⟩
      | false =>
        have hne : cs ≠ [] := by intro e; rw [e] at hemp; cases hemp
        obtain ⟨hbB, hbl, hbp⟩ := h.hp.boxb o e cs hcs hne
        obtain ⟨vs, hh, ⟨hsz, hcm, hcap⟩, hc⟩ := h.hp.box o e cs hcs hne
        have hvs := (hcap ti hti).1
        obtain ⟨hdl1, hdl2⟩ := datL_get hds
        let X' : Cx := { X with Pm := fun ad => X.Pm ad ∨ ∃ k, k < ds.length ∧ ad = ⟨X.m o, X.bo o + k, none⟩, lab := fun k => if k = X.m o then some (o + 1000000) else X.lab k }
        have hcells : ∀ k, k < ds.length → ∃ u, w.cell? ⟨X.m o, X.bo o + k, none⟩ = some u := fun k hk => by
          have hks : X.bo o + k < vs.size := by omega
          exact ⟨vs[X.bo o + k], by rw [cell_of_row w _ _ vs e (0, 0) hh, Array.getElem?_eq_getElem hks]⟩
        have hmv : Mov w X w X' none X.n := ⟨fun _ h => h, fun _ hp => ⟨.inl hp, rfl⟩, fun b id hl _ => by
          have hbb : b ≠ X.m o := fun e => by rw [e, hbl] at hl; cases hl
          refine ⟨by show (if b = X.m o then _ else X.lab b) = _; rw [if_neg hbb]; exact hl, rfl, fun j => ⟨fun hq => ?_, .inl⟩⟩
          rcases hq with hq | ⟨k, _, hk⟩
          · exact hq
          · injection hk with hk
            exact absurd hk hbb, Nat.le_refl _, fun _ _ => ⟨rfl, rfl, rfl⟩⟩
        have hslv : ∀ xs n v, VRel P w X (.sl o e xs n) v → n * ti.size = ds.length → VRel P w X' (.own (o + 1000000) e (xs ++ chunks ti.size n ds)) v := by
          intro xs n v hv hnd
          cases hv with
          | sl _ _ _ _ ti' he' ho hl hbo hxl hr =>
          rw [hti] at he'
          injection he' with he'
          subst he'
          have hcl := chunks_len ti.size n ds
          have hlen : (xs ++ chunks ti.size n ds).length = xs.length + n := by rw [List.length_append, hcl]
          have hmono : ∀ {d : Dat} {v : Value}, DRel w X.Pm d v → DRel w X'.Pm d v := fun hd => hd.mv fun _ hp => ⟨.inl hp, rfl⟩
          have := VRel.own (P := P) (w := w) (X := X') (o + 1000000) e (xs ++ chunks ti.size n ds) (X.m o) (X.cap o) vs ti hti hbB (by show (if X.m o = X.m o then _ else _) = _; rw [if_pos rfl]) hh (by rw [hlen]; exact hl) hcm hvs
            (fun j x hj => by
              rcases Nat.lt_or_ge j xs.length with hjx | hjx
              · rw [List.getElem?_append_left hjx] at hj
                exact hxl j x hj
              · rw [List.getElem?_append_right hjx] at hj
                exact (chunks_get _ _ _ _ _ hnd.symm hj).1) (fun j x k d hj hk => by
              rcases Nat.lt_or_ge j xs.length with hjx | hjx
              · rw [List.getElem?_append_left hjx] at hj
                obtain ⟨u, k1, k2, k3⟩ := hr j x k d hj hk
                rw [cell_of_row w _ _ vs e (0, 0) hh] at k2
                exact ⟨u, k2, hmono k3⟩
              · rw [List.getElem?_append_right hjx] at hj
                obtain ⟨i, rfl⟩ := Nat.exists_eq_add_of_le hjx
                rw [Nat.add_sub_cancel_left] at hj
                obtain ⟨hxl', hxk⟩ := chunks_get _ _ _ _ _ hnd.symm hj
                have hkl : k < ti.size := by rw [← hxl']; exact (List.getElem?_eq_some_iff.1 hk).1
                rw [hxk k hkl] at hk
                obtain ⟨c, hcc, hcd⟩ := hdl2 _ _ hk
                have hlt : X.bo o + (i * ti.size + k) < vs.size := by have := (List.getElem?_eq_some_iff.1 hcc).1; omega
                have e1 : (xs.length + i) * ti.size + k = X.bo o + (i * ti.size + k) := by rw [hbo, Nat.add_mul, Nat.add_assoc]
                rw [e1]
                exact ⟨vs[X.bo o + (i * ti.size + k)], Array.getElem?_eq_getElem hlt, hmono (dat1_rel (hc _ _ _ hcc (Array.getElem?_eq_getElem hlt)) hcd)⟩)
            (fun k => ⟨fun hq => by
              have e2 : (xs ++ chunks ti.size n ds).length * ti.size = X.bo o + ds.length := by rw [hlen, Nat.add_mul, hnd, hbo]
              rw [e2]
              rcases hq with hq | ⟨k', hk', e'⟩
              · have : ¬ X.bo o ≤ k := fun hle => hbp k hle hq
                omega
              · injection e' with _ e'
                omega, fun hk => by
              have e2 : (xs ++ chunks ti.size n ds).length * ti.size = X.bo o + ds.length := by rw [hlen, Nat.add_mul, hnd, hbo]
              rw [e2] at hk
              rcases Nat.lt_or_ge k (X.bo o) with hkb | hkb
              · rw [hbo] at hkb
                have hs0 : 0 < ti.size := by
                  rcases Nat.eq_zero_or_pos ti.size with hz | hz
                  · rw [hz] at hkb; omega
                  · exact hz
                have hj : k / ti.size < xs.length := Nat.div_lt_of_lt_mul (by rw [Nat.mul_comm]; exact hkb)
                have hxj : xs[k / ti.size]? = some xs[k / ti.size] := List.getElem?_eq_getElem hj
                have hkm : k % ti.size < (xs[k / ti.size]).length := by rw [hxl _ _ hxj]; exact Nat.mod_lt _ hs0
                obtain ⟨u, k1, _⟩ := hr _ _ _ _ hxj (List.getElem?_eq_getElem hkm)
                rw [Nat.div_add_mod'] at k1
                exact .inl k1
              · exact .inr ⟨k - X.bo o, by omega, by rw [Nat.add_sub_cancel' hkb]⟩⟩)
          rwa [hlen] at this
        have key : ∀ {p : Nat} {T : TypeId} {cs' : List AV}, ((s.heap.modify o fun b => (b.1, [])).map fun b => (b.1, AV.frzL o e ti.size ds b.2))[p]? = some (T, cs') → cs' ≠ [] → ∃ cs0, s.heap[p]? = some (T, cs0) ∧ cs' = AV.frzL o e ti.size ds cs0 ∧ cs0 ≠ [] ∧ p ≠ o := by
          intro p T cs' hp hn
          rw [List.getElem?_map, Option.map_eq_some_iff] at hp
          obtain ⟨⟨T', cs0⟩, hp, e'⟩ := hp
          simp only [Prod.mk.injEq] at e'
          obtain ⟨rfl, rfl⟩ := e'
          have hn0 : cs0 ≠ [] := fun e => hn (by rw [e]; rfl)
          exact ⟨cs0, (drop_get hp hn0).1, rfl, hn0, (drop_get hp hn0).2⟩
        refine ⟨X', h.defers, by simp [AV.frzL_length, h.size], fun i c v hi hv => ?_, ⟨by simp [X', h.hp.n], h.le, fun p T cs' hp hn => ?_, fun p T cs' hp hn => ?_, fun p p' T T' c1 c2 hp h1 hp' h2 e' => ?_, fun ad hp => ?_, fun b hb => ?_⟩, h.po.trans ⟨rfl, Kept.refl _ _, Nat.le_refl _, fun _ hp => ⟨.inl hp, rfl⟩, Nat.le_refl _, fun _ _ => ⟨rfl, rfl, rfl⟩, fun ad ha => ⟨fun hq => ?_, .inl⟩⟩⟩
        · obtain ⟨x, hx, rfl⟩ := AV.frzL_get hi
          exact VRel.frz hmv hslv (h.slot i x v hx hv)
        · obtain ⟨cs0, h1, rfl, h2, hpo⟩ := key hp hn
          obtain ⟨k1, k2, k3⟩ := h.hp.boxb p T cs0 h1 h2
          have hmo : X.m p ≠ X.m o := fun e' => hpo (h.hp.inj p o T e cs0 cs h1 h2 hcs hne e')
          refine ⟨k1, by show (if X.m p = X.m o then _ else _) = _; rw [if_neg hmo]; exact k2, fun i hle hq => ?_⟩
          rcases hq with hq | ⟨k, _, hk⟩
          · exact k3 i hle hq
          · injection hk with hk
            exact hmo hk
        · obtain ⟨cs0, h1, rfl, h2, hpo⟩ := key hp hn
          obtain ⟨vs', k1, k2, k3⟩ := h.hp.box p T cs0 h1 h2
          exact ⟨vs', k1, by rw [AV.frzL_length]; exact k2, fun i c v hi hv => by
            obtain ⟨x, hx, rfl⟩ := AV.frzL_get hi
            exact VRel.frz hmv hslv (k3 i x v hx hv)⟩
        · obtain ⟨c3, k1, _, k2, _⟩ := key hp h1
          obtain ⟨c4, k3, _, k4, _⟩ := key hp' h2
          exact h.hp.inj p p' T T' c3 c4 k1 k2 k3 k4 e'
        · rcases hp with hp | ⟨k, hk, rfl⟩
          · exact h.hp.pm ad hp
          · exact hcells k hk
        · replace hb : (if b = X.m o then some (o + 1000000) else X.lab b) ≠ none := hb
          split at hb
          · rename_i e'
            subst e'
            exact ⟨hbB, (Array.getElem?_eq_some_iff.1 hh).1⟩
          · exact h.hp.lab b hb
        · rcases hq with hq | ⟨k, _, rfl⟩
          · exact hq
          · exact absurd hbB ha
    · exact ⟨X, h⟩
  · exact ⟨X, h⟩
end Go.Proofs.YtdfcjodkmjofgaaGreat
