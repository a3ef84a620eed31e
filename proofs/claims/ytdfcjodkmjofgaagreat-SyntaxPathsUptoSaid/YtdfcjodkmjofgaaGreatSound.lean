/-
  The calculus over abstract states is sound: a body that it shows does so in memory; a function's calls by its body.
-/
import Derived.Test.YtdfcjodkmjofgaaGreatAwp
namespace Go.Proofs.YtdfcjodkmjofgaaGreat
open Go.RowKit

section
variable {P : Program} {w0 : World} {X0 : Cx} {w : World} {X : Cx} {s : St} {a : Act} {o : Oper}

theorem parts_rel (h : SRel P w0 X0 w X s a) (parts : Array (Nat × Operand)) : (partsAv s parts).length = (parts.map fun (x : Nat × Operand) => (x.1, a.eval x.2)).size ∧
    ∀ (k : Nat) (i : Nat) (c : AV) (j : Nat) (v : Value), (partsAv s parts)[k]? = some (i, c) → (parts.map fun (x : Nat × Operand) => (x.1, a.eval x.2))[k]? = some (j, v) → i = j ∧ VRel P w X c v := by
  refine ⟨by simp [partsAv], fun k i c j v hk hv => ?_⟩
  simp only [partsAv, List.getElem?_map, Array.getElem?_toList, Option.map_eq_some_iff] at hk
  rw [Array.getElem?_map, Option.map_eq_some_iff] at hv
  obtain ⟨x, hx, e⟩ := hk
  obtain ⟨y, hy, e'⟩ := hv
  rw [hx] at hy
  injection hy with hy
  subst hy
  simp only [Prod.mk.injEq] at e e'
  obtain ⟨rfl, rfl⟩ := e
  obtain ⟨rfl, rfl⟩ := e'
  exact ⟨rfl, h.ev _⟩

theorem wp_value {N : Act → World → Prop} {Q : Exit → Act → World → Prop} {v : Value} {w' : World} (hr : (execOp a.eval o).run P w = .ok (.value v) w') (h : N (a.put o.dst v) w') : o.wp P a w N Q := by
  unfold Oper.wp
  rw [hr]
  exact h

theorem bs_cells {t : TypeId} {e : TypeId} {len : Nat} {xs : List (List Dat)} {pa : List (Nat × AV)} {pc : Array (Nat × Value)} (h : buildSliceAv P t len pa = some (e, xs))
    (hp : pa.length = pc.size ∧ ∀ (k : Nat) (i : Nat) (c : AV) (j : Nat) (v : Value), pa[k]? = some (i, c) → pc[k]? = some (j, v) → i = j ∧ VRel P w X c v) :
    ∃ cells ti, P.info? e = some ti ∧ xs.length = len ∧ cells.size = len * ti.size ∧ (∀ (j : Nat) (x : List Dat), xs[j]? = some x → x.length = ti.size) ∧
      (∀ (j : Nat) (x : List Dat) (k : Nat) (d : Dat), xs[j]? = some x → x[k]? = some d → ∃ v, cells[j * ti.size + k]? = some v ∧ DRel w X.Pm d v) ∧ len ≤ 16777216 ∧
      ∀ w', (Instr.buildSlice t len pc).run P w' = .ok (.slice (some ⟨w'.heap.size, 0, none⟩) len len) (w'.alloc (.cells cells e)) := by
  unfold buildSliceAv at h
  split at h
  · rename_i e' he
    split at h
    · rename_i ti hti
      split at h
      · rename_i z hz
        split at h
        · rename_i zc hzc
          cases hb : (Nat.ble (len * ti.size) 16777216 && !(ti.size == 0)) with
          | false => rw [hb] at h; cases h
          | true =>
            rw [hb, cond_true] at h
            simp only [Bool.and_eq_true, Nat.ble_eq, Bool.not_eq_true', beq_eq_false_iff_ne] at hb
            split at h
            · rename_i ds hds
              injection h with h
              injection h with h1 h2
              subst h1 h2
              rw [Option.bind_eq_some_iff] at hds
              obtain ⟨r, hr, hdl⟩ := hds
              obtain ⟨hzs, hzr⟩ := zcells_rel (P := P) (w := w) (X := X) hzc
              have hcells : Cells P w X ((List.range (len * ti.size)).map fun k => zc.getD (k % z.cells.size) .top) ((Array.range (len * ti.size)).map (z.cells[· % z.cells.size]!)) := by
                refine ⟨by simp, fun k c v hk hv => ?_⟩
                rw [List.getElem?_map, Option.map_eq_some_iff] at hk
                rw [Array.getElem?_map, Option.map_eq_some_iff] at hv
                obtain ⟨k1, hk1, rfl⟩ := hk
                obtain ⟨k2, hk2, rfl⟩ := hv
                have e1 : k1 = k := by have := (List.getElem?_eq_some_iff.1 hk1).2; simpa using this.symm
                have e2 : k2 = k := by have := (Array.getElem?_eq_some_iff.1 hk2).2; simpa using this.symm
                rw [e1, e2]
                by_cases hlt : k % z.cells.size < z.cells.size
                · have hlt' : k % z.cells.size < zc.length := by rw [← hzs]; exact hlt
                  rw [List.getD_eq_getElem?_getD, List.getElem?_eq_getElem hlt', Option.getD_some, getElem!_pos z.cells _ hlt]
                  exact hzr _ _ _ (List.getElem?_eq_getElem hlt') (Array.getElem?_eq_getElem hlt)
                · rw [List.getD_eq_getElem?_getD, List.getElem?_eq_none (by rw [← hzs]; omega)]
                  exact .top _
              obtain ⟨rc, hfill, hrc⟩ := fill_rel pa pc.toList _ r _ hcells ⟨by simpa using hp.1, fun k i c j v hk hv => hp.2 k i c j v hk (by simpa using hv)⟩ hr
              obtain ⟨hdl1, hdl2⟩ := datL_get hdl
              have hrl : ∀ (pa : List (Nat × AV)) (cs r : List AV), afill (fun i => some (i * ti.size, ti.size)) cs pa = some r → r.length = cs.length := by
                intro pa
                induction pa with
                | nil => intro cs r h; simp only [afill, Option.some.injEq] at h; rw [h]
                | cons p pa ih =>
                  intro cs r h
                  obtain ⟨i, c⟩ := p
                  simp only [afill] at h
                  split at h
                  · rename_i off size vc hpl hvc
                    cases hbb : (vc.length == size && Nat.ble (off + vc.length) cs.length) with
                    | false => rw [hbb] at h; cases h
                    | true =>
                      rw [hbb, cond_true] at h
                      simp only [Bool.and_eq_true, Nat.ble_eq] at hbb
                      rw [ih _ _ h]
                      simp
                      omega
                  · cases h
              have hlen : ds.length = len * ti.size := by rw [hdl1, hrl _ _ _ hr]; simp
              refine ⟨rc, ti, hti, chunks_len _ _ _, by rw [hrc.1, ← hdl1, hlen], fun j x hj => (chunks_get _ _ _ _ _ hlen hj).1, fun j x k d hj hk => ?_, ?_, fun w' => ?_⟩
              · obtain ⟨hxl, hxk⟩ := chunks_get _ _ _ _ _ hlen hj
                have hkl : k < ti.size := by rw [← hxl]; exact (List.getElem?_eq_some_iff.1 hk).1
                rw [hxk k hkl] at hk
                obtain ⟨c, hc, hcd⟩ := hdl2 _ _ hk
                have hlt : j * ti.size + k < rc.size := by rw [hrc.1]; exact (List.getElem?_eq_some_iff.1 hc).1
                exact ⟨rc[j * ti.size + k], Array.getElem?_eq_getElem hlt, dat1_rel (hrc.2 _ _ _ hc (Array.getElem?_eq_getElem hlt)) hcd⟩
              · exact Nat.le_trans (Nat.le_mul_of_pos_right _ (by omega)) hb.1
              · have hnot : ¬ len * ti.size > 2 ^ 24 := by have := hb.1; omega
                unfold Instr.buildSlice
                simp only [Sem.run_bind, run_underlying he, Result.andThen_ok, run_sizeOf hti]
                rw [if_neg hnot]
                by_cases h0 : len * ti.size = 0
                · rw [if_pos h0]
                  have hc0 : (Array.range (len * ti.size)).map (fun x => (#[] : Array Value)[x % (#[] : Array Value).size]!) = (Array.range (len * ti.size)).map (z.cells[· % z.cells.size]!) := by simp [h0]
                  simp only [Sem.run_bind, Sem.run_pure, Result.andThen_ok]
                  rw [hc0, hfill]
                  simp [newRow]
                · rw [if_neg h0]
                  simp only [Sem.run_bind, zeroValue, run_typeInfo hti, hz, Sem.run_pure, Result.andThen_ok, hfill]
                  simp [newRow]
            · cases h
        · cases h
      · cases h
    · cases h
  · cases h

theorem call_run {f : Operand} {args : Array Operand} {tys : Array TypeId} {g : FuncId} {l : List AV} (hs : SRel P w0 X0 w X s a) (ho : o.op = .call { callee := .value f, args := args, argTypes := tys }) (h : callAv s f args.toList = some (g, l)) {K : AV → Prop} (hc : CRet P g l K) :
    ∃ vs, (∀ w', Below w.heap.size w w' → Cells P w' (Cx.fresh w'.heap.size X.Pm) l vs) ∧ ∀ w', (execOp a.eval o).run P w' = .ok (.enter g vs) w' := by
  unfold callAv at h
  split at h
  · rename_i g' caps hf
    rw [Option.map_eq_some_iff] at h
    obtain ⟨l', hl', e⟩ := h
    injection e with e1 e2
    subst e1 e2
    have hfv := hs.ev f
    rw [hf] at hfv
    generalize hfe : a.eval f = fv at hfv
    cases hfv with
    | fn _ _ us hus huc =>
    refine ⟨args.map a.eval ++ us, fun w' hb => ?_, fun w' => ?_⟩
    · obtain ⟨h1, h2⟩ := AV.shL_get hl'
      refine ⟨by simp [h1, hus], fun i c v hi hv => ?_⟩
      obtain ⟨x, hx, hsh⟩ := h2 hi
      have hxv : VRel P w X x v := by
        rw [List.getElem?_append] at hx
        rw [Array.getElem?_append] at hv
        simp only [List.length_map, Array.length_toList, Array.size_map] at hx hv
        split at hx
        · rename_i hlt
          rw [if_pos hlt] at hv
          rw [List.getElem?_map, Array.getElem?_toList, Option.map_eq_some_iff] at hx
          rw [Array.getElem?_map, Option.map_eq_some_iff] at hv
          obtain ⟨y, hy, rfl⟩ := hx
          obtain ⟨y', hy', rfl⟩ := hv
          rw [hy] at hy'
          injection hy' with hy'
          subst hy'
          exact hs.ev y
        · rename_i hlt
          rw [if_neg hlt] at hv
          exact huc _ _ _ hx hv
      have hw : VRel P w' X x v := VRel.mv (bad := none) (k := X.n) ⟨fun _ h => h, fun ad hp => ⟨hp, hb.cell (hs.pmlt hp)⟩, fun b id hl _ => ⟨hl, hb.block b (hs.hp.lab b (by rw [hl]; simp)).2, fun _ => Iff.rfl⟩, Nat.le_refl _, fun _ _ => ⟨rfl, rfl, rfl⟩⟩ hxv (fun _ e => by cases e) hxv.bnd
      exact VRel.sh (X := X) (X' := Cx.fresh w'.heap.size X.Pm) rfl hw hsh
    · obtain ⟨fn, h1, h2, h3⟩ := hc.en
      have h2' : ¬ fn.name = "runtime.NumGoroutine" := by simpa using h2
      have h3' : ¬ fn.body = none := by intro e; rw [e] at h3; cases h3
      simp [execOp, ho, resolve, hfe, Deferred.ofValue, invoke, callFunc, h1, h2', h3']
  · cases h

/-- What a call leaves, told in the caller's state. -/
theorem call_back (hs : SRel P w0 X0 w X s a) {w' : World} {X' : Cx} {r : AV} {v : Value} (hb : Below w.heap.size w w')
    (hX : X'.my = (fun b => w.heap.size ≤ b) ∧ (∀ a, X'.Pm a → ∃ u, w'.cell? a = some u) ∧ (∀ a, a.block < w.heap.size → (X'.Pm a ↔ X.Pm a)) ∧ ∀ b, X'.lab b ≠ none → w.heap.size ≤ b ∧ b < w'.heap.size)
    (hr : VRel P w' X' r v) (hbn : r.bnd 0 = true) : ∃ X2, SRel P w0 X0 w' X2 s a ∧ VRel P w' X2 r v := by
  obtain ⟨hB, hpm, hpi, hlab⟩ := hX
  have hle := hs.le
  refine ⟨{ X with Pm := X'.Pm, lab := fun b => if b < w.heap.size then X.lab b else X'.lab b }, ?_, ?_⟩
  · have hkp : ∀ ad, X.Pm ad → X'.Pm ad ∧ w'.cell? ad = w.cell? ad := fun ad hp => ⟨(hpi ad (hs.pmlt hp)).2 hp, hb.cell (hs.pmlt hp)⟩
    refine hs.mov ⟨fun _ h => h, hkp, fun b id hl _ => ?_, Nat.le_refl _, fun _ _ => ⟨rfl, rfl, rfl⟩⟩ ⟨rfl, keptOf hb hle, hb.size, hkp, Nat.le_refl _, fun _ _ => ⟨rfl, rfl, rfl⟩, fun ad ha => hpi ad (Nat.lt_of_not_le fun h => ha (hle _ h))⟩ rfl (fun o T cs ho hne => ⟨hb.block _ (hs.hp.boxlt ho hne), ?_, ?_⟩) hpm ?_
    · have hlt := (hs.hp.lab b (by rw [hl]; simp)).2
      exact ⟨by simp only; rw [if_pos hlt]; exact hl, hb.block b hlt, fun j => hpi _ hlt⟩
    · simp only
      rw [if_pos (hs.hp.boxlt ho hne)]
      exact (hs.hp.boxb o T cs ho hne).2.1
    · intro i hle hp
      exact (hs.hp.boxb o T cs ho hne).2.2 i hle ((hpi _ (hs.hp.boxlt ho hne)).1 hp)
    · intro b hl
      simp only at hl
      split at hl
      · have := hs.hp.lab b hl
        exact ⟨this.1, Nat.lt_of_lt_of_le this.2 hb.size⟩
      · have := hlab b hl
        exact ⟨hle b this.1, this.2⟩
  · have hmv : Mov w' X' w' { X with Pm := X'.Pm, lab := fun b => if b < w.heap.size then X.lab b else X'.lab b } none 0 := by
      refine ⟨fun b hb => hle b (by rw [hB] at hb; exact hb), fun ad hp => ⟨hp, rfl⟩, fun b id hl _ => ?_, Nat.zero_le _, fun o ho => by omega⟩
      have := (hlab b (by rw [hl]; simp)).1
      exact ⟨by simp only; rw [if_neg (by omega)]; exact hl, rfl, fun _ => Iff.rfl⟩
    exact VRel.mv hmv hr (fun _ e => by cases e) hbn
end
end Go.Proofs.YtdfcjodkmjofgaaGreat
