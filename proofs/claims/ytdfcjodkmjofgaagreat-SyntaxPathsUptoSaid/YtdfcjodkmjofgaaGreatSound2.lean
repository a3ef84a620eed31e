/-
  The calculus over abstract states is sound: operations, regions, bodies, calls.
-/
import Derived.Test.YtdfcjodkmjofgaaGreatSound
namespace Go.Proofs.YtdfcjodkmjofgaaGreat
open Go.RowKit

section
variable {P : Program} {w0 : World} {X0 : Cx} {w : World} {X : Cx} {s : St} {a : Act} {o : Oper}

/-- What a step leaves is told by a state of K. -/
def Told (P : Program) (w0 : World) (X0 : Cx) (K : St → Prop) (a : Act) (w : World) : Prop := ∃ s X, K s ∧ SRel P w0 X0 w X s a

theorem box_step (hs : SRel P w0 X0 w X s a) {v : Value} {cs : List AV} {e : TypeId} {ti : TypeInfo} {K : St → Prop} {N : Act → World → Prop} {Q : Exit → Act → World → Prop} (hcr : v.cells.size = cs.length ∧ ∀ (i : Nat) (c : AV) (u : Value), cs[i]? = some c → v.cells[i]? = some u → VRel P w X c u) (hti : P.info? e = some ti) (hl : cs.length = ti.size)
    (hr : (execOp a.eval o).run P w = .ok (.value (.pointer (some ⟨w.heap.size, 0, none⟩))) (w.alloc (.cells v.cells e)))
    (hk : K (St.put { s with heap := s.heap ++ [(e, cs)] } o.dst (.ptr s.heap.length 0))) (hN : ∀ a' w', Told P w0 X0 K a' w' → N a' w') : o.wp P a w N Q := by
  have h1 := hs.alloc (.cells v.cells e)
  have hf := hs.fresh (b := w.heap.size) (Nat.le_refl _)
  have hv' : ∀ {c : AV} {v' : Value}, VRel P w X c v' → VRel P (w.alloc (.cells v.cells e)) X c v' := fun hv => VRel.mv (bad := none) (k := X.n) ⟨fun _ h => h, fun ad hp => ⟨hp, ((Below.refl _ _).alloc (Nat.le_refl _) _).cell (hs.pmlt hp)⟩, fun b id hl _ => ⟨hl, ((Below.refl _ _).alloc (Nat.le_refl _) _).block b (hs.hp.lab b (by rw [hl]; simp)).2, fun _ => Iff.rfl⟩, Nat.le_refl _, fun _ _ => ⟨rfl, rfl, rfl⟩⟩ hv (fun _ e => by cases e) hv.bnd
  obtain ⟨hsz, hcr⟩ := hcr
  obtain ⟨h2, _, hn, hm, _, hbo, _⟩ := h1.push (cap := 1) (bo := 0) (heap_alloc_new w _) (hs.le _ (Nat.le_refl _)) hf.1 (fun i _ => hf.2.1 i) hf.2.2 ⟨by rw [hsz, Nat.zero_add]; exact Nat.le_refl _, by simp only [maxLen]; omega, fun ti' hti' => by rw [hti] at hti'; injection hti' with hti'; subst hti'; exact ⟨by rw [hsz, hl, Nat.one_mul], Nat.dvd_zero _⟩⟩ (fun i c u hi hu => hv' (hcr i c u hi (by rw [Nat.zero_add] at hu; exact hu)))
  have h3 := VRel.ptr (P := P) (w := w.alloc (.cells v.cells e)) (X := X.push w.heap.size 1 0) s.heap.length 0 (by rw [hn]; exact Nat.lt_succ_self _)
  rw [hm, hbo] at h3
  exact wp_value hr (hN _ _ ⟨_, _, hk, h2.put o.dst h3⟩)

theorem append_zero_run {P : Program} {w : World} {t ty e : TypeId} {ti : TypeInfo} (ht : P.underlying t = some (.slice e)) (hti : P.info? e = some ti) (A B : Option Addr) (c : Nat) :
    (Builtin.append_ #[t, t] ty #[.slice A 0 0, .slice B 0 c]).run P w = .ok (.slice A 0 0) w := by
  have hlc : ∀ (a : Addr) w', (loadCells a 0).run P w' = .ok #[] w' := fun a w' => by
    have := run_loadCells_list (P := P) w' a [] (fun j v hj => by simp at hj)
    simpa using this
  unfold Builtin.append_
  cases A <;> cases B <;> simp [run_underlying ht, run_sizeOf hti, run_typeInfo hti, Builtin.lenOf, Builtin.firstCells, hlc, storeCells]

theorem full_run {f : Operand} {args : Array Operand} {tys : Array TypeId} {g : FuncId} {l : List AV} (hs : SRel P w0 X0 w X s a) (ho : o.op = .call { callee := .value f, args := args, argTypes := tys }) (h : callFull s f args.toList = some (g, l))
    (hen : ∃ fn, P.funcs[g]? = some fn ∧ (fn.name == "runtime.NumGoroutine") = false ∧ fn.body.isNone = false) : ∃ vs, Cells P w X l vs ∧ (execOp a.eval o).run P w = .ok (.enter g vs) w := by
  unfold callFull at h
  split at h
  · rename_i g' caps hf
    simp only [Option.some.injEq, Prod.mk.injEq] at h
    obtain ⟨rfl, rfl⟩ := h
    have hfv := hs.ev f
    rw [hf] at hfv
    generalize hfe : a.eval f = fv at hfv
    cases hfv with
    | fn _ _ us hus huc =>
    refine ⟨args.map a.eval ++ us, ⟨by simp [AV.demAL_length, hus], fun i c v hi hv => ?_⟩, ?_⟩
    · obtain ⟨x, hx, rfl⟩ := AV.demAL_get hi
      refine VRel.demA (fun _ hp => ⟨hp, rfl⟩) (Nat.le_refl _) (fun _ _ => ⟨rfl, rfl, rfl⟩) ?_
      rw [List.getElem?_append] at hx
      rw [Array.getElem?_append] at hv
      simp only [List.length_map, Array.length_toList, Array.size_map] at hx hv
      split at hx
      · rename_i hlt
        rw [if_pos hlt] at hv
        rw [List.getElem?_map, Array.getElem?_toList, Option.map_eq_some_iff] at hx
        rw [Array.getElem?_map, Option.map_eq_some_iff] at hv
        obtain ⟨y, hy, rfl⟩ := hx
        obtain ⟨y', hy', rfl⟩ := hv
        rw [hy] at hy'
        injection hy' with hy'
        subst hy'
        exact hs.ev y
      · rename_i hlt
        rw [if_neg hlt] at hv
        exact huc _ _ _ hx hv
    · obtain ⟨fn, h1, h2, h3⟩ := hen
      have h2' : ¬ fn.name = "runtime.NumGoroutine" := by simpa using h2
      have h3' : ¬ fn.body = none := by intro e; rw [e] at h3; cases h3
      simp [execOp, ho, resolve, hfe, Deferred.ofValue, invoke, callFunc, h1, h2', h3']
  · cases h

theorem astep_sound (hs : SRel P w0 X0 w X s a) {K : St → Prop} {N : Act → World → Prop} {Q : Exit → Act → World → Prop} (h : astep P o s K) (hN : ∀ a' w', Told P w0 X0 K a' w' → N a' w') : o.wp P a w N Q := by
  unfold astep at h
  split at h
  · rename_i v hv
    obtain ⟨u, hu, hy⟩ := aval_sound hs hv
    exact wp_value (hy w (Below.refl _ _)) (hN _ _ ⟨_, X, h, hs.put o.dst hu⟩)
  · split at h
    · rename_i e x ho
      split at h
      · rename_i cs ti hcs hti
        exact box_step (e := e) hs (cells_rel (hs.ev x) hcs) hti h.1 (by simp [execOp, ho, Instr.box, newVar, newRow]) h.2 hN
      · cases h
    · rename_i e ho
      split at h
      · rename_i ti hti
        split at h
        · rename_i z hz
          split at h
          · rename_i cs hcs
            exact box_step (e := e) hs (zcells_rel hcs) hti h.1 (by simp [execOp, ho, Instr.alloc, zeroValue, run_typeInfo hti, hz, newVar, newRow]) h.2 hN
          · cases h
        · cases h
      · cases h
    · rename_i t x v ho
      split at h
      · rename_i b k vc ti hx hvc hti
        split at h
        · rename_i T cs hcs
          obtain ⟨hok, h⟩ := h
          simp only [Bool.and_eq_true, beq_iff_eq, Nat.ble_eq, Nat.blt_eq] at hok
          obtain ⟨⟨⟨hone, hlen⟩, hle⟩, hpos⟩ := hok
          have hcne : cs ≠ [] := by intro e; rw [e] at hle; simp only [List.length_nil] at hle; omega
          have hxv := hs.ev x
          rw [hx] at hxv
          generalize hxe : a.eval x = xv at hxv
          cases hxv with
          | ptr _ _ hb =>
          obtain ⟨hsz, hcr⟩ := cells_rel (hs.ev v) hvc
          obtain ⟨vs, hh, ⟨hvs, _⟩, hvr⟩ := hs.hp.box b T cs hcs hcne
          have h1c : ∀ u ∈ (a.eval v).cells.toList, u.oneCell' = true := by
            intro u hu
            obtain ⟨i, hi, rfl⟩ := List.mem_iff_getElem.1 hu
            have hi' : i < vc.length := by rw [← hsz]; simpa using hi
            have := hcr i vc[i] (a.eval v).cells[i] (List.getElem?_eq_getElem hi') (Array.getElem?_eq_getElem (by simpa using hi))
            simpa using one_rel this (List.all_eq_true.1 hone _ (List.getElem_mem hi'))
          have hlv : (a.eval v).cells.toList.length = vc.length := by rw [Array.length_toList, hsz]
          have hst := run_storeCells_at P (X.m b) (X.bo b + k) T (a.eval v).cells.toList 0 vs w hh (by rw [hlv]; simp only [Nat.add_zero]; omega) h1c
          have hrun : (execOp a.eval o).run P w = .ok .skip (w.setRow (X.m b) (vs.toList.take (X.bo b + k) ++ (a.eval v).cells.toList ++ vs.toList.drop (X.bo b + k + (a.eval v).cells.toList.length)).toArray) := by
            have hsz' : ¬ (a.eval v).cells.size ≠ ti.size := by rw [hsz, hlen]; simp
            simp only [Nat.add_zero] at hst
            simp [execOp, ho, hxe, Instr.storeAt, Instr.sureAddr, storeVar, run_sizeOf hti, hsz', hst]
          have hnew := hs.store (o := b) (cs' := cs.take k ++ vc ++ cs.drop (k + vc.length)) (vs' := (vs.toList.take (X.bo b + k) ++ (a.eval v).cells.toList ++ vs.toList.drop (X.bo b + k + (a.eval v).cells.toList.length)).toArray) hcs hcne hh
            (by simp [hlv] <;> omega) (fun i c u hi hu => by
              rw [List.getElem?_toArray, hlv] at hu
              have htk : (cs.take k).length = k := by simp; omega
              have htk' : (vs.toList.take (X.bo b + k)).length = X.bo b + k := by simp; omega
              by_cases h1 : i < k
              · rw [List.append_assoc, List.getElem?_append_left (by omega), List.getElem?_take, if_pos h1] at hi
                rw [List.append_assoc, List.getElem?_append_left (by omega), List.getElem?_take, if_pos (by omega)] at hu
                exact hvr i c u hi (by simpa using hu)
              · by_cases h2 : i < k + vc.length
                · rw [List.append_assoc, List.getElem?_append_right (by omega), List.getElem?_append_left (by omega)] at hi
                  rw [List.append_assoc, List.getElem?_append_right (by omega), List.getElem?_append_left (by omega)] at hu
                  rw [htk] at hi
                  rw [htk', show X.bo b + i - (X.bo b + k) = i - k by omega] at hu
                  exact hcr _ c u hi (by simpa using hu)
                · rw [List.getElem?_append_right (by simp; omega), List.getElem?_drop] at hi
                  rw [List.getElem?_append_right (by simp [hlv]; omega), List.getElem?_drop] at hu
                  have e1 : k + vc.length + (i - (cs.take k ++ vc).length) = i := by simp; omega
                  have e2 : X.bo b + k + vc.length + (X.bo b + i - (vs.toList.take (X.bo b + k) ++ (a.eval v).cells.toList).length) = X.bo b + i := by
                    rw [List.length_append, htk', hlv]; omega
                  rw [e1] at hi
                  rw [e2] at hu
                  exact hvr i c u hi (by simpa using hu)) (fun i hi => by
              have htk' : (vs.toList.take (X.bo b + k)).length = X.bo b + k := by simp; omega
              rw [List.getElem?_toArray, List.append_assoc, List.getElem?_append_left (by omega), List.getElem?_take, if_pos (by omega)]
              simp)
          unfold Oper.wp
          rw [hrun]
          exact hN _ _ ⟨_, X, h, hnew.put o.dst (.top undef)⟩
        · cases h
      · cases h
    · rename_i t parts ho
      split at h
      · rename_i v hv
        obtain ⟨r, h1, h2⟩ := build_sound hv (parts_rel hs parts)
        refine wp_value (v := r) (w' := w) ?_ (hN _ _ ⟨_, X, h, hs.put o.dst h1⟩)
        simp only [execOp, ho]
        rw [Sem.run_bind, h2 w]
        rfl
      · cases h
    · rename_i t len parts ho
      split at h
      · rename_i e xs hbs
        obtain ⟨cells, ti, hti, hxl, hcs, hx, hr, hlen, hrun⟩ := bs_cells hbs (parts_rel hs parts)
        have hf := hs.fresh (b := w.heap.size) (Nat.le_refl _)
        have h1 := hs.alloc (.cells cells e)
        have hexec : (execOp a.eval o).run P w = .ok (.value (.slice (some ⟨w.heap.size, 0, none⟩) xs.length xs.length)) (w.alloc (.cells cells e)) := by
          simp only [execOp, ho]
          rw [Sem.run_bind, hrun w, hxl]
          rfl
        by_cases hxs : xs = []
        · subst hxs
          exact wp_value hexec (hN _ _ ⟨_, X, h.1 rfl, h1.put o.dst (.emp _)⟩)
        replace h := h.2 hxs
        obtain ⟨X', h2, h3⟩ := h1.own (o.dst.getD 0) xs (c := xs.length) (heap_alloc_new w _) (hs.le _ (Nat.le_refl _)) hf.1 hf.2.1 hf.2.2 hti (Nat.le_refl _) (by rw [hxl]; simp only [maxLen]; omega) (by rw [hxl]; exact hcs) hx (fun j x k d hj hk => by
          obtain ⟨v, hv, hd⟩ := hr j x k d hj hk
          exact ⟨v, hv, hd.mv fun ad hp => ⟨hp, ((Below.refl _ _).alloc (Nat.le_refl _) _).cell (hs.pmlt hp)⟩⟩)
        exact wp_value hexec (hN _ _ ⟨_, X', h, h2.put o.dst h3⟩)
      · cases h
    · rename_i t x y t' ho
      split at h
      · rename_i p q hx hy
        obtain ⟨hle, h⟩ := h
        have hxv := hs.ev x
        have hyv := hs.ev y
        rw [hx] at hxv
        rw [hy] at hyv
        have hsz1 : (⟨p.toArray⟩ : ByteArray).size = p.length := by simp [ByteArray.size]
        have hsz2 : (⟨q.toArray⟩ : ByteArray).size = q.length := by simp [ByteArray.size]
        refine wp_value (v := .string ⟨(p ++ q).toArray⟩) (w' := w) ?_ (hN _ _ ⟨_, X, h, hs.put o.dst (rel_str _)⟩)
        have happ : (⟨p.toArray⟩ : ByteArray) ++ (⟨q.toArray⟩ : ByteArray) = ⟨(p ++ q).toArray⟩ := by
          apply ByteArray.ext
          simp
        have hg : (eqGuard .add t x y (.string ⟨p.toArray⟩) (.string ⟨q.toArray⟩)).run P w = .ok () w := by unfold eqGuard; rfl
        have hmx : IntKind.i64.max = 9223372036854775807 := by decide
        have hnot : ¬ (((p.length + q.length : Nat) : Int) > IntKind.i64.max) := by rw [hmx]; omega
        simp only [execOp, ho, str_rel hxv, str_rel hyv]
        simp only [Sem.run_bind, hg, Result.andThen_ok, binOp, Op.stringOp, hsz1, hsz2]
        rw [if_neg hnot, happ]
        rfl
      · cases h
    · rename_i args tys ho
      split at h
      · rename_i x y t t' hargs htys
        split at h
        · rename_i e he
          split at h
          · rename_i ti ys hti hy
            split at h
            · rename_i z hz
              obtain ⟨rfl, hok, hyl, h⟩ := h
              have hargs' : args = #[x, y] := by simpa using congrArg List.toArray hargs
              have htys' : tys = #[t', t'] := by simpa using congrArg List.toArray htys
              subst hargs' htys'
              simp only [Bool.and_eq_true, beq_iff_eq, Nat.blt_eq] at hok
              split at h
              · rename_i hx
                obtain ⟨hlen, h0, h1⟩ := h
                have hxv := hs.ev x
                rw [hx] at hxv
                by_cases hys : ys = []
                · have hdr := elems_rel (hs.ev y) hy
                  generalize hye : a.eval y = yv at hdr
                  generalize hxe : a.eval x = xv at hxv
                  cases hxv with
                  | emp A =>
                  subst hys
                  cases hdr with
                  | list _ B c sz vs hc hm hl hR hA =>
                  refine wp_value (v := .slice A 0 0) (w' := w) ?_ (hN _ _ ⟨_, X, h0 rfl, hs.put o.dst (.emp A)⟩)
                  simp [execOp, ho, resolve, invoke, builtin, hxe, hye, append_zero_run he hti]
                · have hpos : 0 < ys.length := by cases ys with | nil => exact absurd rfl hys | cons => simp
                  obtain ⟨b, c, cur, w', hrun, hbw, hgb, hh, hc, hm, hsz, hcells⟩ := append_emp (ty := o.type) he hti hz hok.1.1 hok.1.2 hxv hy (hs.ev y) hyl hlen hok.2 hpos hs.hp.pm
                  have hexec : (execOp a.eval o).run P w = .ok (.value (.slice (some ⟨b, 0, none⟩) ys.length c)) w' := by
                    simp [execOp, ho, resolve, invoke, builtin, hrun]
                  have hs' := hs.world hbw
                  obtain ⟨f1, f2, f3⟩ := hs.fresh hgb
                  have hbB : X.my b := hs.le _ hgb
                  rcases h1 hys with h1 | h1
                  · obtain ⟨X', k1, k2⟩ := hs'.own (o.dst.getD 0) ys hh hbB f1 f2 f3 hti hc hm hsz (fun j x hj => hyl x (List.mem_of_getElem? hj)) hcells
                    exact wp_value hexec (hN _ _ ⟨_, X', h1, k1.put o.dst k2⟩)
                  · have hyl' : ∀ x ∈ ([] ++ ys), x.length = ti.size := by simpa using hyl
                    have hfl := flatten_len ys hyl
                    obtain ⟨k1, _, hn, hmm, hcc, hbo, _⟩ := hs'.push (cap := c) (bo := 0) (cs := (ys.flatten).map .dat) hh hbB f1 (fun i _ => f2 i) f3 ⟨by rw [List.length_map, hfl, hsz, Nat.zero_add]; exact Nat.mul_le_mul_right _ hc, hm, fun ti' hti' => by rw [hti] at hti'; injection hti' with hti'; subst hti'; exact ⟨hsz, Nat.dvd_zero _⟩⟩ (fun i d v hi hv => by
                      rw [List.getElem?_map, Option.map_eq_some_iff] at hi
                      obtain ⟨d, hi, rfl⟩ := hi
                      obtain ⟨x, h2, h3⟩ := flatten_get hok.1.2 ys i d hyl hi
                      obtain ⟨q, hq, hdq⟩ := hcells _ x _ d h2 h3
                      rw [Nat.div_add_mod'] at hq
                      rw [Nat.zero_add, hq] at hv
                      injection hv with hv
                      subst hv
                      exact .dat _ _ hdq)
                    have k2 := VRel.sl (P := P) (w := w') (X := X.push b c 0) s.heap.length e [] ys.length ti hti (by rw [hn]; exact Nat.lt_succ_self _) (by rw [hcc, List.length_nil, Nat.zero_add]; exact hc) (by rw [hbo, List.length_nil, Nat.zero_mul]) (fun j x hj => by simp at hj) (fun j x k d hj => by simp at hj)
                    rw [hmm, hcc, List.length_nil, Nat.zero_add] at k2
                    exact wp_value hexec (hN _ _ ⟨_, _, h1, k1.put o.dst k2⟩)
              · split at h
                · rename_i id xs hb
                  obtain ⟨hlen, h | ⟨hpos, h⟩⟩ := h
                  · obtain ⟨r, w', X', hrun, h1, h2⟩ := append_sound (ty := o.type) hs he hti hz hok.1.1 hok.1.2 hb (hs.ev x) hy (hs.ev y) hyl hlen hok.2
                    refine wp_value (v := r) (w' := w') ?_ (hN _ _ ⟨_, X', h, h1.put o.dst h2⟩)
                    simp [execOp, ho, resolve, invoke, builtin, hrun]
                  · obtain ⟨r, w', X', hrun, h1, h2⟩ := append_open (ty := o.type) hs he hti hz hok.1.1 hok.1.2 hb (hs.ev x) hy (hs.ev y) hyl hlen hok.2 hpos
                    refine wp_value (v := r) (w' := w') ?_ (hN _ _ ⟨_, X', h, h1.put o.dst h2⟩)
                    simp [execOp, ho, resolve, invoke, builtin, hrun]
                · cases h
            · cases h
          · cases h
        · cases h
      · cases h
    · rename_i args tys ho
      split at h
      · rename_i x y hargs
        split at h
        · rename_i k m k' n hx hy
          obtain ⟨rfl, h⟩ := h
          have hargs' : args = #[x, y] := by simpa using congrArg List.toArray hargs
          subst hargs'
          have hxv := hs.ev x
          have hyv := hs.ev y
          rw [hx] at hxv
          rw [hy] at hyv
          refine wp_value (v := .int k (if m < n then n else m)) (w' := w) ?_ (hN _ _ ⟨_, X, h, hs.put o.dst (rel_int _ _)⟩)
          simp [execOp, ho, resolve, invoke, builtin, Builtin.max_, Builtin.max2, int_rel hxv, int_rel hyv]
        · cases h
      · cases h
    · rename_i f args tys ho
      rcases h with h | h
      · split at h
        · rename_i g l hca
          obtain ⟨K', hcr, h⟩ := h
          obtain ⟨vs, hcl, hrun⟩ := call_run hs ho hca hcr
          unfold Oper.wp
          rw [hrun w]
          simp only [Oper.upon]
          refine (hcr.run w X.Pm vs hs.hp.pm (hcl w (Below.refl _ _))).mono ?_
          rintro e w' ⟨v, r, X', rfl, hk, hb, hX, hr, hbn⟩
          obtain ⟨X2, h1, h2⟩ := call_back hs hb hX hr hbn
          exact hN _ _ ⟨_, X2, h r hk, h1.put o.dst h2⟩
        · cases h
      · split at h
        · rename_i g l hca
          obtain ⟨K', hcr, h⟩ := h
          obtain ⟨vs, hcl, hrun⟩ := full_run hs ho hca hcr.en
          unfold Oper.wp
          rw [hrun]
          simp only [Oper.upon]
          refine (hcr.run w X vs hs.hp hcl).mono ?_
          rintro e w' ⟨v, r, H', X', rfl, hk, hpo, hh, hr⟩
          have h1 : SRel P w0 X0 w' X' ⟨AV.demAL s.slots, H'⟩ a := ⟨hs.defers, by rw [AV.demAL_length]; exact hs.size, fun i c u hi hu => by
            obtain ⟨x, hx, rfl⟩ := AV.demAL_get hi
            exact VRel.demA hpo.keep hpo.mn hpo.mo (hs.slot i x u hx hu), hh, hs.po.trans hpo⟩
          exact hN _ _ ⟨_, X', h r H' hk, h1.put o.dst hr⟩
        · cases h
    · cases h
end
end Go.Proofs.YtdfcjodkmjofgaaGreat
