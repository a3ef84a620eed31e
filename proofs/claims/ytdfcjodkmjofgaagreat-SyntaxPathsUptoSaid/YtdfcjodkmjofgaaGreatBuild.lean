/-
  Literals: structs and slices made out of parts; an append to a slice of the call's own.
-/
import Derived.Test.YtdfcjodkmjofgaaGreatStep
import Derived.Laws.AppendOwnNone
namespace Go.Proofs.YtdfcjodkmjofgaaGreat
open Go.RowKit

/-- cells and values go together. -/
def Cells (P : Program) (w : World) (X : Cx) (cs : List AV) (vs : Array Value) : Prop := vs.size = cs.length ∧ ∀ (i : Nat) (c : AV) (v : Value), cs[i]? = some c → vs[i]? = some v → VRel P w X c v

def afill (place : Nat → Option (Nat × Nat)) (cells : List AV) : List (Nat × AV) → Option (List AV)
  | [] => some cells
  | (i, v) :: rest => match place i, v.cells with
    | some (off, size), some vc => bif vc.length == size && Nat.ble (off + vc.length) cells.length then afill place (cells.take off ++ vc ++ cells.drop (off + vc.length)) rest else none
    | _, _ => none

theorem fold_set (off : Nat) : ∀ (l : List Value) (j : Nat) (cur : Array Value), ((l.zipIdx j).foldl (fun cs (c, j) => cs.setIfInBounds (off + j) c) cur).size = cur.size ∧
    ∀ k, ((l.zipIdx j).foldl (fun cs (c, j) => cs.setIfInBounds (off + j) c) cur)[k]? = if off + j ≤ k ∧ k < off + j + l.length ∧ k < cur.size then l[k - (off + j)]? else cur[k]?
  | [], j, cur => ⟨rfl, fun k => by rw [if_neg (by simp; omega)]; rfl⟩
  | x :: l, j, cur => by
    obtain ⟨h1, h2⟩ := fold_set off l (j + 1) (cur.setIfInBounds (off + j) x)
    simp only [List.zipIdx_cons, List.foldl_cons]
    refine ⟨by rw [h1]; simp, fun k => ?_⟩
    rw [h2 k]
    simp only [Array.size_setIfInBounds, List.length_cons, Array.getElem?_setIfInBounds]
    by_cases hk : off + j = k
    · subst hk
      rw [if_neg (by omega)]
      by_cases hs : off + j < cur.size
      · simp [hs]
      · simp [hs]
    · by_cases hin : off + (j + 1) ≤ k ∧ k < off + (j + 1) + l.length ∧ k < cur.size
      · rw [if_pos hin, if_pos (by omega)]
        have : k - (off + j) = (k - (off + (j + 1))) + 1 := by omega
        rw [this, List.getElem?_cons_succ]
      · rw [if_neg hin, if_neg hk, if_neg (by omega)]

theorem fill_rel {P : Program} {w : World} {X : Cx} {place : Nat → Option (Nat × Nat)} : ∀ (pa : List (Nat × AV)) (pc : List (Nat × Value)) (cs r : List AV) (vs : Array Value), Cells P w X cs vs →
    (pa.length = pc.length ∧ ∀ (k : Nat) (i : Nat) (c : AV) (j : Nat) (v : Value), pa[k]? = some (i, c) → pc[k]? = some (j, v) → i = j ∧ VRel P w X c v) → afill place cs pa = some r →
    ∃ rc, Instr.fill place vs pc = some rc ∧ Cells P w X r rc
  | [], pc, cs, r, vs, hc, hp, h => by
    have : pc = [] := List.eq_nil_of_length_eq_zero hp.1.symm
    subst this
    simp only [afill, Option.some.injEq] at h
    subst h
    exact ⟨vs, rfl, hc⟩
  | (i, c) :: pa, [], cs, r, vs, hc, hp, h => by simp at hp
  | (i, c) :: pa, (j, v) :: pc, cs, r, vs, hc, hp, h => by
    obtain ⟨rfl, hv⟩ := hp.2 0 i c j v rfl rfl
    simp only [afill] at h
    split at h
    · rename_i off size vc hpl hvc
      cases hb : (vc.length == size && Nat.ble (off + vc.length) cs.length) with
      | false => rw [hb] at h; cases h
      | true =>
        rw [hb, cond_true] at h
        simp only [Bool.and_eq_true, beq_iff_eq, Nat.ble_eq] at hb
        obtain ⟨hsz, hvr⟩ := cells_rel hv hvc
        have hg := fold_set off v.cells.toList 0 vs
        have hfold : v.cells.zipIdx.foldl (fun cs (x : Value × Nat) => cs.setIfInBounds (off + x.2) x.1) vs = (v.cells.toList.zipIdx 0).foldl (fun cs (c, j) => cs.setIfInBounds (off + j) c) vs := by
          rw [← Array.foldl_toList, Array.toList_zipIdx]
        have hcells : Cells P w X (cs.take off ++ vc ++ cs.drop (off + vc.length)) (v.cells.zipIdx.foldl (fun cs (x : Value × Nat) => cs.setIfInBounds (off + x.2) x.1) vs) := by
          rw [hfold]
          refine ⟨by rw [hg.1, hc.1]; simp; omega, fun k c' u hk hu => ?_⟩
          rw [hg.2 k] at hu
          simp only [Nat.add_zero, Array.length_toList, hsz] at hu
          by_cases h1 : k < off
          · rw [List.append_assoc, List.getElem?_append_left (by simp; omega), List.getElem?_take, if_pos h1] at hk
            rw [if_neg (by omega)] at hu
            exact hc.2 k c' u hk hu
          · by_cases h2 : k < off + vc.length
            · rw [List.append_assoc, List.getElem?_append_right (by simp; omega), List.getElem?_append_left (by simp; omega)] at hk
              rw [if_pos ⟨by omega, h2, by rw [hc.1]; omega⟩] at hu
              have e : k - (cs.take off).length = k - off := by simp; omega
              rw [e] at hk
              exact hvr _ c' u hk (by simpa using hu)
            · rw [List.getElem?_append_right (by simp; omega), List.getElem?_drop] at hk
              rw [if_neg (by omega)] at hu
              have e : off + vc.length + (k - (cs.take off ++ vc).length) = k := by simp; omega
              rw [e] at hk
              exact hc.2 k c' u hk hu
        obtain ⟨rc, h1, h2⟩ := fill_rel pa pc _ r _ hcells ⟨by simpa using hp.1, fun k i' c' j' v' hk hv' => hp.2 (k + 1) i' c' j' v' (by simpa using hk) (by simpa using hv')⟩ h
        refine ⟨rc, ?_, h2⟩
        simp only [Instr.fill, hpl]
        rw [if_neg (by rw [hsz, hc.1]; simp; omega)]
        exact h1
    · cases h

def placesOf (P : Program) (fs : List Field) : Option (List (Nat × Nat)) := fs.mapM (fun f => (P.info? f.type).map fun i => (f.offset, i.size))
def buildAv (P : Program) (t : TypeId) (parts : List (Nat × AV)) : Option AV :=
  match P.info? t, P.underlying t with
  | some it, some (.struct fields) => match it.zero, placesOf P fields.toList with
    | some z, some places => match zcells z with
      | some zc => (afill (places[·]?) zc parts).map .agg
      | none => none
    | _, _ => none
  | _, _ => none
theorem build_sound {P : Program} {w : World} {X : Cx} {t : TypeId} {pa : List (Nat × AV)} {pc : Array (Nat × Value)} {av : AV} (h : buildAv P t pa = some av)
    (hp : pa.length = pc.size ∧ ∀ (k : Nat) (i : Nat) (c : AV) (j : Nat) (v : Value), pa[k]? = some (i, c) → pc[k]? = some (j, v) → i = j ∧ VRel P w X c v) :
    ∃ r, VRel P w X av r ∧ ∀ w', (Instr.build t pc).run P w' = .ok r w' := by
  unfold buildAv at h
  split at h
  · rename_i it fields hit hu
    split at h
    · rename_i z places hz hpl
      split at h
      · rename_i zc hzc
        rw [Option.map_eq_some_iff] at h
        obtain ⟨r, hr, rfl⟩ := h
        have hzr := zcells_rel (P := P) (w := w) (X := X) hzc
        obtain ⟨rc, h1, h2⟩ := fill_rel pa pc.toList zc r z.cells hzr ⟨by simpa using hp.1, fun k i c j v hk hv => hp.2 k i c j v hk (by simpa using hv)⟩ hr
        refine ⟨.agg rc, .agg _ _ h2.1 h2.2, fun w' => run_build w' t pc rc ?_⟩
        unfold placesOf at hpl
        have e : (fun x : Nat => places.toArray[x]?) = fun x : Nat => places[x]? := by funext x; simp
        simp only [Program.built, hit, hu, hz, hpl]
        show Instr.fill (fun x : Nat => places.toArray[x]?) z.cells pc.toList = some rc
        rw [e]
        exact h1
      · cases h
    · cases h
  · cases h

/-- One cell as data. -/
def AV.dat1 : AV → Option Dat
  | .dat d => some d
  | .own _ _ xs => some (.list xs)
  | .nils => some (.list [])
  | .emp => some (.list [])
  | _ => none
theorem dat1_rel {P : Program} {w : World} {X : Cx} {c : AV} {v : Value} {d : Dat} (h : VRel P w X c v) (hd : c.dat1 = some d) : DRel w X.Pm d v := by
  cases h with
  | dat d v h => simp [AV.dat1] at hd; subst hd; exact h
  | nils => simp [AV.dat1] at hd; subst hd; exact VRel.nilsDat (P := P) (X := X) .nils
  | emp A => simp [AV.dat1] at hd; subst hd; exact VRel.empDat (P := P) (X := X) (.emp A)
  | ownNil id e => simp [AV.dat1] at hd; subst hd; exact VRel.asDat (P := P) (X := X) (.ownNil id e)
  | own id e xs b c cur i he hb hl hh hc hm hs hx hr hp => simp [AV.dat1] at hd; subst hd; exact VRel.asDat (.own id e xs b c cur i he hb hl hh hc hm hs hx hr hp)
  | _ => simp [AV.dat1] at hd
def datL : List AV → Option (List Dat)
  | [] => some []
  | a :: l => match a.dat1, datL l with
    | some a, some l => some (a :: l)
    | _, _ => none
theorem datL_get : ∀ {l : List AV} {ds : List Dat}, datL l = some ds → ds.length = l.length ∧ ∀ (i : Nat) (d : Dat), ds[i]? = some d → ∃ c, l[i]? = some c ∧ c.dat1 = some d
  | [], ds, h => by simp [datL] at h; subst h; exact ⟨rfl, fun i d h => by simp at h⟩
  | x :: l, ds, h => by
    simp only [datL] at h
    split at h
    · rename_i a l1 ha hl
      injection h with h
      subst h
      obtain ⟨h1, h2⟩ := datL_get hl
      refine ⟨by simp [h1], fun i b hb => ?_⟩
      cases i with
      | zero => simp at hb; subst hb; exact ⟨x, rfl, ha⟩
      | succ i => simpa using h2 i b (by simpa using hb)
    · cases h
def chunks (sz : Nat) : Nat → List Dat → List (List Dat)
  | 0, _ => []
  | n + 1, l => l.take sz :: chunks sz n (l.drop sz)
theorem chunks_len (sz : Nat) : ∀ (n : Nat) (l : List Dat), (chunks sz n l).length = n
  | 0, _ => rfl
  | n + 1, l => by simp [chunks, chunks_len sz n]
theorem chunks_get (sz : Nat) : ∀ (n : Nat) (l : List Dat) (j : Nat) (x : List Dat), l.length = n * sz → (chunks sz n l)[j]? = some x → x.length = sz ∧ ∀ k, k < sz → x[k]? = l[j * sz + k]?
  | 0, l, j, x, _, h => by simp [chunks] at h
  | n + 1, l, 0, x, hl, h => by
    simp [chunks] at h
    subst h
    refine ⟨by simp [hl, Nat.succ_mul], fun k hk => ?_⟩
    rw [List.getElem?_take, if_pos hk]
    simp
  | n + 1, l, j + 1, x, hl, h => by
    simp only [chunks, List.getElem?_cons_succ] at h
    obtain ⟨h1, h2⟩ := chunks_get sz n (l.drop sz) j x (by simp [hl, Nat.succ_mul]) h
    refine ⟨h1, fun k hk => ?_⟩
    rw [h2 k hk, List.getElem?_drop]
    congr 1
    rw [Nat.succ_mul]
    omega

/-- A block that has just been laid, its first cells data: an own slice over it. -/
theorem SRel.own {P : Program} {w0 : World} {X0 : Cx} {w : World} {X : Cx} {s : St} {a : Act} (h : SRel P w0 X0 w X s a) {b c : Nat} {cur : Array Value} {e : TypeId} {ti : TypeInfo} (id : Nat) (xs : List (List Dat)) (hh : w.heap[b]? = some (.cells cur e (0, 0))) (hb : X.my b)
    (hl : X.lab b = none) (hp : ∀ i, ¬ X.Pm ⟨b, i, none⟩) (hne : ∀ o T cs, s.heap[o]? = some (T, cs) → cs ≠ [] → X.m o ≠ b) (hti : P.info? e = some ti) (hc : xs.length ≤ c) (hm : c ≤ maxLen) (hs : cur.size = c * ti.size)
    (hx : ∀ (j : Nat) (x : List Dat), xs[j]? = some x → x.length = ti.size) (hr : ∀ (j : Nat) (x : List Dat) (k : Nat) (d : Dat), xs[j]? = some x → x[k]? = some d → ∃ v, cur[j * ti.size + k]? = some v ∧ DRel w X.Pm d v) :
    ∃ X', SRel P w0 X0 w X' s a ∧ VRel P w X' (.own id e xs) (.slice (some ⟨b, 0, none⟩) xs.length c) := by
  have hlt : b < w.heap.size := (Array.getElem?_eq_some_iff.1 hh).1
  refine ⟨{ X with Pm := fun ad => X.Pm ad ∨ ∃ k, k < xs.length * ti.size ∧ ad = ⟨b, k, none⟩, lab := fun k => if k = b then some id else X.lab k }, ?_, ?_⟩
  · have hp0 : ∀ ad : Addr, ¬ X.my ad.block → ((X.Pm ad ∨ ∃ k, k < xs.length * ti.size ∧ ad = ⟨b, k, none⟩) ↔ X.Pm ad) := by
      intro ad ha
      refine ⟨fun hq => ?_, .inl⟩
      rcases hq with hq | ⟨k, _, rfl⟩
      · exact hq
      · exact absurd hb ha
    refine h.mov ⟨fun _ h => h, fun ad hp => ⟨.inl hp, rfl⟩, fun b' id' hl' _ => ?_, Nat.le_refl _, fun _ _ => ⟨rfl, rfl, rfl⟩⟩ ⟨rfl, Kept.refl _ _, Nat.le_refl _, fun ad hp => ⟨.inl hp, rfl⟩, Nat.le_refl _, fun _ _ => ⟨rfl, rfl, rfl⟩, hp0⟩ rfl (fun o T cs ho hn => ⟨rfl, ?_, ?_⟩) ?_ ?_
    · have hbb : b' ≠ b := fun e => by rw [e, hl] at hl'; cases hl'
      refine ⟨by simp only; rw [if_neg hbb]; exact hl', rfl, fun j => ⟨fun hq => ?_, .inl⟩⟩
      rcases hq with hq | ⟨k, _, hk⟩
      · exact hq
      · injection hk with hk
        exact absurd hk hbb
    · simp only
      rw [if_neg (hne o T cs ho hn)]
      exact (h.hp.boxb o T cs ho hn).2.1
    · rintro i hle (hq | ⟨k, _, hk⟩)
      · exact (h.hp.boxb o T cs ho hn).2.2 i hle hq
      · injection hk with hk
        exact hne o T cs ho hn hk
    · rintro ad (hq | ⟨k, hk, rfl⟩)
      · exact h.hp.pm ad hq
      · have hks : k < cur.size := by rw [hs]; exact Nat.lt_of_lt_of_le hk (Nat.mul_le_mul_right _ hc)
        exact ⟨cur[k], by rw [cell_of_row w b k cur e (0, 0) hh, Array.getElem?_eq_getElem hks]⟩
    · intro b' hb'
      simp only at hb'
      split at hb'
      · rename_i e
        subst e
        exact ⟨hb, hlt⟩
      · exact h.hp.lab b' hb'
  · have hmono : ∀ {d : Dat} {v : Value}, DRel w X.Pm d v → DRel w (fun ad => X.Pm ad ∨ ∃ k, k < xs.length * ti.size ∧ ad = ⟨b, k, none⟩) d v := fun hd => hd.mv fun ad hp => ⟨.inl hp, rfl⟩
    refine .own id e xs b c cur ti hti hb (by simp) hh hc hm hs hx (fun j x k d hj hk => ?_) (fun k => ⟨fun hq => ?_, fun hk => .inr ⟨k, hk, rfl⟩⟩)
    · obtain ⟨v, h1, h2⟩ := hr j x k d hj hk
      exact ⟨v, h1, hmono h2⟩
    · rcases hq with hq | ⟨k', hk', e⟩
      · exact absurd hq (hp k)
      · injection e with _ e
        omega

/-- The cells of a slice that is told, in one list. -/
theorem dlist_flat {w : World} {Pm : Addr → Prop} {xs : List (List Dat)} {v : Value} {sz : Nat} (h : DRel w Pm (.list xs) v) (hx : ∀ x ∈ xs, x.length = sz) :
    ∃ (A : Option Addr) (c : Nat) (flat : List Value), v = .slice A xs.length c ∧ (A = none → c = 0) ∧ flat.length = xs.length * sz ∧
      (∀ (j : Nat) (x : List Dat) (k : Nat) (d : Dat), xs[j]? = some x → x[k]? = some d → ∃ u, flat[j * sz + k]? = some u ∧ DRel w Pm d u) ∧ (∀ u ∈ flat, u.oneCell' = true) ∧
      (0 < xs.length → ∃ ad, A = some ad ∧ ∀ j u, flat[j]? = some u → w.cell? (ad.add j) = some u) := by
  cases h with
  | list _ A c sz' vs hc hm hl hR hA =>
  have hsz : 0 < xs.length → sz' = sz := fun h0 => (hl 0 _ (List.getElem?_eq_getElem h0)).symm.trans (hx _ (List.getElem_mem h0))
  rcases Nat.eq_zero_or_pos sz with hz | hz
  · refine ⟨A, c, [], rfl, hm.2, by simp [hz], fun j x k d hj hk => ?_, fun u hu => by simp at hu, fun h0 => ?_⟩
    · have hxl := hx x (List.mem_of_getElem? hj)
      rw [hz] at hxl
      rw [List.eq_nil_of_length_eq_zero hxl] at hk
      simp at hk
    · obtain ⟨ad, e, _⟩ := hA h0
      exact ⟨ad, e, fun j u hu => by simp at hu⟩
  · have hget : ∀ i, i < xs.length * sz → ((List.range (xs.length * sz)).map fun i => vs (i / sz) (i % sz))[i]? = some (vs (i / sz) (i % sz)) := fun i hi => by
      simp [List.getElem?_range hi]
    have hidx : ∀ j k, j < xs.length → k < sz → j * sz + k < xs.length * sz ∧ (j * sz + k) / sz = j ∧ (j * sz + k) % sz = k := fun j k hj hk => by
      refine ⟨?_, ?_, ?_⟩
      · have h3 : j * sz + sz ≤ xs.length * sz := by rw [← Nat.succ_mul]; exact Nat.mul_le_mul_right _ hj
        omega
      · rw [Nat.mul_comm, Nat.mul_add_div hz, Nat.div_eq_of_lt hk, Nat.add_zero]
      · rw [Nat.mul_comm, Nat.mul_add_mod, Nat.mod_eq_of_lt hk]
    refine ⟨A, c, (List.range (xs.length * sz)).map fun i => vs (i / sz) (i % sz), rfl, hm.2, by simp, fun j x k d hj hk => ?_, fun u hu => ?_, fun h0 => ?_⟩
    · have hjl := (List.getElem?_eq_some_iff.1 hj).1
      have hkl : k < sz := by rw [← hx x (List.mem_of_getElem? hj)]; exact (List.getElem?_eq_some_iff.1 hk).1
      obtain ⟨h1, h2, h3⟩ := hidx j k hjl hkl
      refine ⟨vs j k, ?_, hR j x k d hj hk⟩
      rw [hget _ h1, h2, h3]
    · obtain ⟨i, hi, rfl⟩ := List.mem_map.1 hu
      have hi' : i < xs.length * sz := by simpa using hi
      have hj : i / sz < xs.length := Nat.div_lt_of_lt_mul (by rw [Nat.mul_comm]; exact hi')
      have hxl := hx _ (List.getElem_mem hj)
      have hk : i % sz < (xs[i / sz]).length := by rw [hxl]; exact Nat.mod_lt _ hz
      have := hR _ _ _ _ (List.getElem?_eq_getElem hj) (List.getElem?_eq_getElem hk)
      exact this.one
    · obtain ⟨ad, e, hcell⟩ := hA h0
      refine ⟨ad, e, fun i u hu => ?_⟩
      have hi : i < xs.length * sz := by simpa using (List.getElem?_eq_some_iff.1 hu).1
      rw [hget i hi] at hu
      injection hu with hu
      subst hu
      have hj : i / sz < xs.length := Nat.div_lt_of_lt_mul (by rw [Nat.mul_comm]; exact hi)
      have := (hcell (i / sz) (i % sz) hj (by rw [hsz h0]; exact Nat.mod_lt _ hz)).2
      rwa [hsz h0, Nat.div_add_mod'] at this

/-- What an append needs to know of its base: an own slice with its mark, or nil. -/
def baseAv (d : Nat) (e : TypeId) : AV → Option (Nat × List (List Dat))
  | .nils => some (d, [])
  | .own id e' xs => bif e' == e then some (id, xs) else none
  | _ => none
def St.dem (id : Nat) (s : St) : St := ⟨AV.demL id s.slots, s.heap.map fun b => (b.1, AV.demL id b.2)⟩
theorem SRel.dem {P : Program} {w0 : World} {X0 : Cx} {w : World} {X : Cx} {s : St} {a : Act} (h : SRel P w0 X0 w X s a) (id : Nat) : SRel P w0 X0 w X (s.dem id) a := by
  have key : ∀ {o : Nat} {T : TypeId} {cs : List AV}, (s.dem id).heap[o]? = some (T, cs) → cs ≠ [] → ∃ cs0, s.heap[o]? = some (T, cs0) ∧ cs = AV.demL id cs0 ∧ cs0 ≠ [] := by
    intro o T cs ho hne
    simp only [St.dem, List.getElem?_map, Option.map_eq_some_iff] at ho
    obtain ⟨⟨T', cs'⟩, ho, e⟩ := ho
    simp only [Prod.mk.injEq] at e
    obtain ⟨rfl, rfl⟩ := e
    exact ⟨cs', ho, rfl, fun e => hne (by rw [e]; rfl)⟩
  refine ⟨h.defers, by simp [St.dem, AV.demL_length, h.size], fun i c v hi hv => ?_, ⟨by simp [St.dem, h.hp.n], h.le, fun o T cs ho hne => ?_, fun o T cs ho hne => ?_, fun o o' T T' cs cs' ho h1 ho' h2 e => ?_, h.hp.pm, h.hp.lab⟩, h.po⟩
  · obtain ⟨x, hx, rfl⟩ := AV.demL_get hi
    exact (h.slot i x v hx hv).dem id
  · obtain ⟨cs0, h1, rfl, h2⟩ := key ho hne
    exact h.hp.boxb o T cs0 h1 h2
  · obtain ⟨cs0, h1, rfl, h2⟩ := key ho hne
    obtain ⟨vs, hh, hs, hc⟩ := h.hp.box o T cs0 h1 h2
    exact ⟨vs, hh, by rw [AV.demL_length]; exact hs, fun i c v hi hv => by
      obtain ⟨x, hx, rfl⟩ := AV.demL_get hi
      exact (hc i x v hx hv).dem id⟩
  · obtain ⟨_, k1, _, k2⟩ := key ho h1
    obtain ⟨_, k3, _, k4⟩ := key ho' h2
    exact h.hp.inj o o' _ _ _ _ k1 k2 k3 k4 e
theorem St.dem_noOwn (id : Nat) (s : St) : AV.noOwnL id (s.dem id).slots = true ∧ ∀ b ∈ (s.dem id).heap, AV.noOwnL id b.2 = true := by
  refine ⟨AV.demL_noOwn id _, fun b hb => ?_⟩
  obtain ⟨l, _, rfl⟩ := List.mem_map.1 hb
  exact AV.demL_noOwn id l.2

/-- A slice that an append has left in a new block (or that is nil still). -/
theorem SRel.ownNew {P : Program} {w0 : World} {X0 : Cx} {w w' : World} {X : Cx} {s : St} {a : Act} (h : SRel P w0 X0 w X s a) (hb : Below w.heap.size w w') {e : TypeId} {ti : TypeInfo} (id : Nat) (xs : List (List Dat)) {r : Value} {flat : List Value} (hti : P.info? e = some ti)
    (ho : w'.ownsRow w.heap.size e ti.size r xs.length flat) (hx : ∀ x ∈ xs, x.length = ti.size)
    (hr : ∀ (j : Nat) (x : List Dat) (k : Nat) (d : Dat), xs[j]? = some x → x[k]? = some d → ∃ u, flat[j * ti.size + k]? = some u ∧ DRel w' X.Pm d u) :
    ∃ X', SRel P w0 X0 w' X' s a ∧ VRel P w' X' (.own id e xs) r := by
  have h' := h.world hb
  obtain ⟨hl, hv⟩ := ho
  rcases hv with ⟨rfl, h0⟩ | ⟨g, cap, cur, rfl, hg, hh, hc, hm, hs, ht⟩
  · have : xs = [] := List.eq_nil_of_length_eq_zero h0
    subst this
    exact ⟨X, h', .ownNil id e⟩
  · obtain ⟨h1, h2, h3⟩ := h.fresh hg
    refine h'.own id xs hh (h.le _ hg) h1 h2 h3 hti hc hm hs (fun j x hj => hx x (List.mem_of_getElem? hj)) (fun j x k d hj hk => ?_)
    obtain ⟨u, hu, hd⟩ := hr j x k d hj hk
    rw [← ht, List.getElem?_take] at hu
    split at hu
    · exact ⟨u, by simpa using hu, hd⟩
    · cases hu

theorem append_sound {P : Program} {w0 : World} {X0 : Cx} {w : World} {X : Cx} {s : St} {a : Act} (h : SRel P w0 X0 w X s a) {t ty e : TypeId} {ti : TypeInfo} {z : Value} {d id : Nat} {bx yx : AV} {xs ys : List (List Dat)} {u v : Value}
    (ht : P.underlying t = some (.slice e)) (hti : P.info? e = some ti) (hz : ti.zero = some z) (hzs : z.cells.size = ti.size) (hs0 : 0 < ti.size) (hb : baseAv d e bx = some (id, xs)) (hbx : VRel P w X bx u) (hy : yx.elems = some ys) (hyx : VRel P w X yx v)
    (hyl : ∀ x ∈ ys, x.length = ti.size) (hlen : (xs.length + ys.length) * ti.bytes ≤ 140737488355328) (hb0 : 0 < ti.bytes) :
    ∃ r w' X', (Builtin.append_ #[t, t] ty #[u, v]).run P w = .ok r w' ∧ SRel P w0 X0 w' X' (s.dem id) a ∧ VRel P w' X' (.own id e (xs ++ ys)) r := by
  have hd := h.dem id
  have hle : xs.length + ys.length ≤ 140737488355328 := Nat.le_trans (Nat.le_mul_of_pos_right _ hb0) hlen
  obtain ⟨A, c, flat, rfl, hAc, hfl, hfr, hf1, hfc⟩ := dlist_flat (elems_rel hyx hy) hyl
  -- a nil base
  have nilCase : xs = [] → u = .slice none 0 0 → ∃ r w' X', (Builtin.append_ #[t, t] ty #[u, .slice A ys.length c]).run P w = .ok r w' ∧ SRel P w0 X0 w' X' (s.dem id) a ∧ VRel P w' X' (.own id e (xs ++ ys)) r := by
    rintro rfl rfl
    cases A with
    | none =>
      have hys : ys = [] := by
        cases ys with
        | nil => rfl
        | cons y ys => obtain ⟨ad, e, _⟩ := hfc (by simp); cases e
      subst hys
      rw [hAc rfl]
      exact ⟨_, w, X, run_append_owned_none (base := w.heap.size) w t ty e ti ti.size ht hti _ 0 [] (World.ownsRow_nil _ _ _ _), hd, .ownNil id e⟩
    | some ad =>
      have hcl : ∀ j u, flat[j]? = some u → w.cell? (ad.add j) = some u := by
        intro j u hu
        rcases Nat.eq_zero_or_pos ys.length with h0 | h0
        · rw [h0, Nat.zero_mul] at hfl
          rw [List.eq_nil_of_length_eq_zero hfl] at hu
          simp at hu
        · obtain ⟨ad', e, hcell⟩ := hfc h0
          injection e with e
          subst e
          exact hcell j u hu
      obtain ⟨r, w', hrun, hown, hg, _, _⟩ := run_append_own_at (P := P) w w.heap.size t ty e ti z ti.size ti.bytes ht hti hz rfl rfl hzs hs0 _ 0 [] (World.ownsRow_nil _ _ _ _) ad ys.length c flat hfl hcl hf1 (by simp only [maxLen]; omega) (by simpa using hlen) (Nat.le_refl _)
      have hbw : Below w.heap.size w w' := ⟨hg.os, hg.tape, hg.output, hg.size, fun k hk => hg.block k hk (by simp [Value.ownBlock])⟩
      obtain ⟨X', h1, h2⟩ := hd.ownNew hbw id ys hti (by simpa using hown) hyl (fun j x k d' hj hk => by
        obtain ⟨q, hq, hdq⟩ := hfr j x k d' hj hk
        exact ⟨q, by simpa using hq, hdq.mv fun ad hp => ⟨hp, hbw.cell (h.pmlt hp)⟩⟩)
      exact ⟨r, w', X', hrun, h1, by simpa using h2⟩
  cases hbx with
  | nils =>
    simp only [baseAv, Option.some.injEq, Prod.mk.injEq] at hb
    exact nilCase hb.2.symm rfl
  | ownNil id' e' =>
    simp only [baseAv] at hb
    cases he : e' == e with
    | false => rw [he] at hb; cases hb
    | true =>
      rw [he, cond_true, Option.some.injEq, Prod.mk.injEq] at hb
      exact nilCase hb.2.symm rfl
  | own id' e' xs' b cp cur ti' hti' hbB hl hh hc hm hs hx hr hp =>
    simp only [baseAv] at hb
    cases he : e' == e with
    | false => rw [he] at hb; cases hb
    | true =>
      rw [he, cond_true, Option.some.injEq, Prod.mk.injEq] at hb
      obtain ⟨rfl, rfl⟩ := hb
      have he' : e' = e := by simpa using he
      subst he'
      obtain rfl : ti' = ti := by rw [hti'] at hti; exact Option.some.inj hti
      have hlt : b < w.heap.size := (Array.getElem?_eq_some_iff.1 hh).1
      have hcz : cur.toList.length = cur.size := by simp
      have hpre : xs'.length * ti'.size ≤ cur.size := by rw [hs]; exact Nat.mul_le_mul_right _ hc
      have hown : w.ownsRow 0 e' ti'.size (.slice (some ⟨b, 0, none⟩) xs'.length cp) xs'.length (cur.toList.take (xs'.length * ti'.size)) :=
        ⟨by rw [List.length_take]; omega, .inr ⟨b, cp, cur, rfl, Nat.zero_le _, hh, hc, hm, hs, rfl⟩⟩
      have hold : ∀ (j : Nat) (x : List Dat) (k : Nat) (d' : Dat), xs'[j]? = some x → x[k]? = some d' → j * ti'.size + k < xs'.length * ti'.size ∧ ∃ q, cur[j * ti'.size + k]? = some q ∧ DRel w X.Pm d' q := fun j x k d' hj hk => by
        have hjl := (List.getElem?_eq_some_iff.1 hj).1
        have hkl : k < ti'.size := by rw [← hx j x hj]; exact (List.getElem?_eq_some_iff.1 hk).1
        have h3 : j * ti'.size + ti'.size ≤ xs'.length * ti'.size := by rw [← Nat.succ_mul]; exact Nat.mul_le_mul_right _ hjl
        exact ⟨by omega, hr j x k d' hj hk⟩
      -- the elements of both together
      have both : ∀ (j : Nat) (x : List Dat) (k : Nat) (d' : Dat), (xs' ++ ys)[j]? = some x → x[k]? = some d' → ∃ q, (cur.toList.take (xs'.length * ti'.size) ++ flat)[j * ti'.size + k]? = some q ∧ DRel w X.Pm d' q := by
        intro j x k d' hj hk
        have htl : (cur.toList.take (xs'.length * ti'.size)).length = xs'.length * ti'.size := by rw [List.length_take]; omega
        rcases Nat.lt_or_ge j xs'.length with hjx | hjx
        · rw [List.getElem?_append_left hjx] at hj
          obtain ⟨h1, q, hq, hdq⟩ := hold j x k d' hj hk
          exact ⟨q, by rw [List.getElem?_append_left (by omega), List.getElem?_take, if_pos h1]; simpa using hq, hdq⟩
        · rw [List.getElem?_append_right hjx] at hj
          obtain ⟨i, rfl⟩ := Nat.exists_eq_add_of_le hjx
          rw [Nat.add_sub_cancel_left] at hj
          obtain ⟨q, hq, hdq⟩ := hfr i x k d' hj hk
          refine ⟨q, ?_, hdq⟩
          rw [Nat.add_mul, List.getElem?_append_right (by omega), htl, Nat.add_assoc, Nat.add_sub_cancel_left]
          exact hq
      have hall : ∀ x ∈ xs' ++ ys, x.length = ti'.size := fun x hxm => by
        rcases List.mem_append.1 hxm with hxm | hxm
        · obtain ⟨j, hj, rfl⟩ := List.mem_iff_getElem.1 hxm
          exact hx j _ (List.getElem?_eq_getElem hj)
        · exact hyl x hxm
      cases A with
      | none =>
        have hys : ys = [] := by
          cases ys with
          | nil => rfl
          | cons y ys => obtain ⟨ad, e, _⟩ := hfc (by simp); cases e
        subst hys
        rw [hAc rfl]
        refine ⟨_, w, X, run_append_owned_none (base := 0) w t ty e' ti' ti'.size ht hti' _ _ _ hown, hd, ?_⟩
        rw [List.append_nil]
        exact .own id' e' xs' b cp cur ti' hti' hbB hl hh hc hm hs hx hr hp
      | some ad =>
        have hcl : ∀ j u, flat[j]? = some u → w.cell? (ad.add j) = some u := by
          intro j u hu
          rcases Nat.eq_zero_or_pos ys.length with h0 | h0
          · rw [h0, Nat.zero_mul] at hfl
            rw [List.eq_nil_of_length_eq_zero hfl] at hu
            simp at hu
          · obtain ⟨ad', e, hcell⟩ := hfc h0
            injection e with e
            subst e
            exact hcell j u hu
        rcases Nat.lt_or_ge cp (xs'.length + ys.length) with hgrow | hroom
        · obtain ⟨r, w', hrun, hown', hg⟩ := run_append_arg_grows (P := P) w t ty e' ti' z ti'.size ti'.bytes ht hti' hz rfl rfl hzs hs0 ⟨b, 0, none⟩ xs'.length cp (cur.toList.take (xs'.length * ti'.size)) hown.1 (fun j u hu => by
            rw [List.getElem?_take] at hu
            split at hu
            · rw [add_plain, cell_of_row w b j cur e' (0, 0) hh]; simpa using hu
            · cases hu) ad ys.length c flat hfl hcl hgrow (by simp only [maxLen]; omega) hlen
          have hbw : Below w.heap.size w w' := ⟨hg.os, hg.tape, hg.output, hg.size, fun k hk => hg.block k hk (by simp)⟩
          obtain ⟨X', h1, h2⟩ := hd.ownNew hbw id' (xs' ++ ys) hti' (by rw [List.length_append]; exact hown') hall (fun j x k d' hj hk => by
            obtain ⟨q, hq, hdq⟩ := both j x k d' hj hk
            exact ⟨q, hq, hdq.mv fun ad hp => ⟨hp, hbw.cell (h.pmlt hp)⟩⟩)
          exact ⟨r, w', X', hrun, h1, h2⟩
        · obtain ⟨w', hrun, hown', hg⟩ := run_append_fits (P := P) w 0 t ty e' ti' ti'.size ht hti' rfl b xs'.length cp _ hown ad ys.length c flat hfl hcl hf1 hroom
          obtain ⟨hl2, hv2⟩ := hown'
          rcases hv2 with ⟨hv2, _⟩ | ⟨g2, cap2, cur2, hv2, _, hh2, hc2, hm2, hs2, ht2⟩
          · cases hv2
          · simp only [Value.slice.injEq, Option.some.injEq, Addr.mk.injEq, and_true, true_and] at hv2
            obtain ⟨rfl, rfl⟩ := hv2
            have hoth : ∀ k, k < w.heap.size → k ≠ b → w'.heap[k]? = w.heap[k]? := fun k hk hne => hg.block k hk (by simp; exact hne)
            have hpc : ∀ ad, X.Pm ad → w'.cell? ad = w.cell? ad := by
              intro ad hpa
              by_cases hab : ad.block = b
              · obtain ⟨q, hq⟩ := h.hp.pm ad hpa
                have hsp : ad.spot = none := by
                  unfold World.cell? at hq
                  split at hq
                  · by_cases hq' : ad.spot.isSome
                    · rw [if_pos hq'] at hq; cases hq
                    · simpa using hq'
                  · cases hq
                have had : ad = ⟨b, ad.off, none⟩ := by cases ad; simp_all
                rw [had] at hpa ⊢
                have hk := (hp _).1 hpa
                rw [cell_of_row w' b _ cur2 e' (0, 0) hh2, cell_of_row w b _ cur e' (0, 0) hh]
                have h1 : (cur2.toList.take ((xs'.length + ys.length) * ti'.size))[ad.off]? = cur2[ad.off]? := by
                  rw [List.getElem?_take, if_pos (by rw [Nat.add_mul]; omega)]; simp
                rw [← h1, ht2, List.getElem?_append_left (by rw [List.length_take]; omega), List.getElem?_take, if_pos hk]
                simp
              · exact World.cell?_of_block (hoth _ (h.pmlt hpa) hab)
            have hbw : Kept X.my w w' := ⟨hg.os, hg.tape, hg.output, hg.size, fun k hk => hoth k (Nat.lt_of_not_le fun hle => hk (h.le k hle)) (fun e => hk (e ▸ hbB))⟩
            have hp0 : ∀ ad : Addr, ¬ X.my ad.block → ((X.Pm ad ∨ ∃ k, k < (xs' ++ ys).length * ti'.size ∧ ad = ⟨b, k, none⟩) ↔ X.Pm ad) := by
              intro ad ha
              refine ⟨fun hq => ?_, .inl⟩
              rcases hq with hq | ⟨k, _, rfl⟩
              · exact hq
              · exact absurd hbB ha
            let X' : Cx := { X with Pm := fun ad => X.Pm ad ∨ ∃ k, k < (xs' ++ ys).length * ti'.size ∧ ad = ⟨b, k, none⟩ }
            refine ⟨_, w', X', hrun, ?_, ?_⟩
            · refine hd.movb (bad := some id') ⟨fun _ h => h, fun ad hpa => ⟨.inl hpa, hpc ad hpa⟩, fun b' id2 hl' hne => ?_, Nat.le_refl _, fun _ _ => ⟨rfl, rfl, rfl⟩⟩ (fun i e => by injection e with e; subst e; exact St.dem_noOwn _ s) ⟨rfl, hbw, hg.size, fun ad hpa => ⟨.inl hpa, hpc ad hpa⟩, Nat.le_refl _, fun _ _ => ⟨rfl, rfl, rfl⟩, hp0⟩ rfl (fun o T cs ho hn => ⟨?_, (hd.hp.boxb o T cs ho hn).2.1, ?_⟩) ?_ ?_
              · have hbb : b' ≠ b := fun e => by rw [e, hl] at hl'; injection hl' with hl'; exact hne (by rw [hl'])
                refine ⟨hl', hoth b' (h.hp.lab b' (by rw [hl']; simp)).2 hbb, fun j => ⟨fun hq => ?_, .inl⟩⟩
                rcases hq with hq | ⟨k, _, hk⟩
                · exact hq
                · injection hk with hk
                  exact absurd hk hbb
              · have hne : X.m o ≠ b := fun e => by have := (hd.hp.boxb o T cs ho hn).2.1; rw [e, hl] at this; cases this
                exact hoth _ (hd.hp.boxlt ho hn) hne
              · rintro i hle (hq | ⟨k, _, hk⟩)
                · exact (hd.hp.boxb o T cs ho hn).2.2 i hle hq
                · injection hk with hk
                  have := (hd.hp.boxb o T cs ho hn).2.1
                  rw [hk, hl] at this
                  cases this
              · rintro ad (hq | ⟨k, hk, rfl⟩)
                · obtain ⟨q, hq'⟩ := h.hp.pm ad hq
                  exact ⟨q, (hpc ad hq).trans hq'⟩
                · have hks : k < cur2.size := by rw [hs2]; exact Nat.lt_of_lt_of_le hk (Nat.mul_le_mul_right _ (by rw [List.length_append]; exact hc2))
                  exact ⟨cur2[k], by rw [cell_of_row w' b k cur2 e' (0, 0) hh2, Array.getElem?_eq_getElem hks]⟩
              · intro b' hb'
                have := h.hp.lab b' hb'
                exact ⟨this.1, Nat.lt_of_lt_of_le this.2 hg.size⟩
            · have hgoal := VRel.own (P := P) (w := w') (X := X') id' e' (xs' ++ ys) b cp cur2 ti' hti' hbB hl hh2 (by rw [List.length_append]; exact hc2) hm2 hs2 (fun j x hj => hall x (List.mem_of_getElem? hj)) (fun j x k d' hj hk => by
                obtain ⟨q, hq, hdq⟩ := both j x k d' hj hk
                rw [← ht2, List.getElem?_take] at hq
                split at hq
                · exact ⟨q, by simpa using hq, hdq.mv fun ad hpa => ⟨.inl hpa, hpc ad hpa⟩⟩
                · cases hq) (fun k => ⟨fun hq => by
                  rcases hq with hq | ⟨k', hk', e⟩
                  · have := (hp k).1 hq
                    rw [List.length_append, Nat.add_mul]
                    omega
                  · injection e with _ e
                    omega, fun hk => .inr ⟨k, hk, rfl⟩⟩)
              rw [List.length_append] at hgoal
              exact hgoal
  | _ => cases hb
end Go.Proofs.YtdfcjodkmjofgaaGreat
