/-
  Frames: a contract over some boxes holds where they lie among others; the others stay as they are.
-/
import Derived.Test.YtdfcjodkmjofgaaGreatSym4
namespace Go.Proofs.YtdfcjodkmjofgaaGreat
open Go.RowKit

mutual
/-- Box o is called box l[o]. -/
def AV.ren (l : List Nat) : AV → AV
  | .ptr o k => .ptr (l.getD o 0) k
  | .sl o e xs n => .sl (l.getD o 0) e xs n
  | .agg cs => .agg (AV.renL l cs)
  | .tup cs => .tup (AV.renL l cs)
  | .fn f cs => .fn f (AV.renL l cs)
  | .top => .top
  | .dat d => .dat d
  | .own i e xs => .own i e xs
  | .nils => .nils
  | .nilp => .nilp
  | .rptr c => .rptr c
  | .emp => .emp
  | .anyb => .anyb
def AV.renL (l : List Nat) : List AV → List AV
  | [] => []
  | a :: m => a.ren l :: AV.renL l m
end
mutual
/-- Nothing own. -/
def AV.calm : AV → Bool
  | .own _ _ _ => false
  | .agg cs => AV.calmL cs
  | .tup cs => AV.calmL cs
  | .fn _ cs => AV.calmL cs
  | _ => true
def AV.calmL : List AV → Bool
  | [] => true
  | a :: l => a.calm && AV.calmL l
end
theorem AV.renL_length (l : List Nat) : (m : List AV) → (AV.renL l m).length = m.length
  | [] => rfl
  | x :: m => by simp [AV.renL, AV.renL_length l m]
theorem AV.renL_get {l : List Nat} : {m : List AV} → {i : Nat} → (AV.renL l m)[i]? = (m[i]?).map (AV.ren l)
  | [], i => by simp [AV.renL]
  | x :: m, 0 => by simp [AV.renL]
  | x :: m, i + 1 => by simpa [AV.renL] using AV.renL_get (m := m) (i := i)
theorem AV.calmL_get : {l : List AV} → AV.calmL l = true → ∀ {i : Nat} {a : AV}, l[i]? = some a → a.calm = true
  | [], _, _, _, h => by simp at h
  | x :: l, hn, 0, a, h => by simp [AV.calmL] at hn; simp at h; subst h; exact hn.1
  | x :: l, hn, i + 1, a, h => by simp [AV.calmL] at hn; exact AV.calmL_get hn.2 (i := i) (by simpa using h)

section
variable {P : Program} {w w' : World}
/-- Out of a smaller memory into a larger one. -/
theorem VRel.renOut {X1 X2 : Cx} {l : List Nat} (hpm : ∀ a, X1.Pm a → X2.Pm a) (hmy : ∀ b, X1.my b → X2.my b) (hown : ∀ b id, X1.lab b = some id → X2.lab b = some id ∧ ∀ j, X2.Pm ⟨b, j, none⟩ ↔ X1.Pm ⟨b, j, none⟩)
    (hm : ∀ o, o < X1.n → l.getD o 0 < X2.n ∧ X2.m (l.getD o 0) = X1.m o ∧ X2.cap (l.getD o 0) = X1.cap o ∧ X2.bo (l.getD o 0) = X1.bo o) :
    {a : AV} → {v : Value} → VRel P w X1 a v → VRel P w X2 (a.ren l) v
  | _, _, .top v => .top v
  | _, _, .dat d v hd => .dat d v (hd.mv fun a h => ⟨hpm a h, rfl⟩)
  | _, _, .nils => .nils
  | _, _, .ownNil id e => .ownNil id e
  | _, _, .own id e xs b c cur i he hb hl hh hc hm' hs hx hr hp => by
    obtain ⟨h1, h3⟩ := hown b id hl
    exact .own id e xs b c cur i he (hmy _ hb) h1 hh hc hm' hs hx (fun j x k d hj hk => by
      obtain ⟨v, hv, hd⟩ := hr j x k d hj hk
      exact ⟨v, hv, hd.mv fun a h => ⟨hpm a h, rfl⟩⟩) (fun k => (h3 k).trans (hp k))
  | _, _, .ptr o off ho => by
    obtain ⟨h1, h2, _, h4⟩ := hm o ho
    rw [← h2, ← h4]
    exact .ptr _ off h1
  | _, _, .nilp => .nilp
  | _, _, .sl o e xs n ti he ho hl hbo hx hr => by
    obtain ⟨h0, h1, h2, h3⟩ := hm o ho
    rw [← h1, ← h2]
    refine .sl _ e xs n ti he h0 (by rw [h2]; exact hl) (h3.trans hbo) hx fun j x k d hj hk => ?_
    obtain ⟨v, k1, k2, k3⟩ := hr j x k d hj hk
    rw [h1]
    exact ⟨v, hpm _ k1, k2, k3.mv fun a h => ⟨hpm a h, rfl⟩⟩
  | _, _, .emp A => .emp A
  | _, _, .anyb b => .anyb b
  | _, _, .rptr cells ad hc => .rptr cells ad fun i d hi => by
    obtain ⟨v, h1, h2, h3⟩ := hc i d hi
    exact ⟨v, hpm _ h1, h2, h3.mv fun a h => ⟨hpm a h, rfl⟩⟩
  | _, _, .fn f caps vs hs hc => .fn f _ vs (by rw [AV.renL_length]; exact hs) fun i c v hi hv => by
    rw [AV.renL_get, Option.map_eq_some_iff] at hi
    obtain ⟨c0, h0, rfl⟩ := hi
    exact VRel.renOut hpm hmy hown hm (hc i c0 v h0 hv)
  | _, _, .agg caps vs hs hc => .agg _ vs (by rw [AV.renL_length]; exact hs) fun i c v hi hv => by
    rw [AV.renL_get, Option.map_eq_some_iff] at hi
    obtain ⟨c0, h0, rfl⟩ := hi
    exact VRel.renOut hpm hmy hown hm (hc i c0 v h0 hv)
  | _, _, .tup caps vs hs hc => .tup _ vs (by rw [AV.renL_length]; exact hs) fun i c v hi hv => by
    rw [AV.renL_get, Option.map_eq_some_iff] at hi
    obtain ⟨c0, h0, rfl⟩ := hi
    exact VRel.renOut hpm hmy hown hm (hc i c0 v h0 hv)
/-- Into a smaller memory. -/
theorem VRel.renIn {X X1 : Cx} {l : List Nat} (hpm : X1.Pm = X.Pm) (hlab : X1.lab = X.lab) (hmy : ∀ b id, X.lab b = some id → X.my b → X1.my b)
    (hm : ∀ o, o < X1.n → X1.m o = X.m (l.getD o 0) ∧ X1.cap o = X.cap (l.getD o 0) ∧ X1.bo o = X.bo (l.getD o 0)) :
    {v : Value} → (a : AV) → a.bnd X1.n = true → VRel P w X (a.ren l) v → VRel P w X1 a v
  | v, .top, _, _ => .top v
  | _, .dat d, _, h => by
    simp only [AV.ren] at h
    cases h with
    | dat _ _ hd => exact .dat d _ (hpm ▸ hd)
  | _, .nils, _, h => by simp only [AV.ren] at h; cases h; exact .nils
  | _, .own id e xs, _, h => by
    simp only [AV.ren] at h
    cases h with
    | ownNil => exact .ownNil id e
    | own _ _ _ b c cur i he hb hl hh hc hm' hs hx hr hp => exact .own id e xs b c cur i he (hmy b id hl hb) (by rw [hlab]; exact hl) hh hc hm' hs hx (by rw [hpm]; exact hr) (by rw [hpm]; exact hp)
  | _, .ptr o off, hb, h => by
    simp only [AV.ren] at h
    have ho : o < X1.n := by simpa [AV.bnd, Nat.blt_eq] using hb
    obtain ⟨h1, _, h3⟩ := hm o ho
    cases h with
    | ptr _ _ _ =>
      rw [← h1, ← h3]
      exact .ptr o off ho
  | _, .nilp, _, h => by simp only [AV.ren] at h; cases h; exact .nilp
  | _, .sl o e xs n, hb, h => by
    simp only [AV.ren] at h
    have ho : o < X1.n := by simpa [AV.bnd, Nat.blt_eq] using hb
    obtain ⟨h1, h2, h3⟩ := hm o ho
    cases h with
    | sl _ _ _ _ ti he _ hl hbo hx hr =>
      rw [← h1, ← h2]
      refine .sl o e xs n ti he ho (by rw [h2]; exact hl) (h3.trans hbo) hx ?_
      rw [h1, hpm]
      exact hr
  | _, .emp, _, h => by simp only [AV.ren] at h; cases h; exact .emp _
  | _, .anyb, _, h => by simp only [AV.ren] at h; cases h; exact .anyb _
  | _, .rptr cells, _, h => by
    simp only [AV.ren] at h
    cases h with
    | rptr _ ad hc => exact .rptr cells ad (by rw [hpm]; exact hc)
  | _, .fn f caps, hb, h => by
    simp only [AV.ren] at h
    cases h with
    | fn _ _ vs hs hc =>
      refine .fn f caps vs (hs.trans (AV.renL_length _ _)) fun i c v hi hv => ?_
      exact VRel.renIn hpm hlab hmy hm c (AV.bndL_get (by simpa [AV.bnd] using hb) hi) (hc i (c.ren l) v (by rw [AV.renL_get, hi]; rfl) hv)
  | _, .agg caps, hb, h => by
    simp only [AV.ren] at h
    cases h with
    | agg _ vs hs hc =>
      refine .agg caps vs (hs.trans (AV.renL_length _ _)) fun i c v hi hv => ?_
      exact VRel.renIn hpm hlab hmy hm c (AV.bndL_get (by simpa [AV.bnd] using hb) hi) (hc i (c.ren l) v (by rw [AV.renL_get, hi]; rfl) hv)
  | _, .tup caps, hb, h => by
    simp only [AV.ren] at h
    cases h with
    | tup _ vs hs hc =>
      refine .tup caps vs (hs.trans (AV.renL_length _ _)) fun i c v hi hv => ?_
      exact VRel.renIn hpm hlab hmy hm c (AV.bndL_get (by simpa [AV.bnd] using hb) hi) (hc i (c.ren l) v (by rw [AV.renL_get, hi]; rfl) hv)
termination_by _ a => SizeOf.sizeOf a
decreasing_by
  all_goals
    have := List.sizeOf_lt_of_mem (List.mem_of_getElem? hi)
    simp
    omega
/-- What is told of nothing own moves with the cells that stay. -/
theorem VRel.calmMv {X X2 : Cx} (hpm : ∀ a, X.Pm a → X2.Pm a ∧ w'.cell? a = w.cell? a) (hm : ∀ o, o < X.n → o < X2.n ∧ X2.m o = X.m o ∧ X2.cap o = X.cap o ∧ X2.bo o = X.bo o) :
    {a : AV} → {v : Value} → VRel P w X a v → a.calm = true → VRel P w' X2 a v
  | _, _, .top v, _ => .top v
  | _, _, .dat d v hd, _ => .dat d v (hd.mv hpm)
  | _, _, .nils, _ => .nils
  | _, _, .ownNil id e, _ => .ownNil id e
  | _, _, .own .., h => by simp [AV.calm] at h
  | _, _, .ptr o off ho, _ => by
    obtain ⟨h1, h2, _, h4⟩ := hm o ho
    rw [← h2, ← h4]
    exact .ptr _ off h1
  | _, _, .nilp, _ => .nilp
  | _, _, .sl o e xs n ti he ho hl hbo hx hr, _ => by
    obtain ⟨h0, h1, h2, h3⟩ := hm o ho
    rw [← h1, ← h2]
    refine .sl _ e xs n ti he h0 (by rw [h2]; exact hl) (h3.trans hbo) hx fun j x k d hj hk => ?_
    obtain ⟨v, k1, k2, k3⟩ := hr j x k d hj hk
    rw [h1]
    exact ⟨v, (hpm _ k1).1, (hpm _ k1).2.trans k2, k3.mv hpm⟩
  | _, _, .emp A, _ => .emp A
  | _, _, .anyb b, _ => .anyb b
  | _, _, .rptr cells ad hc, _ => .rptr cells ad fun i d hi => by
    obtain ⟨v, h1, h2, h3⟩ := hc i d hi
    exact ⟨v, (hpm _ h1).1, (hpm _ h1).2.trans h2, h3.mv hpm⟩
  | _, _, .fn f caps vs hs hc, hq => .fn f _ vs hs fun i c v hi hv => VRel.calmMv hpm hm (hc i c v hi hv) (AV.calmL_get (by simpa [AV.calm] using hq) hi)
  | _, _, .agg caps vs hs hc, hq => .agg _ vs hs fun i c v hi hv => VRel.calmMv hpm hm (hc i c v hi hv) (AV.calmL_get (by simpa [AV.calm] using hq) hi)
  | _, _, .tup caps vs hs hc, hq => .tup _ vs hs fun i c v hi hv => VRel.calmMv hpm hm (hc i c v hi hv) (AV.calmL_get (by simpa [AV.calm] using hq) hi)
end

/-- The boxes l of G are those of H. -/
def setAll : List Nat → Boxes → Boxes → Boxes
  | i :: l, b :: H, G => (setAll l H G).set i b
  | _, _, G => G
def renB (l : List Nat) (H : Boxes) : Boxes := H.map fun b => (b.1, AV.renL l b.2)
theorem setAll_length : ∀ (l : List Nat) (H G : Boxes), (setAll l H G).length = G.length
  | [], H, G => by cases H <;> rfl
  | i :: l, [], G => rfl
  | i :: l, b :: H, G => by simp [setAll, setAll_length l H G]
theorem setAll_get : ∀ (l : List Nat) (H G : Boxes), l.Nodup → l.length = H.length → (∀ i ∈ l, i < G.length) → ∀ (o : Nat) (b : TypeId × List AV), (setAll l H G)[o]? = some b →
    (∃ i, i < l.length ∧ l.getD i 0 = o ∧ H[i]? = some b) ∨ (o ∉ l ∧ G[o]? = some b)
  | [], H, G, _, _, _, o, b, h => by
    cases H <;> exact .inr ⟨by simp, h⟩
  | i :: l, [], G, _, hl, _, o, b, h => by simp at hl
  | i :: l, c :: H, G, hn, hl, hi, o, b, h => by
    simp only [setAll, List.getElem?_set] at h
    split at h
    · rename_i e
      subst e
      rw [setAll_length, if_pos (hi i (by simp)), Option.some.injEq] at h
      subst h
      exact .inl ⟨0, by simp, by simp, by simp⟩
    · rename_i e
      rcases setAll_get l H G (List.nodup_cons.1 hn).2 (by simpa using hl) (fun j hj => hi j (by simp [hj])) o b h with ⟨j, h1, h2, h3⟩ | ⟨h1, h2⟩
      · exact .inl ⟨j + 1, by simp; exact h1, by simpa using h2, by simpa using h3⟩
      · exact .inr ⟨by simp; exact ⟨fun e' => e e'.symm, h1⟩, h2⟩
theorem getD_inj {l : List Nat} (hn : l.Nodup) {i j : Nat} (hi : i < l.length) (hj : j < l.length) (h : l.getD i 0 = l.getD j 0) : i = j := by
  rw [List.getD_eq_getElem?_getD, List.getD_eq_getElem?_getD, List.getElem?_eq_getElem hi, List.getElem?_eq_getElem hj] at h
  exact (List.getElem_inj (h₀ := hi) (h₁ := hj) hn).1 h
theorem getD_mem {l : List Nat} {i : Nat} (hi : i < l.length) : l.getD i 0 ∈ l := by
  rw [List.getD_eq_getElem?_getD, List.getElem?_eq_getElem hi]
  exact List.getElem_mem hi

/-- What must stand of the boxes. -/
structure Framed (l : List Nat) (args : List AV) (H G : Boxes) : Prop where
  nd : l.Nodup
  len : l.length = H.length
  bd : AV.bndL H.length args = true
  sel : ∀ (i : Nat) (T : TypeId) (cs : List AV), H[i]? = some (T, cs) → cs ≠ [] ∧ AV.bndL H.length cs = true ∧ G[l.getD i 0]? = some (T, AV.renL l cs)
  rest : ∀ (o : Nat) (T : TypeId) (cs : List AV), G[o]? = some (T, cs) → o ∈ l ∨ AV.calmL cs = true
theorem Framed.lt {l : List Nat} {args : List AV} {H G : Boxes} (h : Framed l args H G) {i : Nat} (hi : i < H.length) : l.getD i 0 < G.length := by
  obtain ⟨_, _, h3⟩ := h.sel i _ _ (by rw [List.getElem?_eq_getElem hi])
  exact (List.getElem?_eq_some_iff.1 h3).1
theorem Framed.all {l : List Nat} {args : List AV} {H G : Boxes} (h : Framed l args H G) : ∀ i ∈ l, i < G.length := by
  intro o ho
  obtain ⟨i, hi, rfl⟩ := List.mem_iff_getElem.1 ho
  have := h.lt (i := i) (by rw [← h.len]; exact hi)
  rwa [List.getD_eq_getElem?_getD, List.getElem?_eq_getElem hi] at this

theorem CR.frame {P : Program} {f : FuncId} {args : List AV} {H G : Boxes} {K : AV → Boxes → Prop} (l : List Nat) (h : CR P f args H K) (hF : Framed l args H G) (hK : ∀ r H', K r H' → H'.length = H.length) :
    CR P f (AV.renL l args) G fun r G' => ∃ r0 H', K r0 H' ∧ r = r0.ren l ∧ G' = setAll l (renB l H') G := by
  refine ⟨h.en, fun w X vs hh hc => ?_⟩
  have other : ∀ o, o ∉ l → ∀ i, i < H.length → l.getD i 0 ≠ o := fun o ho i hi e => ho (e ▸ getD_mem (by rw [hF.len]; exact hi))
  -- the smaller memory
  let X1 : Cx := { my := fun b => X.my b ∧ ∀ o T cs, G[o]? = some (T, cs) → cs ≠ [] → o ∉ l → X.m o ≠ b, Pm := X.Pm, n := H.length, m := fun i => X.m (l.getD i 0), lab := X.lab, cap := fun i => X.cap (l.getD i 0), bo := fun i => X.bo (l.getD i 0), dl := X.dl }
  have hmy1 : ∀ b id, X.lab b = some id → X.my b → X1.my b := fun b id hl hb => ⟨hb, fun o T cs ho hne _ e => by
    have := (hh.boxb o T cs ho hne).2.1
    rw [e, hl] at this
    cases this⟩
  have rin : ∀ {a : AV} {v : Value}, a.bnd H.length = true → VRel P w X (a.ren l) v → VRel P w X1 a v := fun hb hv => VRel.renIn (X := X) (X1 := X1) rfl rfl hmy1 (fun o _ => ⟨rfl, rfl, rfl⟩) _ hb hv
  have h1 : HRel P w X1 H := by
    refine ⟨rfl, fun b hb => ⟨hh.le b hb, fun o T cs ho hne _ e => ?_⟩, fun i T cs hi hne => ?_, fun i T cs hi hne => ?_, fun i i' T T' cs cs' hi hne hi' hne' e => ?_, hh.pm, fun b hb => ?_⟩
    · have := hh.boxlt ho hne
      omega
    · obtain ⟨k1, k2, k3⟩ := hF.sel i T cs hi
      have hne2 : AV.renL l cs ≠ [] := fun e => hne (List.eq_nil_of_length_eq_zero (by rw [← AV.renL_length l cs, e]; rfl))
      obtain ⟨b1, b2, b3⟩ := hh.boxb _ _ _ k3 hne2
      refine ⟨⟨b1, fun o T' cs' ho hne' hol e => ?_⟩, b2, b3⟩
      exact hol (hh.inj _ _ _ _ _ _ ho hne' k3 hne2 e ▸ getD_mem (by rw [hF.len]; exact (List.getElem?_eq_some_iff.1 hi).1))
    · obtain ⟨k1, k2, k3⟩ := hF.sel i T cs hi
      have hne2 : AV.renL l cs ≠ [] := fun e => hne (List.eq_nil_of_length_eq_zero (by rw [← AV.renL_length l cs, e]; rfl))
      obtain ⟨us, b1, b2, b3⟩ := hh.box _ _ _ k3 hne2
      rw [AV.renL_length] at b2
      exact ⟨us, b1, b2, fun j c v hj hv => rin (AV.bndL_get k2 hj) (b3 j (c.ren l) v (by rw [AV.renL_get, hj]; rfl) hv)⟩
    · obtain ⟨k1, k2, k3⟩ := hF.sel i T cs hi
      obtain ⟨k1', k2', k3'⟩ := hF.sel i' T' cs' hi'
      have hne2 : AV.renL l cs ≠ [] := fun e => hne (List.eq_nil_of_length_eq_zero (by rw [← AV.renL_length l cs, e]; rfl))
      have hne2' : AV.renL l cs' ≠ [] := fun e => hne' (List.eq_nil_of_length_eq_zero (by rw [← AV.renL_length l cs', e]; rfl))
      exact getD_inj hF.nd (by rw [hF.len]; exact (List.getElem?_eq_some_iff.1 hi).1) (by rw [hF.len]; exact (List.getElem?_eq_some_iff.1 hi').1) (hh.inj _ _ _ _ _ _ k3 hne2 k3' hne2' e)
    · have := hh.lab b hb
      cases hl : X.lab b with
      | none => exact absurd hl hb
      | some id => exact ⟨hmy1 b id hl this.1, this.2⟩
  have hc1 : Cells P w X1 args vs := ⟨by rw [hc.1, AV.renL_length], fun i c v hi hv => rin (AV.bndL_get hF.bd hi) (hc.2 i (c.ren l) v (by rw [AV.renL_get, hi]; rfl) hv)⟩
  refine (h.run w X1 vs h1 hc1).mono ?_
  rintro e w' ⟨v, r, H', X', rfl, hk, hpo, hh', hr⟩
  have hlen := hK r H' hk
  have hB : X'.my = X1.my := hpo.B
  have hn' : X'.n = H.length := hh'.n.trans hlen
  let X2 : Cx := { X' with my := X.my, n := X.n, m := X.m, cap := X.cap, bo := X.bo }
  have hmo : ∀ i, i < H.length → X'.m i = X.m (l.getD i 0) ∧ X'.cap i = X.cap (l.getD i 0) ∧ X'.bo i = X.bo (l.getD i 0) := fun i hi => hpo.mo i hi
  have rout : ∀ {a : AV} {v : Value}, VRel P w' X' a v → VRel P w' X2 (a.ren l) v := fun hv => VRel.renOut (X1 := X') (X2 := X2) (fun _ h => h) (fun b hb => (show X1.my b by rw [← hB]; exact hb).1) (fun _ _ hl => ⟨hl, fun _ => Iff.rfl⟩) (fun i hi => by
    have hi' : i < H.length := by rw [← hn']; exact hi
    obtain ⟨k1, k2, k3⟩ := hmo i hi'
    exact ⟨by show _ < X.n; rw [hh.n]; exact hF.lt hi', k1.symm, k2.symm, k3.symm⟩) hv
  have hnmy : ∀ b, ¬ X.my b → ¬ X1.my b := fun b hb h => hb h.1
  have hout : ∀ o T cs, G[o]? = some (T, cs) → cs ≠ [] → o ∉ l → ¬ X1.my (X.m o) := fun o T cs ho hne hol h => h.2 o T cs ho hne hol rfl
  refine ⟨v, r.ren l, setAll l (renB l H') G, X2, rfl, ⟨r, H', hk, rfl, rfl⟩, ⟨rfl, ⟨hpo.below.os, hpo.below.tape, hpo.below.output, hpo.below.size, fun k hk => hpo.below.block k (hnmy k hk)⟩, hpo.gs, hpo.keep, Nat.le_refl _, fun _ _ => ⟨rfl, rfl, rfl⟩, fun a ha => hpo.pm0 a (by rw [hB]; exact hnmy _ ha)⟩, ?_, rout hr⟩
  have key : ∀ {o : Nat} {T : TypeId} {cs : List AV}, (setAll l (renB l H') G)[o]? = some (T, cs) → (∃ i cs0, i < H.length ∧ l.getD i 0 = o ∧ H'[i]? = some (T, cs0) ∧ cs = AV.renL l cs0) ∨ (o ∉ l ∧ G[o]? = some (T, cs)) := by
    intro o T cs ho
    rcases setAll_get l (renB l H') G hF.nd (by rw [hF.len, renB, List.length_map, hlen]) hF.all o _ ho with ⟨i, k1, k2, k3⟩ | k
    · rw [renB, List.getElem?_map, Option.map_eq_some_iff] at k3
      obtain ⟨⟨T0, cs0⟩, k3, k4⟩ := k3
      simp only [Prod.mk.injEq] at k4
      obtain ⟨rfl, rfl⟩ := k4
      exact .inl ⟨i, cs0, by rw [← hF.len]; exact k1, k2, k3, rfl⟩
    · exact .inr k
  have ne0 : ∀ {cs0 : List AV}, AV.renL l cs0 ≠ [] → cs0 ≠ [] := fun h e => h (by rw [e]; rfl)
  refine ⟨by rw [setAll_length]; exact hh.n, fun b hb => hh.le b (Nat.le_trans hpo.gs hb), fun o T cs ho hne => ?_, fun o T cs ho hne => ?_, fun o o' T T' cs cs' ho hne ho' hne' e => ?_, hh'.pm, fun b hb => ?_⟩
  · rcases key ho with ⟨i, cs0, hi, rfl, k3, rfl⟩ | ⟨k1, k2⟩
    · obtain ⟨b1, b2, b3⟩ := hh'.boxb i T cs0 k3 (ne0 hne)
      obtain ⟨m1, _, m3⟩ := hmo i hi
      rw [m1] at b1 b2 b3
      rw [m3] at b3
      rw [hB] at b1
      exact ⟨b1.1, b2, b3⟩
    · obtain ⟨b1, b2, b3⟩ := hh.boxb o T cs k2 hne
      have hnot := hout o T cs k2 hne k1
      refine ⟨b1, ?_, fun i hi hp => b3 i hi ?_⟩
      · cases hl : X'.lab (X.m o) with
        | none => rfl
        | some id =>
          have := (hh'.lab (X.m o) (by rw [hl]; simp)).1
          rw [hB] at this
          exact absurd this hnot
      · exact (hpo.pm0 ⟨X.m o, i, none⟩ (by rw [hB]; exact hnot)).1 hp
  · rcases key ho with ⟨i, cs0, hi, rfl, k3, rfl⟩ | ⟨k1, k2⟩
    · obtain ⟨us, b1, b2, b3⟩ := hh'.box i T cs0 k3 (ne0 hne)
      obtain ⟨m1, m2, m3⟩ := hmo i hi
      rw [m1] at b1
      rw [m2, m3] at b2
      rw [m3] at b3
      refine ⟨us, b1, by rw [AV.renL_length]; exact b2, fun j c v hj hv => ?_⟩
      rw [AV.renL_get, Option.map_eq_some_iff] at hj
      obtain ⟨c0, hj, rfl⟩ := hj
      exact rout (b3 j c0 v hj hv)
    · obtain ⟨us, b1, b2, b3⟩ := hh.box o T cs k2 hne
      refine ⟨us, (hpo.below.block _ (hout o T cs k2 hne k1)).trans b1, b2, fun j c v hj hv => ?_⟩
      have hcalm : c.calm = true := by
        rcases hF.rest o T cs k2 with hq | hq
        · exact absurd hq k1
        · exact AV.calmL_get hq hj
      exact VRel.calmMv (X := X) (X2 := X2) hpo.keep (fun q hq => ⟨hq, rfl, rfl, rfl⟩) (b3 j c v hj hv) hcalm
  · rcases key ho with ⟨i, cs0, hi, rfl, k3, rfl⟩ | ⟨k1, k2⟩ <;> rcases key ho' with ⟨i', cs0', hi', rfl, k3', rfl⟩ | ⟨k1', k2'⟩
    · have e' : X'.m i = X'.m i' := by rw [(hmo i hi).1, (hmo i' hi').1]; exact e
      rw [hh'.inj i i' T T' cs0 cs0' k3 (ne0 hne) k3' (ne0 hne') e']
    · have b1 := (hh'.boxb i T cs0 k3 (ne0 hne)).1
      rw [hB, (hmo i hi).1] at b1
      exact absurd (e ▸ b1) (hout o' T' cs' k2' hne' k1')
    · have b1 := (hh'.boxb i' T' cs0' k3' (ne0 hne')).1
      rw [hB, (hmo i' hi').1] at b1
      exact absurd (e.symm ▸ b1) (hout o T cs k2 hne k1)
    · exact hh.inj o o' T T' cs cs' k2 hne k2' hne' e
  · have := hh'.lab b hb
    rw [hB] at this
    exact ⟨this.1.1, this.2⟩
end Go.Proofs.YtdfcjodkmjofgaaGreat
