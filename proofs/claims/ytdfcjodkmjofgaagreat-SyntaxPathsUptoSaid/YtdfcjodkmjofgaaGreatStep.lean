/-
  Operations that make or write memory, over abstract states: each leaves a state that is told again.
-/
import Derived.Test.YtdfcjodkmjofgaaGreatAval
namespace Go.Proofs.YtdfcjodkmjofgaaGreat
open Go.RowKit

section
variable {P : Program} {w0 : World} {X0 : Cx} {w w' : World} {X X' : Cx} {s : St} {a : Act}

theorem SRel.put (h : SRel P w0 X0 w X s a) (d : Option Tmp) {c : AV} {v : Value} (hc : VRel P w X c v) : SRel P w0 X0 w X (s.put d c) (a.put d v) := by
  cases d with
  | none => exact h
  | some d =>
    refine { h with size := by simp [Act.put, St.put, h.size], slot := fun i c' v' hi hv => ?_ }
    simp only [St.put, Act.put, List.getElem?_set, Array.getElem?_setIfInBounds, h.size] at hi hv
    by_cases hd : d = i
    · subst hd
      by_cases hl : d < s.slots.length
      · simp only [if_true, hl] at hi hv
        injection hi with hi
        injection hv with hv
        subst hi hv
        exact hc
      · simp [hl] at hi
    · rw [if_neg hd] at hi hv
      exact h.slot i c' v' hi hv

theorem SRel.le (h : SRel P w0 X0 w X s a) : ∀ b, w.heap.size ≤ b → X.my b := h.hp.le
theorem HRel.boxlt {H : List (TypeId × List AV)} (h : HRel P w X H) {o : Nat} {T : TypeId} {cs : List AV} (ho : H[o]? = some (T, cs)) (hne : cs ≠ []) : X.m o < w.heap.size := by
  obtain ⟨vs, hh, _⟩ := h.box o _ _ ho hne
  exact (Array.getElem?_eq_some_iff.1 hh).1
theorem HRel.pmlt {H : List (TypeId × List AV)} (h : HRel P w X H) {ad : Addr} (hp : X.Pm ad) : ad.block < w.heap.size := by
  obtain ⟨u, hu⟩ := h.pm ad hp
  exact World.block_lt_of_cell? w ad hu
theorem SRel.pmlt (h : SRel P w0 X0 w X s a) {ad : Addr} (hp : X.Pm ad) : ad.block < w.heap.size := h.hp.pmlt hp

/-- Boxes move with what they tell of. -/
theorem HRel.mov {H : List (TypeId × List AV)} (h : HRel P w X H) {bad : Option Nat} (hm : Mov w X w' X' bad X.n) (hbad : ∀ id, bad = some id → ∀ b ∈ H, AV.noOwnL id b.2 = true) (hB : X'.my = X.my) (hle : ∀ b, w'.heap.size ≤ b → X.my b) (hn : X'.n = X.n)
    (hbox : ∀ o T cs, H[o]? = some (T, cs) → cs ≠ [] → w'.heap[X.m o]? = w.heap[X.m o]? ∧ X'.lab (X.m o) = none ∧ ∀ i, X.bo o ≤ i → ¬ X'.Pm ⟨X.m o, i, none⟩) (hpm : ∀ a, X'.Pm a → ∃ u, w'.cell? a = some u)
    (hlab : ∀ b, X'.lab b ≠ none → X.my b ∧ b < w'.heap.size) : HRel P w' X' H := by
  have hlt : ∀ {o : Nat} {T : TypeId} {cs : List AV}, H[o]? = some (T, cs) → o < X.n := fun ho => by rw [h.n]; exact (List.getElem?_eq_some_iff.1 ho).1
  refine ⟨hn.trans h.n, by rw [hB]; exact hle, fun o T cs ho hne => ?_, fun o T cs ho hne => ?_, fun o o' T T' cs cs' ho hne ho' hne' e => ?_, hpm, fun b hb => ?_⟩
  · rw [hB, (hm.m o (hlt ho)).1, (hm.m o (hlt ho)).2.2]
    exact ⟨(h.boxb o T cs ho hne).1, (hbox o T cs ho hne).2.1, (hbox o T cs ho hne).2.2⟩
  · obtain ⟨vs, hh, hs, hc⟩ := h.box o T cs ho hne
    rw [(hm.m o (hlt ho)).1, (hm.m o (hlt ho)).2.1, (hm.m o (hlt ho)).2.2]
    exact ⟨vs, (hbox o T cs ho hne).1.trans hh, hs, fun i c v hi hv => VRel.mv hm (hc i c v hi hv) (fun id e => AV.noOwnL_get (hbad id e _ (List.mem_of_getElem? ho)) hi) (hc i c v hi hv).bnd⟩
  · rw [(hm.m o (hlt ho)).1, (hm.m o' (hlt ho')).1] at e
    exact h.inj o o' T T' cs cs' ho hne ho' hne' e
  · rw [hB]
    exact hlab b hb

/-- A state moves with what it tells of. -/
theorem SRel.movb (h : SRel P w0 X0 w X s a) {bad : Option Nat} (hm : Mov w X w' X' bad X.n) (hbad : ∀ id, bad = some id → AV.noOwnL id s.slots = true ∧ ∀ b ∈ s.heap, AV.noOwnL id b.2 = true) (hpo : Post w X w' X') (hn : X'.n = X.n)
    (hbox : ∀ o T cs, s.heap[o]? = some (T, cs) → cs ≠ [] → w'.heap[X.m o]? = w.heap[X.m o]? ∧ X'.lab (X.m o) = none ∧ ∀ i, X.bo o ≤ i → ¬ X'.Pm ⟨X.m o, i, none⟩) (hpm : ∀ a, X'.Pm a → ∃ u, w'.cell? a = some u)
    (hlab : ∀ b, X'.lab b ≠ none → X.my b ∧ b < w'.heap.size) : SRel P w0 X0 w' X' s a :=
  ⟨h.defers, h.size, fun i c v hi hv => VRel.mv hm (h.slot i c v hi hv) (fun id e => AV.noOwnL_get (hbad id e).1 hi) (h.slot i c v hi hv).bnd,
    h.hp.mov hm (fun id e => (hbad id e).2) hpo.B (fun b hb => h.le b (Nat.le_trans hpo.gs hb)) hn hbox hpm hlab, h.po.trans hpo⟩
theorem SRel.mov (h : SRel P w0 X0 w X s a) (hm : Mov w X w' X' none X.n) (hpo : Post w X w' X') (hn : X'.n = X.n)
    (hbox : ∀ o T cs, s.heap[o]? = some (T, cs) → cs ≠ [] → w'.heap[X.m o]? = w.heap[X.m o]? ∧ X'.lab (X.m o) = none ∧ ∀ i, X.bo o ≤ i → ¬ X'.Pm ⟨X.m o, i, none⟩) (hpm : ∀ a, X'.Pm a → ∃ u, w'.cell? a = some u)
    (hlab : ∀ b, X'.lab b ≠ none → X.my b ∧ b < w'.heap.size) : SRel P w0 X0 w' X' s a :=
  h.movb hm (fun _ e => by cases e) hpo hn hbox hpm hlab

/-- Another world that leaves this one's blocks alone. -/
theorem SRel.world (h : SRel P w0 X0 w X s a) (hb : Below w.heap.size w w') : SRel P w0 X0 w' X s a := by
  refine h.mov ⟨fun _ h => h, fun ad hp => ⟨hp, hb.cell (h.pmlt hp)⟩, fun b id hl _ => ⟨hl, hb.block b (h.hp.lab b (by rw [hl]; simp)).2, fun _ => Iff.rfl⟩, Nat.le_refl _, fun _ _ => ⟨rfl, rfl, rfl⟩⟩
    ⟨rfl, keptOf hb h.le, hb.size, fun ad hp => ⟨hp, hb.cell (h.pmlt hp)⟩, Nat.le_refl _, fun _ _ => ⟨rfl, rfl, rfl⟩, fun _ _ => Iff.rfl⟩ rfl (fun o T cs ho hne => ⟨hb.block _ (h.hp.boxlt ho hne), (h.hp.boxb o T cs ho hne).2⟩) ?_ ?_
  · intro ad hp
    obtain ⟨u, hu⟩ := h.hp.pm ad hp
    exact ⟨u, (hb.cell (h.pmlt hp)).trans hu⟩
  · intro b hl
    have := h.hp.lab b hl
    exact ⟨this.1, Nat.lt_of_lt_of_le this.2 hb.size⟩

/-- How it is told with one box more. -/
def Cx.push (X : Cx) (b cap bo : Nat) : Cx := { X with n := X.n + 1, m := fun o => if o = X.n then b else X.m o, cap := fun o => if o = X.n then cap else X.cap o, bo := fun o => if o = X.n then bo else X.bo o }
/-- A block that lies there becomes a box. -/
theorem SRel.push (h : SRel P w0 X0 w X s a) {b cap bo : Nat} {vs : Array Value} {T : TypeId} {cs : List AV} (hh : w.heap[b]? = some (.cells vs T (0, 0))) (hb : X.my b) (hl : X.lab b = none) (hp : ∀ i, bo ≤ i → ¬ X.Pm ⟨b, i, none⟩)
    (hne : ∀ o T cs, s.heap[o]? = some (T, cs) → cs ≠ [] → X.m o ≠ b) (hs : bo + cs.length ≤ vs.size ∧ cap ≤ maxLen ∧ ∀ ti, P.info? T = some ti → vs.size = cap * ti.size ∧ ti.size ∣ bo) (hc : ∀ (i : Nat) (c : AV) (v : Value), cs[i]? = some c → vs[bo + i]? = some v → VRel P w X c v) :
    SRel P w0 X0 w (X.push b cap bo) { s with heap := s.heap ++ [(T, cs)] } a ∧ X.n = s.heap.length ∧ (X.push b cap bo).n = s.heap.length + 1 ∧ (X.push b cap bo).m s.heap.length = b ∧ (X.push b cap bo).cap s.heap.length = cap ∧ (X.push b cap bo).bo s.heap.length = bo ∧
      Mov w X w (X.push b cap bo) none X.n := by
  have hmv : Mov w X w (X.push b cap bo) none X.n :=
    ⟨fun _ h => h, fun _ hp => ⟨hp, rfl⟩, fun _ _ hl _ => ⟨hl, rfl, fun _ => Iff.rfl⟩, Nat.le_succ _, fun o ho => ⟨if_neg (Nat.ne_of_lt ho), if_neg (Nat.ne_of_lt ho), if_neg (Nat.ne_of_lt ho)⟩⟩
  have mv : ∀ {c : AV} {v : Value}, VRel P w X c v → VRel P w (X.push b cap bo) c v := fun hc => VRel.mv hmv hc (fun _ e => by cases e) hc.bnd
  have hnn := h.hp.n
  refine ⟨⟨h.defers, h.size, fun i c v hi hv => mv (h.slot i c v hi hv), ⟨by simp [Cx.push, hnn], h.le, fun o T' cs' ho hne' => ?_, fun o T' cs' ho hne' => ?_, fun o o' T1 T2 cs1 cs2 ho h1 ho' h2 e => ?_, h.hp.pm, h.hp.lab⟩,
    h.po.trans ⟨rfl, Kept.refl _ _, Nat.le_refl _, fun _ hp => ⟨hp, rfl⟩, Nat.le_succ _, hmv.m, fun _ _ => Iff.rfl⟩⟩, hnn, by simp [Cx.push, hnn], by simp [Cx.push, hnn], by simp [Cx.push, hnn], by simp [Cx.push, hnn], hmv⟩
  · rw [List.getElem?_append] at ho
    show X.my (if o = X.n then b else X.m o) ∧ X.lab (if o = X.n then b else X.m o) = none ∧ ∀ i, (if o = X.n then bo else X.bo o) ≤ i → ¬ X.Pm ⟨if o = X.n then b else X.m o, i, none⟩
    split at ho
    · rename_i hlt
      rw [if_neg (by omega), if_neg (by omega)]
      exact h.hp.boxb o T' cs' ho hne'
    · have := (List.getElem?_eq_some_iff.1 ho).1
      simp only [List.length_cons, List.length_nil] at this
      rw [if_pos (by omega), if_pos (by omega)]
      exact ⟨hb, hl, hp⟩
  · rw [List.getElem?_append] at ho
    show ∃ us, w.heap[if o = X.n then b else X.m o]? = some (.cells us T' (0, 0)) ∧ ((if o = X.n then bo else X.bo o) + cs'.length ≤ us.size ∧ (if o = X.n then cap else X.cap o) ≤ maxLen ∧ ∀ ti, P.info? T' = some ti → us.size = (if o = X.n then cap else X.cap o) * ti.size ∧ ti.size ∣ (if o = X.n then bo else X.bo o)) ∧ ∀ (i : Nat) (c : AV) (v : Value), cs'[i]? = some c → us[(if o = X.n then bo else X.bo o) + i]? = some v → VRel P w (X.push b cap bo) c v
    split at ho
    · rename_i hlt
      obtain ⟨vs', h1, h2, h3⟩ := h.hp.box o T' cs' ho hne'
      rw [if_neg (by omega), if_neg (by omega), if_neg (by omega)]
      exact ⟨vs', h1, h2, fun i c v hi hv => mv (h3 i c v hi hv)⟩
    · rename_i hge
      have hl' := (List.getElem?_eq_some_iff.1 ho).1
      simp only [List.length_cons, List.length_nil] at hl'
      have : o = s.heap.length := by omega
      subst this
      simp at ho
      obtain ⟨rfl, rfl⟩ := ho
      rw [if_pos hnn.symm, if_pos hnn.symm, if_pos hnn.symm]
      exact ⟨vs, hh, hs, fun i c v hi hv => mv (hc i c v hi hv)⟩
  · rw [List.getElem?_append] at ho ho'
    replace e : (if o = X.n then b else X.m o) = (if o' = X.n then b else X.m o') := e
    split at ho <;> split at ho'
    · rw [if_neg (by omega), if_neg (by omega)] at e
      exact h.hp.inj o o' _ _ _ _ ho h1 ho' h2 e
    · have := (List.getElem?_eq_some_iff.1 ho').1
      simp only [List.length_cons, List.length_nil] at this
      rw [if_neg (by omega), if_pos (by omega)] at e
      exact absurd e (hne o _ _ ho h1)
    · have := (List.getElem?_eq_some_iff.1 ho).1
      simp only [List.length_cons, List.length_nil] at this
      rw [if_pos (by omega), if_neg (by omega)] at e
      exact absurd e.symm (hne o' _ _ ho' h2)
    · have h3 := (List.getElem?_eq_some_iff.1 ho').1
      have h4 := (List.getElem?_eq_some_iff.1 ho).1
      simp only [List.length_cons, List.length_nil] at h3 h4
      omega

/-- Boxes of which nothing is told yet. -/
theorem SRel.hold (h : SRel P w0 X0 w X s a) (l : List TypeId) : SRel P w0 X0 w { X with n := X.n + l.length } { s with heap := s.heap ++ l.map fun t => (t, []) } a := by
  have hmv : Mov w X w { X with n := X.n + l.length } none X.n := ⟨fun _ h => h, fun _ hp => ⟨hp, rfl⟩, fun _ _ hl _ => ⟨hl, rfl, fun _ => Iff.rfl⟩, Nat.le_add_right _ _, fun o ho => ⟨rfl, rfl, rfl⟩⟩
  have mv : ∀ {c : AV} {v : Value}, VRel P w X c v → VRel P w { X with n := X.n + l.length } c v := fun hc => VRel.mv hmv hc (fun _ e => by cases e) hc.bnd
  have key : ∀ {o : Nat} {T : TypeId} {cs : List AV}, (s.heap ++ l.map fun t => (t, ([] : List AV)))[o]? = some (T, cs) → cs ≠ [] → s.heap[o]? = some (T, cs) := by
    intro o T cs ho hne
    rw [List.getElem?_append] at ho
    split at ho
    · exact ho
    · rw [List.getElem?_map, Option.map_eq_some_iff] at ho
      obtain ⟨t, _, e⟩ := ho
      simp only [Prod.mk.injEq] at e
      exact absurd e.2.symm hne
  exact ⟨h.defers, h.size, fun i c v hi hv => mv (h.slot i c v hi hv), ⟨by simp [h.hp.n], h.le, fun o T cs ho hne => h.hp.boxb o T cs (key ho hne) hne, fun o T cs ho hne => by
      obtain ⟨vs, h1, h2, h3⟩ := h.hp.box o T cs (key ho hne) hne
      exact ⟨vs, h1, h2, fun i c v hi hv => mv (h3 i c v hi hv)⟩, fun o o' T T' cs cs' ho h1 ho' h2 e => h.hp.inj o o' T T' cs cs' (key ho h1) h1 (key ho' h2) h2 e, h.hp.pm, h.hp.lab⟩,
    h.po.trans ⟨rfl, Kept.refl _ _, Nat.le_refl _, fun _ hp => ⟨hp, rfl⟩, Nat.le_add_right _ _, fun _ _ => ⟨rfl, rfl, rfl⟩, fun _ _ => Iff.rfl⟩⟩
/-- A block that lies there becomes the box that was held. -/
theorem SRel.fill (h : SRel P w0 X0 w X s a) {o b cap : Nat} {vs : Array Value} {T : TypeId} {cs : List AV} (ho : s.heap[o]? = some (T, [])) (hX0 : X0.n ≤ o) (hno : AV.okpL (fun q => !(q == o)) s.slots = true ∧ ∀ b ∈ s.heap, AV.okpL (fun q => !(q == o)) b.2 = true) (hh : w.heap[b]? = some (.cells vs T (0, 0))) (hb : X.my b) (hl : X.lab b = none) (hp : ∀ i, ¬ X.Pm ⟨b, i, none⟩)
    (hne : ∀ o T cs, s.heap[o]? = some (T, cs) → cs ≠ [] → X.m o ≠ b) (hs : cs.length ≤ vs.size ∧ cap ≤ maxLen ∧ ∀ ti, P.info? T = some ti → vs.size = cap * ti.size) (hc : ∀ (i : Nat) (c : AV) (v : Value), cs[i]? = some c → vs[i]? = some v → VRel P w X c v) (hco : AV.okpL (fun q => !(q == o)) cs = true) :
    ∃ X', SRel P w0 X0 w X' { s with heap := s.heap.set o (T, cs) } a ∧ VRel P w X' (.ptr o 0) (.pointer (some ⟨b, 0, none⟩)) := by
  have hon : o < X.n := by rw [h.hp.n]; exact (List.getElem?_eq_some_iff.1 ho).1
  let X' : Cx := { X with m := fun q => if q = o then b else X.m q, cap := fun q => if q = o then cap else X.cap q, bo := fun q => if q = o then 0 else X.bo q }
  have mv : ∀ {c : AV} {v : Value}, VRel P w X c v → c.okp (fun q => !(q == o)) = true → VRel P w X' c v := fun hc hok => VRel.mvp (X := X) (X' := X') (fun _ hp => ⟨hp, rfl⟩) (fun _ h => h) (fun _ _ hl => ⟨hl, rfl, fun _ => Iff.rfl⟩) (fun _ _ hq => hq) (fun q hq => by
    have hq' : ¬ q = o := by simpa using hq
    exact ⟨if_neg hq', if_neg hq', if_neg hq'⟩) hc hok
  have key : ∀ {q : Nat} {T' : TypeId} {cs' : List AV}, (s.heap.set o (T, cs))[q]? = some (T', cs') → (q = o ∧ T' = T ∧ cs' = cs) ∨ (q ≠ o ∧ s.heap[q]? = some (T', cs')) := by
    intro q T' cs' hq
    rw [List.getElem?_set] at hq
    split at hq
    · rename_i e
      split at hq
      · simp only [Option.some.injEq, Prod.mk.injEq] at hq
        exact .inl ⟨e.symm, hq.1.symm, hq.2.symm⟩
      · cases hq
    · rename_i e
      exact .inr ⟨fun e' => e e'.symm, hq⟩
  refine ⟨X', ⟨h.defers, h.size, fun i c v hi hv => mv (h.slot i c v hi hv) (AV.okpL_get hno.1 hi), ⟨by simp [X', h.hp.n], h.le, fun q T' cs' hq hn => ?_, fun q T' cs' hq hn => ?_, fun q q' T1 T2 c1 c2 hq h1 hq' h2 e => ?_, h.hp.pm, h.hp.lab⟩,
    ⟨h.po.B, h.po.below, h.po.gs, h.po.keep, h.po.mn, fun q hq => ?_, h.po.pm0⟩⟩, ?_⟩
  · rcases key hq with ⟨rfl, rfl, rfl⟩ | ⟨hqo, hq⟩
    · show X.my (if q = q then b else X.m q) ∧ X.lab (if q = q then b else X.m q) = none ∧ ∀ i, (if q = q then 0 else X.bo q) ≤ i → ¬ X.Pm ⟨if q = q then b else X.m q, i, none⟩
      rw [if_pos rfl]
      exact ⟨hb, hl, fun i _ => hp i⟩
    · show X.my (if q = o then b else X.m q) ∧ X.lab (if q = o then b else X.m q) = none ∧ ∀ i, (if q = o then 0 else X.bo q) ≤ i → ¬ X.Pm ⟨if q = o then b else X.m q, i, none⟩
      rw [if_neg hqo, if_neg hqo]
      exact h.hp.boxb q T' cs' hq hn
  · show ∃ us, w.heap[if q = o then b else X.m q]? = some (.cells us T' (0, 0)) ∧ ((if q = o then 0 else X.bo q) + cs'.length ≤ us.size ∧ (if q = o then cap else X.cap q) ≤ maxLen ∧ ∀ ti, P.info? T' = some ti → us.size = (if q = o then cap else X.cap q) * ti.size ∧ ti.size ∣ (if q = o then 0 else X.bo q)) ∧ ∀ (i : Nat) (c : AV) (v : Value), cs'[i]? = some c → us[(if q = o then 0 else X.bo q) + i]? = some v → VRel P w X' c v
    rcases key hq with ⟨rfl, rfl, rfl⟩ | ⟨hqo, hq⟩
    · rw [if_pos rfl, if_pos rfl, if_pos rfl]
      refine ⟨vs, hh, ⟨by rw [Nat.zero_add]; exact hs.1, hs.2.1, fun ti hti => ⟨hs.2.2 ti hti, Nat.dvd_zero _⟩⟩, fun i c v hi hv => ?_⟩
      rw [Nat.zero_add] at hv
      exact mv (hc i c v hi hv) (AV.okpL_get hco hi)
    · rw [if_neg hqo, if_neg hqo, if_neg hqo]
      obtain ⟨us, h1, h2, h3⟩ := h.hp.box q T' cs' hq hn
      exact ⟨us, h1, h2, fun i c v hi hv => mv (h3 i c v hi hv) (AV.okpL_get (hno.2 _ (List.mem_of_getElem? hq)) hi)⟩
  · replace e : (if q = o then b else X.m q) = (if q' = o then b else X.m q') := e
    rcases key hq with ⟨k1, _, _⟩ | ⟨k1, k2⟩ <;> rcases key hq' with ⟨k3, _, _⟩ | ⟨k3, k4⟩
    · rw [k1, k3]
    · rw [if_pos k1, if_neg k3] at e
      exact absurd e.symm (hne q' _ _ k4 h2)
    · rw [if_neg k1, if_pos k3] at e
      exact absurd e (hne q _ _ k2 h1)
    · rw [if_neg k1, if_neg k3] at e
      exact h.hp.inj q q' _ _ _ _ k2 h1 k4 h2 e
  · have hqo : ¬ q = o := by omega
    show (if q = o then b else X.m q) = _ ∧ (if q = o then cap else X.cap q) = _ ∧ (if q = o then 0 else X.bo q) = _
    rw [if_neg hqo, if_neg hqo, if_neg hqo]
    exact h.po.mo q hq
  · have := VRel.ptr (P := P) (w := w) (X := X') o 0 hon
    have e1 : X'.m o = b := if_pos rfl
    have e2 : X'.bo o = 0 := if_pos rfl
    rw [e1, e2] at this
    exact this
/-- The cells of a box are written. -/
theorem SRel.store (h : SRel P w0 X0 w X s a) {o : Nat} {cs cs' : List AV} {vs vs' : Array Value} {T : TypeId} (hcs : s.heap[o]? = some (T, cs)) (hne : cs ≠ []) (hh : w.heap[X.m o]? = some (.cells vs T (0, 0)))
    (hs : X.bo o + cs'.length ≤ vs'.size ∧ vs'.size = vs.size) (hc : ∀ (i : Nat) (c : AV) (v : Value), cs'[i]? = some c → vs'[X.bo o + i]? = some v → VRel P w X c v) (hkeep : ∀ i, i < X.bo o → vs'[i]? = vs[i]?) :
    SRel P w0 X0 (w.setRow (X.m o) vs') X { s with heap := s.heap.set o (T, cs') } a := by
  have hbx := h.hp.boxb o T cs hcs hne
  have ho : o < X.n := by rw [h.hp.n]; exact (List.getElem?_eq_some_iff.1 hcs).1
  have hoth : ∀ k, k ≠ X.m o → (w.setRow (X.m o) vs').heap[k]? = w.heap[k]? := fun k hk => setRow_other w _ k _ hk
  have hcell : ∀ ad, X.Pm ad → (w.setRow (X.m o) vs').cell? ad = w.cell? ad := fun ad hp => by
    by_cases e : ad.block = X.m o
    · obtain ⟨u, hu⟩ := h.hp.pm ad hp
      have hsp : ad.spot = none := by
        unfold World.cell? at hu
        split at hu
        · by_cases hq : ad.spot.isSome
          · rw [if_pos hq] at hu; cases hu
          · simpa using hq
        · cases hu
      have had : ad = ⟨X.m o, ad.off, none⟩ := by cases ad; simp_all
      rw [had] at hp ⊢
      have hlt : ad.off < X.bo o := Nat.lt_of_not_le fun hle => hbx.2.2 _ hle hp
      rw [cell_of_row _ _ _ vs' T (0, 0) (setRow_heap w _ vs vs' T (0, 0) hh), cell_of_row w _ _ vs T (0, 0) hh]
      exact hkeep _ hlt
    · exact World.cell?_of_block (hoth _ e)
  have hmv : Mov w X (w.setRow (X.m o) vs') X none X.n := ⟨fun _ h => h, fun ad hp => ⟨hp, hcell ad hp⟩, fun b id hl _ => ⟨hl, hoth b (fun e => by rw [e, hbx.2.1] at hl; cases hl), fun _ => Iff.rfl⟩, Nat.le_refl _, fun _ _ => ⟨rfl, rfl, rfl⟩⟩
  have mv : ∀ {c : AV} {v : Value}, VRel P w X c v → VRel P (w.setRow (X.m o) vs') X c v := fun hc => VRel.mv hmv hc (fun _ e => by cases e) hc.bnd
  have hsz : (w.setRow (X.m o) vs').heap.size = w.heap.size := by simp
  refine ⟨h.defers, h.size, fun i c v hi hv => mv (h.slot i c v hi hv), ⟨by simp [h.hp.n], by rw [hsz]; exact h.le, fun p T2 cs2 hp hn2 => ?_, fun p T2 cs2 hp hn2 => ?_, fun p p' T1 T2 cs1 cs2 hp h1 hp' h2 e => ?_, fun ad hp => ?_, fun b hb => ?_⟩,
    h.po.trans ⟨rfl, ⟨rfl, rfl, rfl, by rw [hsz]; exact Nat.le_refl _, fun k hk => hoth k (fun e => hk (e ▸ hbx.1))⟩, by rw [hsz]; exact Nat.le_refl _, hmv.pm, Nat.le_refl _, fun _ _ => ⟨rfl, rfl, rfl⟩, fun _ _ => Iff.rfl⟩⟩
  · rw [List.getElem?_set] at hp
    split at hp
    · rename_i e
      subst e
      exact hbx
    · exact h.hp.boxb p T2 cs2 hp hn2
  · rw [List.getElem?_set] at hp
    split at hp
    · rename_i e
      subst e
      split at hp
      · simp only [Option.some.injEq, Prod.mk.injEq] at hp
        obtain ⟨rfl, rfl⟩ := hp
        obtain ⟨vs0, h0, ⟨_, h1, h2⟩, _⟩ := h.hp.box o T cs hcs hne
        rw [hh] at h0
        injection h0 with h0
        injection h0 with h0
        subst h0
        exact ⟨vs', setRow_heap w _ vs vs' T (0, 0) hh, ⟨hs.1, h1, fun ti hti => ⟨hs.2.trans (h2 ti hti).1, (h2 ti hti).2⟩⟩, fun i c v hi hv => mv (hc i c v hi hv)⟩
      · cases hp
    · rename_i hnp
      obtain ⟨vs2, h1, h2, h3⟩ := h.hp.box p T2 cs2 hp hn2
      exact ⟨vs2, (hoth _ fun e => hnp (h.hp.inj o p T T2 cs cs2 hcs hne hp hn2 e.symm)).trans h1, h2, fun i c v hi hv => mv (h3 i c v hi hv)⟩
  · have key : ∀ {q : Nat} {T3 : TypeId} {cs3 : List AV}, (s.heap.set o (T, cs'))[q]? = some (T3, cs3) → cs3 ≠ [] → ∃ T4 cs4, s.heap[q]? = some (T4, cs4) ∧ cs4 ≠ [] := by
      intro q T3 cs3 hq hn3
      rw [List.getElem?_set] at hq
      split at hq
      · rename_i e
        subst e
        exact ⟨T, cs, hcs, hne⟩
      · exact ⟨T3, cs3, hq, hn3⟩
    obtain ⟨_, _, k1, k2⟩ := key hp h1
    obtain ⟨_, _, k3, k4⟩ := key hp' h2
    exact h.hp.inj p p' _ _ _ _ k1 k2 k3 k4 e
  · obtain ⟨u, hu⟩ := h.hp.pm ad hp
    exact ⟨u, (hcell ad hp).trans hu⟩
  · have := h.hp.lab b hb
    exact ⟨this.1, by rw [hsz]; exact this.2⟩

/-- A new block, told of by nothing. -/
theorem SRel.alloc (h : SRel P w0 X0 w X s a) (o : Obj) : SRel P w0 X0 (w.alloc o) X s a := h.world ((Below.refl _ _).alloc (Nat.le_refl _) o)
theorem SRel.fresh (h : SRel P w0 X0 w X s a) {b : Nat} (hb : w.heap.size ≤ b) : X.lab b = none ∧ (∀ i, ¬ X.Pm ⟨b, i, none⟩) ∧ ∀ o T cs, s.heap[o]? = some (T, cs) → cs ≠ [] → X.m o ≠ b := by
  refine ⟨?_, fun i hp => by have := h.pmlt hp; simp at this; omega, fun o T cs ho hne e => by have := h.hp.boxlt ho hne; omega⟩
  cases hl : X.lab b with
  | none => rfl
  | some id => have := (h.hp.lab b (by rw [hl]; simp)).2; omega
end

/-- A value's cells; nothing is known of how many an unknown value has. -/
def AV.cells : AV → Option (List AV)
  | .agg cs => some cs
  | .top => none
  | .tup _ => none
  | v => some [v]
theorem cells_rel {P : Program} {w : World} {X : Cx} {c : AV} {v : Value} {cs : List AV} (h : VRel P w X c v) (hc : c.cells = some cs) : v.cells.size = cs.length ∧ ∀ (i : Nat) (c : AV) (u : Value), cs[i]? = some c → v.cells[i]? = some u → VRel P w X c u := by
  have one : ∀ (c : AV) (v : Value), VRel P w X c v → v.cells = #[v] → v.cells.size = [c].length ∧ ∀ (i : Nat) (c' : AV) (u : Value), [c][i]? = some c' → v.cells[i]? = some u → VRel P w X c' u := by
    intro c v hr hv
    rw [hv]
    refine ⟨rfl, fun i c' u hi hu => ?_⟩
    cases i with
    | zero => simp at hi hu; subst hi hu; exact hr
    | succ i => simp at hi
  cases h with
  | top v => simp [AV.cells] at hc
  | tup => simp [AV.cells] at hc
  | agg l vs hs hh => simp [AV.cells] at hc; subst hc; exact ⟨hs, hh⟩
  | dat d v hd =>
    simp [AV.cells] at hc
    subst hc
    exact one _ _ (.dat d v hd) (by cases hd <;> rfl)
  | nils => simp [AV.cells] at hc; subst hc; exact one _ _ .nils rfl
  | ownNil id e => simp [AV.cells] at hc; subst hc; exact one _ _ (.ownNil id e) rfl
  | own id e xs b c cur i he hb hl hh hc' hm hs hx hr hp => simp [AV.cells] at hc; subst hc; exact one _ _ (.own id e xs b c cur i he hb hl hh hc' hm hs hx hr hp) rfl
  | ptr o off ho => simp [AV.cells] at hc; subst hc; exact one _ _ (.ptr o off ho) rfl
  | sl o e xs n ti he ho hl hb hx hr => simp [AV.cells] at hc; subst hc; exact one _ _ (.sl o e xs n ti he ho hl hb hx hr) rfl
  | emp A => simp [AV.cells] at hc; subst hc; exact one _ _ (.emp A) rfl
  | anyb b => simp [AV.cells] at hc; subst hc; exact one _ _ (.anyb b) rfl
  | nilp => simp [AV.cells] at hc; subst hc; exact one _ _ .nilp rfl
  | rptr cells ad hcc => simp [AV.cells] at hc; subst hc; exact one _ _ (.rptr cells ad hcc) rfl
  | fn f caps vs hs hcc => simp [AV.cells] at hc; subst hc; exact one _ _ (.fn f caps vs hs hcc) rfl
/-- A constant's cells. -/
def zcells : Value → Option (List AV)
  | .agg cs => some (cs.toList.map AV.ofCell)
  | v => some [AV.ofCell v]
theorem zcells_rel {P : Program} {w : World} {X : Cx} {z : Value} {cs : List AV} (h : zcells z = some cs) : z.cells.size = cs.length ∧ ∀ (i : Nat) (c : AV) (u : Value), cs[i]? = some c → z.cells[i]? = some u → VRel P w X c u := by
  unfold zcells at h
  split at h
  · rename_i vs
    injection h with h
    subst h
    refine ⟨by simp [Value.cells], fun i c u hi hu => ?_⟩
    simp only [List.getElem?_map, Array.getElem?_toList, Option.map_eq_some_iff] at hi
    obtain ⟨v, hv, rfl⟩ := hi
    simp only [Value.cells] at hu
    rw [hv] at hu
    injection hu with hu
    subst hu
    exact ofCell_rel v
  · rename_i hne
    injection h with h
    subst h
    have e : z.cells = #[z] := by cases z <;> first | rfl | exact absurd rfl (hne _)
    rw [e]
    refine ⟨rfl, fun i c u hi hu => ?_⟩
    cases i with
    | zero => simp at hi hu; subst hi hu; exact ofCell_rel z
    | succ i => simp at hi
/-- What is known to take one cell. -/
def AV.one : AV → Bool
  | .top => false
  | .agg _ => false
  | .tup _ => false
  | _ => true
theorem one_rel {P : Program} {w : World} {X : Cx} {c : AV} {v : Value} (h : VRel P w X c v) (hc : c.one = true) : v.oneCell' = true := by
  cases h with
  | dat d v hd => cases hd <;> rfl
  | top => simp [AV.one] at hc
  | agg => simp [AV.one] at hc
  | tup => simp [AV.one] at hc
  | _ => rfl
end Go.Proofs.YtdfcjodkmjofgaaGreat
