/-
  A body that is run over what is not known: its contract.
-/
import Derived.Test.YtdfcjodkmjofgaaGreatSym3
namespace Go.Proofs.YtdfcjodkmjofgaaGreat
open Go.RowKit

section
variable {V : View} {P : Program}
theorem sget_eq : ∀ {l : List AV} {t : Nat}, sget t l = l[t]?
  | [], t => by simp [sget]
  | a :: l, 0 => by simp [sget]
  | a :: l, t + 1 => by simp [sget, sget_eq]
theorem oget_eq : ∀ {l : List Oper} {t : Nat}, oget t l = l[t]?
  | [], t => by simp [oget]
  | a :: l, 0 => by simp [oget]
  | a :: l, t + 1 => by simp [oget, oget_eq]
theorem sguard_gtest {all : Array Oper} {s : St} {o : Oper} {A B : Unit → Prop} (h : sguard all s o A B) :
    (gtest all s o = some none ∧ A ()) ∨ ∃ b, gtest all s o = some (some b) ∧ (b = true → A ()) ∧ (b = false → B ()) := by
  unfold sguard at h
  unfold gtest
  split at h
  · rename_i hg
    exact .inl ⟨by rw [hg], h⟩
  · rename_i j want hg
    right
    split at h
    · rename_i o' ho'
      rw [oget_eq, Array.getElem?_toList] at ho'
      split at h
      · rename_i t ht
        split at h
        · rename_i b hb
          rw [sget_eq] at hb
          refine ⟨b == want, by simp only [hg, ho', Option.bind_some, ht, hb], ?_⟩
          split at h
          · cases b
            · exact ⟨(fun e => by cases e), fun _ => h⟩
            · exact ⟨fun _ => h, (fun e => by cases e)⟩
          · cases b
            · exact ⟨fun _ => h, (fun e => by cases e)⟩
            · exact ⟨(fun e => by cases e), fun _ => h⟩
        · exact h.elim
      · exact h.elim
    · exact h.elim
theorem sops_aops (hV : V.OK P) {all : Array Oper} {K K' : St → Prop} (hk : ∀ s', K s' → K' s') : ∀ {l : List Oper} {s : St}, sops (Wd.std P) V all l s K → aops P all l s K'
  | [], s, h => hk _ h
  | o :: rest, s, h => by
    simp only [sops] at h
    simp only [aops]
    rcases sguard_gtest h with ⟨hg, h⟩ | ⟨b, hg, h1, h2⟩
    · simp only [hg]
      exact sstep_astep hV (fun s' hs => sops_aops hV hk hs) h
    · simp only [hg]
      exact ⟨fun e => sstep_astep hV (fun s' hs => sops_aops hV hk hs) (h1 e), fun e => sops_aops hV hk (h2 e)⟩
theorem sqstep_aqstep (hV : V.OK P) {o : Oper} {s : St} {K K' : St → Prop} (hk : ∀ s', K s' → K' s') (h : sqstep (Wd.std P) V o s K) : aqstep P o s K' := by
  unfold sqstep at h
  unfold aqstep
  split at h
  · rename_i t parts ho
    have hn : aval P s o = none := by unfold aval; simp only [ho]
    simp only [hn, ho]
    split at h
    · rename_i v hv
      simp only [sbuild_eq hV hv]
      exact hk _ h
    · exact h.elim
  · rename_i f args tys ho
    have hn : aval P s o = none := by unfold aval; simp only [ho]
    simp only [hn, ho]
    split at h
    · rename_i g l hc
      simp only [hc]
      obtain ⟨d, h1, h2, h3⟩ := h
      exact ⟨d, h1, h2, hk _ h3⟩
    · exact h.elim
  · obtain ⟨v, h1, h2⟩ := sread_aval (o := o) hV h
    simp only [h1]
    exact hk _ h2
theorem squiet_aquiet (hV : V.OK P) {all : Array Oper} {K K' : St → Prop} (hk : ∀ s', K s' → K' s') : ∀ {l : List Oper} {s : St}, squiet (Wd.std P) V all l s K → aquiet P all l s K'
  | [], s, h => hk _ h
  | o :: rest, s, h => by
    simp only [squiet] at h
    simp only [aquiet]
    rcases sguard_gtest h with ⟨hg, h⟩ | ⟨b, hg, h1, h2⟩
    · simp only [hg]
      exact sqstep_aqstep hV (fun s' hs => squiet_aquiet hV hk hs) h
    · simp only [hg]
      exact ⟨fun e => sqstep_aqstep hV (fun s' hs => squiet_aquiet hV hk hs) (h1 e), fun e => squiet_aquiet hV hk (h2 e)⟩
theorem shead_ahead (hV : V.OK P) {all : Array Oper} {K K' : St → Prop} (hk : ∀ s', K s' → K' s') : ∀ {l : List Oper} {s : St}, shead (Wd.std P) V all l s K → ahead P all l s K'
  | [], s, h => hk _ h
  | o :: rest, s, h => by
    simp only [shead] at h
    simp only [ahead]
    rcases sguard_gtest h with ⟨hg, h⟩ | ⟨b, hg, h1, h2⟩
    · simp only [hg]
      obtain ⟨v, k1, k2⟩ := sread_aval (o := o) hV h
      simp only [k1]
      exact shead_ahead hV hk k2
    · simp only [hg]
      refine ⟨fun e => ?_, fun e => shead_ahead hV hk (h2 e)⟩
      obtain ⟨v, k1, k2⟩ := sread_aval (o := o) hV (h1 e)
      simp only [k1]
      exact shead_ahead hV hk k2
theorem hslots_put (o : Oper) (v : AV) (rest : List Oper) (vs : List AV) (s : St) : hslots (o :: rest) (v :: vs) s.slots = hslots rest vs (s.put o.dst v).slots := by
  cases h : o.dst <;> simp [hslots, St.put, h]
theorem put_heap (s : St) (d : Option Tmp) (v : AV) : (s.put d v).heap = s.heap := by cases d <;> rfl
theorem findAl_some {i : Nat} : ∀ {bl : List BE} {r0 r : Nat} {b : BE}, findAl i r0 bl = some (r, b) → r0 ≤ r ∧ bl[r - r0]? = some b ∧ b.al = i
  | [], r0, r, b, h => by cases h
  | x :: l, r0, r, b, h => by
    simp only [findAl] at h
    cases hb : Nat.beq x.al i with
    | true =>
      rw [hb, cond_true, Option.some.injEq, Prod.mk.injEq] at h
      obtain ⟨rfl, rfl⟩ := h
      exact ⟨Nat.le_refl _, by simp, Nat.eq_of_beq_eq_true hb⟩
    | false =>
      rw [hb, cond_false] at h
      obtain ⟨h1, h2, h3⟩ := findAl_some h
      refine ⟨by omega, ?_, h3⟩
      rw [show r - r0 = (r - (r0 + 1)) + 1 by omega, List.getElem?_cons_succ]
      exact h2
theorem findSt_some {i : Nat} : ∀ {bl : List BE} {r0 r : Nat} {b : BE} {vc : List AV}, findSt i r0 bl = some (r, b, vc) → r0 ≤ r ∧ bl[r - r0]? = some b ∧ b.st = some (i, vc)
  | [], r0, r, b, vc, h => by cases h
  | x :: l, r0, r, b, vc, h => by
    have step : findSt i (r0 + 1) l = some (r, b, vc) → r0 ≤ r ∧ (x :: l)[r - r0]? = some b ∧ b.st = some (i, vc) := fun h => by
      obtain ⟨h1, h2, h3⟩ := findSt_some h
      refine ⟨by omega, ?_, h3⟩
      rw [show r - r0 = (r - (r0 + 1)) + 1 by omega, List.getElem?_cons_succ]
      exact h2
    simp only [findSt] at h
    split at h
    · rename_i j vc0 hs
      cases hb : Nat.beq j i with
      | true =>
        rw [hb, cond_true, Option.some.injEq, Prod.mk.injEq, Prod.mk.injEq] at h
        obtain ⟨rfl, rfl, rfl⟩ := h
        exact ⟨Nat.le_refl _, by simp, by rw [hs, Nat.eq_of_beq_eq_true hb]⟩
      | false => rw [hb, cond_false] at h; exact step h
    · exact step h
theorem sfree_HRun (hV : V.OK P) {all : Array Oper} {bl : List BE} {K : St → Prop} : ∀ {l : List Oper} {i : Nat} {s : St}, sfree (Wd.std P) V bl i l s K → ∃ vs, HRun P all bl i l s vs ∧ K ⟨hslots l vs s.slots, s.heap⟩
  | [], i, s, h => ⟨[], rfl, h⟩
  | o :: rest, i, s, h => by
    have step : ∀ v, o.guard = none → ((OVal P s o v ∧ v.bnd s.heap.length = true ∧ bl.all (fun b => !b.has i) = true) ∨
        (∃ (r : Nat) (b : BE), bl[r]? = some b ∧ b.al = i ∧ allocOf P o = some (b.T, b.zc) ∧ v = .ptr (s.heap.length + r) 0) ∨
        (∃ (r : Nat) (b : BE) (vc : List AV) (t : TypeId) (x y : Operand) (ti : TypeInfo), bl[r]? = some b ∧ b.st = some (i, vc) ∧ v = .top ∧ o.op = .store t x y ∧ s.ev x = .ptr (s.heap.length + r) 0 ∧ (s.ev y).cells = some vc ∧ P.info? t = some ti ∧
          (vc.all AV.one && (vc.length == ti.size) && (vc.length == b.zc.length) && Nat.blt 0 vc.length && AV.bndL s.heap.length vc) = true)) →
        sfree (Wd.std P) V bl (i + 1) rest (s.put o.dst v) K → ∃ vs, HRun P all bl i (o :: rest) s vs ∧ K ⟨hslots (o :: rest) vs s.slots, s.heap⟩ := by
      intro v hg hv hr
      obtain ⟨vs, h1, h2⟩ := sfree_HRun hV (all := all) hr
      refine ⟨v :: vs, ⟨?_, h1⟩, ?_⟩
      · unfold HStep
        have : gtest all s o = some none := by unfold gtest; rw [hg]
        simp only [this]
        exact hv
      · rw [hslots_put]
        rw [put_heap] at h2
        exact h2
    have fin : ∀ v, o.guard = none → OVal P s o v → (bif v.bnd s.heap.length && bl.all (fun b => !b.has i) then sfree (Wd.std P) V bl (i + 1) rest (s.put o.dst v) K else False) → ∃ vs, HRun P all bl i (o :: rest) s vs ∧ K ⟨hslots (o :: rest) vs s.slots, s.heap⟩ := by
      intro v hg hv h
      cases hb : (v.bnd s.heap.length && bl.all (fun b => !b.has i)) with
      | false => rw [hb] at h; exact h.elim
      | true =>
        rw [hb, cond_true] at h
        rw [Bool.and_eq_true] at hb
        exact step v hg (.inl ⟨hv, hb.1, hb.2⟩) h
    simp only [sfree] at h
    split at h
    · rename_i hg
      split at h
      · rename_i e ho
        split at h
        · rename_i size by' zc r b hi hf
          obtain ⟨tj, k1, k2, _, k4⟩ := tiOf_info (hV.inf _ _ hi)
          obtain ⟨z, k5, k6, _⟩ := k4 zc rfl
          obtain ⟨_, k7, k8⟩ := findAl_some hf
          cases hb : (Nat.beq zc.length size && Nat.beq b.T e) with
          | false => rw [hb] at h; exact h.elim
          | true =>
            rw [hb, cond_true] at h
            rw [Bool.and_eq_true] at hb
            have e1 := Nat.eq_of_beq_eq_true hb.1
            have e2 := Nat.eq_of_beq_eq_true hb.2
            refine step _ hg (.inr (.inl ⟨r, b, by simpa using k7, k8, ?_, rfl⟩)) h.2
            unfold allocOf
            simp only at k2
            simp only [ho, k1, k5, k6, k2, e1, e2, h.1]
            simp
        · exact h.elim
      · rename_i t x y ho
        split at h
        · rename_i q vc ti r b vc0 hx hy hi hf
          obtain ⟨tj, k1, k2, _⟩ := tiOf_info (hV.inf _ _ hi)
          obtain ⟨_, k7, k8⟩ := findSt_some hf
          cases hb : (Nat.beq q (s.heap.length + r) && (vc.all AV.one && Nat.beq vc.length ti.size && Nat.beq vc.length b.zc.length && Nat.blt 0 vc.length && AV.bndL s.heap.length vc)) with
          | false => rw [hb] at h; exact h.elim
          | true =>
            rw [hb, cond_true] at h
            simp only [Bool.and_eq_true] at hb
            obtain ⟨e0, h⟩ := h
            subst e0
            have e1 := Nat.eq_of_beq_eq_true hb.1
            refine step _ hg (.inr (.inr ⟨r, b, vc0, t, x, y, tj, by simpa using k7, k8, rfl, ho, by rw [hx, e1], hy, k1, ?_⟩)) h
            simp only [Bool.and_eq_true]
            have e2 := Nat.eq_of_beq_eq_true hb.2.1.1.1.2
            have e3 := Nat.eq_of_beq_eq_true hb.2.1.1.2
            exact ⟨⟨⟨⟨hb.2.1.1.1.1, by rw [e2, k2]; simp⟩, by rw [e3]; simp⟩, hb.2.1.2⟩, hb.2.2⟩
        · exact h.elim
      · rename_i t parts ho
        split at h
        · rename_i v hv
          exact fin v hg (.inr (.inl ⟨t, parts, ho, sbuild_eq hV hv⟩)) h
        · exact h.elim
      · rename_i f args tys ho
        split at h
        · rename_i g l hc
          cases hb : bl.all (fun b => !b.has i) with
          | false => rw [hb] at h; exact h.elim
          | true =>
            rw [hb, cond_true] at h
            obtain ⟨r, h1, h2, h3⟩ := h
            exact step r hg (.inl ⟨.inr (.inr (.inr (.inl ⟨f, args, tys, g, l, ho, hc, h1⟩))), h2, hb⟩) h3
        · exact h.elim
      · rename_i t x y t' ho
        split at h
        · rename_i a b hx hy
          cases hb : bl.all (fun b => !b.has i) with
          | false => rw [hb] at h; exact h.elim
          | true =>
            rw [hb, cond_true] at h
            exact step _ hg (.inl ⟨.inr (.inr (.inr (.inr ⟨t, x, y, t', a, b, ho, hx, hy, h.1, rfl⟩))), rfl, hb⟩) h.2
        · obtain ⟨v, h1, h2⟩ := sread_aval (o := o) hV (by rw [ho]; exact h)
          exact fin v hg (.inl h1) h2
      · obtain ⟨v, h1, h2⟩ := sread_aval (o := o) hV h
        exact fin v hg (.inl h1) h2
    · exact h.elim
theorem sdraw_awp {nb : Nat} (hV : V.OK P) {id : Nat} {ops : Array Oper} {s : St} {K : St → Prop} {K' : AEx → St → Prop} (hk : ∀ s', K s' → K' .norm s') (h : SDraw (Wd.std P) V ops s K) : awp P nb (.region id ops true) s K' := by
  cases h with
  | quiet h1 h2 => exact .inl ⟨h1, squiet_aquiet hV hk h2⟩
  | tail n h1 h2 => exact .inr (.inl ⟨n, h1, shead_ahead hV (fun s' hs => sops_aops hV hk hs) h2⟩)
  | free n bl h1 hb h2 =>
    obtain ⟨vs, k1, k2⟩ := sfree_HRun hV (all := ops) h2
    exact .inr (.inr (.inl ⟨n, vs, bl, h1, hb, k1, sops_aops hV hk k2⟩))
  | other h => exact h P nb K' hV rfl hk
theorem swp_awp {nb : Nat} (hV : V.OK P) : ∀ (c : Code) {s : St} {K K' : AEx → St → Prop}, (∀ e s', K e s' → K' e s') → swp (Wd.std P) V nb c s K → awp P nb c s K'
  | .skip, s, K, K', hk, h => hk _ _ h
  | .region _ ops false, s, K, K', hk, h => .inl (sops_aops hV (hk _) h)
  | .region _ ops true, s, K, K', hk, h => sdraw_awp hV (hk _) h
  | .seq a b, s, K, K', hk, h => by
    simp only [swp] at h
    simp only [awp]
    refine swp_awp hV a (fun e s' hs => ?_) h
    cases e with
    | norm => exact swp_awp hV b hk hs
    | exit id => exact hk _ _ hs
    | ret => exact hk _ _ hs
  | .cond c t e, s, K, K', hk, h => by
    simp only [swp] at h
    simp only [awp]
    split at h
    · rename_i b hc
      simp only [hc]
      cases b
      · exact ⟨(fun e => by cases e), fun _ => swp_awp hV _ hk h⟩
      · exact ⟨fun _ => swp_awp hV t hk h, (fun e => by cases e)⟩
    · rename_i hc
      simp only [hc]
      exact ⟨swp_awp hV t hk h.1, swp_awp hV _ hk h.2⟩
    · exact h.elim
  | .block id c, s, K, K', hk, h => by
    simp only [swp] at h
    simp only [awp]
    refine swp_awp hV c (fun e s' hs => ?_) h
    cases e with
    | norm => exact hk _ _ hs
    | ret => exact hk _ _ hs
    | exit i =>
      simp only at hs ⊢
      cases hb : Nat.beq i id with
      | true => rw [hb, cond_true] at hs; rw [if_pos (Nat.eq_of_beq_eq_true hb)]; exact hk _ _ hs
      | false => rw [hb, cond_false] at hs; rw [if_neg (Nat.ne_of_beq_eq_false hb)]; exact hk _ _ hs
  | .loop c, s, K, K', hk, h => by
    simp only [swp] at h
    simp only [awp]
    cases h with
    | mk α mk m a h0 h =>
    refine ⟨fun n s => ∃ a, m a = n ∧ s = mk a, ⟨_, _, h0.wk, a, rfl, rfl⟩, fun n s hI => ?_⟩
    obtain ⟨a, rfl, rfl⟩ := hI
    refine swp_awp hV c (fun e s' hs => ?_) (h a)
    cases e with
    | norm =>
      obtain ⟨a', h1, h2⟩ := hs
      exact ⟨m a', mk a', h1, h2.wk, a', rfl, rfl⟩
    | exit id => exact hk _ _ hs
    | ret => exact hk _ _ hs
  | .exit id, s, K, K', hk, h => hk _ _ h
  | .ret, s, K, K', hk, h => hk _ _ h
  | .rangeFunc .., s, K, K', hk, h => h.elim
  | .scope _, s, K, K', hk, h => h.elim
  | .label _, s, K, K', hk, h => h.elim
  | .goto _, s, K, K', hk, h => h.elim
  | .refuse _, s, K, K', hk, h => h.elim

/-- Results. -/
def sresOne (V : View) (s : St) : ResultVar → Option AV
  | .tmp t => sget t s.slots
  | .cell a t => match sget a s.slots with
    | some (.ptr o k) => match s.heap[o]? with
      | some (_, c :: cs) => sload V t ((c :: cs).drop k)
      | _ => none
    | _ => none
def sresList (V : View) (s : St) : List ResultVar → Option (List AV)
  | [] => some []
  | r :: l => match sresOne V s r, sresList V s l with
    | some a, some l => some (a :: l)
    | _, _ => none
def sres (V : View) (rs : List ResultVar) (s : St) : Option AV :=
  match sresList V s rs with
  | some [a] => some a
  | some l => some (.tup l)
  | none => none
theorem sresOne_eq (hV : V.OK P) {s : St} {r : ResultVar} {v : AV} (h : sresOne V s r = some v) : resOne P s r = some v := by
  cases r with
  | tmp t =>
    simp only [sresOne, sget_eq] at h
    simp [resOne, List.getD_eq_getElem?_getD, h]
  | cell a t =>
    simp only [sresOne, sget_eq] at h
    split at h
    · rename_i o k ha
      simp only [resOne, List.getD_eq_getElem?_getD, ha, Option.getD_some]
      split at h
      · rename_i T c cs hc
        simp only [hc]
        exact sload_load hV h
      · cases h
    · cases h
theorem sresList_eq (hV : V.OK P) {s : St} : ∀ {l : List ResultVar} {vs : List AV}, sresList V s l = some vs → resList P s l = some vs
  | [], vs, h => h
  | r :: l, vs, h => by
    simp only [sresList] at h
    split at h
    · rename_i a l' h1 h2
      simp only [resList, sresOne_eq hV h1, sresList_eq hV h2]
      exact h
    · cases h
theorem sres_eq (hV : V.OK P) {fn : Func} {s : St} {v : AV} (h : sres V fn.results.toList s = some v) : resAv P fn s = some v := by
  unfold sres at h
  unfold resAv
  split at h
  · rename_i a ha
    rw [sresList_eq hV ha]
    exact h
  · rename_i l hne hl
    rw [sresList_eq hV hl]
    split
    · rename_i a e; injection e with e; subst e; exact absurd rfl (hne a)
    · rename_i l' _ e; injection e with e; subst e; exact h
    · rename_i e; cases e
  · cases h
/-- What is handed back. -/
inductive SFin : Option AV → AV → Prop
  | eq {a v : AV} (h : LeV a v) : SFin (some a) v
  | tup {l m : List AV} (h : LeL l m) : SFin (some (.tup l)) (.tup m)
theorem SFin.rel {r : Option AV} {v : AV} (h : SFin r v) : ∃ a, r = some a ∧ ∀ (w : World) (X : Cx) (x : Value), VRel P w X a x → VRel P w X v x := by
  cases h with
  | eq h => exact ⟨_, rfl, fun w X x hx => h.rel hx⟩
  | tup h =>
    refine ⟨_, rfl, fun w X x hx => ?_⟩
    cases hx with
    | tup _ vs hs hc =>
      refine .tup _ vs (hs.trans h.len) fun i c v hi hv => ?_
      obtain ⟨a, h1, h2⟩ := h.get hi
      exact h2.rel (hc i a v h1 hv)
def sstart (fn : Func) (args : List AV) (H : Boxes) : St := ⟨args ++ List.replicate (fn.ntmps - args.length) .top, H⟩
theorem bare' {P : Program} {f : FuncId} {args : List AV} {K : AV → Boxes → Prop} (h : CR P f args [] K) {K' : AV → Prop} (hk : ∀ r' H', K r' H' → ∃ r, r.bnd 0 = true ∧ K' r ∧ ∀ (w : World) (X : Cx) (x : Value), VRel P w X r' x → VRel P w X r x) : CRet P f args K' :=
  ⟨h.en, fun w X vs hp hc => (h.run w X vs hp hc).mono fun e w' ⟨v, r', H', X', h1, h2, h3, h4, h5⟩ => by
    obtain ⟨r, hb, k1, k2⟩ := hk r' H' h2
    exact ⟨v, r, H', X', h1, ⟨hb, k1⟩, h3, h4, k2 _ _ _ h5⟩⟩
/-- What some memory holds. -/
def AV.real (a : AV) : Prop := ∃ P w X v, VRel P w X a v
def Dat.real (d : Dat) : Prop := ∃ w Pm v, DRel w Pm d v
theorem AV.real_dat {d : Dat} (h : AV.real (.dat d)) : d.real := by
  obtain ⟨P, w, X, v, h⟩ := h
  cases h with
  | dat _ _ h => exact ⟨w, X.Pm, v, h⟩
theorem AV.real_agg {cs : List AV} (h : AV.real (.agg cs)) : ∀ (i : Nat) (c : AV), cs[i]? = some c → c.real := by
  obtain ⟨P, w, X, v, h⟩ := h
  cases h with
  | agg _ vs hs hc =>
    intro i c hi
    have hlt : i < vs.size := by rw [hs]; exact (List.getElem?_eq_some_iff.1 hi).1
    exact ⟨P, w, X, _, hc i c _ hi (Array.getElem?_eq_getElem hlt)⟩
theorem Dat.real_len {xs : List (List Dat)} (h : Dat.real (.list xs)) : xs.length ≤ maxLen := by
  obtain ⟨w, Pm, v, h⟩ := h
  cases h with
  | list _ A c sz vs hc hm hl hR hA => exact Nat.le_trans hc hm.1
theorem Dat.real_get {xs : List (List Dat)} (h : Dat.real (.list xs)) {j i : Nat} {x : List Dat} {d : Dat} (hj : xs[j]? = some x) (hi : x[i]? = some d) : d.real := by
  obtain ⟨w, Pm, v, h⟩ := h
  cases h with
  | list _ A c sz vs hc hm hl hR hA => exact ⟨w, Pm, _, hR j x i d hj hi⟩
/-- Only what some memory holds is ever handed over. -/
theorem CR.of_real {P : Program} {f : FuncId} {args : List AV} {H : Boxes} {K : AV → Boxes → Prop} (en : ∃ fn, P.funcs[f]? = some fn ∧ (fn.name == "runtime.NumGoroutine") = false ∧ fn.body.isNone = false)
    (h : (∀ (i : Nat) (c : AV), args[i]? = some c → c.real) → CR P f args H K) : CR P f args H K :=
  ⟨en, fun w X vs hp hc => (h fun i c hi => by
    have hlt : i < vs.size := by rw [hc.1]; exact (List.getElem?_eq_some_iff.1 hi).1
    exact ⟨P, w, X, _, hc.2 i c _ hi (Array.getElem?_eq_getElem hlt)⟩).run w X vs hp hc⟩
/-- What is handed back is of K. -/
inductive SFinK (r : Option AV) (K : AV → Prop) : Prop
  | mk (v : AV) (h : SFin r v) (hk : K v) (hb : v.bnd 0 = true) : SFinK r K
/-- A function's contract, by its body. -/
theorem cretK_of_swp (hm : P.follows .mixedOrders = true) (hV : V.OK P) {f : FuncId} {fn : Func} {code : Code} {args : List AV} {K : AV → Prop} (hf : P.funcs[f]? = some fn) (hb : fn.body = some code) (hn : (fn.name == "runtime.NumGoroutine") = false)
    (h : ∀ E, Wd.std P = E → (∀ (i : Nat) (c : AV), args[i]? = some c → c.real) → swp E V 0 code (sstart fn args []) fun e s' => match e with
      | .exit _ => False
      | .norm => SFinK (sres V fn.results.toList s') K
      | .ret => SFinK (sres V fn.results.toList s') K) : CRet P f args K := by
  refine CR.of_real ⟨fn, hf, hn, by rw [hb]; rfl⟩ fun hreal => ?_
  refine bare' (K := fun r' _ => ∃ r, r.bnd 0 = true ∧ K r ∧ ∀ (w : World) (X : Cx) (x : Value), VRel P w X r' x → VRel P w X r x) (cr_of_awp hm hf hb hn (swp_awp hV code (fun e s' hs => ?_) (h _ rfl hreal))) (fun r' H' h => h)
  have fin : SFinK (sres V fn.results.toList s') K → ∃ s2, Wk P 0 s' s2 ∧ ∃ r, resAv P fn s2 = some r ∧ ∃ r2, r2.bnd 0 = true ∧ K r2 ∧ ∀ (w : World) (X : Cx) (x : Value), VRel P w X r x → VRel P w X r2 x := by
    rintro ⟨v, hs, hk, hv⟩
    obtain ⟨a, h1, h2⟩ := hs.rel (P := P)
    exact ⟨s', Wk.refl P s', a, sres_eq hV h1, v, hv, hk, h2⟩
  cases e with
  | exit id => exact hs.elim
  | norm => exact fin hs
  | ret => exact fin hs
theorem cret_of_swp (hm : P.follows .mixedOrders = true) (hV : V.OK P) {f : FuncId} {fn : Func} {code : Code} {args : List AV} {v : AV} (hf : P.funcs[f]? = some fn) (hb : fn.body = some code) (hn : (fn.name == "runtime.NumGoroutine") = false) (hv : v.bnd 0 = true)
    (h : ∀ E, Wd.std P = E → (∀ (i : Nat) (c : AV), args[i]? = some c → c.real) → swp E V 0 code (sstart fn args []) fun e s' => match e with
      | .exit _ => False
      | .norm => SFin (sres V fn.results.toList s') v
      | .ret => SFin (sres V fn.results.toList s') v) : CRet P f args (· = v) := by
  refine CR.of_real ⟨fn, hf, hn, by rw [hb]; rfl⟩ fun hreal => ?_
  refine bare' (K := fun r' _ => ∀ (w : World) (X : Cx) (x : Value), VRel P w X r' x → VRel P w X v x) (cr_of_awp hm hf hb hn (swp_awp hV code (fun e s' hs => ?_) (h _ rfl hreal))) (fun r' H' h => ⟨v, hv, rfl, h⟩)
  have fin : SFin (sres V fn.results.toList s') v → ∃ s2, Wk P 0 s' s2 ∧ ∃ r, resAv P fn s2 = some r ∧ ∀ (w : World) (X : Cx) (x : Value), VRel P w X r x → VRel P w X v x := by
    intro hs
    obtain ⟨a, h1, h2⟩ := hs.rel (P := P)
    exact ⟨s', Wk.refl P s', a, sres_eq hV h1, h2⟩
  cases e with
  | exit id => exact hs.elim
  | norm => exact fin hs
  | ret => exact fin hs
end
end Go.Proofs.YtdfcjodkmjofgaaGreat
