/-
  From a body that the calculus shows to a function's contract.
-/
import Derived.Test.YtdfcjodkmjofgaaGreatSound3
namespace Go.Proofs.YtdfcjodkmjofgaaGreat
open Go.RowKit

/-- One result, where it lies at the body's end. -/
def resOne (P : Program) (s : St) : ResultVar → Option AV
  | .tmp t => some (s.slots.getD t .top)
  | .cell a t => match s.slots.getD a .top with
    | .ptr o k => match s.heap[o]? with
      | some (_, c :: cs) => loadAv P t ((c :: cs).drop k)
      | _ => none
    | _ => none
def resList (P : Program) (s : St) : List ResultVar → Option (List AV)
  | [] => some []
  | r :: l => match resOne P s r, resList P s l with
    | some a, some l => some (a :: l)
    | _, _ => none
def resAv (P : Program) (fn : Func) (s : St) : Option AV :=
  match resList P s fn.results.toList with
  | some [a] => some a
  | some l => some (.tup l)
  | none => none
theorem resOne_sound {P : Program} {w0 : World} {X0 : Cx} {w : World} {X : Cx} {s : St} {a : Act} (hs : SRel P w0 X0 w X s a) (r : ResultVar) {av : AV} (h : resOne P s r = some av) :
    ∃ v, (match r with
      | ResultVar.tmp t => (pure (a.tmps.getD t undef) : Sem Value)
      | ResultVar.cell b t => do loadVar t (← asAddr (a.tmps.getD b undef))).run P w = Result.ok v w ∧ VRel P w X av v := by
  cases r with
  | tmp t =>
    simp only [resOne, Option.some.injEq] at h
    subst h
    exact ⟨_, rfl, hs.ev (.tmp t)⟩
  | cell b t =>
    simp only [resOne] at h
    have hb : VRel P w X (s.slots.getD b .top) (a.tmps.getD b undef) := hs.ev (.tmp b)
    split at h
    · rename_i o k hx
      rw [hx] at hb
      split at h
      · rename_i T c0 cs0 hcs
        generalize hcse : c0 :: cs0 = cs at h hcs
        obtain ⟨vs, hh, ⟨hsz, _⟩, hc⟩ := hs.hp.box _ _ _ hcs (by rw [← hcse]; simp)
        obtain ⟨v, h1, h2⟩ := load_sound (P := P) (w := w) (X := X) (ad := ⟨X.m o, X.bo o + k, none⟩) h (fun i c hi => by
          rw [List.getElem?_drop] at hi
          have hlt : X.bo o + (k + i) < vs.size := Nat.lt_of_lt_of_le (Nat.add_lt_add_left (List.getElem?_eq_some_iff.1 hi).1 _) hsz
          refine ⟨vs[X.bo o + (k + i)], ?_, hc _ _ _ hi (Array.getElem?_eq_getElem hlt)⟩
          have hadd : (⟨X.m o, X.bo o + k, none⟩ : Addr).add i = ⟨X.m o, X.bo o + (k + i), none⟩ := by rw [← Nat.add_assoc]; unfold Addr.add; split <;> simp_all
          rw [hadd, cell_of_row w _ _ vs T (0, 0) hh, Array.getElem?_eq_getElem hlt])
        refine ⟨v, ?_, h1⟩
        show Sem.run P (do loadVar t (← asAddr (a.tmps.getD b undef))) w = _
        generalize a.tmps.getD b undef = bv at hb
        cases hb with
        | ptr =>
        have : (asAddr (.pointer (some ⟨X.m o, X.bo o + k, none⟩))).run P w = .ok ⟨X.m o, X.bo o + k, none⟩ w := by simp [asAddr]
        rw [Sem.run_bind, this]
        exact h2 w (Below.refl _ _)
      · cases h
    · cases h
theorem resList_sound {P : Program} {w0 : World} {X0 : Cx} {w : World} {X : Cx} {s : St} {a : Act} (hs : SRel P w0 X0 w X s a) : ∀ (l : List ResultVar) {avs : List AV}, resList P s l = some avs →
    ∃ vs : List Value, (l.mapM (fun (r : ResultVar) => match r with
      | ResultVar.tmp t => (pure (a.tmps.getD t undef) : Sem Value)
      | ResultVar.cell b t => do loadVar t (← asAddr (a.tmps.getD b undef)))).run P w = Result.ok vs w ∧ vs.length = avs.length ∧ ∀ (i : Nat) (c : AV) (v : Value), avs[i]? = some c → vs[i]? = some v → VRel P w X c v
  | [], avs, h => by simp [resList] at h; subst h; exact ⟨[], rfl, rfl, fun i c v h => by simp at h⟩
  | r :: l, avs, h => by
    simp only [resList] at h
    split at h
    · rename_i av l' h1 h2
      injection h with h
      subst h
      obtain ⟨v, k1, k2⟩ := resOne_sound hs r h1
      obtain ⟨vs, k3, k4, k5⟩ := resList_sound hs l h2
      refine ⟨v :: vs, ?_, by simp [k4], fun i c u hi hu => ?_⟩
      · rw [List.mapM_cons]
        simp only [Sem.run_bind]
        rw [k1]
        simp only [Result.andThen_ok]
        rw [k3]
        rfl
      · cases i with
        | zero => simp at hi hu; subst hi hu; exact k2
        | succ i => exact k5 i c u (by simpa using hi) (by simpa using hu)
    · cases h
theorem resAv_sound {P : Program} {w0 : World} {X0 : Cx} {w : World} {X : Cx} {s : St} {a : Act} {fn : Func} {r : AV} (hs : SRel P w0 X0 w X s a) (h : resAv P fn s = some r) :
    ∃ v, (results fn a.tmps).run P w = .ok v w ∧ VRel P w X r v := by
  unfold resAv at h
  have hrun : ∀ avs, resList P s fn.results.toList = some avs → ∃ vs : List Value, vs.length = avs.length ∧ (∀ (i : Nat) (c : AV) (v : Value), avs[i]? = some c → vs[i]? = some v → VRel P w X c v) ∧
      (results fn a.tmps).run P w = .ok (if h : vs.toArray.size = 1 then vs.toArray[0] else .tuple vs.toArray) w := by
    intro avs havs
    obtain ⟨vs, h1, h2, h3⟩ := resList_sound hs _ havs
    refine ⟨vs, h2, h3, ?_⟩
    unfold results
    rw [Array.mapM_eq_mapM_toList]
    simp only [Sem.run_bind, Sem.run_map]
    exact congrArg (fun R : Result (List Value) => (R.andThen fun l w' => Result.ok l.toArray w').andThen fun vs w' => (pure (if h : vs.size = 1 then vs[0] else .tuple vs) : Sem Value).run P w') h1
  split at h
  · rename_i av hav
    injection h with h
    subst h
    obtain ⟨vs, h1, h2, h3⟩ := hrun _ hav
    obtain ⟨v, rfl⟩ := List.length_eq_one_iff.1 h1
    exact ⟨v, by rw [h3]; simp, h2 0 av v rfl rfl⟩
  · rename_i avs hne hav
    injection h with h
    subst h
    obtain ⟨vs, h1, h2, h3⟩ := hrun _ hav
    have hl : ¬ vs.length = 1 := fun e => by
      rw [h1] at e
      obtain ⟨t, rfl⟩ := List.length_eq_one_iff.1 e
      exact hne t rfl
    refine ⟨.tuple vs.toArray, ?_, .tup _ _ (by simpa using h1) fun i c v hi hv => h2 i c v hi (by simpa using hv)⟩
    rw [h3, dif_neg (by simpa using hl)]
  · cases h

/-- A function's contract, by its body. -/
theorem cr_of_awp {P : Program} (hm : P.follows .mixedOrders = true) {f : FuncId} {fn : Func} {code : Code} {args : List AV} {H : List (TypeId × List AV)} {K : AV → List (TypeId × List AV) → Prop} (hf : P.funcs[f]? = some fn) (hb : fn.body = some code) (hn : (fn.name == "runtime.NumGoroutine") = false)
    (h : awp P H.length code ⟨args ++ List.replicate (fn.ntmps - args.length) .top, H⟩ fun e s' => match e with
      | .exit _ => False
      | _ => ∃ s2, Wk P H.length s' s2 ∧ ∃ r, resAv P fn s2 = some r ∧ K r s2.heap) : CR P f args H K := by
  refine ⟨⟨fn, hf, hn, by rw [hb]; rfl⟩, fun w X vs hh hvs => ?_⟩
  refine calls_of_wp hf hb ?_
  have hs : SRel P w { X with dl := [] } w X ⟨args ++ List.replicate (fn.ntmps - args.length) .top, H⟩ { tmps := vs ++ Array.replicate (fn.ntmps - vs.size) undef, defers := [] } := by
    refine ⟨rfl, by simp [hvs.1], fun i c v hi hv => ?_, hh, ⟨rfl, Kept.refl _ _, Nat.le_refl _, fun _ h => ⟨h, rfl⟩, Nat.le_refl _, fun _ _ => ⟨rfl, rfl, rfl⟩, fun _ _ => Iff.rfl⟩⟩
    rw [List.getElem?_append] at hi
    rw [Array.getElem?_append] at hv
    split at hi
    · rename_i hlt
      rw [if_pos (by rw [hvs.1]; exact hlt)] at hv
      exact hvs.2 i c v hi hv
    · rename_i hge
      have : c = .top := by
        rw [List.getElem?_replicate] at hi
        split at hi
        · injection hi with hi; exact hi.symm
        · cases hi
      subst this
      exact .top v
  refine awp_sound (X0 := { X with dl := [] }) hh.n hm code _ w X _ hs h fun e a' w' ht => ?_
  obtain ⟨s', X', hk, hs'⟩ := ht
  have fin : (∃ s2, Wk P H.length s' s2 ∧ ∃ r, resAv P fn s2 = some r ∧ K r s2.heap) → a'.defers = [] ∧ ∃ v, (results fn a'.tmps).run P w' = .ok v w' ∧ ∃ v' r H' X', Ending.returned v = .returned v' ∧ K r H' ∧ Post w X w' X' ∧ HRel P w' X' H' ∧ VRel P w' X' r v' := by
    rintro ⟨s2, hwk, r, hr, hK⟩
    obtain ⟨X2, hs2⟩ := hwk _ { X with dl := [] } _ _ _ hh.n hs'
    obtain ⟨v, hv, hrel⟩ := resAv_sound hs2 hr
    exact ⟨hs'.defers, v, hv, v, r, s2.heap, X2, rfl, hK, ⟨hs2.po.B, hs2.po.below, hs2.po.gs, hs2.po.keep, hs2.po.mn, hs2.po.mo, hs2.po.pm0⟩, hs2.hp, hrel⟩
  cases e with
  | norm => exact fin hk
  | ret => exact fin hk
  | exit id => exact hk.elim
theorem cret_of_awp {P : Program} (hm : P.follows .mixedOrders = true) {f : FuncId} {fn : Func} {code : Code} {args : List AV} {K : AV → Prop} (hf : P.funcs[f]? = some fn) (hb : fn.body = some code) (hn : (fn.name == "runtime.NumGoroutine") = false)
    (h : awp P 0 code ⟨args ++ List.replicate (fn.ntmps - args.length) .top, []⟩ fun e s' => match e with
      | .exit _ => False
      | _ => ∃ s2, Wk P 0 s' s2 ∧ ∃ r, resAv P fn s2 = some r ∧ r.bnd 0 = true ∧ K r) : CRet P f args K := cr_of_awp hm hf hb hn h
end Go.Proofs.YtdfcjodkmjofgaaGreat
