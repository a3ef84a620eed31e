/-
  The calculus run forward where a truth is not known: all that may come out, in a list.
-/
import Derived.Test.YtdfcjodkmjofgaaGreatEval
namespace Go.Proofs.YtdfcjodkmjofgaaGreat
open Go.RowKit

abbrev Outs := List (AEx × St)
def bindL : Outs → (AEx → St → Option Outs) → Option Outs
  | [], _ => some []
  | (e, s) :: xs, f => match f e s, bindL xs f with
    | some a, some b => some (a ++ b)
    | _, _ => none
theorem bindL_mem : ∀ {L : Outs} {f : AEx → St → Option Outs} {M : Outs}, bindL L f = some M → ∀ e s, (e, s) ∈ L → ∃ A, f e s = some A ∧ ∀ x ∈ A, x ∈ M
  | [], f, M, h, e, s, hm => by simp at hm
  | (e0, s0) :: xs, f, M, h, e, s, hm => by
    simp only [bindL] at h
    split at h
    · rename_i a b ha hb
      injection h with h
      subst h
      rcases List.mem_cons.1 hm with he | hm
      · simp only [Prod.mk.injEq] at he
        obtain ⟨rfl, rfl⟩ := he
        exact ⟨a, ha, fun x hx => by simp [hx]⟩
      · obtain ⟨A, h1, h2⟩ := bindL_mem hb e s hm
        exact ⟨A, h1, fun x hx => by simp [h2 x hx]⟩
    · cases h
def afterL (k : St → Option Outs) : AEx → St → Option Outs
  | .norm, s => k s
  | .exit id, s => some [(.exit id, s)]
  | .ret, s => some [(.ret, s)]
def blockL (id : Nat) : AEx → St → Option Outs
  | .exit i, s => if i = id then some [(.norm, s)] else some [(.exit i, s)]
  | .norm, s => some [(.norm, s)]
  | .ret, s => some [(.ret, s)]
def eloopL (body : St → Option Outs) : Nat → St → Option Outs
  | 0, _ => none
  | n + 1, s => match body s with
    | some L => bindL L (afterL (eloopL body n))
    | none => none
def ecodeL (P : Program) (full : FuncId → Bool) (raw : Bool) (call : Callee) (fuel : Nat) : Code → St → Option Outs
  | .region id ops b, s => match ecode P full raw call fuel (.region id ops b) s with
    | some x => some [x]
    | none => none
  | .skip, s => some [(.norm, s)]
  | .seq a b, s => match ecodeL P full raw call fuel a s with
    | some L => bindL L (afterL (ecodeL P full raw call fuel b))
    | none => none
  | .cond c t e, s => match s.ev c with
    | .dat (.bool true) => ecodeL P full raw call fuel t s
    | .dat (.bool false) => ecodeL P full raw call fuel e s
    | .anyb => match ecodeL P full raw call fuel t s, ecodeL P full raw call fuel e s with
      | some A, some B => some (A ++ B)
      | _, _ => none
    | _ => none
  | .block id c, s => match ecodeL P full raw call fuel c s with
    | some L => bindL L (blockL id)
    | none => none
  | .loop c, s => eloopL (ecodeL P full raw call fuel c) fuel s
  | .exit id, s => some [(.exit id, s)]
  | .ret, s => some [(.ret, s)]
  | _, _ => none
theorem ecodeL_awp {P : Program} {nb : Nat} {full : FuncId → Bool} {raw : Bool} {call : Callee} (hc : Sure P call) (fuel : Nat) : ∀ (c : Code) {s : St} {L : Outs}, ecodeL P full raw call fuel c s = some L → ∀ {K : AEx → St → Prop}, (∀ e s', (e, s') ∈ L → K e s') → awp P nb c s K
  | .region id ops b, s, L, h, K, hk => by
    simp only [ecodeL] at h
    split at h
    · rename_i x hx
      injection h with h
      subst h
      exact ecode_awp hc fuel _ hx (hk _ _ (by simp))
    · cases h
  | .skip, s, L, h, K, hk => by
    simp only [ecodeL, Option.some.injEq] at h
    subst h
    simp only [awp]
    exact hk _ _ (by simp)
  | .seq a b, s, L, h, K, hk => by
    simp only [ecodeL] at h
    simp only [awp]
    split at h
    · rename_i M hM
      refine ecodeL_awp hc fuel a hM fun e s' hm => ?_
      obtain ⟨A, h1, h2⟩ := bindL_mem h e s' hm
      cases e with
      | norm => exact ecodeL_awp hc fuel b h1 fun e2 s2 hm2 => hk _ _ (h2 _ hm2)
      | exit id => simp only [afterL, Option.some.injEq] at h1; subst h1; exact hk _ _ (h2 _ (by simp))
      | ret => simp only [afterL, Option.some.injEq] at h1; subst h1; exact hk _ _ (h2 _ (by simp))
    · cases h
  | .cond c t e', s, L, h, K, hk => by
    simp only [ecodeL] at h
    simp only [awp]
    split at h
    · rename_i hcv
      rw [hcv]
      exact ⟨fun _ => ecodeL_awp hc fuel t h hk, (fun e => by cases e)⟩
    · rename_i hcv
      rw [hcv]
      exact ⟨(fun e => by cases e), fun _ => ecodeL_awp hc fuel e' h hk⟩
    · rename_i hcv
      rw [hcv]
      split at h
      · rename_i A B hA hB
        injection h with h
        subst h
        exact ⟨ecodeL_awp hc fuel t hA fun e s' hm => hk _ _ (by simp [hm]), ecodeL_awp hc fuel e' hB fun e s' hm => hk _ _ (by simp [hm])⟩
      · cases h
    · cases h
  | .block id c, s, L, h, K, hk => by
    simp only [ecodeL] at h
    simp only [awp]
    split at h
    · rename_i M hM
      refine ecodeL_awp hc fuel c hM fun e s' hm => ?_
      obtain ⟨A, h1, h2⟩ := bindL_mem h e s' hm
      cases e with
      | norm => simp only [blockL, Option.some.injEq] at h1; subst h1; exact hk _ _ (h2 _ (by simp))
      | ret => simp only [blockL, Option.some.injEq] at h1; subst h1; exact hk _ _ (h2 _ (by simp))
      | exit i =>
        simp only [blockL] at h1
        simp only
        split at h1
        · rename_i e
          simp only [Option.some.injEq] at h1
          subst h1
          rw [if_pos e]
          exact hk _ _ (h2 _ (by simp))
        · rename_i e
          simp only [Option.some.injEq] at h1
          subst h1
          rw [if_neg e]
          exact hk _ _ (h2 _ (by simp))
    · cases h
  | .loop c, s, L, h, K, hk => by
    simp only [ecodeL] at h
    simp only [awp]
    refine ⟨fun n s => ∃ M, eloopL (ecodeL P full raw call fuel c) n s = some M ∧ ∀ x ∈ M, x ∈ L, ⟨fuel, s, Wk.refl P s, L, h, fun _ hx => hx⟩, fun n s hI => ?_⟩
    obtain ⟨M, hM, hsub⟩ := hI
    cases n with
    | zero => simp [eloopL] at hM
    | succ n =>
      simp only [eloopL] at hM
      split at hM
      · rename_i L1 h1
        refine ecodeL_awp hc fuel c h1 fun e s' hm => ?_
        obtain ⟨A, h2, h3⟩ := bindL_mem hM e s' hm
        cases e with
        | norm => exact ⟨n, s', Nat.lt_succ_self _, Wk.refl P s', A, h2, fun x hx => hsub x (h3 x hx)⟩
        | exit id => simp only [afterL, Option.some.injEq] at h2; subst h2; exact hk _ _ (hsub _ (h3 _ (by simp)))
        | ret => simp only [afterL, Option.some.injEq] at h2; subst h2; exact hk _ _ (hsub _ (h3 _ (by simp)))
      · cases hM
  | .exit id, s, L, h, K, hk => by
    simp only [ecodeL, Option.some.injEq] at h
    subst h
    simp only [awp]
    exact hk _ _ (by simp)
  | .ret, s, L, h, K, hk => by
    simp only [ecodeL, Option.some.injEq] at h
    subst h
    simp only [awp]
    exact hk _ _ (by simp)
  | .rangeFunc .., s, L, h, K, hk => by simp only [ecodeL] at h; cases h
  | .scope _, s, L, h, K, hk => by simp only [ecodeL] at h; cases h
  | .label _, s, L, h, K, hk => by simp only [ecodeL] at h; cases h
  | .goto _, s, L, h, K, hk => by simp only [ecodeL] at h; cases h
  | .refuse _, s, L, h, K, hk => by simp only [ecodeL] at h; cases h

/-- A contract by all that may come out. -/
theorem cr_of_outs {P : Program} (hm : P.follows .mixedOrders = true) {full : FuncId → Bool} {raw : Bool} {call : Callee} (hc : Sure P call) (fuel : Nat) {f : FuncId} {fn : Func} {code : Code} {args : List AV} {H : Boxes} {K : AV → Boxes → Prop} {L : Outs} (hf : P.funcs[f]? = some fn) (hb : fn.body = some code) (hn : (fn.name == "runtime.NumGoroutine") = false)
    (h : ecodeL P full raw call fuel code ⟨args ++ List.replicate (fn.ntmps - args.length) .top, H⟩ = some L) (hk : ∀ e s', (e, s') ∈ L → (match e with
      | .exit _ => False
      | _ => ∃ s2, Wk P H.length s' s2 ∧ ∃ r, resAv P fn s2 = some r ∧ K r s2.heap)) : CR P f args H K := cr_of_awp hm hf hb hn (ecodeL_awp hc fuel code h hk)
/-- A result told in other words. -/
theorem CR.conv {P : Program} {f : FuncId} {args : List AV} {H : Boxes} {K K' : AV → Boxes → Prop} (h : CR P f args H K) (hk : ∀ r H', K r H' → ∃ r', K' r' H' ∧ ∀ w X v, VRel P w X r v → VRel P w X r' v) : CR P f args H K' :=
  ⟨h.en, fun w X vs hp hc => (h.run w X vs hp hc).mono fun _ _ ⟨v, r, H', X', h1, h2, h3, h4, h5⟩ => by
    obtain ⟨r', k1, k2⟩ := hk r H' h2
    exact ⟨v, r', H', X', h1, k1, h3, h4, k2 _ _ _ h5⟩⟩
theorem nils_dat {P : Program} {w : World} {X : Cx} {v : Value} (h : VRel P w X .nils v) : VRel P w X (.dat (.list [])) v := .dat _ _ h.nilsDat
theorem emp_dat {P : Program} {w : World} {X : Cx} {v : Value} (h : VRel P w X .emp v) : VRel P w X (.dat (.list [])) v := .dat _ _ h.empDat
def noCallee : Callee := fun _ _ _ => none
theorem noCallee_sure (P : Program) : Sure P noCallee := fun _ _ _ _ _ h => by cases h
end Go.Proofs.YtdfcjodkmjofgaaGreat
