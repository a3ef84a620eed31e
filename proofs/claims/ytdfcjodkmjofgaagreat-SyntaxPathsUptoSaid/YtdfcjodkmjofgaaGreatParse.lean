/-
  The word parser's outer function: a deferred call stands behind it; where the parser itself returns, it does nothing.
-/
import Derived.Test.YtdfcjodkmjofgaaGreatCaught
namespace Go.Proofs.YtdfcjodkmjofgaaGreat
open Go.RowKit

/-- The deferred call laid by. -/
theorem defer_step {w0 : World} {X0 : Cx} {w : World} {X : Cx} {s : St} {a : Act} {id : Nat} {o : Oper} {Q : Exit → Act → World → Prop} (hs : SRel Tryz.prog w0 X0 w X s a)
    (ho : o = { dst := none, op := .defer { callee := .value (.func 166), args := #[.tmp 2, .tmp 3, .tmp 4], argTypes := #[152, 153, 154] }, type := 0, pos := "words.go:70", after := #[], guard := none })
    (hQ : ∀ d : Deferred, (∀ w', (invoke d.target d.args).run Tryz.prog w' = .ok (.enter 166 #[a.eval (.tmp 2), a.eval (.tmp 3), a.eval (.tmp 4)]) w') → (∃ fv cap, d.target = .fn fv cap) → SRel Tryz.prog w0 { X0 with dl := d :: X0.dl } w X s { a with defers := d :: a.defers } → Q .normal { a with defers := d :: a.defers } w) :
    (Code.region id #[o] false).wp Tryz.prog Q a w := by
  subst ho
  refine wp_region_list ?_
  unfold wpList
  rw [if_pos (by rfl)]
  refine .inl ?_
  unfold Oper.wp
  have hr : ∃ d : Deferred, (execOp a.eval { dst := none, op := .defer { callee := .value (.func 166), args := #[.tmp 2, .tmp 3, .tmp 4], argTypes := #[152, 153, 154] }, type := 0, pos := "words.go:70", after := #[], guard := none }).run Tryz.prog w = .ok (.defer d) w ∧ d.target = .fn (.func 166) #[] ∧ d.args = #[a.eval (.tmp 2), a.eval (.tmp 3), a.eval (.tmp 4)] := by
    refine ⟨_, by simp [execOp, resolve, Deferred.ofValue, Act.eval]; rfl, rfl, by simp [Act.eval, Array.getD_eq_getD_getElem?]⟩
  obtain ⟨d, h1, h2, h3⟩ := hr
  rw [h1]
  simp only [Oper.upon]
  unfold wpList
  refine hQ d (fun w' => ?_) ⟨_, _, h2⟩ ⟨by simp [hs.defers], hs.size, hs.slot, hs.hp, ⟨hs.po.B, hs.po.below, hs.po.gs, hs.po.keep, hs.po.mn, hs.po.mo, hs.po.pm0⟩⟩
  rw [h2, h3]
  have hf := Tryz.func166
  have h4 : (Tryz.f166.name == "runtime.NumGoroutine") = false := by kernel_rfl
  have h5 : Tryz.f166.body.isNone = false := by kernel_rfl
  have h4' : ¬ Tryz.f166.name = "runtime.NumGoroutine" := by simpa using h4
  have h5' : ¬ Tryz.f166.body = none := by intro e; rw [e] at h5; cases h5
  simp [invoke, callFunc, hf, h4', h5']

set_option maxRecDepth 100000 in
theorem cr_defer {f : FuncId} {fn : Func} {r0 r2 : Code} {id : Nat} {o : Oper} {args : List AV} {H : Boxes} {K : AV → Boxes → Prop} (hf : Tryz.prog.funcs[f]? = some fn) (hb : fn.body = some (.seq r0 (.seq (.region id #[o] false) (.seq r2 .ret)))) (hn : (fn.name == "runtime.NumGoroutine") = false)
    (ho : o = { dst := none, op := .defer { callee := .value (.func 166), args := #[.tmp 2, .tmp 3, .tmp 4], argTypes := #[152, 153, 154] }, type := 0, pos := "words.go:70", after := #[], guard := none })
    (h : awp Tryz.prog H.length r0 ⟨args ++ List.replicate (fn.ntmps - args.length) .top, H⟩ fun e s1 => e = .norm ∧ awp Tryz.prog H.length r2 s1 fun e s2 => e = .norm ∧ ∃ s3, Wk Tryz.prog H.length s2 s3 ∧ ∃ r, resAv Tryz.prog fn s3 = some r ∧ K r s3.heap) : CR Tryz.prog f args H K := by
  refine ⟨⟨fn, hf, hn, by rw [hb]; rfl⟩, fun w X vs hh hvs => ?_⟩
  refine calls_of_wp_defers hf hb ?_
  have hs : SRel Tryz.prog w { X with dl := [] } w X ⟨args ++ List.replicate (fn.ntmps - args.length) .top, H⟩ { tmps := vs ++ Array.replicate (fn.ntmps - vs.size) undef, defers := [] } := by
    refine ⟨rfl, by simp [hvs.1], fun i c v hi hv => ?_, hh, ⟨rfl, Kept.refl _ _, Nat.le_refl _, fun _ h => ⟨h, rfl⟩, Nat.le_refl _, fun _ _ => ⟨rfl, rfl, rfl⟩, fun _ _ => Iff.rfl⟩⟩
    rw [List.getElem?_append] at hi
    rw [Array.getElem?_append] at hv
    split at hi
    · rename_i hlt
      rw [if_pos (by rw [hvs.1]; exact hlt)] at hv
      exact hvs.2 i c v hi hv
    · rename_i hge
      have : c = .top := by
        rw [List.getElem?_replicate] at hi
        split at hi
        · injection hi with hi; exact hi.symm
        · cases hi
      subst this
      exact .top v
  refine wp_seq (awp_sound (X0 := { X with dl := [] }) hh.n mixedOrders r0 _ w X _ hs h ?_)
  rintro e a1 w1 ⟨s1, X1, ⟨rfl, hk1⟩, hs1⟩
  refine wp_seq (defer_step hs1 ho fun d hd1 hd2 hs2 => ?_)
  refine wp_seq (awp_sound (X0 := { X with dl := [d] }) hh.n mixedOrders r2 _ w1 X1 _ hs2 hk1 ?_)
  rintro e a2 w2 ⟨s2, X2, ⟨rfl, s3, hwk, r, hr, hK⟩, hs3⟩
  refine wp_ret ?_
  obtain ⟨X3, hs4⟩ := hwk _ { X with dl := [d] } _ _ _ hh.n hs3
  obtain ⟨v, hv, hrel⟩ := resAv_sound hs4 hr
  have hdf : a2.defers = [d] := hs4.defers
  show Leaves Tryz.prog fn a2.tmps _ a2.defers .returning w2
  rw [hdf]
  obtain ⟨fv, cap, hcap⟩ := hd2
  refine ⟨by simp, fv, cap, 166, _, hcap, hd1 w2, (caught_idle _ _ _ w2).mono ?_⟩
  rintro e u' w' ⟨rfl, rfl, rfl⟩
  exact ⟨v, hv, v, r, s3.heap, X3, rfl, hK, ⟨hs4.po.B, hs4.po.below, hs4.po.gs, hs4.po.keep, hs4.po.mn, hs4.po.mo, hs4.po.pm0⟩, hs4.hp, hrel⟩
end Go.Proofs.YtdfcjodkmjofgaaGreat
