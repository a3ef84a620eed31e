/-
  The row of SyntaxPaths, in its second form: where what it reads is of bulk at most 1048576.
-/
import Derived.Test.YtdfcjodkmjofgaaGreatRow
import Derived.Test.YtdfcjodkmjofgaaGreatRow2
import Derived.Test.YtdfcjodkmjofgaaGreatM3
namespace Go.Proofs.YtdfcjodkmjofgaaGreat.syntaxPaths
open Go.ChangeShapes Go.WideShapes Go.ChangeAt Go.RowKit
set_option linter.unusedVariables false

theorem own : ownKnob Tryz.prog.godebug = none := by kernel_rfl

set_option maxRecDepth 100000 in
theorem contract (H : Type) (enc : TypeId × Value → H) (W : World) (base : Nat) (args : Array Value) (ds gs : List (DataW H)) (before : List MemPlace)
    (hval : ∀ (j : Nat) t v, Tryz.f9.params[j]? = some t → args[j]? = some v → Value.okWide Tryz.prog W .any base t v)
    (hW : DataW.Whole enc Tryz.prog Tryz.f9.params.toList Rows.syntaxPathsSpec.vars false W args.toList ds gs before)
    (hk : Rows.uptoSmall H (ds ++ gs) = true) :
    Calls Tryz.prog 9 args W fun e W' => ∃ v, e = .returned v ∧ Rows.syntaxPathsSpec.post enc Tryz.prog Tryz.f9 false true false false W args v W' := by
  have hW' := hW
  obtain ⟨p, q, hA0, hV, rfl, hfz, hnd⟩ := hW
  have hA : DataW.TrodAll enc Tryz.prog W 0 (fun _ => true) true Tryz.f9.params.toList args.toList ds p := hA0
  rw [Tryz.params9] at hA hval
  obtain ⟨v0, vs0, d0, ds0, p0, q0, hargs, rfl, rfl, h0, r0⟩ := trodAll_cons hA
  obtain ⟨v1, vs1, d1, ds1, p1, q1, rfl, rfl, rfl, h1, r1⟩ := trodAll_cons r0
  obtain ⟨v2, vs2, d2, ds2, p2, q2, rfl, rfl, rfl, h2, r2⟩ := trodAll_cons r1
  obtain ⟨rfl, rfl, rfl⟩ := trodAll_nil r2
  obtain rfl : args = #[v0, v1, v2] := by cases args; simp_all
  have hb := of_decide_eq_true hk
  simp only [List.cons_append, List.nil_append, Rows.uptoBulkAll] at hb
  have e0 := agg_at hval 0 28 v0 (by kernel_rfl) (by kernel_rfl) Tryz.underlying28
  obtain ⟨x0, hx0, hs0⟩ := rd_arg h0 e0
  obtain ⟨x1, hx1⟩ := int_at hval 1 v1 (by kernel_rfl) (by kernel_rfl) h1
  obtain ⟨x2, hx2⟩ := ints_at hval 2 v2 (by kernel_rfl) (by kernel_rfl) h2
  clear hA0
  refine ((c9 x0 (by omega) x1 x2).run W (Has W) #[v0, v1, v2] has_pm ⟨rfl, fun i c v hi hv => ?_⟩).mono fun e W' h => ?_
  · match i, hi, hv with
    | 0, hi, hv => cases hi; cases hv; exact hx0
    | 1, hi, hv => cases hi; cases hv; exact hx1
    | 2, hi, hv => cases hi; cases hv; exact hx2
  · obtain ⟨v, r, X', rfl, rfl, hbl, _, hv, _⟩ := h
    cases hv with
    | dat _ _ hd =>
      cases hd
      refine ⟨_, rfl, post_true hW' hbl (by kernel_rfl) (by kernel_rfl) rfl ?_ rfl Tryz.underlying4⟩
      obtain ⟨rfl, rfl⟩ := trodVars_none hV
      rfl

set_option maxRecDepth 100000 in
theorem lifted (os : Os) (started : os.Started) (H : Type) (enc : TypeId × Value → H) (F : Stop.Interp) :
    ReturnsInHanded {} Tryz.checked os 9 .any ((Rows.OpenSpec.upto Rows.syntaxPathsSpec).pre6 enc Tryz.prog Tryz.f9 Rows.syntaxPathsUptoRow.domain false) (((Rows.OpenSpec.upto Rows.syntaxPathsSpec).at F).post enc Tryz.prog Tryz.f9 false true false false) := by
  refine returnsInHanded_of_cond (C := Tryz.checked) (s := Rows.OpenSpec.upto Rows.syntaxPathsSpec) (k := Rows.uptoSmall) rfl own started (by kernel_rfl) Tryz.func9
    (OpenSpec.witness (enc := enc) (C := Tryz.checked) (s := Rows.OpenSpec.upto Rows.syntaxPathsSpec) (k := Rows.uptoSmall) rfl false
      ⟨#[], #[.agg #[.int .i64 0, .int .i64 0, .string ByteArray.empty, .bool false, .slice none 0 0, .slice none 0 0, .slice none 0 0, .slice none 0 0, .slice none 0 0], .int .i64 0, .slice none 0 0], []⟩ 8 (by kernel_rfl) (by kernel_rfl) (by kernel_rfl)
      (x := ([.agg [.lit (.int .i64 0), .lit (.int .i64 0), .lit (.string []), .lit (.bool false), .nil, .nil, .nil, .nil, .nil], .lit (.int .i64 0), .nil], [], [])) (by kernel_rfl) rfl (by kernel_rfl)) ?_
  intro W base args ds gs before hval hW _ hk _
  exact contract H enc W base args ds gs before hval hW hk

theorem over : Rows.syntaxPathsUptoRow.holds Tryz.pinned (Rows.OpenSpec.upto Rows.syntaxPathsSpec) :=
  OpenClaim.holds_of_cond 9 Tryz.f9 rfl rfl rfl rfl rfl rfl rfl ⟨rfl, rfl, rfl, rfl, rfl⟩ rfl rfl rfl rfl rfl (by kernel_rfl) Tryz.func9 (by kernel_rfl)
    (of_decide_eq_true (by kernel_rfl)) (by unfold Func.isWrapper; first | (rw [if_pos (by decide +kernel)]; kernel_rfl) | (rw [if_neg (by decide +kernel)]; exact ⟨rfl, rfl⟩))
    (fun os started H enc _ F => lifted os started H enc F)

theorem proved : Rows.SyntaxPathsUptoSaid :=
  over
end Go.Proofs.YtdfcjodkmjofgaaGreat.syntaxPaths
#print axioms Go.Proofs.YtdfcjodkmjofgaaGreat.syntaxPaths.proved
