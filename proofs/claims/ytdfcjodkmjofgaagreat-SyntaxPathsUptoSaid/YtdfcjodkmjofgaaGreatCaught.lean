/-
  The deferred call of the word parser where nothing has panicked.
-/
import Derived.Test.YtdfcjodkmjofgaaGreatPrim
import Derived.Tactics2
import Derived.Defers
import Derived.Recover
import Derived.Laws.Pointers
namespace Go.Proofs.YtdfcjodkmjofgaaGreat
open Go.RowKit

/-- Nothing has been recovered: nothing is done. -/
theorem caught_tail (rest : Code) (Q : Exit → Act → World → Prop) (t : Array Value) (w : World) (ht : t.size = 25) (h9 : t.getD 9 undef = .nilIface) (hQ : Q .normal { tmps := (t.setIfInBounds 11 (.bool true)).setIfInBounds 6 .nilIface, defers := [] } w) :
    (Code.block 0 ((Code.region 3 #[{ dst := some 11, op := .binOp .eql 20 (.tmp 9) (.const .nilIface) 20, type := 4, pos := "words.go:59", after := #[], guard := none }] false).seq
      (Code.cond (.tmp 11) (Code.region 4 #[{ dst := some 6, op := .assign (.tmp 9), type := 20, pos := "words.go:59", after := #[], guard := none }] false) rest))).wp Tryz.prog Q { tmps := t, defers := [] } w := by
  have hq : ∀ (n : Nat) (w' : World), (Op.equalIn (n + 1) 20 .nilIface .nilIface).run Tryz.prog w' = .ok true w' := fun n w' => by simp [Op.equalIn, run_underlying Tryz.underlying20]
  have he : ∀ w' : World, (binOp .eql 20 .nilIface .nilIface).run Tryz.prog w' = .ok (.bool true) w' := fun w' => by simp only [binOp]; simp only [Sem.run_bind, Op.equal, Op.maxDepth, hq 9999]; rfl
  have hg : ∀ w' : World, (eqGuard .eql 20 (.tmp 9) (.const .nilIface) .nilIface .nilIface).run Tryz.prog w' = .ok () w' := fun w' => by unfold eqGuard; rfl
  refine wp_block (wp_seq (wp_region_list ?_))
  unfold wpList
  rw [if_pos (by rfl)]
  refine .inl (wp_value (N := fun a' w' => wpList Tryz.prog _ _ [] a' w') (v := .bool true) (w' := w) ?_ ?_)
  · simp only [execOp, Act.eval, h9, Sem.run_bind, hg, he, Result.andThen_ok]
    rfl
  · unfold wpList
    refine wp_cond_split (t := true) (by simp [Act.eval, Act.put, ht]) (fun _ => ?_) (fun e => by cases e)
    refine wp_region_list ?_
    unfold wpList
    rw [if_pos (by rfl)]
    refine .inl (wp_value (N := fun a' w' => wpList Tryz.prog _ _ [] a' w') (v := .nilIface) (w' := w) ?_ ?_)
    · have h9' : (t.setIfInBounds 11 (.bool true)).getD 9 undef = .nilIface := by
        rw [← h9]
        simp [Array.getD_eq_getD_getElem?]
      simp only [execOp, Act.eval, Act.put, h9']
      rfl
    · unfold wpList
      exact hQ
set_option maxRecDepth 100000 in
theorem caught_idle (a b c : Value) (w : World) :
    CallsD Tryz.prog 166 #[a, b, c] .returning w fun e u' w' => e = .returned (.tuple #[]) ∧ u' = .returning ∧ w' = w := by
  refine callsD_of_wpS Tryz.func166 rfl fun c₀ cs hu => ?_
  apply wpS_seq
  apply wpS_region
  simp [wpOpsS, go_sem, recoverD, hu, Tryz.ntmps166, Exit.thenS]
  refine wpS_of_wp ?_
  refine caught_tail _ _ _ _ ?_ ?_ ?_
  · simp
  · simp
  cases c₀
  simp_all [bodyPostS, results, Tryz.results166]
end Go.Proofs.YtdfcjodkmjofgaaGreat
