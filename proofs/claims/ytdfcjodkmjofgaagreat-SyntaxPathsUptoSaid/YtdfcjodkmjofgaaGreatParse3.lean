/-
  The word parser on some short words, run by the kernel; its contract there.
-/
import Derived.Test.YtdfcjodkmjofgaaGreatParse2
namespace Go.Proofs.YtdfcjodkmjofgaaGreat
open Go.RowKit

theorem parse_a : isLetterT [97] (parseRun [97]) = true := by kernel_rfl
theorem parse_b : isLetterT [98] (parseRun [98]) = true := by kernel_rfl
theorem parse_c : isLetterT [99] (parseRun [99]) = true := by kernel_rfl
theorem parse_if : isLetterT [105, 102] (parseRun [105, 102]) = true := by kernel_rfl
theorem fnsP_ok : ∀ f fn, fnsP f = some fn → Tryz.prog.funcs[f]? = some fn := fun _ _ h => h
theorem parse_body : Tryz.f141.body = some (.seq (seq1 parseCode) (.seq (.region 1 #[{ dst := none, op := .defer { callee := .value (.func 166), args := #[.tmp 2, .tmp 3, .tmp 4], argTypes := #[152, 153, 154] }, type := 0, pos := "words.go:70", after := #[], guard := none }] false) (.seq (seq1 (seq2 (seq2 parseCode))) .ret))) := by kernel_rfl
theorem parse_cr {s : List UInt8} (h : isLetterT s (parseRun s) = true) : CR Tryz.prog 141 [.dat (.str s)] [] fun r H => r = letterT s ∧ H = [] := by
  unfold isLetterT at h
  split at h
  · rename_i r hr
    have hr2 := AV.beq_eq _ _ h
    subst hr2
    unfold parseRun at hr
    have hc := efun_sure mixedOrders (full := noFull) fnsP_ok primB_sure 40
    split at hr
    · rename_i s1 h1
      split at hr
      · rename_i s2 h2
        split at hr
        · rename_i r1 h3
          split at hr
          · rename_i r2 h4
            refine CR.bare (K := fun r' _ => r' = r2) (cr_defer Tryz.func141 parse_body (by kernel_rfl) rfl ?_) (fun r' H' e => ⟨letterT s, by rw [e]; exact hr, rfl⟩) rfl
            exact ecode_awp hc 40 _ h1 ⟨rfl, ecode_awp hc 40 _ h2 ⟨rfl, _, Wk.freezeAll _ _ s2, r2, h4, rfl⟩⟩
          · cases hr
        · cases hr
      · cases hr
    · cases hr
  · cases h
end Go.Proofs.YtdfcjodkmjofgaaGreat
