/-
  awake, run by the calculus; what some of its callees do is proved beside.
-/
import Derived.Test.YtdfcjodkmjofgaaGreatText2
namespace Go.Proofs.YtdfcjodkmjofgaaGreat
open Go.RowKit

def fullB (f : FuncId) : Bool := f == 91 || f == 94
noncomputable def fnsOf (f : FuncId) : Option Func := Tryz.prog.funcs[f]?
def letter (s : List UInt8) : AV := .dat (.list [[.int .i64 1, .str s, .int .i64 0, .bool false, .list []]])
def plainB (s : List UInt8) : Bool := s == [97] || s == [98] || s == [99] || s == [105, 102]
/-- What is proved by hand of some callees. -/
def primT : Callee := fun f args H =>
  match f, args with
  | 91, [.dat (.list [])] => some (.dat (.list []), H)
  | 94, [.dat (.list [])] => some (.dat (.list []), H)
  | 141, [.dat (.str s)] => match H with
    | [] => bif plainB s then some (letterT s, []) else none
    | _ => none
  | 142, [.dat (.list [[.int .i64 1, .str s, .int .i64 0, .bool false, .list []]]), .dat (.int .i64 0), .dat (.bool false)] => bif plainB s then some (.dat (.str s), H) else none
  | 178, [.dat (.str s), .dat (.int .u8 61)] => bif plainB s then some (.dat (.int .i64 (-1)), H) else none
  | _, _ => none
theorem plain_cases {s : List UInt8} (h : plainB s = true) : s = [97] ∨ s = [98] ∨ s = [99] ∨ s = [105, 102] := by
  simpa [plainB, or_assoc] using h
theorem primT_sure : Sure Tryz.prog primT := by
  intro g l H r H' h
  unfold primT at h
  split at h
  · simp only [Option.some.injEq, Prod.mk.injEq] at h
    obtain ⟨rfl, rfl⟩ := h
    exact clone_empty91 H
  · simp only [Option.some.injEq, Prod.mk.injEq] at h
    obtain ⟨rfl, rfl⟩ := h
    exact clone_empty94 H
  · rename_i s
    split at h
    · cases hp : plainB s with
      | false => rw [hp] at h; cases h
      | true =>
        rw [hp, cond_true, Option.some.injEq, Prod.mk.injEq] at h
        obtain ⟨rfl, rfl⟩ := h
        refine parse_cr ?_
        rcases plain_cases hp with rfl | rfl | rfl | rfl
        · exact parse_a
        · exact parse_b
        · exact parse_c
        · exact parse_if
    · cases h
  · rename_i s
    cases hp : plainB s with
    | false => rw [hp] at h; cases h
    | true =>
      rw [hp, cond_true, Option.some.injEq, Prod.mk.injEq] at h
      obtain ⟨rfl, rfl⟩ := h
      rcases plain_cases hp with rfl | rfl | rfl | rfl
      · exact text_cr part_a (by decide) H
      · exact text_cr part_b (by decide) H
      · exact text_cr part_c (by decide) H
      · exact text_cr part_if (by decide) H
  · rename_i s
    cases hp : plainB s with
    | false => rw [hp] at h; cases h
    | true =>
      rw [hp, cond_true, Option.some.injEq, Prod.mk.injEq] at h
      obtain ⟨rfl, rfl⟩ := h
      have hi : Lib.indexByte s (61 : Int).toNat.toUInt8 = -1 := by rcases plain_cases hp with rfl | rfl | rfl | rfl <;> rfl
      have := indexByte_cr s 61 H
      rw [hi] at this
      exact this
  · cases h
def isTrue : Option (AV × Boxes) → Bool
  | some (.dat (.bool true), _) => true
  | _ => false
theorem awake_run : isTrue (efun Tryz.prog fullB fnsOf primT 40 12 [] []) = true := by kernel_rfl
theorem fnsOf_ok : ∀ f fn, fnsOf f = some fn → Tryz.prog.funcs[f]? = some fn := fun _ _ h => h
/-- awake gives true. -/
theorem awake_cret : CRet Tryz.prog 12 [] (· = .dat (.bool true)) := by
  have h := awake_run
  unfold isTrue at h
  split at h
  · rename_i H hr
    exact (efun_sure mixedOrders (full := fullB) fnsOf_ok primT_sure 40).pure hr rfl
  · cases h
theorem awake_calls (w : World) : Calls Tryz.prog 12 #[] w fun e w' => e = .returned (.bool true) ∧ Below w.heap.size w w' := by
  refine (awake_cret.run w (fun _ => False) #[] (fun _ ha => ha.elim) ⟨rfl, fun i c v hi => by simp at hi⟩).mono ?_
  rintro e w' ⟨v, r, X', rfl, rfl, hb, _, hv, _⟩
  exact ⟨by rw [bool_rel hv], hb⟩
end Go.Proofs.YtdfcjodkmjofgaaGreat
