/-
  A variable that lies at a place of one variable's cells lies at that place in each variable of a row.
-/
import Derived.Test.YtdfcjodkmjofgaaGreatEntry
namespace Go.Proofs.YtdfcjodkmjofgaaGreat
open Go.RowKit

theorem rowAt_up {P : Program} {fits : TypeId → Bool} {d : Nat} {e : TypeId} {count q k n : Nat} (hk : k < P.cellsOf e) (h : rowAt P fits d e 1 k n = true) (hq : q + 1 ≤ count) : rowAt P fits d e count (q * P.cellsOf e + k) n = true := by
  cases d with
  | zero => simp [rowAt] at h
  | succ d =>
    have hs : ¬ P.cellsOf e = 0 := by omega
    have e1 : (q * P.cellsOf e + k) / P.cellsOf e = q := by rw [Nat.mul_comm, Nat.mul_add_div (by omega), Nat.div_eq_of_lt hk, Nat.add_zero]
    have e2 : (q * P.cellsOf e + k) % P.cellsOf e = k := by rw [Nat.mul_comm, Nat.mul_add_mod, Nat.mod_eq_of_lt hk]
    unfold rowAt at h ⊢
    rw [if_neg hs] at h ⊢
    simp only [e1, e2, Nat.div_eq_of_lt hk, Nat.mod_eq_of_lt hk] at h ⊢
    simp only [Bool.or_eq_true, Bool.and_eq_true, decide_eq_true_eq] at h ⊢
    rcases h with ⟨⟨h1, h2⟩, h3⟩ | ⟨_, h4⟩
    · exact .inl ⟨⟨h1, by omega⟩, h3⟩
    · exact .inr ⟨by omega, h4⟩
theorem liesAt_up {P : Program} : ∀ (d : Nat) {e u : TypeId} {count q k n : Nat}, k < P.cellsOf e → liesAt P d e 1 k u n = true → q + 1 ≤ count → liesAt P d e count (q * P.cellsOf e + k) u n = true
  | 0, e, u, count, q, k, n, hk, h, hq => by simp [liesAt] at h
  | d + 1, e, u, count, q, k, n, hk, h, hq => by
    unfold liesAt at h ⊢
    rw [Bool.or_eq_true] at h ⊢
    rcases h with h | h
    · exact .inl (rowAt_up hk h hq)
    · right
      split at h
      · rename_i m u' hu
        exact liesAt_up d hk h hq
      · cases h
end Go.Proofs.YtdfcjodkmjofgaaGreat
