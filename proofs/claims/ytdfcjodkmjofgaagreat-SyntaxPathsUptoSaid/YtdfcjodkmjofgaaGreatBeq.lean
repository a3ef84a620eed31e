/-
  Closed abstract states held against each other.
-/
import Derived.Test.YtdfcjodkmjofgaaGreatEntry
namespace Go.Proofs.YtdfcjodkmjofgaaGreat
open Go.RowKit

mutual
def Dat.beq : Dat → Dat → Bool
  | .int k n, .int k' n' => decide (k = k') && decide (n = n')
  | .bool b, .bool b' => b == b'
  | .str s, .str s' => s == s'
  | .list xs, .list ys => Dat.beqLL xs ys
  | _, _ => false
def Dat.beqLL : List (List Dat) → List (List Dat) → Bool
  | [], [] => true
  | x :: xs, y :: ys => Dat.beqL x y && Dat.beqLL xs ys
  | _, _ => false
def Dat.beqL : List Dat → List Dat → Bool
  | [], [] => true
  | x :: xs, y :: ys => x.beq y && Dat.beqL xs ys
  | _, _ => false
end
mutual
theorem Dat.beq_eq : (a b : Dat) → a.beq b = true → a = b
  | .int k n, b, h => by cases b <;> simp [Dat.beq] at h ⊢; exact h
  | .bool x, b, h => by cases b <;> simp [Dat.beq] at h ⊢; exact h
  | .str s, b, h => by cases b <;> simp [Dat.beq] at h ⊢; exact h
  | .list xs, b, h => by
    cases b with
    | list ys => simp only [Dat.beq] at h; rw [Dat.beqLL_eq xs ys h]
    | _ => simp [Dat.beq] at h
theorem Dat.beqLL_eq : (a b : List (List Dat)) → Dat.beqLL a b = true → a = b
  | [], b, h => by cases b <;> simp [Dat.beqLL] at h ⊢
  | x :: xs, b, h => by
    cases b with
    | nil => simp [Dat.beqLL] at h
    | cons y ys =>
      simp only [Dat.beqLL, Bool.and_eq_true] at h
      rw [Dat.beqL_eq x y h.1, Dat.beqLL_eq xs ys h.2]
theorem Dat.beqL_eq : (a b : List Dat) → Dat.beqL a b = true → a = b
  | [], b, h => by cases b <;> simp [Dat.beqL] at h ⊢
  | x :: xs, b, h => by
    cases b with
    | nil => simp [Dat.beqL] at h
    | cons y ys =>
      simp only [Dat.beqL, Bool.and_eq_true] at h
      rw [Dat.beq_eq x y h.1, Dat.beqL_eq xs ys h.2]
end
mutual
def AV.beq : AV → AV → Bool
  | .top, .top => true
  | .dat d, .dat d' => d.beq d'
  | .own i e xs, .own i' e' xs' => i == i' && e == e' && Dat.beqLL xs xs'
  | .nils, .nils => true
  | .ptr o k, .ptr o' k' => o == o' && k == k'
  | .nilp, .nilp => true
  | .rptr c, .rptr c' => Dat.beqL c c'
  | .sl o e xs n, .sl o' e' xs' n' => o == o' && e == e' && Dat.beqLL xs xs' && n == n'
  | .emp, .emp => true
  | .anyb, .anyb => true
  | .fn f cs, .fn f' cs' => f == f' && AV.beqL cs cs'
  | .agg cs, .agg cs' => AV.beqL cs cs'
  | .tup cs, .tup cs' => AV.beqL cs cs'
  | _, _ => false
def AV.beqL : List AV → List AV → Bool
  | [], [] => true
  | x :: xs, y :: ys => x.beq y && AV.beqL xs ys
  | _, _ => false
end
mutual
theorem AV.beq_eq : (a b : AV) → a.beq b = true → a = b
  | .top, b, h => by cases b <;> simp [AV.beq] at h ⊢
  | .dat d, b, h => by
    cases b with
    | dat d' => simp only [AV.beq] at h; rw [Dat.beq_eq d d' h]
    | _ => simp [AV.beq] at h
  | .own i e xs, b, h => by
    cases b with
    | own i' e' xs' =>
      simp only [AV.beq, Bool.and_eq_true, beq_iff_eq] at h
      rw [h.1.1, h.1.2, Dat.beqLL_eq xs xs' h.2]
    | _ => simp [AV.beq] at h
  | .nils, b, h => by cases b <;> simp [AV.beq] at h ⊢
  | .ptr o k, b, h => by cases b <;> simp [AV.beq] at h ⊢; exact h
  | .nilp, b, h => by cases b <;> simp [AV.beq] at h ⊢
  | .rptr c, b, h => by
    cases b with
    | rptr c' => simp only [AV.beq] at h; rw [Dat.beqL_eq c c' h]
    | _ => simp [AV.beq] at h
  | .sl o e xs n, b, h => by
    cases b with
    | sl o' e' xs' n' =>
      simp only [AV.beq, Bool.and_eq_true, beq_iff_eq] at h
      rw [h.1.1.1, h.1.1.2, Dat.beqLL_eq xs xs' h.1.2, h.2]
    | _ => simp [AV.beq] at h
  | .emp, b, h => by cases b <;> simp [AV.beq] at h ⊢
  | .anyb, b, h => by cases b <;> simp [AV.beq] at h ⊢
  | .fn f cs, b, h => by
    cases b with
    | fn f' cs' =>
      simp only [AV.beq, Bool.and_eq_true, beq_iff_eq] at h
      rw [h.1, AV.beqL_eq cs cs' h.2]
    | _ => simp [AV.beq] at h
  | .agg cs, b, h => by
    cases b with
    | agg cs' => simp only [AV.beq] at h; rw [AV.beqL_eq cs cs' h]
    | _ => simp [AV.beq] at h
  | .tup cs, b, h => by
    cases b with
    | tup cs' => simp only [AV.beq] at h; rw [AV.beqL_eq cs cs' h]
    | _ => simp [AV.beq] at h
theorem AV.beqL_eq : (a b : List AV) → AV.beqL a b = true → a = b
  | [], b, h => by cases b <;> simp [AV.beqL] at h ⊢
  | x :: xs, b, h => by
    cases b with
    | nil => simp [AV.beqL] at h
    | cons y ys =>
      simp only [AV.beqL, Bool.and_eq_true] at h
      rw [AV.beq_eq x y h.1, AV.beqL_eq xs ys h.2]
end
def beqH : List (TypeId × List AV) → List (TypeId × List AV) → Bool
  | [], [] => true
  | x :: xs, y :: ys => x.1 == y.1 && AV.beqL x.2 y.2 && beqH xs ys
  | _, _ => false
theorem beqH_eq : (a b : List (TypeId × List AV)) → beqH a b = true → a = b
  | [], b, h => by cases b <;> simp [beqH] at h ⊢
  | (t, x) :: xs, b, h => by
    cases b with
    | nil => simp [beqH] at h
    | cons y ys =>
      obtain ⟨t', y⟩ := y
      simp only [beqH, Bool.and_eq_true, beq_iff_eq] at h
      rw [h.1.1, AV.beqL_eq x y h.1.2, beqH_eq xs ys h.2]
def St.beq (s s' : St) : Bool := AV.beqL s.slots s'.slots && beqH s.heap s'.heap
theorem St.beq_eq {s s' : St} (h : s.beq s' = true) : s = s' := by
  simp only [St.beq, Bool.and_eq_true] at h
  cases s; cases s'
  simp only [St.mk.injEq]
  exact ⟨AV.beqL_eq _ _ h.1, beqH_eq _ _ h.2⟩
end Go.Proofs.YtdfcjodkmjofgaaGreat
