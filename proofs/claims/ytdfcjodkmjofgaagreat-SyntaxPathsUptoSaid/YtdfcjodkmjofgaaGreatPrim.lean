/-
  Callees of awake that are proved by hand: a copy of an empty slice.
-/
import Derived.Test.YtdfcjodkmjofgaaGreatEvalL
import Derived.Test.YtdfcjodkmjofgaaGreatProg
namespace Go.Proofs.YtdfcjodkmjofgaaGreat
open Go.RowKit

theorem mixedOrders : Tryz.prog.follows .mixedOrders = true := by kernel_rfl
def two91 (H : Boxes) : Outs := [(.ret, ⟨[.dat (.list []), .top, .nils, .dat (.list []), .anyb, .top, .top, .top], H⟩), (.ret, ⟨[.dat (.list []), .top, .emp, .dat (.list []), .anyb, .emp, .dat (.list []), .emp], H⟩)]
theorem clone_empty91 (H : Boxes) : CR Tryz.prog 91 [.dat (.list [])] H fun r H' => r = .dat (.list []) ∧ H' = H := by
  have h : CR Tryz.prog 91 [.dat (.list [])] H fun r H' => (r = .nils ∨ r = .emp) ∧ H' = H := by
    refine cr_of_outs mixedOrders (full := fun _ => false) (raw := false) (noCallee_sure _) 5 (L := two91 H) Tryz.func91 (code := Tryz.f91.body.get (by kernel_rfl)) (by kernel_rfl) (by kernel_rfl) (by kernel_rfl) fun e s' hm => ?_
    simp only [two91, List.mem_cons, Prod.mk.injEq, List.not_mem_nil, or_false] at hm
    rcases hm with ⟨rfl, rfl⟩ | ⟨rfl, rfl⟩
    · exact ⟨_, Wk.refl _ _, .nils, by kernel_rfl, .inl rfl, rfl⟩
    · exact ⟨_, Wk.refl _ _, .emp, by kernel_rfl, .inr rfl, rfl⟩
  refine h.conv fun r H' hr => ⟨.dat (.list []), ⟨rfl, hr.2⟩, fun w X v hv => ?_⟩
  rcases hr.1 with rfl | rfl
  · exact nils_dat hv
  · exact emp_dat hv
def two94 (H : Boxes) : Outs := [(.ret, ⟨[.dat (.list []), .top, .nils, .dat (.list []), .anyb, .top, .top, .top], H⟩), (.ret, ⟨[.dat (.list []), .top, .emp, .dat (.list []), .anyb, .emp, .dat (.list []), .emp], H⟩)]
theorem clone_empty94 (H : Boxes) : CR Tryz.prog 94 [.dat (.list [])] H fun r H' => r = .dat (.list []) ∧ H' = H := by
  have h : CR Tryz.prog 94 [.dat (.list [])] H fun r H' => (r = .nils ∨ r = .emp) ∧ H' = H := by
    refine cr_of_outs mixedOrders (full := fun _ => false) (raw := false) (noCallee_sure _) 5 (L := two94 H) Tryz.func94 (code := Tryz.f94.body.get (by kernel_rfl)) (by kernel_rfl) (by kernel_rfl) (by kernel_rfl) fun e s' hm => ?_
    simp only [two94, List.mem_cons, Prod.mk.injEq, List.not_mem_nil, or_false] at hm
    rcases hm with ⟨rfl, rfl⟩ | ⟨rfl, rfl⟩
    · exact ⟨_, Wk.refl _ _, .nils, by kernel_rfl, .inl rfl, rfl⟩
    · exact ⟨_, Wk.refl _ _, .emp, by kernel_rfl, .inr rfl, rfl⟩
  refine h.conv fun r H' hr => ⟨.dat (.list []), ⟨rfl, hr.2⟩, fun w X v hv => ?_⟩
  rcases hr.1 with rfl | rfl
  · exact nils_dat hv
  · exact emp_dat hv
end Go.Proofs.YtdfcjodkmjofgaaGreat
