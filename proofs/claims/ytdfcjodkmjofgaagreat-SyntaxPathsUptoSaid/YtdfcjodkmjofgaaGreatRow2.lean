/-
  Numbers and slices of numbers among the arguments of a row.
-/
import Derived.Test.YtdfcjodkmjofgaaGreatRow
import Derived.Test.YtdfcjodkmjofgaaGreatM2
namespace Go.Proofs.YtdfcjodkmjofgaaGreat
open Go.ChangeShapes Go.WideShapes Go.ChangeAt Go.RowKit
set_option linter.unusedVariables false

section
variable {H : Type} {enc : TypeId × Value → H} {w : World} {spare : Nat → Bool} {held : Bool}
theorem cells_int {P : Program} {W : World} {base : Nat} {t : TypeId} {k : IntKind} {v : Value} (ht : P.underlying t = some (.int k)) (h : Value.okWide P W .any base t v) : v.cells.toList = [v] := by
  cases v <;> first | rfl | (simp [Value.okWide, ht, Cell.okWide, Cell.ok] at h)
theorem cells_slice {P : Program} {W : World} {base : Nat} {t e : TypeId} {v : Value} (ht : P.underlying t = some (.slice e)) (h : Value.okWide P W .any base t v) : v.cells.toList = [v] := by
  cases v <;> first | rfl | (simp [Value.okWide, ht, Cell.okWide, Cell.ok] at h)
instance : Inhabited IntD := ⟨⟨0⟩⟩
set_option maxRecDepth 100000 in
theorem int_at {base : Nat} {ts : Array TypeId} {vs : Array Value} (hval : ∀ (j : Nat) t v, ts[j]? = some t → vs[j]? = some v → Value.okWide Tryz.prog w .any base t v) (j : Nat) (v : Value)
    (h1 : ts[j]? = some 3) (h2 : vs[j]? = some v) {d : DataW H} {ps : List MemPlace} (h : DataW.Trod enc Tryz.prog w 0 spare held 3 v d ps) : ∃ n : Int, VRel Tryz.prog w (Cx.fresh w.heap.size (Has w)) (.dat (.int .i64 n)) v := by
  obtain ⟨fuel, h⟩ := h
  rw [cells_int (und_int VT_ok (by rfl : VT.und 3 = some (.int .i64))) (hval j 3 v h1 h2)] at h
  obtain ⟨k, rfl, _⟩ := rd_int h
  exact ⟨k, .dat _ _ (.int _ _)⟩
set_option maxRecDepth 100000 in
theorem ints_at {base : Nat} {ts : Array TypeId} {vs : Array Value} (hval : ∀ (j : Nat) t v, ts[j]? = some t → vs[j]? = some v → Value.okWide Tryz.prog w .any base t v) (j : Nat) (v : Value)
    (h1 : ts[j]? = some 40) (h2 : vs[j]? = some v) {d : DataW H} {ps : List MemPlace} (h : DataW.Trod enc Tryz.prog w 0 spare held 40 v d ps) : ∃ l : List IntD, VRel Tryz.prog w (Cx.fresh w.heap.size (Has w)) (.dat (.list (l.map IntD.cells))) v := by
  obtain ⟨fuel, h⟩ := h
  rw [cells_slice (und_slice VT_ok (by rfl : VT.und 40 = some (.slice 3))) (hval j 40 v h1 h2)] at h
  obtain ⟨ys, h3, _⟩ := open_list (cl := IntD.cells) (sz := fun _ => 0) (t := 40) (e := 3) (ti := ⟨1, 8, _⟩) rfl rfl (fun n _ cs x hx => by
    obtain ⟨k, rfl, _⟩ := DataW.trod_int (und_int VT_ok (by rfl : VT.und 3 = some (.int .i64))) hx
    exact ⟨⟨k⟩, .cons (.int _ _) (.nil w), Nat.zero_le _⟩) h
  exact ⟨ys, .dat _ _ h3.one⟩
end
end Go.Proofs.YtdfcjodkmjofgaaGreat
