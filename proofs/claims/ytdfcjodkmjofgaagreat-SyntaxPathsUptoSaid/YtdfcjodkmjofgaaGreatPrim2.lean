/-
  Callees of awake that are proved by hand: the place of a byte in a string.
-/
import Derived.Test.YtdfcjodkmjofgaaGreatPrim
import Derived.Lib.Strings
import Derived.Lib.Slices
import Derived.Lib.Walk
import Derived.Lib.Bytealg
namespace Go.Proofs.YtdfcjodkmjofgaaGreat
open Go.RowKit

set_option maxHeartbeats 1000000 in
set_option maxRecDepth 100000 in
theorem indexByte_calls (s : ByteArray) (c : Int) (w : World) :
    Calls Tryz.prog 178 #[.string s, .int .u8 c] w fun e w' => e = .returned (.int .i64 (Lib.indexByte s.data.toList c.toNat.toUInt8)) ∧ w' = w := by
  go_enter Tryz.func178, Tryz.ntmps178
  go_wp2
  rw [run_callFunc_extern Tryz.func200 (by kernel_rfl) (by kernel_rfl) (by kernel_rfl) (e := Extern.BytealgIndexByte.indexByte) (by kernel_rfl), Lib.run_indexByteString]
  simp only [Result.andThen]
  rw [Oper.upon_value]
  go_wp2
  go_ret
  exact ⟨rfl, rfl⟩
theorem Cells.two {P : Program} {w : World} {X : Cx} {a b : AV} {vs : Array Value} (h : Cells P w X [a, b] vs) : ∃ u v, vs = #[u, v] ∧ VRel P w X a u ∧ VRel P w X b v := by
  obtain ⟨hs, hr⟩ := h
  obtain ⟨l⟩ := vs
  match l, hs with
  | [u, v], _ => exact ⟨u, v, rfl, hr 0 a u rfl rfl, hr 1 b v rfl rfl⟩
theorem Cells.one {P : Program} {w : World} {X : Cx} {a : AV} {vs : Array Value} (h : Cells P w X [a] vs) : ∃ u, vs = #[u] ∧ VRel P w X a u := by
  obtain ⟨hs, hr⟩ := h
  obtain ⟨l⟩ := vs
  match l, hs with
  | [u], _ => exact ⟨u, rfl, hr 0 a u rfl rfl⟩
theorem Cells.three {P : Program} {w : World} {X : Cx} {a b c : AV} {vs : Array Value} (h : Cells P w X [a, b, c] vs) : ∃ u v t, vs = #[u, v, t] ∧ VRel P w X a u ∧ VRel P w X b v ∧ VRel P w X c t := by
  obtain ⟨hs, hr⟩ := h
  obtain ⟨l⟩ := vs
  match l, hs with
  | [u, v, t], _ => exact ⟨u, v, t, rfl, hr 0 a u rfl rfl, hr 1 b v rfl rfl, hr 2 c t rfl rfl⟩
theorem indexByte_cr (s : List UInt8) (c : Int) (H : Boxes) : CR Tryz.prog 178 [.dat (.str s), .dat (.int .u8 c)] H fun r H' => r = .dat (.int .i64 (Lib.indexByte s c.toNat.toUInt8)) ∧ H' = H := by
  refine ⟨⟨_, Tryz.func178, by kernel_rfl, by kernel_rfl⟩, fun w X vs hh hc => ?_⟩
  obtain ⟨u, v, rfl, hu, hv⟩ := hc.two
  rw [str_rel hu, int_rel hv]
  refine (indexByte_calls ⟨s.toArray⟩ c w).mono ?_
  rintro e w' ⟨rfl, rfl⟩
  exact ⟨_, _, H, X, rfl, ⟨rfl, rfl⟩, Post.refl _ _, hh, by simpa using rel_int _ _⟩
end Go.Proofs.YtdfcjodkmjofgaaGreat
