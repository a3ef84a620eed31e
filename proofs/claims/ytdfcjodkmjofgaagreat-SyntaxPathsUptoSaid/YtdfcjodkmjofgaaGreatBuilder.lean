/-
  Two methods of the library's string builder, where it lies in a box: the check for copies, and the text.
-/
import Derived.Test.YtdfcjodkmjofgaaGreatPrim2
import Derived.Test.YtdfcjodkmjofgaaGreatConv
import Derived.Lib.Builder
import Derived.Lib.UnsafeStr
import Derived.Laws.Externs
import Derived.WalkKit
namespace Go.Proofs.YtdfcjodkmjofgaaGreat
open Go.RowKit

theorem builder_info : ∃ j, Tryz.prog.info? 159 = some j ∧ j.size = 2 := by
  have h : (Tryz.prog.info? 159).map (·.size) = some 2 := by kernel_rfl
  obtain ⟨j, hj, hs⟩ := Option.map_eq_some_iff.1 h
  exact ⟨j, hj, hs⟩
set_option maxHeartbeats 1000000 in
set_option maxRecDepth 100000 in
theorem copyCheck_used (b k : Nat) (w : World) (h0 : w.cell? ⟨b, k, none⟩ = some (.pointer (some ⟨b, k, none⟩))) :
    Calls Tryz.prog 190 #[.pointer (some ⟨b, k, none⟩)] w fun e w' => e = .returned (.tuple #[]) ∧ w' = w := by
  obtain ⟨j, hj, _⟩ := builder_info
  have hadd : (⟨b, k, none⟩ : Addr).add 0 = ⟨b, k, none⟩ := by unfold Addr.add; rfl
  go_enter Tryz.func190, Tryz.ntmps190
  go_wp2
  rw [Lib.run_neq_ptr_same w _ Tryz.underlying156 hj]
  go_wp2
  go_end0
  exact ⟨rfl, rfl⟩
set_option maxHeartbeats 1000000 in
set_option maxRecDepth 100000 in
theorem copyCheck_fresh (b k : Nat) (T : TypeId) (cells : Nat) (w : World) (h0 : w.cell? ⟨b, k, none⟩ = some (.pointer none)) (hsh : w.shape? b = some (T, cells)) (hk : k < cells)
    (hl : liesAt Tryz.prog Tryz.prog.depth T (cells / Tryz.prog.cellsOf T) k 159 1 = true) (hfz : w.frozen? ⟨b, k, none⟩ = false) :
    Calls Tryz.prog 190 #[.pointer (some ⟨b, k, none⟩)] w fun e w' => e = .returned (.tuple #[]) ∧ w' = w.setCell ⟨b, k, none⟩ (.pointer (some ⟨b, k, none⟩)) := by
  obtain ⟨j, hj, hjs⟩ := builder_info
  go_enter Tryz.func190, Tryz.ntmps190
  go_wp2
  rw [Lib.run_to_unsafe w ⟨b, k, none⟩ Tryz.underlying156 Tryz.underlying210 hj (by rw [hjs]; decide) hsh hk]
  simp only [Result.andThen]
  rw [Oper.upon_value]
  go_wp2
  rw [run_callFunc_extern Tryz.func207 (by kernel_rfl) (by kernel_rfl) (by kernel_rfl) (e := Extern.AbiNoEscape.same) (by kernel_rfl)]
  rw [Lib.run_noEscape]
  simp only [Result.andThen]
  rw [Oper.upon_value]
  go_wp2
  rw [Lib.run_from_unsafe w ⟨b, k, none⟩ Tryz.underlying210 Tryz.underlying156 hj hsh hl]
  simp only [Result.andThen]
  rw [Oper.upon_value]
  go_wp2
  go_end0
  exact ⟨rfl, rfl⟩
theorem byte_cells : Tryz.prog.cellsOf 5 = 1 := by kernel_rfl
set_option maxHeartbeats 1000000 in
set_option maxRecDepth 100000 in
theorem string_calls (b k g cap : Nat) (cur : Array Value) (l : List UInt8) (w : World) (h0 : l ≠ []) (hc : w.cell? ⟨b, k + 1, none⟩ = some (.slice (some ⟨g, 0, none⟩) l.length cap)) (hg : w.heap[g]? = some (.cells cur 5 (0, 0)))
    (hl : l.length ≤ cap) (hm : cap ≤ maxLen) (hs : cur.size = cap) (hx : ∀ (j : Nat) (x : UInt8), l[j]? = some x → cur[j]? = some (.int .u8 x.toNat)) :
    Calls Tryz.prog 170 #[.pointer (some ⟨b, k, none⟩)] w fun e w' => e = .returned (.string ⟨l.toArray⟩) ∧ w' = w.drew.freeze ⟨g, 0, none⟩ l.length := by
  have hl0 : l.length ≠ 0 := by simpa using h0
  have hd : w.drew.heap = w.heap := rfl
  have hadd : (⟨b, k, none⟩ : Addr).add 1 = ⟨b, k + 1, none⟩ := by unfold Addr.add; simp
  have c1 : w.drew.cell? ⟨b, k + 1, none⟩ = some (.slice (some ⟨g, 0, none⟩) l.length cap) := hc
  have hSD : (Builtin.unsafeSliceData_ #[157] 191 #[.slice (some ⟨g, 0, none⟩) l.length cap]).run Tryz.prog w.drew = .ok (.pointer (some ⟨g, 0, none⟩)) w.drew :=
    Lib.run_unsafeSliceData_row _ _ _ _ _ _ (by omega)
  have hUS : (Builtin.unsafeString_ #[191, 3] 9 #[.pointer (some ⟨g, 0, none⟩), .int .i64 l.length]).run Tryz.prog w.drew = .ok (.string ⟨l.toArray⟩) (w.drew.freeze ⟨g, 0, none⟩ l.length) := by
    refine Lib.run_unsafeString_row w.drew 191 3 9 5 Tryz.underlying191 byte_cells g cur.size (by have hg' : w.drew.heap[g]? = some (.cells cur 5 (0, 0)) := hg; simp [World.shape?, hg']) l h0 (by omega) (by unfold maxLen at hm; omega) ?_
    intro j x hj
    have hg' : w.drew.heap[g]? = some (.cells cur 5 (0, 0)) := hg
    rw [add_plain, cell_of_row w.drew g _ cur 5 (0, 0) hg']
    exact hx j x hj
  go_enter Tryz.func170, Tryz.ntmps170
  go_wp2
  go_region
  all_goals (go_wp2; go_ret; exact ⟨rfl, rfl⟩)
theorem setCell_row {w : World} {b k : Nat} {vs : Array Value} {T : TypeId} {fr : Nat × Nat} (v : Value) (hh : w.heap[b]? = some (.cells vs T fr)) : w.setCell ⟨b, k, none⟩ v = w.setRow b (vs.setIfInBounds k v) := by
  unfold World.setCell World.setRow
  congr 1
  apply Array.ext_getElem?
  intro i
  rw [Array.getElem?_modify, Array.getElem?_modify]
  by_cases e : b = i
  · subst e
    simp [hh]
  · simp [e]
theorem cell_freeze (w : World) (p : Addr) (n : Nat) (a : Addr) : (w.freeze p n).cell? a = w.cell? a := by
  unfold World.freeze
  split
  · rfl
  · simp only [World.cell?, Array.getElem?_modify]
    by_cases e : p.block = a.block
    · rw [if_pos e]
      cases w.heap[a.block]? with
      | none => rfl
      | some o => cases o <;> rfl
    · rw [if_neg e]
theorem heap_freeze (w : World) (p : Addr) (n b : Nat) (h : b ≠ p.block) : (w.freeze p n).heap[b]? = w.heap[b]? := by
  unfold World.freeze
  split
  · rfl
  · simp only [Array.getElem?_modify]
    rw [if_neg (fun e => h e.symm)]
/-- A state of boxes alone. -/
theorem HRel.bare {P : Program} {w : World} {X : Cx} {H : List (TypeId × List AV)} (hh : HRel P w X H) : SRel P w X w X ⟨[], H⟩ { tmps := #[], defers := X.dl } :=
  ⟨rfl, rfl, fun i c v hi => by simp at hi, hh, Post.refl w X⟩
/-- The check for copies, at a builder in cells k, k + 1 of a box. -/
theorem copyCheck_cr {H : Boxes} {o k : Nat} {T : TypeId} {cs : List AV} {ti : TypeInfo} (ho : H[o]? = some (T, cs)) (hk : cs[k]? = some .nilp ∨ cs[k]? = some (.ptr o k)) (hti : Tryz.prog.info? T = some ti) (hlen : cs.length = ti.size)
    (hl : liesAt Tryz.prog Tryz.prog.depth T 1 k 159 1 = true) : CR Tryz.prog 190 [.ptr o k] H fun r H' => r = .tup [] ∧ H' = H.set o (T, cs.set k (.ptr o k)) := by
  refine ⟨⟨_, Tryz.func190, by kernel_rfl, by kernel_rfl⟩, fun w X vs hh hc => ?_⟩
  obtain ⟨u, rfl, hu⟩ := hc.one
  cases hu with
  | ptr _ _ hon =>
  have hkl : k < cs.length := by rcases hk with h | h <;> exact (List.getElem?_eq_some_iff.1 h).1
  have hne : cs ≠ [] := by intro e; rw [e] at hkl; simp at hkl
  obtain ⟨vs, hv, ⟨hsz, hcm, hinfo⟩, hcell⟩ := hh.box o T cs ho hne
  obtain ⟨hvs, q, hq⟩ := hinfo ti hti
  have hlt : X.bo o + k < vs.size := by omega
  have hc0 : w.cell? ⟨X.m o, X.bo o + k, none⟩ = some vs[X.bo o + k] := by rw [cell_of_row w _ _ vs T (0, 0) hv, Array.getElem?_eq_getElem hlt]
  have key : Calls Tryz.prog 190 #[.pointer (some ⟨X.m o, X.bo o + k, none⟩)] w fun e w' => e = .returned (.tuple #[]) ∧ w' = w.setRow (X.m o) (vs.setIfInBounds (X.bo o + k) (.pointer (some ⟨X.m o, X.bo o + k, none⟩))) := by
    rcases hk with hk | hk
    · have hr := hcell k _ _ hk (Array.getElem?_eq_getElem hlt)
      generalize hve : vs[X.bo o + k] = v0 at hr hc0
      cases hr with
      | nilp =>
        refine (copyCheck_fresh (X.m o) (X.bo o + k) T vs.size w hc0 (by simp [World.shape?, hv]) hlt ?_ (by simp [World.frozen?, hv])).mono ?_
        · have hcz : Tryz.prog.cellsOf T = ti.size := by simp [Program.cellsOf, hti]
          have hpos : 0 < ti.size := by omega
          rw [hcz, hvs, Nat.mul_div_cancel _ hpos, hq, Nat.mul_comm, ← hcz]
          refine liesAt_up _ (by rw [hcz]; omega) hl ?_
          have h1 : ti.size * q + ti.size ≤ X.cap o * ti.size := by omega
          rw [← Nat.mul_succ, Nat.mul_comm] at h1
          exact Nat.le_of_mul_le_mul_right h1 hpos
        · rintro e w' ⟨rfl, rfl⟩
          exact ⟨rfl, setCell_row _ hv⟩
    · have hr := hcell k _ _ hk (Array.getElem?_eq_getElem hlt)
      generalize hve : vs[X.bo o + k] = v0 at hr hc0
      cases hr with
      | ptr =>
        refine (copyCheck_used (X.m o) (X.bo o + k) w hc0).mono ?_
        rintro e w' ⟨rfl, rfl⟩
        refine ⟨rfl, ?_⟩
        rw [← setCell_row _ hv]
        have e1 : vs.setIfInBounds (X.bo o + k) (.pointer (some ⟨X.m o, X.bo o + k, none⟩)) = vs := by
          apply Array.ext_getElem?
          intro i
          rw [Array.getElem?_setIfInBounds]
          split
          · rename_i e
            subst e
            rw [Array.getElem?_eq_getElem hlt, hve]
          · rfl
        rw [setCell_row _ hv, e1]
        exact (setRow_self _ _ vs T (0, 0) hv).symm
  refine key.mono ?_
  rintro e w' ⟨rfl, rfl⟩
  have hs := (hh.bare (P := Tryz.prog)).store (cs' := cs.set k (.ptr o k)) (vs' := vs.setIfInBounds (X.bo o + k) (.pointer (some ⟨X.m o, X.bo o + k, none⟩))) ho hne hv (by simp; omega) (fun i c v hi hv' => by
      rw [List.getElem?_set] at hi
      rw [Array.getElem?_setIfInBounds] at hv'
      split at hi
      · rename_i e
        subst e
        rw [if_pos rfl, if_pos hlt] at hv'
        injection hi with hi
        injection hv' with hv'
        subst hi hv'
        exact .ptr o k hon
      · rename_i hne'
        rw [if_neg (by omega)] at hv'
        exact hcell i c v hi hv') (fun i hi => by rw [Array.getElem?_setIfInBounds, if_neg (by omega)])
  exact ⟨_, .tup [], _, X, rfl, ⟨rfl, rfl⟩, hs.po, hs.hp, .tup [] #[] rfl fun i c v hi => by simp at hi⟩
theorem byte_info : ∃ j, Tryz.prog.info? 5 = some j ∧ j.size = 1 := by
  have h : (Tryz.prog.info? 5).map (·.size) = some 1 := by kernel_rfl
  obtain ⟨j, hj, hs⟩ := Option.map_eq_some_iff.1 h
  exact ⟨j, hj, hs⟩
/-- The text, at a builder in cells k, k + 1 of a box: its bytes are data from now on. -/
theorem string_cr {H : Boxes} {o k id : Nat} {T : TypeId} {cs : List AV} {l : List UInt8} (ho : H[o]? = some (T, cs)) (hb : cs[k + 1]? = some (.own id 5 (l.map fun b => [.int .u8 b.toNat]))) (h0 : l ≠ []) :
    CR Tryz.prog 170 [.ptr o k] H fun r H' => r = .dat (.str l) ∧ H' = H.map fun b => (b.1, AV.demL id b.2) := by
  refine ⟨⟨_, Tryz.func170, by kernel_rfl, by kernel_rfl⟩, fun w X vs hh hc => ?_⟩
  obtain ⟨u, rfl, hu⟩ := hc.one
  cases hu with
  | ptr _ _ hon =>
  have hkl : k + 1 < cs.length := (List.getElem?_eq_some_iff.1 hb).1
  have hne : cs ≠ [] := by intro e; rw [e] at hkl; simp at hkl
  obtain ⟨vs, hv, ⟨hsz, hcm, hinfo⟩, hcell⟩ := hh.box o T cs ho hne
  have hlt : X.bo o + (k + 1) < vs.size := by omega
  have hc1 : w.cell? ⟨X.m o, X.bo o + k + 1, none⟩ = some vs[X.bo o + (k + 1)] := by rw [Nat.add_assoc, cell_of_row w _ _ vs T (0, 0) hv, Array.getElem?_eq_getElem hlt]
  have hr := hcell (k + 1) _ _ hb (Array.getElem?_eq_getElem hlt)
  generalize hve : vs[X.bo o + (k + 1)] = v0 at hr hc1
  generalize hxe : (l.map fun b => [Dat.int .u8 b.toNat]) = xs at hr
  have hxl : xs.length = l.length := by rw [← hxe]; simp
  cases hr with
  | ownNil => simp at hxe; exact absurd hxe h0
  | own _ _ _ g c cur i he hgB hlab hg hlc hcx hcs hx hrr hp =>
    obtain ⟨j, hj, hjs⟩ := byte_info
    rw [hj] at he
    injection he with he
    subst he
    rw [hjs] at hcs hrr hp
    rw [hxl] at hc1 hlc hp
    have hbytes : ∀ (j : Nat) (x : UInt8), l[j]? = some x → cur[j]? = some (.int .u8 x.toNat) := fun j x hj => by
      obtain ⟨v, h1, h2⟩ := hrr j [.int .u8 x.toNat] 0 (.int .u8 x.toNat) (by rw [← hxe]; simp [hj]) rfl
      rw [Nat.mul_one, Nat.add_zero] at h1
      cases h2
      exact h1
    refine (string_calls (X.m o) (X.bo o + k) g c cur l w h0 hc1 hg hlc hcx (by rw [hcs, Nat.mul_one]) hbytes).mono ?_
    rintro e w' ⟨rfl, rfl⟩
    have hd : Below w.heap.size w w.drew := Below.drew (Below.refl _ w)
    have hwh : w.drew.heap = w.heap := rfl
    have hcl : ∀ a, (w.drew.freeze ⟨g, 0, none⟩ l.length).cell? a = w.cell? a := fun a => (cell_freeze _ _ _ _).trans rfl
    have hhp : ∀ b, b ≠ g → (w.drew.freeze ⟨g, 0, none⟩ l.length).heap[b]? = w.heap[b]? := fun b hb => (heap_freeze _ _ _ _ hb).trans (by rw [hwh])
    have hb0 : Below g w (w.drew.freeze ⟨g, 0, none⟩ l.length) := Lib.below_freeze (Below.drew (Below.refl _ w)) (p := ⟨g, 0, none⟩) (Nat.le_refl _) _
    have hbl : Kept X.my w (w.drew.freeze ⟨g, 0, none⟩ l.length) := ⟨hb0.os, hb0.tape, hb0.output, hb0.size, fun k hk => hhp k fun e => hk (e ▸ hgB)⟩
    have hgs : w.heap.size ≤ (w.drew.freeze ⟨g, 0, none⟩ l.length).heap.size := hbl.size
    have hs := ((hh.bare (P := Tryz.prog)).dem id).movb (w' := w.drew.freeze ⟨g, 0, none⟩ l.length) (X' := { X with lab := fun b => if b = g then none else X.lab b }) (bad := some id)
      ⟨fun _ h => h, fun a ha => ⟨ha, hcl a⟩, fun b id' hb' hne' => by
        have hbg : b ≠ g := fun e => by rw [e, hlab] at hb'; exact hne' hb'.symm
        exact ⟨by simp [hbg, hb'], hhp b hbg, fun _ => Iff.rfl⟩, Nat.le_refl _, fun _ _ => ⟨rfl, rfl, rfl⟩⟩
      (fun id' e => by injection e with e; subst e; exact St.dem_noOwn id _)
      ⟨rfl, hbl, hgs, fun a ha => ⟨ha, hcl a⟩, Nat.le_refl _, fun _ _ => ⟨rfl, rfl, rfl⟩, fun _ _ => Iff.rfl⟩ rfl
      (fun o' T' cs' ho' hne' => by
        have hb' := ((hh.bare (P := Tryz.prog)).dem id).hp.boxb o' T' cs' ho' hne'
        have hbg : X.m o' ≠ g := fun e => by rw [e, hlab] at hb'; cases hb'.2.1
        exact ⟨hhp _ hbg, by simp [hbg, hb'.2.1], hb'.2.2⟩)
      (fun a ha => by obtain ⟨u, hu⟩ := hh.pm a ha; exact ⟨u, (hcl a).trans hu⟩)
      (fun b hb' => by
        simp only at hb'
        split at hb'
        · exact absurd rfl hb'
        · exact ⟨(hh.lab b hb').1, Nat.lt_of_lt_of_le (hh.lab b hb').2 hgs⟩)
    exact ⟨_, .dat (.str l), _, _, rfl, ⟨rfl, rfl⟩, hs.po, hs.hp, .dat _ _ (.str l)⟩
end Go.Proofs.YtdfcjodkmjofgaaGreat
