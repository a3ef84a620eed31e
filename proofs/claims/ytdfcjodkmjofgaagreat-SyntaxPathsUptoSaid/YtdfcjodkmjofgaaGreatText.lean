/-
  The text of a list of one part: a range over slices.Backward, walked by hand.
-/
import Derived.Test.YtdfcjodkmjofgaaGreatPrim2
import Derived.RangeFuncNested
import Derived.RangeFuncBound
import Derived.RangeFuncCalls
import Derived.RangeFuncLeaves
import Derived.Shelf.Abstract
import Derived.Shelf.RegionOpen
import Derived.WalkKit
import Derived.OwnWalkIn
import Derived.TacticsInMore
import Derived.LoopNIn
import Derived.LoopIn
namespace Go.Proofs.YtdfcjodkmjofgaaGreat
open Go.RowKit Go.Shelf
attribute [local go_sem] Oper.semAt_some

set_option maxHeartbeats 1000000 in
/-- slices.Backward: the slice is boxed; the function value captures the box. -/
theorem backward_in (F : Fence) (n : Nat) (h : F.fn 171) (hro : F.round = none) (a : Option Addr) (len cap : Nat) (w : World) :
    CallsIn F n Tryz.prog 171 #[.slice a len cap] w fun e w' => e = .returned (.func (.func 192) #[] #[.pointer (some ⟨w.heap.size, 0, none⟩)]) ∧ w' = w.alloc (.cells #[.slice a len cap] 54) := by
  refine callsIn_of_wp Tryz.func171 rfl h ?_ hro
  simp only [Tryz.ntmps171, List.size_toArray, List.length_cons, List.length_nil, Nat.reduceAdd, Nat.reduceSub, Array.replicate_succ, Array.replicate_zero, List.push_toArray, List.append_toArray, List.nil_append, List.cons_append]
  gi_wp2
  go_ret
  exact ⟨rfl, rfl⟩

/-- What a round keeps: one cell, and all below n₀. -/
def KpB (Bs n₀ : Nat) (W W' : World) : Prop := (∀ v, W.cell? ⟨Bs, 0, none⟩ = some v → W'.cell? ⟨Bs, 0, none⟩ = some v) ∧ Below n₀ W W'
theorem KpB.refl (Bs n₀ : Nat) (W : World) : KpB Bs n₀ W W := ⟨fun _ h => h, Below.refl _ _⟩
theorem KpB.t {Bs n₀ : Nat} {A B C : World} (h : KpB Bs n₀ A B) (k : KpB Bs n₀ B C) : KpB Bs n₀ A C := ⟨fun v e => k.1 v (h.1 v e), h.2.trans k.2⟩
theorem KpB.b {Bs n₀ : Nat} {w : World} (hn : n₀ ≤ w.heap.size) (W : World) (l : Nat) (o o' : Obj) (hl : w.heap.size ≤ l) (h : W.heap[l]? = some o) (hc : o.isCells = false) (hw : o.isWalk = false) : KpB Bs n₀ W (W.putObj l o') := by
  refine ⟨fun v e => ?_, belowK_b hn W l o o' hl h hc hw⟩
  by_cases hb : l = Bs
  · subst hb
    unfold World.cell? at e
    simp only [h] at e
    cases o <;> simp_all [Obj.isCells]
  · refine (World.cell?_of_block ?_).trans e
    exact (grownBy_putObj' W l o').block Bs (World.block_lt_of_cell? W _ e) (fun e' => hb (by cases e'; rfl))

set_option maxRecDepth 100000 in
set_option maxHeartbeats 2000000 in
/-- Its function value over a slice of one part: one round. -/
theorem backward1_in (F : Fence) (n : Nat) (h7 : F.fn 192) (hro : F.round = none) (hn : 1 ≤ n) (l Bs n₀ b off cap : Nat) (c0 c1 c2 c3 c4 : Value) (J Jx : List Unit → World → Prop)
    (hY : ∀ pre x W, J pre W → pre.length < 1 → YieldAt F (n - 1) Tryz.prog l #[.int .i64 0, .agg #[c0, c1, c2, c3, c4]] W fun e W' =>
      (e = .returned (.bool true) ∧ J (pre ++ [x]) W' ∧ KpB Bs n₀ W W') ∨ (e = .returned (.bool false) ∧ Jx (pre ++ [x]) W'))
    (W : World) (hBs : W.cell? ⟨Bs, 0, none⟩ = some (.slice (some ⟨b, off, none⟩) 1 cap)) (h0 : J [] W)
    (hld : ∀ W', Below n₀ W W' → W'.cell? ⟨b, off, none⟩ = some c0 ∧ W'.cell? ⟨b, off + 1, none⟩ = some c1 ∧ W'.cell? ⟨b, off + 2, none⟩ = some c2 ∧ W'.cell? ⟨b, off + 3, none⟩ = some c3 ∧ W'.cell? ⟨b, off + 4, none⟩ = some c4) :
    CallsIn F n Tryz.prog 192 #[.func (.yield l) #[] #[], .pointer (some ⟨Bs, 0, none⟩)] W fun e W' => (∃ v, e = .returned v) ∧
      ((∃ ys, ys = [()] ∧ J ys W') ∨ (∃ pre, True ∧ Jx pre W')) := by
  refine callsIn_of_wp Tryz.func192 rfl h7 ?_ hro
  simp only [Tryz.ntmps192, List.size_toArray, List.length_cons, List.length_nil, Nat.reduceAdd, Nat.reduceSub, Array.replicate_succ, Array.replicate_zero, List.push_toArray, List.append_toArray, List.nil_append, List.cons_append]
  gi_wp2
  gi_loopw [3] (fun i wr => (i = .int .i64 0 ∧ J [] wr ∧ KpB Bs n₀ W wr) ∨ (i = .int .i64 (-1) ∧ J [()] wr))
    (fun i _ => (intOf i + 1).toNat)
  case atStart => exact .inl ⟨rfl, h0, KpB.refl _ _ _⟩
  case round =>
    rcases hrel with ⟨rfl, hJs, hnx⟩ | ⟨rfl, hJs⟩
    · obtain ⟨fn, tmps, assign, body, hy, hR⟩ := hY [] () wr hJs (by simp)
      obtain ⟨k0, k1, k2, k3, k4⟩ := hld wr hnx.2
      have kB := hnx.1 _ hBs
      gi_wp2
      refine hR.mono ?_
      rintro e W3 (⟨rfl, hJ3, hk3⟩ | ⟨rfl, hJx3⟩)
      · gi_wp2
        go_roundw
        case rel => exact .inr ⟨rfl, hJ3⟩
        case measure => simp [intOf]
      · gi_wp2
        refine bodyPost_ret (results_none rfl _ _ _) rfl ?_
        exact ⟨⟨_, rfl⟩, .inr ⟨_, trivial, hJx3⟩⟩
    · gi_wp2
      go_end0
      exact ⟨⟨_, rfl⟩, .inl ⟨_, rfl, hJs⟩⟩
theorem backward_stops (F : Fence) (n : Nat) (h7 : F.fn 192) (hro : F.round = none) (hn : 1 ≤ n) (Bs n₀ b off cap : Nat) (c0 c1 c2 c3 c4 : Value) (w : World) (hb : b < n₀) (hn₀ : n₀ ≤ w.heap.size) (hB : Bs < w.heap.size) (hBs : w.cell? ⟨Bs, 0, none⟩ = some (.slice (some ⟨b, off, none⟩) 1 cap))
    (k0 : w.cell? ⟨b, off, none⟩ = some c0) (k1 : w.cell? ⟨b, off + 1, none⟩ = some c1) (k2 : w.cell? ⟨b, off + 2, none⟩ = some c2) (k3 : w.cell? ⟨b, off + 3, none⟩ = some c3) (k4 : w.cell? ⟨b, off + 4, none⟩ = some c4) :
    SeqStopsK F n Tryz.prog 192 #[.pointer (some ⟨Bs, 0, none⟩)] (fun _ : Unit => #[Value.int .i64 0, .agg #[c0, c1, c2, c3, c4]]) (KpB Bs n₀) (fun ys => ys = [()]) (fun _ => True) 1 w := fun l J Jx W hW _ _ hY h0 => by
  have hq : ∀ {i : Nat} {v : Value}, w.cell? ⟨b, i, none⟩ = some v → ∀ W', Below n₀ W W' → W'.cell? ⟨b, i, none⟩ = some v := fun h W' hW' =>
    (hW'.cell (p := ⟨b, _, none⟩) hb).trans ((hW.cell (p := ⟨b, _, none⟩) (Nat.lt_of_lt_of_le hb hn₀)).trans h)
  exact backward1_in F n h7 hro hn l Bs n₀ b off cap c0 c1 c2 c3 c4 J Jx hY W ((hW.cell (p := ⟨Bs, 0, none⟩) hB).trans hBs) h0 fun W' hW' => ⟨hq k0 W' hW', hq k1 W' hW', hq k2 W' hW', hq k3 W' hW', hq k4 W' hW'⟩

set_option maxRecDepth 100000 in
set_option maxHeartbeats 4000000 in
theorem text_in (n : Nat) (hn : 6 ≤ n) (b off cap : Nat) (s : ByteArray) (pa : Option Addr) (pc : Nat) (w : World) (hb : b < w.heap.size)
    (k0 : w.cell? ⟨b, off, none⟩ = some (.int .i64 1)) (k1 : w.cell? ⟨b, off + 1, none⟩ = some (.string s)) (k2 : w.cell? ⟨b, off + 2, none⟩ = some (.int .i64 0)) (k3 : w.cell? ⟨b, off + 3, none⟩ = some (.bool false)) (k4 : w.cell? ⟨b, off + 4, none⟩ = some (.slice pa 0 pc))
    (hlen : s.size ≤ 1000)
    (hpart : ∀ W : World, w.heap.size ≤ W.heap.size → Calls Tryz.prog 172 #[.agg #[.int .i64 1, .string s, .int .i64 0, .bool false, .slice pa 0 pc], .int .i64 0, .bool false, .string ⟨#[]⟩] W fun e W' => e = .returned (.string s) ∧ Below W.heap.size W W') :
    CallsIn Fence.wide n Tryz.prog 142 #[.slice (some ⟨b, off, none⟩) 1 cap, .int .i64 0, .bool false] w fun e W' => e = .returned (.string s) ∧ Below w.heap.size w W' := by
  have h1 : 1 ≤ n := by omega
  refine callsIn_of_wp_marks Tryz.func142 rfl trivial ?_ rfl
  simp only [Tryz.ntmps142, List.size_toArray, List.length_cons, List.length_nil, Nat.reduceAdd, Nat.reduceSub, Array.replicate_succ, Array.replicate_zero, List.push_toArray, List.append_toArray, List.nil_append, List.cons_append]
  gi_wp2_with (refine ⟨trivial, ?_⟩; gi_at_call 171; refine (backward_in Fence.wide (n - 1) trivial rfl _ _ _ _).mono ?_; rintro e w' ⟨rfl, rfl⟩)
  have bI := (((Boxed.new w 136 (.int .i64 0)).alloc (.cells #[.bool false] 4)).alloc (.cells #[.string ⟨#[]⟩] 9)).alloc (.cells #[.slice (some ⟨b, off, none⟩) 1 cap] 54)
  have bO := ((Boxed.new (w.alloc (.cells #[.int .i64 0] 136)) 4 (.bool false)).alloc (.cells #[.string ⟨#[]⟩] 9)).alloc (.cells #[.slice (some ⟨b, off, none⟩) 1 cap] 54)
  have bT := (Boxed.new ((w.alloc (.cells #[.int .i64 0] 136)).alloc (.cells #[.bool false] 4)) 9 (.string ⟨#[]⟩)).alloc (.cells #[.slice (some ⟨b, off, none⟩) 1 cap] 54)
  have bS := Boxed.new (((w.alloc (.cells #[.int .i64 0] 136)).alloc (.cells #[.bool false] 4)).alloc (.cells #[.string ⟨#[]⟩] 9)) 54 (.slice (some ⟨b, off, none⟩) 1 cap)
  simp only [World.size_alloc] at bI bO bT bS
  have hB0 : Below w.heap.size w ((((w.alloc (.cells #[.int .i64 0] 136)).alloc (.cells #[.bool false] 4)).alloc (.cells #[.string ⟨#[]⟩] 9)).alloc (.cells #[.slice (some ⟨b, off, none⟩) 1 cap] 54)) :=
    ((((Below.refl _ w).alloc (Nat.le_refl _) _).alloc (by simp) _).alloc (by simp; omega) _).alloc (by simp; omega) _
  have hsz : ((((w.alloc (.cells #[.int .i64 0] 136)).alloc (.cells #[.bool false] 4)).alloc (.cells #[.string ⟨#[]⟩] 9)).alloc (.cells #[.slice (some ⟨b, off, none⟩) 1 cap] 54)).heap.size = w.heap.size + 4 := by simp
  obtain ⟨W0, hW0⟩ : ∃ W0, (((w.alloc (.cells #[.int .i64 0] 136)).alloc (.cells #[.bool false] 4)).alloc (.cells #[.string ⟨#[]⟩] 9)).alloc (.cells #[.slice (some ⟨b, off, none⟩) 1 cap] 54) = W0 := ⟨_, rfl⟩
  rw [hW0] at bI bO bT bS hB0 hsz ⊢
  clear hW0
  have hc : ∀ {i : Nat} {v : Value}, w.cell? ⟨b, i, none⟩ = some v → W0.cell? ⟨b, i, none⟩ = some v := fun h => (hB0.cell (p := ⟨b, _, none⟩) hb).trans h
  refine wpIn_rangeFunc_ownH rfl h1 (gf := 192) (lb := #[.pointer (some ⟨w.heap.size + 1 + 1 + 1, 0, none⟩)]) rfl trivial (enters_of Tryz.func192 (by kernel_rfl) rfl)
    (backward_stops Fence.wide (n - 1) trivial rfl (by omega) (w.heap.size + 1 + 1 + 1) w.heap.size b off cap _ _ _ _ _ W0 hb (by omega) (by omega) bS.cell (hc k0) (hc k1) (hc k2) (hc k3) (hc k4)) KpB.t (KpB.b (by omega)) (Below.refl _ _) (fun _ => rfl)
    (fun pre W => ((Boxed W (w.heap.size + 1 + 1) 9 (.string (if pre.length = 0 then ⟨#[]⟩ else s)) ∧ Boxed W w.heap.size 136 (.int .i64 0)) ∧ Boxed W (w.heap.size + 1) 4 (.bool false)) ∧ Below w.heap.size w W)
    (fun _ _ _ => False)
    (OwnFrom.and (OwnFrom.and (OwnFrom.and (Own.from (boxed_own _ _ (fun pre : List Unit => .string (if pre.length = 0 then ⟨#[]⟩ else s))) _) (Own.from (boxed_own _ _ _) _)) (Own.from (boxed_own _ _ _) _)) (ownFrom_below (Nat.le_refl _) (by omega)))
    (fun _ _ _ _ _ hs _ _ => hs)
    ⟨⟨⟨bT, bI⟩, bO⟩, hB0⟩
    (fun _ a' W => ∃ Bx, w.heap.size + 2 < Bx ∧ W.heap[Bx]? = some (.cells #[.int .i64 1, .string s, .int .i64 0, .bool false, .slice pa 0 pc] 63 (0, 0)) ∧ a' = { tmps := #[.slice (some ⟨b, off, none⟩) 1 cap, .int .i64 0, .bool false, undef, .pointer (some ⟨w.heap.size, 0, none⟩), .pointer (some ⟨w.heap.size + 1, 0, none⟩), .string ⟨#[]⟩, .pointer (some ⟨w.heap.size + 1 + 1, 0, none⟩), undef, .pointer (some ⟨Bx, 0, none⟩), .slice (some ⟨b, off, none⟩) 1 cap, .func (.func 192) #[] #[.pointer (some ⟨w.heap.size + 1 + 1 + 1, 0, none⟩)], .int .i64 0, .agg #[.int .i64 1, .string s, .int .i64 0, .bool false, .slice pa 0 pc], undef, undef, undef, undef, undef, undef, undef, undef], defers := [] })
    (fun x a' _ X Y row hs hg hr => by
      obtain ⟨Bx, h1, h2, h3⟩ := hs
      refine ⟨Bx, h1, (hg.block Bx (Array.getElem?_eq_some_iff.1 h2).1 (fun e => ?_)).trans h2, h3⟩
      obtain ⟨_, o, ho, hc⟩ := hr Bx e.symm
      rw [h2] at ho
      injection ho with ho
      subst ho
      cases hc)
    ?assign ?body ?done ?stop
  case assign =>
    rintro l pre x W K ⟨⟨⟨bT1, bI1⟩, bO1⟩, hB1⟩ hK
    gi_wp2
    refine hK _ _ ((KeepsOthers.alloc _ _).from _) ⟨fun v e => ?_, (Below.refl _ W).alloc hB1.size _⟩ ⟨⟨⟨bT1.alloc _, bI1.alloc _⟩, bO1.alloc _⟩, hB1.alloc hB1.size _⟩ ⟨W.heap.size, ?_, World.alloc_heap_new W _, rfl⟩
    · exact ((Below.refl W.heap.size W).alloc (Nat.le_refl _) _).cell (p := ⟨_, 0, none⟩) (World.block_lt_of_cell? W _ e) |>.trans e
    · exact bT1.lt
  case body =>
    rintro l pre x a' W hl ⟨r, hr⟩ ⟨⟨⟨bT1, bI1⟩, bO1⟩, hB1⟩ ⟨Bx, hBx, hX, rfl⟩ hlt
    have hp0 : pre = [] := by cases pre with | nil => rfl | cons a l => simp at hlt
    subst hp0
    have cT := bT1.cell
    have cI := bI1.cell
    have cO := bO1.cell
    have x0 : W.cell? ⟨Bx, 0, none⟩ = some (.int .i64 1) := by simp [World.cell?, hX]
    have x1 : W.cell? ⟨Bx, 1, none⟩ = some (.string s) := by simp [World.cell?, hX]
    have x2 : W.cell? ⟨Bx, 2, none⟩ = some (.int .i64 0) := by simp [World.cell?, hX]
    have x3 : W.cell? ⟨Bx, 3, none⟩ = some (.bool false) := by simp [World.cell?, hX]
    have x4 : W.cell? ⟨Bx, 4, none⟩ = some (.slice pa 0 pc) := by simp [World.cell?, hX]
    have h1' : 1 ≤ n - 1 - 1 := by omega
    have mixed := mixedOrders
    have hcc : ¬ 9223372036854775807 < s.size := by omega
    have hcd : s.size ≤ 9223372036854775807 := by omega
    have hap : s ++ ⟨#[]⟩ = s := by apply ByteArray.ext; simp
    have key : ∀ (a : Act) (w' : World), Below W.drew.heap.size W.drew w' → ownPostG W0.heap.size (KpB (w.heap.size + 1 + 1 + 1) w.heap.size)
        (fun pre W => ((Boxed W (w.heap.size + 1 + 1) 9 (.string (if pre.length = 0 then ⟨#[]⟩ else s)) ∧ Boxed W w.heap.size 136 (.int .i64 0)) ∧ Boxed W (w.heap.size + 1) 4 (.bool false)) ∧ Below w.heap.size w W)
        (fun _ _ _ => False) ([] ++ [x]) W .normal a (w'.setCell ⟨w.heap.size + 1 + 1, 0, none⟩ (.string s)) := fun a w' hB => by
      have hB' : Below W.heap.size W w' := (Below.drew (Below.refl _ W)).trans hB
      have mv : ∀ {B : Nat} {t : TypeId} {v : Value}, Boxed W B t v → Boxed w' B t v := fun h => (hB'.block _ h.lt).trans h
      refine ⟨⟨by simpa using hB'.size, fun k o _ h0 ho => ?_⟩, ⟨fun v e => ?_, (hB'.mono hB1.size).setCell (p := ⟨w.heap.size + 1 + 1, 0, none⟩) (by simp; omega) _⟩, ⟨⟨(mv bT1).set _, (mv bI1).other (by omega) _⟩, (mv bO1).other (by omega) _⟩, (hB1.trans (hB'.mono hB1.size)).setCell (p := ⟨w.heap.size + 1 + 1, 0, none⟩) (by simp; omega) _⟩
      · have hk := (Array.getElem?_eq_some_iff.1 h0).1
        refine (Below.heap_setCell _ _ _ _ (fun e => ?_)).trans ((hB'.block k hk).trans h0)
        simp only at e
        subst e
        rw [show W.heap[w.heap.size + 1 + 1]? = _ from bT1] at h0
        injection h0 with h0
        subst h0
        cases ho
      · have hlt := World.block_lt_of_cell? W _ e
        refine (World.cell?_of_block ?_).trans ((hB'.cell hlt).trans e)
        exact Below.heap_setCell _ _ _ _ (by simp)
    gi_wp2
    refine wpIn_mono (Q := fun e _ W' => ∃ w', e = .normal ∧ Below W.drew.heap.size W.drew w' ∧ W' = w'.setCell ⟨w.heap.size + 1 + 1, 0, none⟩ (.string s)) ?_ (fun e a' W' ⟨w', he, hB, hW⟩ => by subst he hW; exact key a' w' hB)
    clear key hc k0 k1 k2 k3 k4 hX bI bO bT bS hB0 hsz hn h1 hb bI1 bO1 hl hr r hBx
    have hwW := hB1.size
    clear hB1
    have hT : w.heap.size + 1 + 1 < W.heap.size := bT1.lt
    have bT2 : Boxed W (w.heap.size + 1 + 1) 9 (.string ⟨#[]⟩) := bT1
    have cT2 : W.cell? ⟨w.heap.size + 1 + 1, 0, none⟩ = some (.string ⟨#[]⟩) := cT
    clear bT1 cT hlt
    generalize w.heap.size + 1 + 1 + 1 = nS at *
    generalize w.heap.size + 1 + 1 = nT at *
    generalize w.heap.size + 1 = nO at *
    generalize w.heap.size = nI at *
    gi_region_with_o (refine ⟨trivial, ?_⟩; gi_at_call 172; refine (CallsIn.inRound l (callsIn_wide.2 (hpart _ ?_))).mono ?_; (show nI ≤ W.heap.size; exact hwW); rintro e w' ⟨rfl, hB⟩; have bT' : Boxed w' nT 9 (.string ⟨#[]⟩) := (hB.block _ hT).trans bT2; have cT' := bT'.cell; have fT' := bT'.frozen)
    all_goals exact ⟨_, rfl, hB, rfl⟩
  case done =>
    rintro D zs W hD rfl ⟨⟨⟨bT1, bI1⟩, bO1⟩, hB1⟩ hK
    have cT := bT1.cell
    simp at cT
    gi_wp2
    refine ⟨by simp, .inl ⟨_, _, rfl, run_takeDeferred hK, ?_⟩⟩
    exact ⟨_, results_tmp rfl _ _ _, rfl, hB1.trans (belowK_b (w := w) (Nat.le_refl _) W D _ _ (by omega) hK rfl rfl)⟩
  case stop =>
    rintro D c pre W _ _ h _
    exact h.elim
end Go.Proofs.YtdfcjodkmjofgaaGreat
