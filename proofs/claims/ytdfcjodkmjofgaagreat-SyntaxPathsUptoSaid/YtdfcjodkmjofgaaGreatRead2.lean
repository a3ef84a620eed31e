/-
  An argument that is read: parts, words, assignments, redirections, branches, nodes.
-/
import Derived.Test.YtdfcjodkmjofgaaGreatRead
namespace Go.Proofs.YtdfcjodkmjofgaaGreat
open Go.RowKit

section
variable {H : Type} {enc : TypeId × Value → H} {w : World} {spare : Nat → Bool} {held : Bool}
theorem rd_part_step (fuel : Nat) (ih : ∀ m, m < fuel → ∀ (cs : List Value) (x : DataW H × List MemPlace), DataW.trod enc Tryz.prog w 0 spare held m 63 cs = some x → ∃ y : PartD, CRl w y.cells cs ∧ y.sz ≤ Rows.uptoBulk x.1)
    (cs : List Value) (x : DataW H × List MemPlace) (h : DataW.trod enc Tryz.prog w 0 spare held fuel 63 cs = some x) : ∃ y : PartD, CRl w y.cells cs ∧ y.sz ≤ Rows.uptoBulk x.1 := by
    obtain ⟨xs, n, hf, hb, hl, hx, hall⟩ := open_fields (l := [(3, 0), (9, 1), (3, 2), (4, 3), (54, 4)]) (ti := ⟨5, 64, _⟩) rfl rfl h
    obtain ⟨c0, c1, c2, c3, c4, rfl⟩ := list5 hl
    obtain ⟨y0, y1, y2, y3, y4, rfl⟩ := list5 hx
    obtain ⟨k, rfl, _⟩ := rd_int (hall 0 3 0 ⟨1, 8, _⟩ rfl rfl)
    obtain ⟨t, rfl, hs⟩ := rd_str (hall 1 9 1 ⟨1, 16, _⟩ rfl rfl)
    obtain ⟨o, rfl, _⟩ := rd_int (hall 2 3 2 ⟨1, 8, _⟩ rfl rfl)
    obtain ⟨b, rfl⟩ := rd_bool (hall 3 4 3 ⟨1, 1, _⟩ rfl rfl)
    obtain ⟨ys, h4, h5⟩ := open_list (cl := PartD.cells) (sz := PartD.sz) (e := 63) (ti := ⟨5, 64, _⟩) rfl rfl (fun m hm cs x hx => ih m (by omega) cs x hx) (hall 4 54 4 ⟨1, 24, _⟩ rfl rfl)
    refine ⟨.mk k t o b ys, .cons (.int _ _) (.cons (.str _) (.cons (.int _ _) (.cons (.bool _) (.cons ?_ (.nil w))))), ?_⟩
    · rw [PartD.cellsL_map]
      exact h4.one
    · have h6 : PartD.szL ys = szBy PartD.sz ys := by
        clear h4 h5
        induction ys with
        | nil => rfl
        | cons x l ih => simp [PartD.szL, szBy, ih]
      rw [hb]
      simp only [List.map_cons, List.map_nil, Rows.uptoBulkAll, PartD.sz]
      omega
theorem rd_part (n : Nat) (cs : List Value) (x : DataW H × List MemPlace) (h : DataW.trod enc Tryz.prog w 0 spare held n 63 cs = some x) : ∃ y : PartD, CRl w y.cells cs ∧ y.sz ≤ Rows.uptoBulk x.1 := by
  have key : ∀ n (cs : List Value) (x : DataW H × List MemPlace), DataW.trod enc Tryz.prog w 0 spare held n 63 cs = some x → ∃ y : PartD, CRl w y.cells cs ∧ y.sz ≤ Rows.uptoBulk x.1 := fun n => by
    induction n using Nat.strongRecOn with
    | _ n ih => exact rd_part_step n ih
  exact key n cs x h
theorem szL_by' (l : List PartD) : PartD.szL l = szBy PartD.sz l := by
  induction l with
  | nil => rfl
  | cons x l ih => simp [PartD.szL, szBy, ih]
theorem rd_parts {n : Nat} {cs : List Value} {x : DataW H × List MemPlace} (h : DataW.trod enc Tryz.prog w 0 spare held n 54 cs = some x) : ∃ ys : List PartD, CRl w [.list (PartD.cellsL ys)] cs ∧ PartD.szL ys + 1 ≤ Rows.uptoBulk x.1 := by
  obtain ⟨ys, h1, h2⟩ := open_list (cl := PartD.cells) (sz := PartD.sz) (e := 63) (ti := ⟨5, 64, _⟩) rfl rfl (fun m _ cs x hx => rd_part m cs x hx) h
  exact ⟨ys, by rw [PartD.cellsL_map]; exact h1, by rw [szL_by']; exact h2⟩
theorem rd_word (n : Nat) (cs : List Value) (x : DataW H × List MemPlace) (h : DataW.trod enc Tryz.prog w 0 spare held n 56 cs = some x) : ∃ y : WordD, CRl w y.cells cs ∧ y.sz ≤ Rows.uptoBulk x.1 := by
  obtain ⟨xs, n, hf, hb, hl, hx, hall⟩ := open_fields (l := [(3, 0), (54, 1)]) (ti := ⟨2, 32, _⟩) rfl rfl h
  obtain ⟨c0, c1, rfl⟩ := list2 hl
  obtain ⟨y0, y1, rfl⟩ := list2 hx
  obtain ⟨k, rfl, _⟩ := rd_int (hall 0 3 0 ⟨1, 8, _⟩ rfl rfl)
  obtain ⟨ys, h4, h5⟩ := rd_parts (hall 1 54 1 ⟨1, 24, _⟩ rfl rfl)
  refine ⟨⟨k, ys⟩, .cons (.int _ _) (.cons h4.one (.nil w)), ?_⟩
  rw [hb]
  simp only [List.map_cons, List.map_nil, Rows.uptoBulkAll, WordD.sz]
  omega
theorem rd_assign (n : Nat) (cs : List Value) (x : DataW H × List MemPlace) (h : DataW.trod enc Tryz.prog w 0 spare held n 58 cs = some x) : ∃ y : AssignD, CRl w y.cells cs ∧ y.sz ≤ Rows.uptoBulk x.1 := by
  obtain ⟨xs, n, hf, hb, hl, hx, hall⟩ := open_fields (l := [(3, 0), (9, 1), (56, 2)]) (ti := ⟨4, 56, _⟩) rfl rfl h
  obtain ⟨c0, c1, c2, c3, rfl⟩ := list4 hl
  obtain ⟨y0, y1, y2, rfl⟩ := list3 hx
  obtain ⟨k, rfl, _⟩ := rd_int (hall 0 3 0 ⟨1, 8, _⟩ rfl rfl)
  obtain ⟨t, rfl, hs⟩ := rd_str (hall 1 9 1 ⟨1, 16, _⟩ rfl rfl)
  obtain ⟨⟨v, ps⟩, h4, h5⟩ := rd_word _ _ _ (hall 2 56 2 ⟨2, 32, _⟩ rfl rfl)
  have h6 := CRl.two (d := .int .i64 v) (e := .list (PartD.cellsL ps)) h4
  refine ⟨⟨k, t, v, ps⟩, .cons (.int _ _) (.cons (.str _) (.cons h6.1 (.cons h6.2 (.nil w)))), ?_⟩
  rw [hb]
  simp only [List.map_cons, List.map_nil, Rows.uptoBulkAll, AssignD.sz, WordD.sz] at h5 ⊢
  omega
theorem rd_redir (n : Nat) (cs : List Value) (x : DataW H × List MemPlace) (h : DataW.trod enc Tryz.prog w 0 spare held n 67 cs = some x) : ∃ y : RedirD, CRl w y.cells cs ∧ y.sz ≤ Rows.uptoBulk x.1 := by
  obtain ⟨xs, n, hf, hb, hl, hx, hall⟩ := open_fields (l := [(3, 0), (3, 1), (3, 2), (56, 3)]) (ti := ⟨5, 56, _⟩) rfl rfl h
  obtain ⟨c0, c1, c2, c3, c4, rfl⟩ := list5 hl
  obtain ⟨y0, y1, y2, y3, rfl⟩ := list4 hx
  obtain ⟨k, rfl, _⟩ := rd_int (hall 0 3 0 ⟨1, 8, _⟩ rfl rfl)
  obtain ⟨f, rfl, _⟩ := rd_int (hall 1 3 1 ⟨1, 8, _⟩ rfl rfl)
  obtain ⟨o, rfl, _⟩ := rd_int (hall 2 3 2 ⟨1, 8, _⟩ rfl rfl)
  obtain ⟨⟨v, ps⟩, h4, h5⟩ := rd_word _ _ _ (hall 3 56 3 ⟨2, 32, _⟩ rfl rfl)
  have h6 := CRl.two (d := .int .i64 v) (e := .list (PartD.cellsL ps)) h4
  refine ⟨⟨k, f, o, v, ps⟩, .cons (.int _ _) (.cons (.int _ _) (.cons (.int _ _) (.cons h6.1 (.cons h6.2 (.nil w))))), ?_⟩
  rw [hb]
  simp only [List.map_cons, List.map_nil, Rows.uptoBulkAll, RedirD.sz, WordD.sz] at h5 ⊢
  omega
def ONode (enc : TypeId × Value → H) (w : World) (spare : Nat → Bool) (held : Bool) (n : Nat) : Prop := ∀ (cs : List Value) (x : DataW H × List MemPlace), DataW.trod enc Tryz.prog w 0 spare held n 28 cs = some x → ∃ y : NodeD, CRl w y.cells cs ∧ y.sz ≤ Rows.uptoBulk x.1
def OItem (enc : TypeId × Value → H) (w : World) (spare : Nat → Bool) (held : Bool) (n : Nat) : Prop := ∀ (cs : List Value) (x : DataW H × List MemPlace), DataW.trod enc Tryz.prog w 0 spare held n 70 cs = some x → ∃ y : ItemD, CRl w y.cells cs ∧ y.sz ≤ Rows.uptoBulk x.1
theorem rd_node_step (fuel : Nat) (ih : ∀ m, m < fuel → ONode enc w spare held m ∧ OItem enc w spare held m) : ONode enc w spare held fuel := by
    intro cs x h
    obtain ⟨xs, n, hf, hb, hl, hx, hall⟩ := open_fields (l := [(3, 0), (3, 1), (9, 2), (4, 3), (22, 4), (23, 5), (24, 6), (25, 7), (26, 8)]) (ti := ⟨9, 160, _⟩) rfl rfl h
    obtain ⟨c0, c1, c2, c3, c4, c5, c6, c7, c8, rfl⟩ := list9 hl
    obtain ⟨y0, y1, y2, y3, y4, y5, y6, y7, y8, rfl⟩ := list9 hx
    obtain ⟨k, rfl, _⟩ := rd_int (hall 0 3 0 ⟨1, 8, _⟩ rfl rfl)
    obtain ⟨p, rfl, _⟩ := rd_int (hall 1 3 1 ⟨1, 8, _⟩ rfl rfl)
    obtain ⟨t, rfl, hs⟩ := rd_str (hall 2 9 2 ⟨1, 16, _⟩ rfl rfl)
    obtain ⟨b, rfl⟩ := rd_bool (hall 3 4 3 ⟨1, 1, _⟩ rfl rfl)
    obtain ⟨gs, g1, g2⟩ := open_list (cl := AssignD.cells) (sz := AssignD.sz) (e := 58) (ti := ⟨4, 56, _⟩) rfl rfl (fun m _ cs x hx => rd_assign m cs x hx) (hall 4 22 4 ⟨1, 24, _⟩ rfl rfl)
    obtain ⟨ws, w1, w2⟩ := open_list (cl := WordD.cells) (sz := WordD.sz) (e := 56) (ti := ⟨2, 32, _⟩) rfl rfl (fun m _ cs x hx => rd_word m cs x hx) (hall 5 23 5 ⟨1, 24, _⟩ rfl rfl)
    obtain ⟨rs, r1, r2⟩ := open_list (cl := RedirD.cells) (sz := RedirD.sz) (e := 67) (ti := ⟨5, 56, _⟩) rfl rfl (fun m _ cs x hx => rd_redir m cs x hx) (hall 6 24 6 ⟨1, 24, _⟩ rfl rfl)
    obtain ⟨ds, d1, d2⟩ := open_list (cl := NodeD.cells) (sz := NodeD.sz) (e := 28) (ti := ⟨9, 160, _⟩) rfl rfl (fun m hm cs x hx => (ih m (by omega)).1 cs x hx) (hall 7 25 7 ⟨1, 24, _⟩ rfl rfl)
    obtain ⟨is, i1, i2⟩ := open_list (cl := ItemD.cells) (sz := ItemD.sz) (e := 70) (ti := ⟨2, 48, _⟩) rfl rfl (fun m hm cs x hx => (ih m (by omega)).2 cs x hx) (hall 8 26 8 ⟨1, 24, _⟩ rfl rfl)
    refine ⟨.mk k p t b gs ws rs ds is, .cons (.int _ _) (.cons (.int _ _) (.cons (.str _) (.cons (.bool _) (.cons g1.one (.cons w1.one (.cons r1.one (.cons ?_ (.cons ?_ (.nil w))))))))), ?_⟩
    · rw [NodeD.cellsL_map]; exact d1.one
    · rw [ItemD.cellsL_map]; exact i1.one
    · rw [hb]
      simp only [List.map_cons, List.map_nil, Rows.uptoBulkAll, NodeD.sz, NodeD.szL_by, ItemD.szL_by]
      omega
theorem rd_item_step (fuel : Nat) (ih : ∀ m, m < fuel → ONode enc w spare held m ∧ OItem enc w spare held m) : OItem enc w spare held fuel := by
    intro cs x h
    obtain ⟨xs, n, hf, hb, hl, hx, hall⟩ := open_fields (l := [(23, 0), (25, 1)]) (ti := ⟨2, 48, _⟩) rfl rfl h
    obtain ⟨c0, c1, rfl⟩ := list2 hl
    obtain ⟨y0, y1, rfl⟩ := list2 hx
    obtain ⟨ws, w1, w2⟩ := open_list (cl := WordD.cells) (sz := WordD.sz) (e := 56) (ti := ⟨2, 32, _⟩) rfl rfl (fun m _ cs x hx => rd_word m cs x hx) (hall 0 23 0 ⟨1, 24, _⟩ rfl rfl)
    obtain ⟨ds, d1, d2⟩ := open_list (cl := NodeD.cells) (sz := NodeD.sz) (e := 28) (ti := ⟨9, 160, _⟩) rfl rfl (fun m hm cs x hx => (ih m (by omega)).1 cs x hx) (hall 1 25 1 ⟨1, 24, _⟩ rfl rfl)
    refine ⟨.mk ws ds, .cons w1.one (.cons ?_ (.nil w)), ?_⟩
    · rw [NodeD.cellsL_map]; exact d1.one
    · rw [hb]
      simp only [List.map_cons, List.map_nil, Rows.uptoBulkAll, ItemD.sz, NodeD.szL_by]
      omega
theorem rd_both (n : Nat) : ONode enc w spare held n ∧ OItem enc w spare held n := by
  induction n using Nat.strongRecOn with
  | _ n ih => exact ⟨rd_node_step n ih, rd_item_step n ih⟩
/-- A node among the arguments. -/
theorem rd_arg {v : Value} {d : DataW H} {ps : List MemPlace} (h : DataW.Trod enc Tryz.prog w 0 spare held 28 v d ps) (hv : ∃ cs, v = .agg cs) : ∃ y : NodeD, VRel Tryz.prog w (Cx.fresh w.heap.size (Has w)) y.av v ∧ y.sz ≤ Rows.uptoBulk d := by
  obtain ⟨fuel, h⟩ := h
  obtain ⟨cs, rfl⟩ := hv
  obtain ⟨y, h1, h2⟩ := (rd_both (enc := enc) (w := w) (spare := spare) (held := held) fuel).1 _ _ h
  refine ⟨y, .agg _ _ ?_ fun i c v hi hv => ?_, h2⟩
  · have := h1.1
    simp [Value.cells] at this
    simp [this]
  · rw [List.getElem?_map, Option.map_eq_some_iff] at hi
    obtain ⟨d', hd, rfl⟩ := hi
    exact .dat _ _ (h1.2 i d' v hd (by simpa [Value.cells] using hv))
end
end Go.Proofs.YtdfcjodkmjofgaaGreat
