/-
  An argument that is read: the node that it holds.
-/
import Derived.Test.YtdfcjodkmjofgaaGreatM1
import Derived.Test.YtdfcjodkmjofgaaGreatRows
import Derived.ChangeArms
import Derived.Deep.Slices
namespace Go.Proofs.YtdfcjodkmjofgaaGreat
open Go.RowKit

def Has (w : World) (a : Addr) : Prop := ∃ u, w.cell? a = some u
def CRl (w : World) (ds : List Dat) (cs : List Value) : Prop := ds.length = cs.length ∧ ∀ (i : Nat) (d : Dat) (v : Value), ds[i]? = some d → cs[i]? = some v → DRel w (Has w) d v
theorem CRl.nil (w : World) : CRl w [] [] := ⟨rfl, fun i d v h => by simp at h⟩
theorem CRl.cons {w : World} {d : Dat} {v : Value} {ds : List Dat} {cs : List Value} (h : DRel w (Has w) d v) (hs : CRl w ds cs) : CRl w (d :: ds) (v :: cs) :=
  ⟨by simp [hs.1], fun i d' v' hi hv => by
    cases i with
    | zero => simp at hi hv; subst hi hv; exact h
    | succ i => exact hs.2 i d' v' (by simpa using hi) (by simpa using hv)⟩
theorem CRl.one {w : World} {d : Dat} {v : Value} (h : CRl w [d] [v]) : DRel w (Has w) d v := h.2 0 d v rfl rfl
theorem CRl.two {w : World} {d e : Dat} {v u : Value} (h : CRl w [d, e] [v, u]) : DRel w (Has w) d v ∧ DRel w (Has w) e u := ⟨h.2 0 d v rfl rfl, h.2 1 e u rfl rfl⟩
theorem bulk_map {H T : Type} {sz : T → Nat} {f : Nat → T} {D : Nat → DataW H} : ∀ (l : List Nat), (∀ i ∈ l, sz (f i) ≤ Rows.uptoBulk (D i)) → szBy sz (l.map f) ≤ Rows.uptoBulkAll (l.map D)
  | [], _ => by simp [szBy, Rows.uptoBulkAll]
  | x :: l, h => by
    have h1 := h x (by simp)
    have h2 := bulk_map l fun i hi => h i (by simp [hi])
    simp only [List.map_cons, szBy, Rows.uptoBulkAll]
    omega
theorem mapM_get {α β : Type} {f : α → Option β} : ∀ {l : List α} {r : List β}, l.mapM f = some r → r.length = l.length ∧ ∀ (i : Nat) (x : α), l[i]? = some x → f x = r[i]? ∧ i < r.length
  | [], r, h => by simp at h; subst h; simp
  | x :: l, r, h => by
    rw [List.mapM_cons] at h
    cases hx : f x with
    | none => simp [hx] at h
    | some y =>
      cases hl : l.mapM f with
      | none => simp [hx, hl] at h
      | some r' =>
        simp [hx, hl] at h
        subst h
        obtain ⟨h1, h2⟩ := mapM_get hl
        refine ⟨by simp [h1], fun i z hz => ?_⟩
        cases i with
        | zero => simp at hz; subst hz; simp [hx]
        | succ i => have := h2 i z (by simpa using hz); simpa using this
section
variable {H : Type} {enc : TypeId × Value → H} {w : World} {spare : Nat → Bool} {held : Bool}
/-- A slice is read whose elements are. -/
theorem open_list {T : Type} [Inhabited T] {cl : T → List Dat} {sz : T → Nat} {t e : TypeId} {ti : TI} (ht : VT.und t = some (.slice e)) (hte : VT.inf e = some ti) {fuel : Nat}
    (hO : ∀ n, fuel = n + 1 → ∀ cs x, DataW.trod enc Tryz.prog w 0 spare held n e cs = some x → ∃ y : T, CRl w (cl y) cs ∧ sz y ≤ Rows.uptoBulk x.1)
    {cs : List Value} {x : DataW H × List MemPlace} (h : DataW.trod enc Tryz.prog w 0 spare held fuel t cs = some x) : ∃ ys : List T, CRl w [.list (ys.map cl)] cs ∧ szBy sz ys + 1 ≤ Rows.uptoBulk x.1 := by
  obtain ⟨tj, h1, h2, _⟩ := tiOf_info (VT_ok.inf _ _ hte)
  have hce : Tryz.prog.cellsOf e = ti.size := by simp [Program.cellsOf, h1, h2]
  rcases DataW.trod_slice (und_slice VT_ok ht) h with ⟨rfl, rfl⟩ | ⟨a, len, cap, elems, rest, n, hf, rfl, rfl, hb, hl, hm, hlen, hel, _⟩
  · exact ⟨[], .cons (.list [] none 0 0 (fun _ _ => undef) (Nat.le_refl _) ⟨Nat.zero_le _, fun _ => rfl⟩ (fun j x h => by simp at h) (fun j x i d h => by simp at h) (fun h => by simp at h)) (.nil w), by simp [szBy, Rows.uptoBulk]⟩
  · rw [hce] at hel
    have key : ∀ i, i < len → ∃ y : T, ∃ cs' x', w.cells? 0 (a.add (i * ti.size)) ti.size = some cs' ∧ elems[i]? = some x' ∧ CRl w (cl y) cs' ∧ sz y ≤ Rows.uptoBulk x'.1 := fun i hi => by
      have h3 := hel i hi
      rw [List.getElem?_eq_getElem (by omega)] at h3
      obtain ⟨cs', h4, h5⟩ := Option.bind_eq_some_iff.1 h3
      obtain ⟨y, h6, h7⟩ := hO n hf cs' _ h5
      exact ⟨y, cs', _, h4, List.getElem?_eq_getElem (by omega), h6, h7⟩
    obtain ⟨f, hf'⟩ := Deep.choose_lt key
    have cells : ∀ i, i < len → ∃ cs', w.cells? 0 (a.add (i * ti.size)) ti.size = some cs' ∧ CRl w (cl (f i)) cs' ∧ cs'.length = ti.size ∧ ∀ k, k < ti.size → w.cell? (a.add (i * ti.size + k)) = cs'[k]? ∧ k < cs'.length := fun i hi => by
      obtain ⟨cs', x', h4, _, h6, _⟩ := hf' i hi
      refine ⟨cs', h4, h6, ?_⟩
      unfold World.cells? at h4
      rw [if_pos (Nat.zero_le _)] at h4
      obtain ⟨hlen', hget⟩ := mapM_get h4
      rw [List.length_range] at hlen'
      refine ⟨hlen', fun k hk => ?_⟩
      have := hget k k (List.getElem?_range hk)
      rw [add_add'] at this
      exact this
    refine ⟨(List.range len).map f, .cons ?_ (.nil w), ?_⟩
    · have hll : (((List.range len).map f).map cl).length = len := by simp
      have := DRel.list (w := w) (Pm := Has w) (((List.range len).map f).map cl) (some a) cap ti.size (fun j i => (w.cell? (a.add (j * ti.size + i))).getD undef) (by simpa using hl) ⟨hm, fun h => by cases h⟩ (fun j x hj => ?_) (fun j x i d hj hi => ?_) (fun _ => ⟨a, rfl, fun j i hj hi => ?_⟩)
      · rw [hll] at this
        exact this
      · simp only [List.getElem?_map, Option.map_eq_some_iff] at hj
        obtain ⟨_, ⟨j', hj', rfl⟩, rfl⟩ := hj
        have hjl := (List.getElem?_eq_some_iff.1 hj').1
        have hjv := (List.getElem?_eq_some_iff.1 hj').2
        simp at hjl hjv
        subst hjv
        obtain ⟨cs', _, h6, h7, _⟩ := cells j hjl
        exact h6.1.trans h7
      · simp only [List.getElem?_map, Option.map_eq_some_iff] at hj
        obtain ⟨_, ⟨j', hj', rfl⟩, rfl⟩ := hj
        have hjl := (List.getElem?_eq_some_iff.1 hj').1
        have hjv := (List.getElem?_eq_some_iff.1 hj').2
        simp at hjl hjv
        subst hjv
        obtain ⟨cs', _, h6, h7, h8⟩ := cells j hjl
        have hil : i < ti.size := by rw [← h7, ← h6.1]; exact (List.getElem?_eq_some_iff.1 hi).1
        obtain ⟨h9, h10⟩ := h8 i hil
        rw [h9, List.getElem?_eq_getElem h10]
        exact h6.2 i d _ hi (List.getElem?_eq_getElem h10)
      · have hjl : j < len := by simpa using hj
        obtain ⟨cs', _, h6, h7, h8⟩ := cells j hjl
        obtain ⟨h9, h10⟩ := h8 i hi
        rw [List.getElem?_eq_getElem h10] at h9
        exact ⟨⟨_, h9⟩, by rw [h9]; rfl⟩
    · have h8 := bulk_map (sz := sz) (f := f) (D := fun i => ((elems[i]?).map (·.1)).getD .nil) (List.range len) (fun i hi => by
        obtain ⟨_, x', _, h5, _, h7⟩ := hf' i (by simpa using hi)
        simp only [h5, Option.map_some, Option.getD_some]
        exact h7)
      have h9 : (List.range len).map (fun i => ((elems[i]?).map (·.1)).getD (DataW.nil : DataW H)) = elems.map (·.1) := by
        apply List.ext_getElem
        · simp [hlen]
        · intro i h1 h2
          simp at h1 h2
          simp [h2]
      rw [h9] at h8
      simp only [Rows.uptoBulk]
      omega
/-- A struct is read, field by field. -/
theorem open_fields {t : TypeId} {l : List (TypeId × Nat)} {ti : TI} (ht : VT.und t = some (.struct l)) (hti : VT.inf t = some ti) {fuel : Nat} {cs : List Value} {x : DataW H × List MemPlace} (h : DataW.trod enc Tryz.prog w 0 spare held fuel t cs = some x) :
    ∃ (xs : List (DataW H × List MemPlace)) (n : Nat), fuel = n + 1 ∧ Rows.uptoBulk x.1 = Rows.uptoBulkAll (xs.map (·.1)) + 1 ∧ cs.length = ti.size ∧ xs.length = l.length ∧
      ∀ (i : Nat) (ft : TypeId) (fo : Nat) (tf : TI), l[i]? = some (ft, fo) → VT.inf ft = some tf → DataW.trod enc Tryz.prog w 0 spare held n ft ((cs.drop fo).take tf.size) = xs[i]? := by
  obtain ⟨fs, h1, h2⟩ := und_struct VT_ok ht
  obtain ⟨tj, k1, k2, _⟩ := tiOf_info (VT_ok.inf _ _ hti)
  obtain ⟨xs, n, hf, rfl, hl, hx, hall⟩ := DataW.trod_struct h1 h
  refine ⟨xs, n, hf, by simp [Rows.uptoBulk], by rw [hl]; simp [Program.cellsOf, k1, k2], by rw [hx, ← h2]; simp, fun i ft fo tf hi htf => ?_⟩
  rw [← h2, List.getElem?_map, Option.map_eq_some_iff] at hi
  obtain ⟨f, hf', he⟩ := hi
  simp only [Prod.mk.injEq] at he
  obtain ⟨rfl, rfl⟩ := he
  rw [Array.getElem?_toList] at hf'
  have := hall i f hf'
  obtain ⟨tg, k3, k4, _⟩ := tiOf_info (VT_ok.inf _ _ htf)
  rw [show Tryz.prog.cellsOf f.type = tf.size by simp [Program.cellsOf, k3, k4]] at this
  exact this
instance : Inhabited PartD := ⟨.mk 0 [] 0 false []⟩
instance : Inhabited WordD := ⟨⟨0, []⟩⟩
instance : Inhabited AssignD := ⟨⟨0, [], 0, []⟩⟩
instance : Inhabited RedirD := ⟨⟨0, 0, 0, 0, []⟩⟩
instance : Inhabited NodeD := ⟨.mk 0 0 [] false [] [] [] [] []⟩
instance : Inhabited ItemD := ⟨.mk [] []⟩
theorem rd_int {n : Nat} {c : Value} {y : DataW H × List MemPlace} (h : DataW.trod enc Tryz.prog w 0 spare held n 3 [c] = some y) : ∃ k, c = .int .i64 k ∧ 1 ≤ Rows.uptoBulk y.1 := by
  obtain ⟨k, h1, rfl, _⟩ := DataW.trod_int (und_int VT_ok (by rfl : VT.und 3 = some (.int .i64))) h
  injection h1 with h1
  exact ⟨k, h1, by simp [Rows.uptoBulk]⟩
theorem rd_bool {n : Nat} {c : Value} {y : DataW H × List MemPlace} (h : DataW.trod enc Tryz.prog w 0 spare held n 4 [c] = some y) : ∃ b, c = .bool b := by
  obtain ⟨k, h1, rfl⟩ := DataW.trod_bool (und_bool VT_ok (by rfl : VT.und 4 = some .bool)) h
  injection h1 with h1
  exact ⟨k, h1⟩
theorem rd_str {n : Nat} {c : Value} {y : DataW H × List MemPlace} (h : DataW.trod enc Tryz.prog w 0 spare held n 9 [c] = some y) : ∃ s : List UInt8, c = .string ⟨s.toArray⟩ ∧ Rows.uptoBulk y.1 = s.length + 1 := by
  obtain ⟨k, h1, rfl, _⟩ := DataW.trod_string (und_str VT_ok (by rfl : VT.und 9 = some .str)) h
  injection h1 with h1
  refine ⟨k.data.toList, by rw [h1], by simp [Rows.uptoBulk]⟩
theorem list1 {α : Type} {l : List α} (h : l.length = 1) : ∃ a, l = [a] := List.length_eq_one_iff.1 h
theorem list2 {α : Type} : ∀ {l : List α}, l.length = 2 → ∃ a b, l = [a, b]
  | [a, b], _ => ⟨a, b, rfl⟩
theorem list3 {α : Type} : ∀ {l : List α}, l.length = 3 → ∃ a b c, l = [a, b, c]
  | [a, b, c], _ => ⟨a, b, c, rfl⟩
theorem list4 {α : Type} : ∀ {l : List α}, l.length = 4 → ∃ a b c d, l = [a, b, c, d]
  | [a, b, c, d], _ => ⟨a, b, c, d, rfl⟩
theorem list5 {α : Type} : ∀ {l : List α}, l.length = 5 → ∃ a b c d e, l = [a, b, c, d, e]
  | [a, b, c, d, e], _ => ⟨a, b, c, d, e, rfl⟩
theorem list9 {α : Type} : ∀ {l : List α}, l.length = 9 → ∃ a b c d e f g h i, l = [a, b, c, d, e, f, g, h, i]
  | [a, b, c, d, e, f, g, h, i], _ => ⟨a, b, c, d, e, f, g, h, i, rfl⟩
end
end Go.Proofs.YtdfcjodkmjofgaaGreat
