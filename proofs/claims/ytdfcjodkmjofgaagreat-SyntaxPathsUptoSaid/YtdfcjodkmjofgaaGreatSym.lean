/-
  The calculus over numbers, truths, strings and lists that are not known: what is done with them is kept in closed words, what must hold of them is asked beside; types are read off a table. So a body can be run by evaluation.
-/
import Derived.Test.YtdfcjodkmjofgaaGreatEvalL
namespace Go.Proofs.YtdfcjodkmjofgaaGreat
open Go.RowKit

/-- What is read off a type: its size in cells and bytes, the cells of its zero value. -/
structure TI where
  size : Nat
  bytes : Nat
  zero : Option (List AV)
/-- A type's make, as far as it is asked here. -/
inductive SD where
  | bool
  | int (k : IntKind)
  | str
  | slice (e : TypeId)
  | ptr (e : TypeId)
  | struct (fs : List (TypeId × Nat))
  | arr
  | other
def sdOf : TypeDesc → SD
  | .bool => .bool
  | .int k => .int k
  | .string => .str
  | .slice e => .slice e
  | .pointer e => .ptr e
  | .struct fs => .struct (fs.toList.map fun f => (f.type, f.offset))
  | .array _ _ => .arr
  | _ => .other
def aggS : SD → Bool
  | .struct _ => true
  | .arr => true
  | _ => false
structure View where
  und : TypeId → Option SD
  inf : TypeId → Option TI
def tiOf (P : Program) (t : TypeId) : Option TI := match P.info? t with
  | some i => some ⟨i.size, i.bytes, match i.zero with
    | some z => bif z.cells.size == i.size then zcells z else none
    | none => none⟩
  | none => none
structure View.OK (V : View) (P : Program) : Prop where
  und : ∀ t d, V.und t = some d → ∃ d', P.underlying t = some d' ∧ sdOf d' = d
  inf : ∀ t i, V.inf t = some i → tiOf P t = some i
/-- A table of types. -/
def tabU (l : List (TypeId × SD × TI)) (t : TypeId) : Option SD := match l with
  | [] => none
  | (k, d, _) :: l => bif Nat.beq k t then some d else tabU l t
def tabI (l : List (TypeId × SD × TI)) (t : TypeId) : Option TI := match l with
  | [] => none
  | (k, _, i) :: l => bif Nat.beq k t then some i else tabI l t
def View.tab (l : List (TypeId × SD × TI)) : View := ⟨tabU l, tabI l⟩
/-- The table of these types. -/
def tabOf (P : Program) (ts : List TypeId) : List (Option (TypeId × SD × TI)) := ts.map fun t => match P.underlying t, tiOf P t with
  | some d, some i => some (t, sdOf d, i)
  | _, _ => none
theorem View.tab_ok {P : Program} {ts : List TypeId} {l : List (TypeId × SD × TI)} (h : tabOf P ts = l.map some) : (View.tab l).OK P := by
  have key : ∀ (ts : List TypeId) (l : List (TypeId × SD × TI)), tabOf P ts = l.map some → (∀ t d, tabU l t = some d → ∃ d', P.underlying t = some d' ∧ sdOf d' = d) ∧ ∀ t i, tabI l t = some i → tiOf P t = some i := by
    intro ts
    induction ts with
    | nil => intro l h; cases l with
      | nil => exact ⟨fun t d h => by simp [tabU] at h, fun t i h => by simp [tabI] at h⟩
      | cons x l => simp [tabOf] at h
    | cons k ts ih => intro l h; cases l with
      | nil => simp [tabOf] at h
      | cons x l =>
        obtain ⟨k', d', i'⟩ := x
        simp only [tabOf, List.map_cons, List.cons.injEq] at h
        obtain ⟨h1, h2⟩ := h
        obtain ⟨h3, h4⟩ := ih l h2
        split at h1
        · rename_i d i hd hi
          simp only [Option.some.injEq, Prod.mk.injEq] at h1
          obtain ⟨rfl, rfl, rfl⟩ := h1
          refine ⟨fun t d0 h => ?_, fun t i0 h => ?_⟩
          · simp only [tabU] at h
            cases hk : Nat.beq k t with
            | true => rw [hk, cond_true, Option.some.injEq] at h; rw [← Nat.eq_of_beq_eq_true hk]; exact ⟨d, hd, h⟩
            | false => rw [hk, cond_false] at h; exact h3 t d0 h
          · simp only [tabI] at h
            cases hk : Nat.beq k t with
            | true => rw [hk, cond_true, Option.some.injEq] at h; rw [← Nat.eq_of_beq_eq_true hk, hi, h]
            | false => rw [hk, cond_false] at h; exact h4 t i0 h
        · cases h1
  exact ⟨(key ts l h).1, (key ts l h).2⟩

/-- The words. -/
structure Wd where
  ar : BinOp → IntKind → Int → Int → Int
  cm : BinOp → Int → Int → Bool
  sc : BinOp → List UInt8 → List UInt8 → Bool
  eb : Bool → Bool → Bool
  wr : IntKind → Int → Int
  ln : List (List Dat) → Nat → Int
  sl : List UInt8 → Int
  ct : List UInt8 → List UInt8 → List UInt8
  ap : List (List Dat) → List (List Dat) → List (List Dat)
  sb : List (List Dat) → Int → Int → List (List Dat)
  ss : List UInt8 → Int → Int → List UInt8
  u8 : UInt8 → Int
  mx : Int → Int → Int
  nth : List (List Dat) → Int → List Dat → Nat → Prop
  off : List (List Dat) → Int → Nat → Prop
  sat : List UInt8 → Int → UInt8 → Prop
  sok : List (List Dat) → Int → Int → Nat → Prop
  stok : List UInt8 → Int → Int → Prop
  cat : List UInt8 → List UInt8 → Prop
  bd : List (List Dat) → List (List Dat) → Nat → Prop
  szs : List (List Dat) → Nat → Prop
  ne : List (List Dat) → Prop
  nil : List (List Dat) → Prop
  call : FuncId → List AV → (AV → Prop) → Prop
  callF : FuncId → List AV → Boxes → AV → Boxes → Prop
def arI (op : BinOp) (k : IntKind) (a b : Int) : Int := match op with
  | .add => k.wrap (a + b)
  | .sub => k.wrap (a - b)
  | _ => k.wrap (a * b)
def cmI (op : BinOp) (a b : Int) : Bool := match op with
  | .eql => a == b
  | .neq => a != b
  | .lss => decide (a < b)
  | .leq => decide (a ≤ b)
  | .gtr => decide (a > b)
  | _ => decide (a ≥ b)
def scS (op : BinOp) (a b : List UInt8) : Bool := match op with
  | .eql => a == b
  | .neq => !(a == b)
  | .lss => Op.bytesLess a b
  | .leq => Op.bytesLess a b || a == b
  | .gtr => !(Op.bytesLess a b || a == b)
  | _ => !Op.bytesLess a b
/-- The words' meaning. -/
def Wd.std (P : Program) : Wd where
  ar := arI
  cm := cmI
  sc := scS
  eb a b := a == b
  wr k n := k.wrap n
  ln xs m := ((xs.length + m : Nat) : Int)
  sl s := (s.length : Int)
  ct a b := a ++ b
  ap a b := a ++ b
  sb xs l h := (xs.drop l.toNat).take (h.toNat - l.toNat)
  ss s l h := (s.drop l.toNat).take (h.toNat - l.toNat)
  u8 b := (b.toNat : Int)
  mx a b := if a < b then b else a
  nth xs n c sz := 0 ≤ n ∧ xs[n.toNat]? = some c ∧ c.length = sz
  off xs n j := n = ((xs.length + j : Nat) : Int)
  sat s n b := 0 ≤ n ∧ s[n.toNat]? = some b
  sok xs l h sz := 0 ≤ l ∧ l ≤ h ∧ h ≤ (xs.length : Int) ∧ ∀ c, xs[l.toNat]? = some c → c.length = sz
  stok s l h := 0 ≤ l ∧ l ≤ h ∧ h ≤ (s.length : Int)
  cat a b := a.length + b.length ≤ 4611686018427387904
  bd xs ys n := (xs.length + ys.length) * n ≤ 140737488355328
  szs ys n := ∀ q ∈ ys, q.length = n
  ne xs := 0 < xs.length
  nil xs := xs = []
  call g l K := CRet P g l K
  callF g l H r H' := CR P g l H fun r' H'' => r' = r ∧ H'' = H'

def sload (V : View) (t : TypeId) (cs : List AV) : Option AV :=
  match V.und t, V.inf t with
  | some d, some i => bif aggS d then (bif Nat.ble i.size cs.length then some (.agg (cs.take i.size)) else none) else cs.head?
  | _, _ => none
def sfieldAddr (V : View) (d : SD) (x : AV) (f : Nat) : Option AV :=
  match d with
  | .struct fs => match fs[f]? with
    | some (ft, fo) => match V.inf ft with
      | some i => bif i.size == 0 then none else (match x with
        | .ptr o k => some (.ptr o (k + fo))
        | .rptr c => some (.rptr (c.drop fo))
        | _ => none)
      | none => none
    | none => none
  | _ => none
def sfield (V : View) (d : SD) (x : AV) (f : Nat) : Option AV :=
  match d, x with
  | .struct fs, .agg cs => match fs[f]? with
    | some (ft, fo) => match V.und ft, V.inf ft with
      | some d, some i => bif aggS d then some (.agg ((cs.drop fo).take i.size)) else cs[fo]?
      | _, _ => none
    | none => none
  | _, _ => none
def splaces (V : View) : List (TypeId × Nat) → Option (List (Nat × Nat))
  | [] => some []
  | (ft, fo) :: fs => match V.inf ft, splaces V fs with
    | some i, some l => some ((fo, i.size) :: l)
    | _, _ => none
def sbuild (V : View) (t : TypeId) (parts : List (Nat × AV)) : Option AV :=
  match V.inf t, V.und t with
  | some ⟨_, _, some zc⟩, some (.struct fields) => match splaces V fields with
    | some places => match afill (places[·]?) zc parts with
      | some r => some (.agg r)
      | none => none
    | none => none
  | _, _ => none
def sbuildSlice (V : View) (t : TypeId) (len : Nat) (parts : List (Nat × AV)) : Option (TypeId × List (List Dat)) :=
  match V.und t with
  | some (.slice e) => match V.inf e with
    | some ⟨size, _, some zc⟩ => bif Nat.ble (len * size) 16777216 && !(size == 0) then (match afill (fun i => some (i * size, size)) ((List.range (len * size)).map fun k => zc.getD (k % zc.length) .top) parts with
        | some r => match datL r with
          | some ds => some (e, chunks size len ds)
          | none => none
        | none => none) else none
    | _ => none
  | _ => none
section
variable {V : View} {P : Program}
theorem tiOf_info {t : TypeId} {i : TI} (h : tiOf P t = some i) : ∃ ti, P.info? t = some ti ∧ ti.size = i.size ∧ ti.bytes = i.bytes ∧ ∀ zc, i.zero = some zc → ∃ z, ti.zero = some z ∧ zcells z = some zc ∧ z.cells.size = ti.size := by
  unfold tiOf at h
  split at h
  · rename_i ti hti
    injection h with h
    subst h
    refine ⟨ti, hti, rfl, rfl, fun zc hz => ?_⟩
    simp only at hz
    split at hz
    · rename_i z hzz
      cases hs : z.cells.size == ti.size with
      | false => rw [hs] at hz; cases hz
      | true => rw [hs, cond_true] at hz; exact ⟨z, hzz, hz, by simpa using hs⟩
    · cases hz
  · cases h
theorem und_agg (hV : V.OK P) {t : TypeId} {d : SD} (h : V.und t = some d) : ∃ d', P.underlying t = some d' ∧ aggD d' = aggS d := by
  obtain ⟨d', h1, rfl⟩ := hV.und _ _ h
  exact ⟨d', h1, by cases d' <;> rfl⟩
theorem und_slice (hV : V.OK P) {t e : TypeId} (h : V.und t = some (.slice e)) : P.underlying t = some (.slice e) := by
  obtain ⟨d', h1, h2⟩ := hV.und _ _ h
  cases d' <;> simp [sdOf] at h2
  rw [h1, h2]
theorem und_ptr (hV : V.OK P) {t e : TypeId} (h : V.und t = some (.ptr e)) : P.underlying t = some (.pointer e) := by
  obtain ⟨d', h1, h2⟩ := hV.und _ _ h
  cases d' <;> simp [sdOf] at h2
  rw [h1, h2]
theorem und_int (hV : V.OK P) {t : TypeId} {k : IntKind} (h : V.und t = some (.int k)) : P.underlying t = some (.int k) := by
  obtain ⟨d', h1, h2⟩ := hV.und _ _ h
  cases d' <;> simp [sdOf] at h2
  rw [h1, h2]
theorem und_str (hV : V.OK P) {t : TypeId} (h : V.und t = some .str) : P.underlying t = some .string := by
  obtain ⟨d', h1, h2⟩ := hV.und _ _ h
  cases d' <;> simp [sdOf] at h2
  exact h1
theorem und_bool (hV : V.OK P) {t : TypeId} (h : V.und t = some .bool) : P.underlying t = some .bool := by
  obtain ⟨d', h1, h2⟩ := hV.und _ _ h
  cases d' <;> simp [sdOf] at h2
  exact h1
theorem und_struct (hV : V.OK P) {t : TypeId} {l : List (TypeId × Nat)} (h : V.und t = some (.struct l)) : ∃ fs : Array Field, P.underlying t = some (.struct fs) ∧ fs.toList.map (fun f => (f.type, f.offset)) = l := by
  obtain ⟨d', h1, h2⟩ := hV.und _ _ h
  cases d' <;> simp [sdOf] at h2
  exact ⟨_, h1, h2⟩
theorem sload_load (hV : V.OK P) {t : TypeId} {cs : List AV} {v : AV} (h : sload V t cs = some v) : loadAv P t cs = some v := by
  unfold sload at h
  split at h
  · rename_i d i hd hi
    obtain ⟨ti, h1, h2, _⟩ := tiOf_info (hV.inf _ _ hi)
    obtain ⟨d', h3, h4⟩ := und_agg hV hd
    unfold loadAv
    rw [h3, h1]
    simp only [h2, h4]
    exact h
  · cases h
theorem sfieldAddr_eq (hV : V.OK P) {t : TypeId} {d : SD} {x : AV} {f : Nat} {v : AV} (hd : V.und t = some d) (h : sfieldAddr V d x f = some v) : ∃ d', P.underlying t = some d' ∧ fieldAddrAv P d' x f = some v := by
  unfold sfieldAddr at h
  split at h
  · rename_i fs
    obtain ⟨fs', k1, rfl⟩ := und_struct hV hd
    refine ⟨_, k1, ?_⟩
    split at h
    · rename_i ft fo hfd
      rw [List.getElem?_map, Option.map_eq_some_iff] at hfd
      obtain ⟨fd, k2, k3⟩ := hfd
      simp only [Prod.mk.injEq] at k3
      obtain ⟨rfl, rfl⟩ := k3
      split at h
      · rename_i i hi
        obtain ⟨ti, h1, h2, _⟩ := tiOf_info (hV.inf _ _ hi)
        unfold fieldAddrAv
        rw [Array.getElem?_toList] at k2
        simp only [k2, h1, h2]
        exact h
      · cases h
    · cases h
  · cases h
theorem sfield_eq (hV : V.OK P) {t : TypeId} {d : SD} {x : AV} {f : Nat} {v : AV} (hd : V.und t = some d) (h : sfield V d x f = some v) : ∃ d', P.underlying t = some d' ∧ fieldAv P d' x f = some v := by
  unfold sfield at h
  split at h
  · rename_i fs cs
    obtain ⟨fs', k1, rfl⟩ := und_struct hV hd
    refine ⟨_, k1, ?_⟩
    split at h
    · rename_i ft fo hfd
      rw [List.getElem?_map, Option.map_eq_some_iff] at hfd
      obtain ⟨fd, k2, k3⟩ := hfd
      simp only [Prod.mk.injEq] at k3
      obtain ⟨rfl, rfl⟩ := k3
      split at h
      · rename_i d i hd' hi
        obtain ⟨ti, h1, h2, _⟩ := tiOf_info (hV.inf _ _ hi)
        obtain ⟨d', h3, h4⟩ := und_agg hV hd'
        unfold fieldAv
        rw [Array.getElem?_toList] at k2
        simp only [k2, h3, h1, h2, h4]
        exact h
      · cases h
    · cases h
  · cases h
theorem splaces_eq (hV : V.OK P) : ∀ {fs : List Field} {l : List (Nat × Nat)}, splaces V (fs.map fun f => (f.type, f.offset)) = some l → placesOf P fs = some l
  | [], l, h => by simp only [List.map_nil, splaces, Option.some.injEq] at h; subst h; rfl
  | f :: fs, l, h => by
    simp only [List.map_cons, splaces] at h
    split at h
    · rename_i i l' hi hl
      injection h with h
      subst h
      obtain ⟨ti, h1, h2, _⟩ := tiOf_info (hV.inf _ _ hi)
      have ih := splaces_eq hV hl
      unfold placesOf at ih ⊢
      simp only [List.mapM_cons, h1, h2, Option.map_some, ih]
      rfl
    · cases h
theorem sbuild_eq (hV : V.OK P) {t : TypeId} {parts : List (Nat × AV)} {v : AV} (h : sbuild V t parts = some v) : buildAv P t parts = some v := by
  unfold sbuild at h
  split at h
  · rename_i sz by' zc fields hi hu
    obtain ⟨ti, h1, _, _, h4⟩ := tiOf_info (hV.inf _ _ hi)
    obtain ⟨z, h5, h6, _⟩ := h4 zc rfl
    split at h
    · rename_i places hpl
      split at h
      · rename_i r hr
        obtain ⟨fs', k1, rfl⟩ := und_struct hV hu
        unfold buildAv
        rw [h1, k1]
        simp only [h5, splaces_eq hV hpl, h6, hr, Option.map_some]
        exact h
      · cases h
    · cases h
  · cases h
theorem sbuildSlice_eq (hV : V.OK P) {t : TypeId} {len : Nat} {parts : List (Nat × AV)} {v : TypeId × List (List Dat)} (h : sbuildSlice V t len parts = some v) : buildSliceAv P t len parts = some v := by
  unfold sbuildSlice at h
  split at h
  · rename_i e hu
    split at h
    · rename_i size by' zc hi
      obtain ⟨ti, h1, h2, _, h4⟩ := tiOf_info (hV.inf _ _ hi)
      obtain ⟨z, h5, h6, h7⟩ := h4 zc rfl
      simp only at h2
      have hzl : z.cells.size = zc.length := (zcells_rel (P := P) (w := default) (X := Cx.fresh 0 fun _ => False) h6).1
      unfold buildSliceAv
      rw [und_slice hV hu]
      simp only [h1, h5, h6, h2, hzl]
      cases hc : (Nat.ble (len * size) 16777216 && !(size == 0)) with
      | false => rw [hc] at h; cases h
      | true =>
        rw [hc, cond_true] at h
        rw [cond_true]
        split at h
        · rename_i r hr
          simp only [hr, Option.bind_some]
          exact h
        · cases h
    · cases h
  · cases h
end
end Go.Proofs.YtdfcjodkmjofgaaGreat
