/-
  Abstract states; what one operation that only reads yields; that memory's own run of it yields a value that reads so.
-/
import Derived.Test.YtdfcjodkmjofgaaGreatAbs
import Derived.Lib.Strings
import Derived.Lib.SliceRun
import Derived.LaidEqlPtr
namespace Go.Proofs.YtdfcjodkmjofgaaGreat
open Go.RowKit

structure St where
  slots : List AV
  heap : List (TypeId × List AV)

def AV.ofCell : Value → AV
  | .int k n => .dat (.int k n)
  | .bool b => .dat (.bool b)
  | .string s => .dat (.str s.data.toList)
  | .slice none 0 0 => .nils
  | .pointer none => .nilp
  | _ => .top
def AV.ofVal : Value → AV
  | .agg cs => .agg (cs.toList.map AV.ofCell)
  | v => AV.ofCell v
def St.ev (s : St) : Operand → AV
  | .tmp t => s.slots.getD t .top
  | .const v => AV.ofVal v
  | .global _ => .top
  | .func f => .fn f []
def St.put (s : St) : Option Tmp → AV → St
  | some d, v => { s with slots := s.slots.set d v }
  | none, _ => s
def AV.elems : AV → Option (List (List Dat))
  | .dat (.list xs) => some xs
  | .own _ _ xs => some xs
  | .nils => some []
  | .emp => some []
  | _ => none
def aggD : TypeDesc → Bool
  | .struct _ => true
  | .array _ _ => true
  | _ => false
/-- A variable of type t that begins with these cells. -/
def loadAv (P : Program) (t : TypeId) (cs : List AV) : Option AV :=
  match P.underlying t, P.info? t with
  | some d, some i => bif aggD d then (bif Nat.ble i.size cs.length then some (.agg (cs.take i.size)) else none) else cs.head?
  | _, _ => none
def pickAv (t : Bool) : AV → AV → AV
  | .dat (.bool x), .dat (.bool y) => .dat (.bool (bif t then x else y))
  | a, b => bif t then a else b
def boolAv (b : Bool) : AV := .dat (.bool b)
def binInt (op : BinOp) (k : IntKind) (a b : Int) : Option AV :=
  match op with
  | .add => some (.dat (.int k (k.wrap (a + b))))
  | .sub => some (.dat (.int k (k.wrap (a - b))))
  | .mul => some (.dat (.int k (k.wrap (a * b))))
  | .eql => some (boolAv (a == b))
  | .neq => some (boolAv (a != b))
  | .lss => some (boolAv (decide (a < b)))
  | .leq => some (boolAv (decide (a ≤ b)))
  | .gtr => some (boolAv (decide (a > b)))
  | .geq => some (boolAv (decide (a ≥ b)))
  | _ => none
def binStr (op : BinOp) (a b : List UInt8) : Option AV :=
  match op with
  | .eql => some (boolAv (a == b))
  | .neq => some (boolAv (!(a == b)))
  | .lss => some (boolAv (Op.bytesLess a b))
  | .leq => some (boolAv (Op.bytesLess a b || a == b))
  | .gtr => some (boolAv (!(Op.bytesLess a b || a == b)))
  | .geq => some (boolAv (!Op.bytesLess a b))
  | _ => none
def binAv (op : BinOp) : AV → AV → Option AV
  | .dat (.int k a), .dat (.int k' b) => if k = k' then binInt op k a b else none
  | .dat (.str a), .dat (.str b) => binStr op a b
  | _, _ => none
/-- A bound of a slice expression. -/
def bndAv (d : Nat) : Option AV → Option Nat
  | none => some d
  | some (.dat (.int _ n)) => if 0 ≤ n then some n.toNat else none
  | _ => none
def sliceAv (P : Program) (d : TypeDesc) (x : AV) (lo hi : Option AV) : Option AV :=
  match d, x with
  | .slice e, x => match x.elems, P.info? e with
    | some xs, some ti => match bndAv 0 lo, bndAv xs.length hi with
      | some l, some h => if l ≤ h ∧ h ≤ xs.length then (match xs[l]? with
        | some c => if c.length = ti.size then some (.dat (.list ((xs.drop l).take (h - l)))) else none
        | none => some (.dat (.list []))) else none
      | _, _ => none
    | _, _ => none
  | .string, .dat (.str s) => match bndAv 0 lo, bndAv s.length hi with
    | some l, some h => if l ≤ h ∧ h ≤ s.length then some (.dat (.str ((s.drop l).take (h - l)))) else none
    | _, _ => none
  | _, _ => none
def indexAv (d : TypeDesc) (x i : AV) : Option AV :=
  match d, x, i with
  | .string, .dat (.str s), .dat (.int _ n) => if 0 ≤ n then (match s[n.toNat]? with | some b => some (.dat (.int .u8 b.toNat)) | none => none) else none
  | _, _, _ => none
def indexAddrAv (P : Program) (d : TypeDesc) (x i : AV) : Option AV :=
  match d, x.elems, i with
  | .slice e, some xs, .dat (.int _ n) => if 0 ≤ n then (match xs[n.toNat]?, P.info? e with | some c, some ti => if c.length = ti.size then some (.rptr c) else none | _, _ => none) else none
  | .slice e, none, .dat (.int _ n) => match x, P.info? e with
    | .sl o e' xs m, some ti => if e' = e ∧ 0 ≤ n ∧ n < ((xs.length + m : Nat) : Int) then (match xs[n.toNat]? with
      | some c => some (.rptr c)
      | none => some (.ptr o ((n.toNat - xs.length) * ti.size))) else none
    | _, _ => none
  | _, _, _ => none
def fieldAddrAv (P : Program) (d : TypeDesc) (x : AV) (f : Nat) : Option AV :=
  match d with
  | .struct fs => match fs[f]? with
    | some fd => match P.info? fd.type with
      | some i => bif i.size == 0 then none else (match x with
        | .ptr o k => some (.ptr o (k + fd.offset))
        | .rptr c => some (.rptr (c.drop fd.offset))
        | _ => none)
      | none => none
    | none => none
  | _ => none
def fieldAv (P : Program) (d : TypeDesc) (x : AV) (f : Nat) : Option AV :=
  match d, x with
  | .struct fs, .agg cs => match fs[f]? with
    | some fd => match P.underlying fd.type, P.info? fd.type with
      | some d, some i => bif aggD d then some (.agg ((cs.drop fd.offset).take i.size)) else cs[fd.offset]?
      | _, _ => none
    | none => none
  | _, _ => none
def convAv (d d' : TypeDesc) (x : AV) : Option AV :=
  match d, d', x with
  | _, .int k, .dat (.int _ n) => some (.dat (.int k (k.wrap n)))
  | .string, .string, .dat (.str s) => some (.dat (.str s))
  | _, _, _ => none
def lenAv (d : TypeDesc) (x : AV) : Option AV :=
  match d, x with
  | .string, .dat (.str s) => some (.dat (.int .i64 s.length))
  | .slice _, .dat (.list xs) => some (.dat (.int .i64 xs.length))
  | .slice _, .own _ _ xs => some (.dat (.int .i64 xs.length))
  | .slice _, .nils => some (.dat (.int .i64 0))
  | .slice _, .emp => some (.dat (.int .i64 0))
  | .slice _, .sl _ _ xs n => some (.dat (.int .i64 ((xs.length + n : Nat) : Int)))
  | _, _ => none
/-- A slice held against nil. -/
def nilAv : AV → Option AV
  | .nils => some (boolAv true)
  | .dat (.list xs) => some (if 0 < xs.length then boolAv false else .anyb)
  | .own _ _ xs => some (if 0 < xs.length then boolAv false else .anyb)
  | .sl _ _ _ _ => some (boolAv false)
  | .emp => some .anyb
  | _ => none
def eqAv (P : Program) (d : TypeDesc) (x y : AV) : Option AV :=
  match d, x, y with
  | .slice _, x, .nils => nilAv x
  | .bool, .dat (.bool a), .dat (.bool b) => some (boolAv (a == b))
  | .pointer _, .nilp, .nilp => some (boolAv true)
  | .pointer _, .ptr _ _, .nilp => some (boolAv false)
  | .pointer _, .nilp, .ptr _ _ => some (boolAv false)
  | .pointer e, .ptr o k, .ptr o' k' => match P.info? e with
    | some i => if i.size ≠ 0 ∧ o = o' ∧ k = k' then some (boolAv true) else none
    | none => none
  | _, _, _ => none
def notAv : AV → Option AV
  | .dat (.bool b) => some (.dat (.bool (!b)))
  | .anyb => some .anyb
  | _ => none

/-- What an operation that only reads yields. -/
def aval (P : Program) (s : St) (o : Oper) : Option AV :=
  match o.op with
  | .move x => some (s.ev x)
  | .assign x => some (s.ev x)
  | .pick c a b => match s.ev c with
    | .dat (.bool t) => some (pickAv t (s.ev a) (s.ev b))
    | _ => none
  | .nilCheck x => match s.ev x with
    | .ptr o k => some (.ptr o k)
    | .rptr c => some (.rptr c)
    | _ => none
  | .fieldAddr t x f => match P.underlying t with
    | some d => fieldAddrAv P d (s.ev x) f
    | none => none
  | .field t x f => match P.underlying t with
    | some d => fieldAv P d (s.ev x) f
    | none => none
  | .load t x => match s.ev x with
    | .ptr o k => match s.heap[o]? with
      | some (_, c :: cs) => loadAv P t ((c :: cs).drop k)
      | _ => none
    | .rptr c => loadAv P t (c.map .dat)
    | _ => none
  | .indexAddr t x i => match P.underlying t with
    | some d => indexAddrAv P d (s.ev x) (s.ev i)
    | none => none
  | .index t x i => match P.underlying t with
    | some d => indexAv d (s.ev x) (s.ev i)
    | none => none
  | .binOp op t x y _ => match binAv op (s.ev x) (s.ev y), op with
    | some v, _ => some v
    | none, .eql => match P.underlying t with
      | some d => eqAv P d (s.ev x) (s.ev y)
      | none => none
    | none, .neq => match P.underlying t with
      | some d => (eqAv P d (s.ev x) (s.ev y)).bind notAv
      | none => none
    | none, _ => none
  | .unOp .not _ x => match s.ev x with
    | .dat (.bool b) => some (.dat (.bool (!b)))
    | .anyb => some .anyb
    | _ => none
  | .convert t t' x => match P.underlying t, P.underlying t' with
    | some d, some d' => convAv d d' (s.ev x)
    | _, _ => none
  | .slice t x lo hi none => match P.underlying t with
    | some d => sliceAv P d (s.ev x) (lo.map s.ev) (hi.map s.ev)
    | none => none
  | .extract x i => match s.ev x with
    | .tup vs => vs[i]?
    | _ => none
  | .makeFunc (.func f) first caps => bif first.size == 0 then some (.fn f (caps.toList.map s.ev)) else none
  | .call { callee := .builtin .len, args := args, argTypes := tys } => match args.toList, tys.toList with
    | [x], [t] => match P.underlying t with
      | some d => lenAv d (s.ev x)
      | none => none
    | _, _ => none
  | _ => none

/-! ### soundness -/
theorem ofCell_rel {P : Program} {w : World} {X : Cx} (v : Value) : VRel P w X (AV.ofCell v) v := by
  unfold AV.ofCell
  split
  · exact .dat _ _ (.int _ _)
  · exact .dat _ _ (.bool _)
  · rename_i s
    have : s = ⟨s.data.toList.toArray⟩ := by cases s; simp
    exact .dat _ _ (by rw (config := { occs := .pos [2] }) [this]; exact .str _)
  · exact .nils
  · exact .nilp
  · exact .top _
theorem ofVal_rel {P : Program} {w : World} {X : Cx} (v : Value) : VRel P w X (AV.ofVal v) v := by
  unfold AV.ofVal
  split
  · rename_i cs
    refine .agg _ _ (by simp) fun i c v hc hv => ?_
    simp only [List.getElem?_map, Array.getElem?_toList, hv, Option.map_some, Option.some.injEq] at hc
    subst hc
    exact ofCell_rel v
  · exact ofCell_rel v

/-- Boxes, as they lie in memory. An empty one is told of no more. -/
structure HRel (P : Program) (w : World) (X : Cx) (H : List (TypeId × List AV)) : Prop where
  n : X.n = H.length
  le : ∀ b, w.heap.size ≤ b → X.my b
  boxb : ∀ (o : Nat) (T : TypeId) (cs : List AV), H[o]? = some (T, cs) → cs ≠ [] → X.my (X.m o) ∧ X.lab (X.m o) = none ∧ ∀ i, X.bo o ≤ i → ¬ X.Pm ⟨X.m o, i, none⟩
  box : ∀ (o : Nat) (T : TypeId) (cs : List AV), H[o]? = some (T, cs) → cs ≠ [] → ∃ vs, w.heap[X.m o]? = some (.cells vs T (0, 0)) ∧ (X.bo o + cs.length ≤ vs.size ∧ X.cap o ≤ maxLen ∧ ∀ ti, P.info? T = some ti → vs.size = X.cap o * ti.size ∧ ti.size ∣ X.bo o) ∧ ∀ (i : Nat) (c : AV) (v : Value), cs[i]? = some c → vs[X.bo o + i]? = some v → VRel P w X c v
  inj : ∀ (o o' : Nat) (T T' : TypeId) (cs cs' : List AV), H[o]? = some (T, cs) → cs ≠ [] → H[o']? = some (T', cs') → cs' ≠ [] → X.m o = X.m o' → o = o'
  pm : ∀ a, X.Pm a → ∃ u, w.cell? a = some u
  lab : ∀ b, X.lab b ≠ none → X.my b ∧ b < w.heap.size
/-- What is not 'my' is as it was. -/
structure Kept (my : Nat → Prop) (w w' : World) : Prop where
  os : w'.os = w.os
  tape : w'.tape = w.tape
  output : w'.output = w.output
  size : w.heap.size ≤ w'.heap.size
  block : ∀ k, ¬ my k → w'.heap[k]? = w.heap[k]?
theorem Kept.refl (my : Nat → Prop) (w : World) : Kept my w w := ⟨rfl, rfl, rfl, Nat.le_refl _, fun _ _ => rfl⟩
theorem Kept.trans {my : Nat → Prop} {a b c : World} (h : Kept my a b) (k : Kept my b c) : Kept my a c :=
  ⟨k.os.trans h.os, k.tape.trans h.tape, k.output.trans h.output, Nat.le_trans h.size k.size, fun i hi => (k.block i hi).trans (h.block i hi)⟩
theorem keptOf {B : Nat} {my : Nat → Prop} {w w' : World} (h : Below B w w') (hm : ∀ b, B ≤ b → my b) : Kept my w w' :=
  ⟨h.os, h.tape, h.output, h.size, fun k hk => h.block k (Nat.lt_of_not_le fun hle => hk (hm k hle))⟩
theorem Kept.below {B : Nat} {w w' : World} (h : Kept (fun b => B ≤ b) w w') : Below B w w' :=
  ⟨h.os, h.tape, h.output, h.size, fun k hk => h.block k (Nat.not_le.2 hk)⟩
/-- From w0, told by X0, to w, told by X: what lay below is as it was; cells that stay have stayed; boxes are where they were. -/
structure Post (w0 : World) (X0 : Cx) (w : World) (X : Cx) : Prop where
  B : X.my = X0.my
  below : Kept X0.my w0 w
  gs : w0.heap.size ≤ w.heap.size
  keep : ∀ a, X0.Pm a → X.Pm a ∧ w.cell? a = w0.cell? a
  mn : X0.n ≤ X.n
  mo : ∀ o, o < X0.n → X.m o = X0.m o ∧ X.cap o = X0.cap o ∧ X.bo o = X0.bo o
  pm0 : ∀ a, ¬ X.my a.block → (X.Pm a ↔ X0.Pm a)
theorem Post.refl (w : World) (X : Cx) : Post w X w X := ⟨rfl, Kept.refl _ _, Nat.le_refl _, fun _ h => ⟨h, rfl⟩, Nat.le_refl _, fun _ _ => ⟨rfl, rfl, rfl⟩, fun _ _ => Iff.rfl⟩
theorem Post.trans {w0 w1 w2 : World} {X0 X1 X2 : Cx} (h : Post w0 X0 w1 X1) (k : Post w1 X1 w2 X2) : Post w0 X0 w2 X2 := by
  refine ⟨k.B.trans h.B, h.below.trans (h.B ▸ k.below), Nat.le_trans h.gs k.gs, fun a ha => ?_, Nat.le_trans h.mn k.mn, fun o ho => ?_, fun a ha => ?_⟩
  · have h1 := h.keep a ha
    have h2 := k.keep a h1.1
    exact ⟨h2.1, h2.2.trans h1.2⟩
  · have h1 := h.mo o ho
    have h2 := k.mo o (Nat.lt_of_lt_of_le ho h.mn)
    exact ⟨h2.1.trans h1.1, h2.2.1.trans h1.2.1, h2.2.2.trans h1.2.2⟩
  · exact (k.pm0 a ha).trans (h.pm0 a (by rw [← k.B]; exact ha))
/-- The state's parts, as they lie in memory. w0, X0: the world when the call began, and how it was told. -/
structure SRel (P : Program) (w0 : World) (X0 : Cx) (w : World) (X : Cx) (s : St) (a : Act) : Prop where
  defers : a.defers = X0.dl
  size : a.tmps.size = s.slots.length
  slot : ∀ (i : Nat) (c : AV) (v : Value), s.slots[i]? = some c → a.tmps[i]? = some v → VRel P w X c v
  hp : HRel P w X s.heap
  po : Post w0 X0 w X

section
variable {P : Program} {w0 : World} {X0 : Cx} {w : World} {X : Cx} {s : St} {a : Act}
theorem SRel.ev (h : SRel P w0 X0 w X s a) (x : Operand) : VRel P w X (s.ev x) (a.eval x) := by
  cases x with
  | tmp t =>
    show VRel P w X (s.slots.getD t .top) (a.tmps.getD t undef)
    by_cases ht : t < s.slots.length
    · have ht' : t < a.tmps.size := by rw [h.size]; exact ht
      have h1 := h.slot t _ _ (List.getElem?_eq_getElem ht) (Array.getElem?_eq_getElem ht')
      simpa [List.getD_eq_getElem?_getD, List.getElem?_eq_getElem ht, Array.getD_eq_getD_getElem?, Array.getElem?_eq_getElem ht'] using h1
    · rw [List.getD_eq_getElem?_getD, List.getElem?_eq_none (Nat.le_of_not_lt ht)]
      exact .top _
  | const v => exact ofVal_rel v
  | global g => exact .top _
  | func f => exact .fn f [] #[] rfl fun i c v hi => by simp at hi
end

/-- In every world that leaves w's blocks alone the operation yields this one value. -/
def Yld (P : Program) (w : World) (a : Act) (o : Oper) (v : Value) : Prop := ∀ w', Below w.heap.size w w' → (execOp a.eval o).run P w' = .ok (.value v) w'

theorem below_cell {w w' : World} (hb : Below w.heap.size w w') {a : Addr} {u : Value} (h : w.cell? a = some u) : w'.cell? a = some u := (hb.cell (World.block_lt_of_cell? w a h)).trans h

theorem run_typeInfo {P : Program} {t : TypeId} {i : TypeInfo} (h : P.info? t = some i) (w : World) : (typeInfo t).run P w = .ok i w := by
  simp [typeInfo, h]
theorem run_sizeOf {P : Program} {t : TypeId} {i : TypeInfo} (h : P.info? t = some i) (w : World) : (sizeOf t).run P w = .ok i.size w := by
  simp [sizeOf, run_typeInfo h]
theorem run_isAgg {P : Program} {t : TypeId} {d : TypeDesc} (h : P.underlying t = some d) (w : World) : (isAgg t).run P w = .ok (aggD d) w := by
  unfold isAgg
  rw [Sem.run_bind, run_underlying h w]
  cases d <;> rfl
/-- A variable is loaded whose cells are told. -/
theorem load_sound {P : Program} {w : World} {X : Cx} {t : TypeId} {cs : List AV} {av : AV} {ad : Addr} (h : loadAv P t cs = some av)
    (hc : ∀ (i : Nat) (c : AV), cs[i]? = some c → ∃ v, w.cell? (ad.add i) = some v ∧ VRel P w X c v) :
    ∃ v, VRel P w X av v ∧ ∀ w', Below w.heap.size w w' → (loadVar t ad).run P w' = .ok v w' := by
  unfold loadAv at h
  split at h
  · rename_i d i hd hi
    cases hg : aggD d with
    | true =>
      rw [hg, cond_true] at h
      cases hl : Nat.ble i.size cs.length with
      | false => rw [hl] at h; cases h
      | true =>
        rw [hl, cond_true, Option.some.injEq] at h
        subst h
        have hle : i.size ≤ cs.length := by simpa using hl
        have hex : ∀ k : Nat, ∃ v, ∀ c, k < i.size → cs[k]? = some c → w.cell? (ad.add k) = some v ∧ VRel P w X c v := by
          intro k
          by_cases hk : k < cs.length
          · obtain ⟨v, h1, h2⟩ := hc k _ (List.getElem?_eq_getElem hk)
            exact ⟨v, fun c _ hc' => by rw [List.getElem?_eq_getElem hk, Option.some.injEq] at hc'; subst hc'; exact ⟨h1, h2⟩⟩
          · exact ⟨undef, fun c _ hc' => by rw [List.getElem?_eq_none (by omega)] at hc'; cases hc'⟩
        have hch := Classical.axiomOfChoice hex
        obtain ⟨f, hf⟩ := hch
        have hcell : ∀ k, k < i.size → w.cell? (ad.add k) = some (f k) := fun k hk => (hf k _ hk (List.getElem?_eq_getElem (by omega))).1
        refine ⟨.agg ((List.range i.size).map f).toArray, .agg _ _ (by simp; omega) fun k c v hk hv => ?_, fun w' hb => ?_⟩
        · rw [List.getElem?_take] at hk
          split at hk
          · rename_i hks
            simp [List.getElem?_range hks] at hv
            subst hv
            exact (hf k c hks hk).2
          · cases hk
        · have hrun : (loadCells ad i.size).run P w' = .ok ((List.range i.size).map f).toArray w' := by
            have := run_loadCells_list (P := P) w' ad ((List.range i.size).map f) (fun j v hj => by
              have hjl : j < i.size := by simpa using (List.getElem?_eq_some_iff.1 hj).1
              simp [List.getElem?_range hjl] at hj
              subst hj
              exact below_cell hb (hcell j hjl))
            simpa using this
          simp [loadVar, run_isAgg hd, hg, run_sizeOf hi, hrun]
    | false =>
      rw [hg, cond_false] at h
      obtain ⟨v, h1, h2⟩ := hc 0 av (by rw [← List.head?_eq_getElem?]; exact h)
      refine ⟨v, h2, fun w' hb => ?_⟩
      have h0 : ad.add 0 = ad := by simp [Addr.add]
      rw [h0] at h1
      simp [loadVar, run_isAgg hd, hg, below_cell hb h1]
  · cases h

/-- The elements of a slice that is told, as they lie. -/
theorem elems_rel {P : Program} {w : World} {X : Cx} {x : AV} {v : Value} {xs : List (List Dat)} (h : VRel P w X x v) (he : x.elems = some xs) : DRel w X.Pm (.list xs) v := by
  cases h with
  | dat d v hd =>
    cases d <;> simp [AV.elems] at he
    subst he
    exact hd
  | nils => simp [AV.elems] at he; subst he; exact VRel.nilsDat (P := P) (X := X) .nils
  | emp A => simp [AV.elems] at he; subst he; exact VRel.empDat (P := P) (X := X) (.emp A)
  | ownNil id e => simp [AV.elems] at he; subst he; exact VRel.asDat (P := P) (X := X) (.ownNil id e)
  | own id e xs b c cur i he' hb hl hh hc hm hs hx hr hp =>
    simp [AV.elems] at he
    subst he
    exact VRel.asDat (.own id e xs b c cur i he' hb hl hh hc hm hs hx hr hp)
  | _ => simp [AV.elems] at he
theorem str_rel {P : Program} {w : World} {X : Cx} {s : List UInt8} {v : Value} (h : VRel P w X (.dat (.str s)) v) : v = .string ⟨s.toArray⟩ := by
  cases h with | dat _ _ hd => cases hd; rfl
theorem int_rel {P : Program} {w : World} {X : Cx} {k : IntKind} {n : Int} {v : Value} (h : VRel P w X (.dat (.int k n)) v) : v = .int k n := by
  cases h with | dat _ _ hd => cases hd; rfl
theorem bool_rel {P : Program} {w : World} {X : Cx} {b : Bool} {v : Value} (h : VRel P w X (.dat (.bool b)) v) : v = .bool b := by
  cases h with | dat _ _ hd => cases hd; rfl
theorem rel_int {P : Program} {w : World} {X : Cx} (k : IntKind) (n : Int) : VRel P w X (.dat (.int k n)) (.int k n) := .dat _ _ (.int k n)
theorem rel_bool {P : Program} {w : World} {X : Cx} (b : Bool) : VRel P w X (.dat (.bool b)) (.bool b) := .dat _ _ (.bool b)
theorem rel_str {P : Program} {w : World} {X : Cx} (s : List UInt8) : VRel P w X (.dat (.str s)) (.string ⟨s.toArray⟩) := .dat _ _ (.str s)

theorem add_add' (a : Addr) (i j : Nat) : (a.add i).add j = a.add (i + j) := by
  unfold Addr.add
  by_cases hi : i = 0 <;> by_cases hj : j = 0 <;> simp [hi, hj, Nat.add_assoc]

theorem pick_rel {P : Program} {w : World} {X : Cx} (t : Bool) {x y : AV} {u v : Value} (hx : VRel P w X x u) (hy : VRel P w X y v) : VRel P w X (pickAv t x y) (if t then u else v) := by
  unfold pickAv
  split
  · rw [bool_rel hx, bool_rel hy]
    cases t <;> exact rel_bool _
  · cases t
    · exact hy
    · exact hx

theorem indexAddr_sound {P : Program} {w : World} {X : Cx} {d : TypeDesc} {t : TypeId} {x i av : AV} {u v : Value} (hd : P.underlying t = some d) (h : indexAddrAv P d x i = some av) (hx : VRel P w X x u) (hi : VRel P w X i v) :
    ∃ r, VRel P w X av r ∧ ∀ w', (Instr.indexAt t u v).run P w' = .ok r w' := by
  unfold indexAddrAv at h
  split at h
  · rename_i e xs k n he
    split at h
    · rename_i h0
      split at h
      · rename_i c ti hc hti
        split at h
        · rename_i hcl
          injection h with h
          subst h
          have hdr := elems_rel hx he
          rw [int_rel hi]
          have hlt : n.toNat < xs.length := (List.getElem?_eq_some_iff.1 hc).1
          cases hdr with
          | list _ A cp sz vs hcp hm hl hR hA =>
            obtain ⟨ad, rfl, hcell⟩ := hA (by omega)
            have hsz : sz = ti.size := (hl _ _ hc).symm.trans hcl
            subst hsz
            refine ⟨.pointer (some (ad.add (n.toNat * ti.size))), .rptr _ _ fun j d hj => ⟨vs n.toNat j, ?_, ?_, hR _ _ _ _ hc hj⟩, fun w' => ?_⟩
            · rw [add_add']
              exact (hcell _ _ hlt (by rw [← hcl]; exact (List.getElem?_eq_some_iff.1 hj).1)).1
            · rw [add_add']
              exact (hcell _ _ hlt (by rw [← hcl]; exact (List.getElem?_eq_some_iff.1 hj).1)).2
            · have hb : 0 ≤ n ∧ n < (xs.length : Int) := ⟨h0, by omega⟩
              simp [Instr.indexAt, asIntOf, run_underlying hd, hb, run_sizeOf hti]
        · cases h
      · cases h
    · cases h
  · rename_i e k n he
    split at h
    · rename_i o e' xs m ti hti
      split at h
      · rename_i hb
        obtain ⟨rfl, hb⟩ := hb
        rw [int_rel hi]
        cases hx with
        | sl _ _ _ _ ti' he' ho hl hbo hxl hr =>
        rw [hti] at he'
        injection he' with he'
        subst he'
        have hrun : ∀ w', (Instr.indexAt t (.slice (some ⟨X.m o, 0, none⟩) (xs.length + m) (X.cap o)) (.int k n)).run P w' = .ok (.pointer (some ⟨X.m o, n.toNat * ti.size, none⟩)) w' := by
          intro w'
          simp [Instr.indexAt, asIntOf, run_underlying hd, hb.1, run_sizeOf hti, add_plain]
          omega
        split at h
        · rename_i c hc
          injection h with h
          subst h
          refine ⟨_, .rptr c _ fun i d hi => ?_, hrun⟩
          obtain ⟨v, k1, k2, k3⟩ := hr _ c i d hc hi
          have hadd : (⟨X.m o, n.toNat * ti.size, none⟩ : Addr).add i = ⟨X.m o, n.toNat * ti.size + i, none⟩ := by unfold Addr.add; split <;> simp_all
          rw [hadd]
          exact ⟨v, k1, k2, k3⟩
        · rename_i hc
          injection h with h
          subst h
          have hge := List.getElem?_eq_none_iff.1 hc
          have e1 : n.toNat * ti.size = X.bo o + (n.toNat - xs.length) * ti.size := by
            rw [hbo, ← Nat.add_mul]
            congr 1
            omega
          refine ⟨_, ?_, hrun⟩
          rw [e1]
          exact .ptr o _ ho
      · cases h
    · cases h
  · cases h
theorem fieldAddr_sound {P : Program} {w : World} {X : Cx} {d : TypeDesc} {t : TypeId} {x av : AV} {u : Value} {f : Nat} (hd : P.underlying t = some d) (h : fieldAddrAv P d x f = some av) (hx : VRel P w X x u) :
    ∃ r, VRel P w X av r ∧ ∀ w', (Instr.fieldAt t u f).run P w' = .ok r w' := by
  unfold fieldAddrAv at h
  split at h
  · rename_i fs
    split at h
    · rename_i fd hf
      split at h
      · rename_i i hi
        cases hz : i.size == 0 with
        | true => rw [hz, cond_true] at h; cases h
        | false =>
          rw [hz, cond_false] at h
          have hz' : ¬ i.size = 0 := by simpa using hz
          cases hx with
          | ptr o k ho =>
            simp only [Option.some.injEq] at h
            subst h
            refine ⟨.pointer (some ⟨X.m o, X.bo o + (k + fd.offset), none⟩), .ptr o _ ho, fun w' => ?_⟩
            have hadd : (⟨X.m o, X.bo o + k, none⟩ : Addr).add fd.offset = ⟨X.m o, X.bo o + (k + fd.offset), none⟩ := by rw [← Nat.add_assoc]; unfold Addr.add; split <;> simp_all
            simp [Instr.fieldAt, run_underlying hd, hf, Instr.sureAddr, fieldPlace, run_sizeOf hi, hz', hadd]
          | rptr c ad hc =>
            simp only [Option.some.injEq] at h
            subst h
            refine ⟨.pointer (some (ad.add fd.offset)), .rptr _ _ fun j d hj => ?_, fun w' => ?_⟩
            · rw [List.getElem?_drop] at hj
              obtain ⟨v, h1, h2, h3⟩ := hc _ _ hj
              exact ⟨v, by rw [add_add']; exact h1, by rw [add_add']; exact h2, h3⟩
            · simp [Instr.fieldAt, run_underlying hd, hf, Instr.sureAddr, fieldPlace, run_sizeOf hi, hz']
          | _ => cases h
      · cases h
    · cases h
  · cases h
theorem field_sound {P : Program} {w : World} {X : Cx} {d : TypeDesc} {t : TypeId} {x av : AV} {u : Value} {f : Nat} (hd : P.underlying t = some d) (h : fieldAv P d x f = some av) (hx : VRel P w X x u) :
    ∃ r, VRel P w X av r ∧ ∀ w', (Instr.field t u f).run P w' = .ok r w' := by
  unfold fieldAv at h
  split at h
  · rename_i fs cs
    cases hx with
    | agg _ vs hs hc =>
    split at h
    · rename_i fd hf
      split at h
      · rename_i d' i hd' hi
        cases hg : aggD d' with
        | true =>
          rw [hg, cond_true, Option.some.injEq] at h
          subst h
          refine ⟨.agg (vs.extract fd.offset (fd.offset + i.size)), .agg _ _ (by simp [hs]; omega) fun k c v hk hv => ?_, fun w' => ?_⟩
          · rw [List.getElem?_take] at hk
            split at hk
            · rw [List.getElem?_drop] at hk
              rw [Array.getElem?_extract] at hv
              split at hv
              · exact hc _ _ _ hk hv
              · cases hv
            · cases hk
          · simp [Instr.field, run_underlying hd, hf, asAgg, part, run_isAgg hd', hg, run_sizeOf hi]
        | false =>
          rw [hg, cond_false] at h
          have hlt : fd.offset < vs.size := by rw [hs]; exact (List.getElem?_eq_some_iff.1 h).1
          have hv := Array.getElem?_eq_getElem hlt
          refine ⟨vs[fd.offset], hc _ _ _ h hv, fun w' => ?_⟩
          simp [Instr.field, run_underlying hd, hf, asAgg, part, run_isAgg hd', hg, hv]
      · cases h
    · cases h
  · cases h
theorem index_sound {P : Program} {w : World} {X : Cx} {d : TypeDesc} {t : TypeId} {x i av : AV} {u v : Value} (hd : P.underlying t = some d) (h : indexAv d x i = some av) (hx : VRel P w X x u) (hi : VRel P w X i v) :
    ∃ r, VRel P w X av r ∧ ∀ w', (Instr.index t u v).run P w' = .ok r w' := by
  unfold indexAv at h
  split at h
  · rename_i s k n
    split at h
    · rename_i h0
      split at h
      · rename_i b hb
        injection h with h
        subst h
        rw [str_rel hx, int_rel hi]
        refine ⟨_, rel_int _ _, fun w' => ?_⟩
        have hb' : (⟨s.toArray⟩ : ByteArray)[n.toNat]? = some b := by
          have hlt := (List.getElem?_eq_some_iff.1 hb).1
          have h2 := (List.getElem?_eq_some_iff.1 hb).2
          rw [getElem?_pos (⟨s.toArray⟩ : ByteArray) n.toNat (by simpa [ByteArray.size] using hlt)]
          simpa [ByteArray.getElem_eq_getElem_data] using h2
        simp [Instr.index, asIntOf, run_underlying hd, h0, hb']
      · cases h
    · cases h
  · cases h
theorem toList_mk (s : List UInt8) : (⟨s.toArray⟩ : ByteArray).toList = s := by
  simp [Lib.toList_data]
theorem bin_sound {P : Program} {w : World} {X : Cx} {op : BinOp} {t : TypeId} {x y av : AV} {u v : Value} (a b : Operand) (h : binAv op x y = some av) (hx : VRel P w X x u) (hy : VRel P w X y v) :
    ∃ r, VRel P w X av r ∧ ∀ w', (do eqGuard op t a b u v; binOp op t u v : Sem Value).run P w' = .ok r w' := by
  unfold binAv at h
  split at h
  · rename_i k m k' n
    split at h
    · rename_i hk
      subst hk
      rw [int_rel hx, int_rel hy]
      have hg : ∀ w', (eqGuard op t a b (.int k m) (.int k n)).run P w' = .ok () w' := by
        intro w'
        unfold eqGuard
        cases op <;> rfl
      unfold binInt at h
      cases op <;> simp only [Option.some.injEq, boolAv, reduceCtorEq] at h <;> subst h <;> refine ⟨_, by first | exact rel_int _ _ | exact rel_bool _, fun w' => ?_⟩ <;> simp [hg, binOp, Op.intArith, Op.intCmp]
    · cases h
  · rename_i m n
    rw [str_rel hx, str_rel hy]
    have hg : ∀ w', (eqGuard op t a b (.string ⟨m.toArray⟩) (.string ⟨n.toArray⟩)).run P w' = .ok () w' := by
      intro w'
      unfold eqGuard
      cases op <;> rfl
    unfold binStr at h
    cases op <;> simp only [Option.some.injEq, boolAv, reduceCtorEq] at h <;> subst h <;> refine ⟨_, rel_bool _, fun w' => ?_⟩ <;> simp [hg, binOp, Op.stringOp]
  · cases h

theorem bnd_run {P : Program} {w : World} {X : Cx} {x : AV} {v : Value} {d n top : Nat} (code : BoundsCode) (h : bndAv d (some x) = some n) (hx : VRel P w X x v) (hn : n ≤ top) : ∀ w', (Instr.sliceBound v top code).run P w' = .ok n w' := by
  unfold bndAv at h
  split at h
  · cases ‹some x = none›
  · rename_i k m e
    injection e with e
    subst e
    split at h
    · rename_i h0
      injection h with h
      subst h
      rw [int_rel hx]
      intro w'
      have hb : 0 ≤ m ∧ m ≤ (top : Int) := ⟨h0, by omega⟩
      simp [Instr.sliceBound, asIntOf, hb]
    · cases h
  · cases h
theorem bounds_run {P : Program} {w : World} {X : Cx} {s : St} {a : Act} (hev : ∀ x, VRel P w X (s.ev x) (a.eval x)) {lo hi : Option Operand} {isSlice : Bool} {n c i j : Nat} (hnc : n ≤ c)
    (hi' : bndAv 0 (lo.map s.ev) = some i) (hj' : bndAv n (hi.map s.ev) = some j) (hle : i ≤ j ∧ j ≤ n) : ∀ w', (Instr.sliceBounds isSlice n c (lo.map a.eval) (hi.map a.eval) none).run P w' = .ok (i, j, c) w' := by
  intro w'
  unfold Instr.sliceBounds
  simp only [Sem.run_bind, Sem.run_pure, Result.andThen_ok]
  cases hi with
  | none =>
    simp only [Option.map_none, bndAv, Option.some.injEq] at hj'
    subst hj'
    cases lo with
    | none => simp only [Option.map_none, bndAv, Option.some.injEq] at hi'; subst hi'; rfl
    | some y =>
      have h2 := bnd_run .sliceB hi' (hev y) hle.1 w'
      simp [h2]
  | some z =>
    have h1 := bnd_run (if isSlice = true then .sliceAcap else .sliceAlen) hj' (hev z) (Nat.le_trans hle.2 hnc) w'
    cases lo with
    | none => simp only [Option.map_none, bndAv, Option.some.injEq] at hi'; subst hi'; simp [h1]
    | some y =>
      have h2 := bnd_run .sliceB hi' (hev y) hle.1 w'
      simp [h1, h2]
theorem slice_sound {P : Program} {w : World} {X : Cx} {s : St} {a : Act} (hev : ∀ x, VRel P w X (s.ev x) (a.eval x)) {d : TypeDesc} {t : TypeId} {x : Operand} {lo hi : Option Operand} {av : AV} (hd : P.underlying t = some d)
    (h : sliceAv P d (s.ev x) (lo.map s.ev) (hi.map s.ev) = some av) :
    ∃ r, VRel P w X av r ∧ ∀ w', (Instr.sliceAt t (a.eval x) (lo.map a.eval) (hi.map a.eval) none).run P w' = .ok r w' := by
  unfold sliceAv at h
  split at h
  · rename_i e
    split at h
    · rename_i xs ti he hti
      split at h
      · rename_i i j hi' hj'
        split at h
        · rename_i hle
          have hdr := elems_rel (hev x) he
          generalize a.eval x = val at hdr ⊢
          cases hdr with
          | list _ A cp sz vs hcp hm hl hR hA =>
          have e3 := bounds_run (P := P) (isSlice := true) hev hcp hi' hj' hle
          have hrun : ∀ w', (Instr.sliceAt t (.slice A xs.length cp) (lo.map a.eval) (hi.map a.eval) none).run P w' = .ok (.slice (if cp = i then A else A.map (·.add (i * ti.size))) (j - i) (cp - i)) w' := by
            intro w'
            simp [Instr.sliceAt, Instr.slice, run_underlying hd, e3, run_sizeOf hti]
          refine ⟨_, ?_, hrun⟩
          split at h
          · rename_i c hc
            split at h
            · rename_i hcl
              injection h with h
              subst h
              have hilt : i < xs.length := (List.getElem?_eq_some_iff.1 hc).1
              have hsz : sz = ti.size := (hl _ _ hc).symm.trans hcl
              have hne : ¬ cp = i := by omega
              rw [if_neg hne]
              obtain ⟨ys, hys⟩ : ∃ ys, ys = (xs.drop i).take (j - i) := ⟨_, rfl⟩
              rw [← hys]
              have hlen : ys.length = j - i := by rw [hys]; simp; omega
              rw [← hlen]
              have hget : ∀ (p : Nat) (y : List Dat), ys[p]? = some y → xs[i + p]? = some y := fun p y hp => by
                rw [hys, List.getElem?_take] at hp
                split at hp
                · rwa [List.getElem?_drop] at hp
                · cases hp
              refine .dat _ _ (.list ys _ (cp - i) sz (fun p q => vs (i + p) q) (by omega) ⟨by omega, fun h0 => ?_⟩ (fun p y hp => hl _ _ (hget p y hp)) (fun p y q d hp hq => hR _ _ _ _ (hget p y hp) hq) (fun h0 => ?_))
              · rw [Option.map_eq_none_iff] at h0
                have := hm.2 h0
                omega
              · obtain ⟨ad, rfl, hcell⟩ := hA (by omega)
                refine ⟨_, rfl, fun p q hp hq => ?_⟩
                rw [hlen] at hp
                have := hcell (i + p) q (by omega) hq
                rw [add_add', ← hsz, ← Nat.add_assoc, ← Nat.add_mul]
                exact this
            · cases h
          · rename_i hc
            injection h with h
            subst h
            have hige : xs.length ≤ i := List.getElem?_eq_none_iff.1 hc
            have hji : j - i = 0 := by omega
            rw [hji]
            refine .dat _ _ (.list [] _ _ 0 (fun _ _ => undef) (Nat.zero_le _) ⟨by omega, fun h0 => ?_⟩ (fun p y hp => by simp at hp) (fun p y q d hp => by simp at hp) (fun h0 => by simp at h0))
            split at h0
            · omega
            · rw [Option.map_eq_none_iff] at h0
              have := hm.2 h0
              omega
        · cases h
      · cases h
    · cases h
  · rename_i l hl
    have hx := hev x
    rw [hl] at hx
    split at h
    · rename_i i j hi' hj'
      split at h
      · rename_i hle
        injection h with h
        subst h
        rw [str_rel hx]
        refine ⟨_, rel_str _, fun w' => ?_⟩
        have hsz : (⟨l.toArray⟩ : ByteArray).size = l.length := by simp [ByteArray.size]
        have e3 := bounds_run (P := P) (isSlice := false) hev (Nat.le_refl _) hi' hj' hle
        have hex : (⟨l.toArray⟩ : ByteArray).extract i j = ⟨((l.drop i).take (j - i)).toArray⟩ := by
          rw [Lib.extract_eq]
        simp [Instr.sliceAt, Instr.slice, run_underlying hd, hsz, e3, hex]
      · cases h
    · cases h
  · cases h
theorem len_sound {P : Program} {w : World} {X : Cx} {d : TypeDesc} {t ty : TypeId} {x av : AV} {u : Value} (hd : P.underlying t = some d) (h : lenAv d x = some av) (hx : VRel P w X x u) :
    ∃ r, VRel P w X av r ∧ ∀ w', (Builtin.len_ #[t] ty #[u]).run P w' = .ok r w' := by
  unfold lenAv at h
  split at h
  · rename_i s
    injection h with h
    subst h
    rw [str_rel hx]
    have hsz : (⟨s.toArray⟩ : ByteArray).size = s.length := by simp [ByteArray.size]
    exact ⟨_, rel_int _ _, fun w' => by simp [Builtin.len_, run_underlying hd, goInt, hsz]⟩
  · rename_i e xs
    injection h with h
    subst h
    cases hx with | dat _ _ hdr => cases hdr with | list _ A cp sz vs hcp hm hl hR hA => exact ⟨_, rel_int _ _, fun w' => by simp [Builtin.len_, run_underlying hd, goInt]⟩
  · rename_i e _ _ xs
    injection h with h
    subst h
    have hdr := hx.asDat
    cases hdr with | list _ A cp sz vs hcp hm hl hR hA => exact ⟨_, rel_int _ _, fun w' => by simp [Builtin.len_, run_underlying hd, goInt]⟩
  · injection h with h
    subst h
    cases hx
    exact ⟨_, rel_int _ _, fun w' => by simp [Builtin.len_, run_underlying hd, goInt]⟩
  · injection h with h
    subst h
    cases hx
    exact ⟨_, rel_int _ _, fun w' => by simp [Builtin.len_, run_underlying hd, goInt]⟩
  · injection h with h
    subst h
    cases hx
    exact ⟨_, rel_int _ _, fun w' => by simp [Builtin.len_, run_underlying hd, goInt]⟩
  · cases h
/-- Two values held against each other. -/
theorem eq_sound {P : Program} {w : World} {X : Cx} {d : TypeDesc} {t : TypeId} {x y av : AV} {u v : Value} (hd : P.underlying t = some d) (h : eqAv P d x y = some av) (hx : VRel P w X x u) (hy : VRel P w X y v) :
    ∃ b : Bool, VRel P w X av (.bool b) ∧ (∀ w', (Op.equal t u v).run P w' = .ok b w') ∧ (∀ (op : BinOp) (a c : Operand) w', (eqGuard op t a c u v).run P w' = .ok () w') ∧ (∀ w', (binOp .eql t u v).run P w' = .ok (.bool b) w') ∧ ∀ w', (binOp .neq t u v).run P w' = .ok (.bool (!b)) w' := by
  have fin : ∀ b : Bool, VRel P w X av (.bool b) → (∀ w', (Op.equal t u v).run P w' = .ok b w') → ((∃ A n c B m c', u = .slice A n c ∧ v = .slice B m c') ∨ (∃ p q, u = .bool p ∧ v = .bool q) ∨ ∃ p q, u = .pointer p ∧ v = .pointer q) →
      ∃ b : Bool, VRel P w X av (.bool b) ∧ (∀ w', (Op.equal t u v).run P w' = .ok b w') ∧ (∀ (op : BinOp) (a c : Operand) w', (eqGuard op t a c u v).run P w' = .ok () w') ∧ (∀ w', (binOp .eql t u v).run P w' = .ok (.bool b) w') ∧ ∀ w', (binOp .neq t u v).run P w' = .ok (.bool (!b)) w' := by
    intro b h1 h2 h3
    refine ⟨b, h1, h2, ?_⟩
    rcases h3 with ⟨A, n, c, B, m, c', rfl, rfl⟩ | ⟨p, q, rfl, rfl⟩ | ⟨p, q, rfl, rfl⟩
    · refine ⟨fun op a c w' => by unfold eqGuard; cases op <;> rfl, fun w' => ?_, fun w' => ?_⟩ <;> simp only [binOp, Sem.run_bind, h2 w'] <;> rfl
    · refine ⟨fun op a c w' => by unfold eqGuard; cases op <;> rfl, fun w' => ?_, fun w' => ?_⟩ <;> simp only [binOp, Sem.run_bind, h2 w'] <;> rfl
    · refine ⟨fun op a c w' => by unfold eqGuard; cases op <;> rfl, fun w' => ?_, fun w' => ?_⟩ <;> simp only [binOp, Sem.run_bind, h2 w'] <;> rfl
  unfold eqAv at h
  split at h
  · rename_i e
    cases hy with
    | nils =>
    have key : ∀ (A : Option Addr) (n c : Nat), ∀ w', (Op.equal t (.slice A n c) (.slice none 0 0)).run P w' = .ok A.isNone w' := by
      intro A n c w'
      simp [Op.equal, Op.maxDepth, Lib.run_equalIn_slice_nil w' 9999 t e A n c 0 0 hd]
    have dat : ∀ (xs : List (List Dat)), DRel w X.Pm (.list xs) u → (if 0 < xs.length then boolAv false else .anyb) = av → ∃ A n c, u = .slice A n c ∧ VRel P w X av (.bool A.isNone) := by
      intro xs hdr hav
      cases hdr with
      | list _ A c sz vs hc hm hl hR hA =>
      refine ⟨A, _, c, rfl, ?_⟩
      split at hav
      · rename_i h0
        obtain ⟨ad, rfl, _⟩ := hA h0
        subst hav
        exact rel_bool _
      · subst hav
        exact .anyb _
    have done : ∀ (A : Option Addr) (n c : Nat), u = .slice A n c → VRel P w X av (.bool A.isNone) → ∃ b : Bool, VRel P w X av (.bool b) ∧ (∀ w', (Op.equal t u (.slice none 0 0)).run P w' = .ok b w') ∧ (∀ (op : BinOp) (a c : Operand) w', (eqGuard op t a c u (.slice none 0 0)).run P w' = .ok () w') ∧ (∀ w', (binOp .eql t u (.slice none 0 0)).run P w' = .ok (.bool b) w') ∧ ∀ w', (binOp .neq t u (.slice none 0 0)).run P w' = .ok (.bool (!b)) w' := by
      rintro A n c rfl hr
      exact fin _ hr (key A n c) (.inl ⟨A, n, c, none, 0, 0, rfl, rfl⟩)
    cases hx with
    | nils => simp only [nilAv, Option.some.injEq] at h; subst h; exact done none 0 0 rfl (rel_bool _)
    | dat d' _ hdr =>
      cases d' <;> simp only [nilAv, reduceCtorEq, Option.some.injEq] at h
      obtain ⟨A, n, c, e1, e2⟩ := dat _ hdr h
      exact done A n c e1 e2
    | ownNil id e' =>
      simp only [nilAv, Option.some.injEq] at h
      obtain ⟨A, n, c, e1, e2⟩ := dat _ (VRel.asDat (P := P) (X := X) (.ownNil id e')) h
      exact done A n c e1 e2
    | own id e' xs b' c cur i he hb hl hh hc hm hs hx' hr hp =>
      simp only [nilAv, Option.some.injEq] at h
      obtain ⟨A, n, c, e1, e2⟩ := dat _ (VRel.asDat (.own id e' xs b' c cur i he hb hl hh hc hm hs hx' hr hp)) h
      exact done A n c e1 e2
    | sl o e' xs n ti he ho hl hbo hxl hr => simp only [nilAv, Option.some.injEq] at h; subst h; exact done _ _ _ rfl (rel_bool _)
    | emp A => simp only [nilAv, Option.some.injEq] at h; subst h; exact done A 0 0 rfl (.anyb _)
    | _ => simp [nilAv] at h
  · rename_i a b
    injection h with h
    subst h
    have e1 := bool_rel hx
    have e2 := bool_rel hy
    refine fin (a == b) (rel_bool _) (fun w' => ?_) (.inr (.inl ⟨a, b, e1, e2⟩))
    rw [e1, e2]
    have hq : ∀ n : Nat, (Op.equalIn (n + 1) t (.bool a) (.bool b)).run P w' = .ok (a == b) w' := fun n => by simp [Op.equalIn, run_underlying hd]
    simp only [Op.equal, Op.maxDepth, hq 9999]
  · rename_i e
    injection h with h
    subst h
    cases hx with
    | nilp => cases hy with
      | nilp =>
        refine fin true (rel_bool _) (fun w' => ?_) (.inr (.inr ⟨_, _, rfl, rfl⟩))
        have hq : ∀ n : Nat, (Op.equalIn (n + 1) t (.pointer none) (.pointer none)).run P w' = .ok true w' := fun n => by simp [Op.equalIn, run_underlying hd]
        simp only [Op.equal, Op.maxDepth, hq 9999]
  · rename_i e o k
    injection h with h
    subst h
    cases hx with
    | ptr => cases hy with
      | nilp =>
        refine fin false (rel_bool _) (fun w' => ?_) (.inr (.inr ⟨_, _, rfl, rfl⟩))
        have hq : ∀ n : Nat, (Op.equalIn (n + 1) t (.pointer (some ⟨X.m o, X.bo o + k, none⟩)) (.pointer none)).run P w' = .ok false w' := fun n => by simp [Op.equalIn, run_underlying hd]
        simp only [Op.equal, Op.maxDepth, hq 9999]
  · rename_i e o k
    injection h with h
    subst h
    cases hx with
    | nilp => cases hy with
      | ptr =>
        refine fin false (rel_bool _) (fun w' => ?_) (.inr (.inr ⟨_, _, rfl, rfl⟩))
        have hq : ∀ n : Nat, (Op.equalIn (n + 1) t (.pointer none) (.pointer (some ⟨X.m o, X.bo o + k, none⟩))).run P w' = .ok false w' := fun n => by simp [Op.equalIn, run_underlying hd]
        simp only [Op.equal, Op.maxDepth, hq 9999]
  · rename_i e o k o' k'
    split at h
    · rename_i i hi
      split at h
      · rename_i hok
        obtain ⟨_, rfl, rfl⟩ := hok
        injection h with h
        subst h
        cases hx with
        | ptr _ _ ho => cases hy with
          | ptr =>
            refine fin true (rel_bool _) (fun w' => ?_) (.inr (.inr ⟨_, _, rfl, rfl⟩))
            have hq : ∀ n : Nat, (Op.equalIn (n + 1) t (.pointer (some ⟨X.m o, X.bo o + k, none⟩)) (.pointer (some ⟨X.m o, X.bo o + k, none⟩))).run P w' = .ok true w' := fun n => by simp [Op.equalIn, run_underlying hd, run_sizeOf hi, run_sameAddr_same]
            simp only [Op.equal, Op.maxDepth, hq 9999]
      · cases h
    · cases h
  · cases h
theorem conv_sound {P : Program} {w : World} {X : Cx} {d d' : TypeDesc} {t t' : TypeId} {x av : AV} {u : Value} (hd : P.underlying t = some d) (hd' : P.underlying t' = some d') (h : convAv d d' x = some av) (hx : VRel P w X x u) :
    ∃ r, VRel P w X av r ∧ ∀ w', (convert t t' u).run P w' = .ok r w' := by
  unfold convAv at h
  split at h
  · rename_i k k' n
    injection h with h
    subst h
    rw [int_rel hx]
    refine ⟨_, rel_int _ _, fun w' => ?_⟩
    simp [convert, run_underlying hd, run_underlying hd', Conv.intToInt]
  · rename_i s
    injection h with h
    subst h
    rw [str_rel hx]
    refine ⟨_, rel_str _, fun w' => ?_⟩
    simp [convert, run_underlying hd, run_underlying hd']
  · cases h
theorem aval_sound {P : Program} {w0 : World} {X0 : Cx} {w : World} {X : Cx} {s : St} {a : Act} {o : Oper} {av : AV} (hs : SRel P w0 X0 w X s a) (h : aval P s o = some av) :
    ∃ v, VRel P w X av v ∧ Yld P w a o v := by
  have hev := hs.ev
  unfold aval at h
  unfold Yld
  split at h
  · rename_i x ho
    injection h with h
    subst h
    exact ⟨a.eval x, hev x, fun w' _ => by simp [execOp, ho]⟩
  · rename_i x ho
    injection h with h
    subst h
    exact ⟨a.eval x, hev x, fun w' _ => by simp [execOp, ho]⟩
  · rename_i c x y ho
    split at h
    · rename_i t hc
      injection h with h
      subst h
      have hcv := hev c
      rw [hc] at hcv
      exact ⟨_, pick_rel t (hev x) (hev y), fun w' _ => by simp [execOp, ho, bool_rel hcv, asBool]⟩
    · cases h
  · rename_i x ho
    split at h
    · rename_i o k hx
      injection h with h
      subst h
      have hv := hev x
      rw [hx] at hv
      refine ⟨a.eval x, hv, fun w' _ => ?_⟩
      cases hv' : a.eval x <;> rw [hv'] at hv <;> cases hv
      simp [execOp, ho, hv']
    · rename_i c hx
      injection h with h
      subst h
      have hv := hev x
      rw [hx] at hv
      refine ⟨a.eval x, hv, fun w' _ => ?_⟩
      cases hv' : a.eval x <;> rw [hv'] at hv <;> cases hv
      simp [execOp, ho, hv']
    · cases h
  · rename_i t x f ho
    split at h
    · rename_i d hd
      obtain ⟨r, h1, h2⟩ := fieldAddr_sound hd h (hev x)
      exact ⟨r, h1, fun w' _ => by simp [execOp, ho, h2]⟩
    · cases h
  · rename_i t x f ho
    split at h
    · rename_i d hd
      obtain ⟨r, h1, h2⟩ := field_sound hd h (hev x)
      exact ⟨r, h1, fun w' _ => by simp [execOp, ho, h2]⟩
    · cases h
  · rename_i t x ho
    split at h
    · rename_i o' k hx
      have hv := hev x
      rw [hx] at hv
      split at h
      · rename_i T c0 cs0 hcs
        generalize hcse : c0 :: cs0 = cs at h hcs
        obtain ⟨vs, hh, ⟨hsz, _⟩, hc⟩ := hs.hp.box _ _ _ hcs (by rw [← hcse]; simp)
        obtain ⟨v, h1, h2⟩ := load_sound (P := P) (w := w) (X := X) (ad := ⟨X.m o', X.bo o' + k, none⟩) h (fun i c hi => by
          rw [List.getElem?_drop] at hi
          have hlt : X.bo o' + (k + i) < vs.size := Nat.lt_of_lt_of_le (Nat.add_lt_add_left (List.getElem?_eq_some_iff.1 hi).1 _) hsz
          refine ⟨vs[X.bo o' + (k + i)], ?_, hc _ _ _ hi (Array.getElem?_eq_getElem hlt)⟩
          have hadd : (⟨X.m o', X.bo o' + k, none⟩ : Addr).add i = ⟨X.m o', X.bo o' + (k + i), none⟩ := by rw [← Nat.add_assoc]; unfold Addr.add; split <;> simp_all
          rw [hadd, cell_of_row w _ _ vs T (0, 0) hh, Array.getElem?_eq_getElem hlt])
        refine ⟨v, h1, fun w' hb => ?_⟩
        cases hv' : a.eval x <;> rw [hv'] at hv <;> cases hv
        simp [execOp, ho, hv', Instr.loadAt, Instr.sureAddr, h2 w' hb]
      · cases h
    · rename_i c hx
      have hv := hev x
      rw [hx] at hv
      cases hv' : a.eval x <;> rw [hv'] at hv <;> cases hv
      rename_i ad hcell
      obtain ⟨v, h1, h2⟩ := load_sound (P := P) (w := w) (X := X) (ad := ad) h (fun i c' hi => by
        rw [List.getElem?_map, Option.map_eq_some_iff] at hi
        obtain ⟨d, hd, rfl⟩ := hi
        obtain ⟨v, _, h2, h3⟩ := hcell _ _ hd
        exact ⟨v, h2, .dat _ _ h3⟩)
      exact ⟨v, h1, fun w' hb => by simp [execOp, ho, hv', Instr.loadAt, Instr.sureAddr, h2 w' hb]⟩
    · cases h
  · rename_i t x i ho
    split at h
    · rename_i d hd
      obtain ⟨r, h1, h2⟩ := indexAddr_sound hd h (hev x) (hev i)
      exact ⟨r, h1, fun w' _ => by simp [execOp, ho, h2]⟩
    · cases h
  · rename_i t x i ho
    split at h
    · rename_i d hd
      obtain ⟨r, h1, h2⟩ := index_sound hd h (hev x) (hev i)
      exact ⟨r, h1, fun w' _ => by simp [execOp, ho, h2]⟩
    · cases h
  · rename_i op t x y t' ho
    split at h
    · rename_i v _ hb
      injection h with h
      subst h
      obtain ⟨r, h1, h2⟩ := bin_sound (t := t) x y hb (hev x) (hev y)
      refine ⟨r, h1, fun w' _ => ?_⟩
      have h3 := h2 w'
      simp only [execOp, ho]
      rw [Sem.run_bind, h3]
      rfl
    · split at h
      · rename_i d hd
        obtain ⟨b, h1, _, h2, h3, _⟩ := eq_sound (t := t) hd h (hev x) (hev y)
        refine ⟨_, h1, fun w' _ => ?_⟩
        simp only [execOp, ho]
        rw [Sem.run_bind, Sem.run_bind, h2 _ x y w', Result.andThen_ok, h3 w']
        rfl
      · cases h
    · split at h
      · rename_i d hd
        rw [Option.bind_eq_some_iff] at h
        obtain ⟨av0, h, hn⟩ := h
        obtain ⟨b, h1, _, h2, _, h3⟩ := eq_sound (t := t) hd h (hev x) (hev y)
        refine ⟨.bool (!b), ?_, fun w' _ => ?_⟩
        · cases h1 with
          | dat _ _ hdr => cases hdr; simp only [notAv, Option.some.injEq] at hn; subst hn; exact rel_bool _
          | anyb => simp only [notAv, Option.some.injEq] at hn; subst hn; exact .anyb _
          | top => simp [notAv] at hn
        · simp only [execOp, ho]
          rw [Sem.run_bind, Sem.run_bind, h2 _ x y w', Result.andThen_ok, h3 w']
          rfl
      · cases h
    · cases h
  · rename_i t x ho
    split at h
    · rename_i b hx
      injection h with h
      subst h
      have hv := hev x
      rw [hx] at hv
      exact ⟨_, rel_bool _, fun w' _ => by simp [execOp, ho, bool_rel hv, Op.unary]⟩
    · rename_i hx
      injection h with h
      subst h
      have hv := hev x
      rw [hx] at hv
      generalize hxe : a.eval x = xv at hv
      cases hv with
      | anyb b => exact ⟨.bool (!b), .anyb _, fun w' _ => by simp [execOp, ho, hxe, Op.unary]⟩
    · cases h
  · rename_i t t' x ho
    split at h
    · rename_i d d' hd hd'
      obtain ⟨r, h1, h2⟩ := conv_sound hd hd' h (hev x)
      exact ⟨r, h1, fun w' _ => by simp [execOp, ho, h2]⟩
    · cases h
  · rename_i t x lo hi ho
    split at h
    · rename_i d hd
      obtain ⟨r, h1, h2⟩ := slice_sound hev hd h
      exact ⟨r, h1, fun w' _ => by simp [execOp, ho, h2]⟩
    · cases h
  · rename_i x i ho
    split at h
    · rename_i vs hx
      have hv := hev x
      rw [hx] at hv
      cases hv' : a.eval x <;> rw [hv'] at hv <;> cases hv
      rename_i us hsz hc
      have hlt : i < us.size := by rw [hsz]; exact (List.getElem?_eq_some_iff.1 h).1
      exact ⟨us[i], hc _ _ _ h (Array.getElem?_eq_getElem hlt), fun w' _ => by simp [execOp, ho, hv', Instr.extract, Array.getElem?_eq_getElem hlt]⟩
    · cases h
  · rename_i f first caps ho
    cases hz : first.size == 0 with
    | false => rw [hz] at h; cases h
    | true =>
      rw [hz, cond_true, Option.some.injEq] at h
      subst h
      have hf : first = #[] := by simpa using hz
      subst hf
      refine ⟨.func (.func f) #[] (caps.map a.eval), .fn f _ _ (by simp) fun i c v hi hv => ?_, fun w' _ => ?_⟩
      · rw [List.getElem?_map, Option.map_eq_some_iff] at hi
        obtain ⟨x, hx, rfl⟩ := hi
        rw [Array.getElem?_map, ← Array.getElem?_toList, hx] at hv
        simp only [Option.map_some, Option.some.injEq] at hv
        subst hv
        exact hev x
      · simp [execOp, ho, Instr.makeFunc]
  · rename_i args tys ho
    split at h
    · rename_i x t hargs htys
      have hargs' : args = #[x] := by simpa using congrArg List.toArray hargs
      have htys' : tys = #[t] := by simpa using congrArg List.toArray htys
      subst hargs' htys'
      split at h
      · rename_i d hd
        obtain ⟨r, h1, h2⟩ := len_sound (ty := o.type) hd h (hev x)
        exact ⟨r, h1, fun w' _ => by simp [execOp, ho, resolve, invoke, builtin, h2]⟩
      · cases h
    · cases h
  · cases h
end Go.Proofs.YtdfcjodkmjofgaaGreat
