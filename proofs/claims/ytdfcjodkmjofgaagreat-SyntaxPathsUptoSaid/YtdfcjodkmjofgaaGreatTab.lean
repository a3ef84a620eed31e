/-
  The types' table; words, parts and nodes as data.
-/
import Derived.Test.YtdfcjodkmjofgaaGreatSym4
import Derived.Test.YtdfcjodkmjofgaaGreatProg
namespace Go.Proofs.YtdfcjodkmjofgaaGreat
open Go.RowKit

def tabIds : List TypeId := [3, 4, 5, 9, 22, 23, 24, 25, 26, 28, 31, 40, 52, 54, 56, 58, 63, 67, 70, 81, 34, 21, 136, 115]
def tabL : List (TypeId × SD × TI) := [
  (3, .int .i64, ⟨1, 8, some [.dat (.int .i64 0)]⟩),
  (4, .bool, ⟨1, 1, some [.dat (.bool false)]⟩),
  (5, .int .u8, ⟨1, 1, some [.dat (.int .u8 0)]⟩),
  (9, .str, ⟨1, 16, some [.dat (.str [])]⟩),
  (22, .slice 58, ⟨1, 24, some [.nils]⟩),
  (23, .slice 56, ⟨1, 24, some [.nils]⟩),
  (24, .slice 67, ⟨1, 24, some [.nils]⟩),
  (25, .slice 28, ⟨1, 24, some [.nils]⟩),
  (26, .slice 70, ⟨1, 24, some [.nils]⟩),
  (28, .struct [(3, 0), (3, 1), (9, 2), (4, 3), (22, 4), (23, 5), (24, 6), (25, 7), (26, 8)], ⟨9, 160, some [.dat (.int .i64 0), .dat (.int .i64 0), .dat (.str []), .dat (.bool false), .nils, .nils, .nils, .nils, .nils]⟩),
  (31, .int .i64, ⟨1, 8, some [.dat (.int .i64 0)]⟩),
  (40, .slice 3, ⟨1, 24, some [.nils]⟩),
  (52, .slice 9, ⟨1, 24, some [.nils]⟩),
  (54, .slice 63, ⟨1, 24, some [.nils]⟩),
  (56, .struct [(3, 0), (54, 1)], ⟨2, 32, some [.dat (.int .i64 0), .nils]⟩),
  (58, .struct [(3, 0), (9, 1), (56, 2)], ⟨4, 56, some [.dat (.int .i64 0), .dat (.str []), .dat (.int .i64 0), .nils]⟩),
  (63, .struct [(3, 0), (9, 1), (3, 2), (4, 3), (54, 4)], ⟨5, 64, some [.dat (.int .i64 0), .dat (.str []), .dat (.int .i64 0), .dat (.bool false), .nils]⟩),
  (67, .struct [(3, 0), (3, 1), (3, 2), (56, 3)], ⟨5, 56, some [.dat (.int .i64 0), .dat (.int .i64 0), .dat (.int .i64 0), .dat (.int .i64 0), .nils]⟩),
  (70, .struct [(23, 0), (25, 1)], ⟨2, 48, some [.nils, .nils]⟩),
  (81, .other, ⟨1, 8, some [.top]⟩),
  (34, .int .u16, ⟨1, 2, some [.dat (.int .u16 0)]⟩),
  (21, .int .i32, ⟨1, 4, some [.dat (.int .i32 0)]⟩),
  (136, .int .i64, ⟨1, 8, some [.dat (.int .i64 0)]⟩),
  (115, .struct [(4, 0), (4, 1), (4, 2), (4, 3), (4, 4), (4, 5), (4, 6)], ⟨7, 7, some [.dat (.bool false), .dat (.bool false), .dat (.bool false), .dat (.bool false), .dat (.bool false), .dat (.bool false), .dat (.bool false)]⟩)]
def VT : View := View.tab tabL
theorem VT_ok : VT.OK Tryz.prog := View.tab_ok (ts := tabIds) (by kernel_rfl)

inductive PartD where
  | mk (kind : Int) (text : List UInt8) (op : Int) (colon : Bool) (parts : List PartD)
namespace PartD
def kind : PartD → Int | mk k _ _ _ _ => k
def text : PartD → List UInt8 | mk _ t _ _ _ => t
def op : PartD → Int | mk _ _ o _ _ => o
def colon : PartD → Bool | mk _ _ _ c _ => c
def parts : PartD → List PartD | mk _ _ _ _ p => p
end PartD
mutual
def PartD.cells : PartD → List Dat
  | .mk k t o c p => [.int .i64 k, .str t, .int .i64 o, .bool c, .list (PartD.cellsL p)]
def PartD.cellsL : List PartD → List (List Dat)
  | [] => []
  | x :: l => x.cells :: PartD.cellsL l
end
theorem PartD.cells_eq (x : PartD) : x.cells = [.int .i64 x.kind, .str x.text, .int .i64 x.op, .bool x.colon, .list (PartD.cellsL x.parts)] := by cases x; rfl
theorem PartD.cellsL_map (l : List PartD) : PartD.cellsL l = l.map PartD.cells := by
  induction l with
  | nil => rfl
  | cons x l ih => simp [PartD.cellsL, ih]
theorem PartD.cellsL_len (l : List PartD) : (PartD.cellsL l).length = l.length := by rw [PartD.cellsL_map]; simp
theorem PartD.cellsL_get {l : List PartD} {i : Nat} {x : PartD} (h : l[i]? = some x) : (PartD.cellsL l)[i]? = some x.cells := by rw [PartD.cellsL_map]; simp [h]
mutual
def PartD.sz : PartD → Nat
  | .mk _ t _ _ p => 1 + t.length + PartD.szL p
def PartD.szL : List PartD → Nat
  | [] => 0
  | x :: l => x.sz + PartD.szL l
end
theorem PartD.sz_mem {l : List PartD} {i : Nat} {x : PartD} (h : l[i]? = some x) : x.sz ≤ PartD.szL l := by
  induction l generalizing i with
  | nil => simp at h
  | cons y l ih =>
    cases i with
    | zero => simp at h; subst h; simp [PartD.szL]
    | succ i => simp at h; have := ih h; simp [PartD.szL]; omega
theorem PartD.sz_parts (x : PartD) : PartD.szL x.parts + x.text.length + 1 = x.sz := by cases x; simp [PartD.sz, PartD.parts, PartD.text]; omega
mutual
def PartD.same : PartD → PartD → Bool
  | .mk k t o c p, .mk k' t' o' c' p' => k == k' && t == t' && o == o' && c == c' && PartD.sameL p p'
def PartD.sameL : List PartD → List PartD → Bool
  | [], [] => true
  | a :: l, b :: m => PartD.same a b && PartD.sameL l m
  | _, _ => false
end
theorem PartD.same_eq (a b : PartD) : a.same b = (a.kind == b.kind && a.text == b.text && a.op == b.op && a.colon == b.colon && PartD.sameL a.parts b.parts) := by cases a; cases b; rfl
/-- Lists that are held against each other one by one. -/
theorem sameL_iff {α : Type} {f : α → α → Bool} {g : List α → List α → Bool} (h0 : g [] [] = true) (h1 : ∀ a l b m, g (a :: l) (b :: m) = (f a b && g l m)) (h2 : ∀ a l, g (a :: l) [] = false) (h3 : ∀ b m, g [] (b :: m) = false) :
    ∀ {l m : List α}, g l m = true ↔ l.length = m.length ∧ ∀ (i : Nat) (a b : α), l[i]? = some a → m[i]? = some b → f a b = true
  | [], [] => by simp [h0]
  | a :: l, [] => by simp [h2]
  | [], b :: m => by simp [h3]
  | a :: l, b :: m => by
    rw [h1, Bool.and_eq_true, sameL_iff h0 h1 h2 h3]
    constructor
    · rintro ⟨e1, e2, e3⟩
      refine ⟨by simp [e2], fun i x y hx hy => ?_⟩
      cases i with
      | zero => simp at hx hy; subst hx hy; exact e1
      | succ i => exact e3 i x y (by simpa using hx) (by simpa using hy)
    · rintro ⟨e1, e2⟩
      exact ⟨e2 0 a b rfl rfl, by simpa using e1, fun i x y hx hy => e2 (i + 1) x y (by simpa using hx) (by simpa using hy)⟩
theorem PartD.sameL_iff {l m : List PartD} : PartD.sameL l m = true ↔ l.length = m.length ∧ ∀ (i : Nat) (a b : PartD), l[i]? = some a → m[i]? = some b → a.same b = true :=
  Go.Proofs.YtdfcjodkmjofgaaGreat.sameL_iff (g := PartD.sameL) (by simp [PartD.sameL]) (fun a l b m => by simp [PartD.sameL]) (fun a l => by simp [PartD.sameL]) (fun b m => by simp [PartD.sameL])
structure WordD where
  pos : Int
  parts : List PartD
structure AssignD where
  pos : Int
  name : List UInt8
  vpos : Int
  parts : List PartD
structure RedirD where
  pos : Int
  fd : Int
  op : Int
  tpos : Int
  parts : List PartD
mutual
inductive NodeD where
  | mk (kind pos : Int) (name : List UInt8) (all : Bool) (assigns : List AssignD) (words : List WordD) (redirs : List RedirD) (kids : List NodeD) (items : List ItemD)
inductive ItemD where
  | mk (patterns : List WordD) (body : List NodeD)
end
def WordD.cells (x : WordD) : List Dat := [.int .i64 x.pos, .list (PartD.cellsL x.parts)]
def AssignD.cells (x : AssignD) : List Dat := [.int .i64 x.pos, .str x.name, .int .i64 x.vpos, .list (PartD.cellsL x.parts)]
def RedirD.cells (x : RedirD) : List Dat := [.int .i64 x.pos, .int .i64 x.fd, .int .i64 x.op, .int .i64 x.tpos, .list (PartD.cellsL x.parts)]
mutual
def NodeD.cells : NodeD → List Dat
  | .mk k p n a ag ws rs ks is => [.int .i64 k, .int .i64 p, .str n, .bool a, .list (ag.map AssignD.cells), .list (ws.map WordD.cells), .list (rs.map RedirD.cells), .list (NodeD.cellsL ks), .list (ItemD.cellsL is)]
def NodeD.cellsL : List NodeD → List (List Dat)
  | [] => []
  | x :: l => x.cells :: NodeD.cellsL l
def ItemD.cells : ItemD → List Dat
  | .mk ps b => [.list (ps.map WordD.cells), .list (NodeD.cellsL b)]
def ItemD.cellsL : List ItemD → List (List Dat)
  | [] => []
  | x :: l => x.cells :: ItemD.cellsL l
end
theorem NodeD.cellsL_map (l : List NodeD) : NodeD.cellsL l = l.map NodeD.cells := by
  induction l with
  | nil => rfl
  | cons x l ih => simp [NodeD.cellsL, ih]
theorem NodeD.cellsL_len (l : List NodeD) : (NodeD.cellsL l).length = l.length := by rw [NodeD.cellsL_map]; simp
theorem NodeD.cellsL_get {l : List NodeD} {i : Nat} {x : NodeD} (h : l[i]? = some x) : (NodeD.cellsL l)[i]? = some x.cells := by rw [NodeD.cellsL_map]; simp [h]
theorem ItemD.cellsL_map (l : List ItemD) : ItemD.cellsL l = l.map ItemD.cells := by
  induction l with
  | nil => rfl
  | cons x l ih => simp [ItemD.cellsL, ih]
theorem ItemD.cellsL_len (l : List ItemD) : (ItemD.cellsL l).length = l.length := by rw [ItemD.cellsL_map]; simp
theorem ItemD.cellsL_get {l : List ItemD} {i : Nat} {x : ItemD} (h : l[i]? = some x) : (ItemD.cellsL l)[i]? = some x.cells := by rw [ItemD.cellsL_map]; simp [h]
theorem NodeD.cells_len (x : NodeD) : x.cells.length = 9 := by cases x; rfl
theorem ItemD.cells_len (x : ItemD) : x.cells.length = 2 := by cases x; rfl
def WordD.sz (x : WordD) : Nat := 1 + PartD.szL x.parts
def AssignD.sz (x : AssignD) : Nat := 1 + x.name.length + PartD.szL x.parts
def RedirD.sz (x : RedirD) : Nat := 1 + PartD.szL x.parts
def szBy {α : Type} (f : α → Nat) : List α → Nat
  | [] => 0
  | x :: l => f x + szBy f l
mutual
def NodeD.sz : NodeD → Nat
  | .mk _ _ n _ ag ws rs ks is => 1 + n.length + szBy AssignD.sz ag + szBy WordD.sz ws + szBy RedirD.sz rs + NodeD.szL ks + ItemD.szL is
def NodeD.szL : List NodeD → Nat
  | [] => 0
  | x :: l => x.sz + NodeD.szL l
def ItemD.sz : ItemD → Nat
  | .mk ps b => 1 + szBy WordD.sz ps + NodeD.szL b
def ItemD.szL : List ItemD → Nat
  | [] => 0
  | x :: l => x.sz + ItemD.szL l
end
theorem szBy_mem {α : Type} {f : α → Nat} {l : List α} {i : Nat} {x : α} (h : l[i]? = some x) : f x ≤ szBy f l := by
  induction l generalizing i with
  | nil => simp at h
  | cons y l ih =>
    cases i with
    | zero => simp at h; subst h; simp [szBy]
    | succ i => simp at h; have := ih h; simp [szBy]; omega
theorem NodeD.szL_by (l : List NodeD) : NodeD.szL l = szBy NodeD.sz l := by
  induction l with
  | nil => rfl
  | cons x l ih => simp [NodeD.szL, szBy, ih]
theorem ItemD.szL_by (l : List ItemD) : ItemD.szL l = szBy ItemD.sz l := by
  induction l with
  | nil => rfl
  | cons x l ih => simp [ItemD.szL, szBy, ih]
theorem szBy_len {α : Type} {f : α → Nat} (hf : ∀ x, 1 ≤ f x) (l : List α) : l.length ≤ szBy f l := by
  induction l with
  | nil => simp
  | cons x l ih => have := hf x; simp [szBy]; omega
theorem NodeD.sz_pos (x : NodeD) : 1 ≤ x.sz := by cases x; simp [NodeD.sz]; omega
theorem ItemD.sz_pos (x : ItemD) : 1 ≤ x.sz := by cases x; simp [ItemD.sz]; omega
theorem WordD.sz_pos (x : WordD) : 1 ≤ x.sz := by simp [WordD.sz]
/-- Two lists held against each other. -/
def sameBy {α : Type} (f : α → α → Bool) : List α → List α → Bool
  | [], [] => true
  | a :: l, b :: m => f a b && sameBy f l m
  | _, _ => false
def WordD.same (a b : WordD) : Bool := PartD.sameL a.parts b.parts
def AssignD.same (a b : AssignD) : Bool := a.name == b.name && PartD.sameL a.parts b.parts
def RedirD.same (a b : RedirD) : Bool := a.fd == b.fd && a.op == b.op && PartD.sameL a.parts b.parts
mutual
def NodeD.same : NodeD → NodeD → Bool
  | .mk k _ n a ag ws rs ks is, .mk k' _ n' a' ag' ws' rs' ks' is' => k == k' && n == n' && a == a' && sameBy AssignD.same ag ag' && sameBy WordD.same ws ws' && sameBy RedirD.same rs rs' && NodeD.sameL ks ks' && ItemD.sameL is is'
def NodeD.sameL : List NodeD → List NodeD → Bool
  | [], [] => true
  | a :: l, b :: m => NodeD.same a b && NodeD.sameL l m
  | _, _ => false
def ItemD.same : ItemD → ItemD → Bool
  | .mk ps b, .mk ps' b' => sameBy WordD.same ps ps' && NodeD.sameL b b'
def ItemD.sameL : List ItemD → List ItemD → Bool
  | [], [] => true
  | a :: l, b :: m => ItemD.same a b && ItemD.sameL l m
  | _, _ => false
end
theorem sameBy_iff {α : Type} {f : α → α → Bool} {l m : List α} : sameBy f l m = true ↔ l.length = m.length ∧ ∀ (i : Nat) (a b : α), l[i]? = some a → m[i]? = some b → f a b = true :=
  Go.Proofs.YtdfcjodkmjofgaaGreat.sameL_iff (g := sameBy f) (by simp [sameBy]) (fun a l b m => by simp [sameBy]) (fun a l => by simp [sameBy]) (fun b m => by simp [sameBy])
theorem NodeD.sameL_iff {l m : List NodeD} : NodeD.sameL l m = true ↔ l.length = m.length ∧ ∀ (i : Nat) (a b : NodeD), l[i]? = some a → m[i]? = some b → a.same b = true :=
  Go.Proofs.YtdfcjodkmjofgaaGreat.sameL_iff (g := NodeD.sameL) (by simp [NodeD.sameL]) (fun a l b m => by simp [NodeD.sameL]) (fun a l => by simp [NodeD.sameL]) (fun b m => by simp [NodeD.sameL])
theorem ItemD.sameL_iff {l m : List ItemD} : ItemD.sameL l m = true ↔ l.length = m.length ∧ ∀ (i : Nat) (a b : ItemD), l[i]? = some a → m[i]? = some b → a.same b = true :=
  Go.Proofs.YtdfcjodkmjofgaaGreat.sameL_iff (g := ItemD.sameL) (by simp [ItemD.sameL]) (fun a l b m => by simp [ItemD.sameL]) (fun a l => by simp [ItemD.sameL]) (fun b m => by simp [ItemD.sameL])
def ItemD.pats : ItemD → List WordD
  | .mk p _ => p
def ItemD.body : ItemD → List NodeD
  | .mk _ b => b
def NodeD.kidsL : NodeD → List NodeD
  | .mk _ _ _ _ _ _ _ d is => d ++ is.flatMap ItemD.body
def AssignD.value (a : AssignD) : WordD := ⟨a.vpos, a.parts⟩
def RedirD.target (a : RedirD) : WordD := ⟨a.tpos, a.parts⟩
def NodeD.wordsL : NodeD → List WordD
  | .mk _ _ _ _ g w r _ is => g.map AssignD.value ++ w ++ r.map RedirD.target ++ is.flatMap ItemD.pats
theorem take_flat {α β : Type} (f : α → List β) (g : α → Nat) (h : ∀ x, (f x).length ≤ g x) : ∀ (l : List α) (i : Nat), ((l.take i).flatMap f).length ≤ szBy g l
  | [], i => by simp
  | x :: l, 0 => by simp
  | x :: l, i + 1 => by
    have h1 := take_flat f g h l i
    have h2 := h x
    simp only [List.take_succ_cons, List.flatMap_cons, List.length_append, szBy]
    omega
theorem body_len (x : ItemD) : x.body.length ≤ x.sz := by
  cases x with
  | mk p b =>
    have := szBy_len NodeD.sz_pos b
    rw [← NodeD.szL_by] at this
    simp only [ItemD.body, ItemD.sz]
    omega
theorem pats_len (x : ItemD) : x.pats.length ≤ x.sz := by
  cases x with
  | mk p b =>
    have := szBy_len WordD.sz_pos p
    simp only [ItemD.pats, ItemD.sz]
    omega
theorem AssignD.sz_pos (x : AssignD) : 1 ≤ x.sz := by simp [AssignD.sz]; omega
theorem RedirD.sz_pos (x : RedirD) : 1 ≤ x.sz := by simp [RedirD.sz]
def PartD.av (x : PartD) : AV := .agg (x.cells.map .dat)
def WordD.av (x : WordD) : AV := .agg (x.cells.map .dat)
def AssignD.av (x : AssignD) : AV := .agg (x.cells.map .dat)
def RedirD.av (x : RedirD) : AV := .agg (x.cells.map .dat)
def ItemD.av (x : ItemD) : AV := .agg (x.cells.map .dat)
def NodeD.av (x : NodeD) : AV := .agg (x.cells.map .dat)
/-- Slots of which only some are told. -/
def slotsOf (n : Nat) (l : List (Nat × AV)) : List AV := l.foldl (fun s x => s.set x.1 x.2) (List.replicate n .top)
theorem wrap_id {n : Int} (h0 : -9223372036854775808 ≤ n) (h1 : n ≤ 9223372036854775807) : IntKind.i64.wrap n = n := by
  simp only [IntKind.wrap, IntKind.signed, IntKind.bits]
  simp
  omega
theorem inc_id {i m : Nat} (h : i < m) (hm : m ≤ maxLen) : arI .add .i64 (Int.ofNat i) 1 = Int.ofNat (i + 1) := by
  unfold maxLen at hm
  show IntKind.i64.wrap ((i : Int) + 1) = ((i + 1 : Nat) : Int)
  rw [wrap_id (by omega) (by omega)]
  omega
theorem real_list {xs : List (List Dat)} (h : AV.real (.dat (.list xs))) : xs.length ≤ maxLen := Dat.real_len (AV.real_dat h)
end Go.Proofs.YtdfcjodkmjofgaaGreat
