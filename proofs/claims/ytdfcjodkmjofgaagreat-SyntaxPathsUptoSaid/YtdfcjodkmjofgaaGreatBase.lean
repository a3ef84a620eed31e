/-
  The pure data of this program's trees (parts, words, nodes), and what it means that a value in memory reads as such a datum, its memory lying in allowed blocks.
-/
import Derived.Test.YtdfcjodkmjofgaaGreatProg
import Derived.WalkKit
import Derived.WalkSpells
import Derived.WalkLawsBesides
import Derived.ArgAppend
import Derived.Maps.AppendAt
import Derived.Lib.Hide
namespace Go.Proofs.YtdfcjodkmjofgaaGreat
open Go.RowKit

/-- A fact that the walk's simp does not look into: 'replace h := Fx.mk h'; 'h.out'. -/
structure Fx (p : Prop) : Prop where mk :: (out : p)

/-! ### The data -/
inductive JPart where
  | mk (kind : Int) (text : ByteArray) (op : Int) (colon : Bool) (parts : List JPart)
structure JWord where
  pos : Int
  parts : List JPart
structure JAssign where
  pos : Int
  name : ByteArray
  value : JWord
structure JRedir where
  pos : Int
  fd : Int
  op : Int
  target : JWord
mutual
inductive JNode where
  | mk (kind pos : Int) (name : ByteArray) (all : Bool) (assigns : List JAssign) (words : List JWord) (redirs : List JRedir) (kids : List JNode) (items : List JItem)
inductive JItem where
  | mk (patterns : List JWord) (body : List JNode)
end
namespace JPart
def kind : JPart → Int | mk k _ _ _ _ => k
def text : JPart → ByteArray | mk _ t _ _ _ => t
def op : JPart → Int | mk _ _ o _ _ => o
def colon : JPart → Bool | mk _ _ _ c _ => c
def parts : JPart → List JPart | mk _ _ _ _ p => p
end JPart
namespace JNode
def kind : JNode → Int | mk k _ _ _ _ _ _ _ _ => k
def pos : JNode → Int | mk _ p _ _ _ _ _ _ _ => p
def name : JNode → ByteArray | mk _ _ n _ _ _ _ _ _ => n
def all : JNode → Bool | mk _ _ _ a _ _ _ _ _ => a
def assigns : JNode → List JAssign | mk _ _ _ _ l _ _ _ _ => l
def words : JNode → List JWord | mk _ _ _ _ _ l _ _ _ => l
def redirs : JNode → List JRedir | mk _ _ _ _ _ _ l _ _ => l
def kids : JNode → List JNode | mk _ _ _ _ _ _ _ l _ => l
def items : JNode → List JItem | mk _ _ _ _ _ _ _ _ l => l
end JNode
namespace JItem
def patterns : JItem → List JWord | mk p _ => p
def body : JItem → List JNode | mk _ b => b
end JItem

/-! ### Rows: a slice value whose elements' cells lie in allowed blocks -/
/-- The slice v has the elements xs (sz cells each, each told by R), in a block that S allows. -/
def Row {α : Type} (sz : Nat) (R : α → List Value → Prop) (w : World) (S : Nat → Prop) (v : Value) (xs : List α) : Prop :=
  ∃ (A : Option Addr) (c : Nat), v = .slice A xs.length c ∧ xs.length ≤ c ∧ (c ≤ 9223372036854775807 ∧ (A = none → c = 0)) ∧
    ∃ cs : Nat → List Value, (∀ j x, xs[j]? = some x → (cs j).length = sz ∧ R x (cs j)) ∧
      (0 < xs.length → ∃ ad, A = some ad ∧ S ad.block ∧ ∀ j i u, j < xs.length → (cs j)[i]? = some u → w.cell? (ad.add (j * sz + i)) = some u)

mutual
inductive RPart (w : World) (S : Nat → Prop) : JPart → List Value → Prop
  | mk (k : Int) (t : ByteArray) (o : Int) (c : Bool) (ps : List JPart) (v : Value) (h : RParts w S ps v) :
      RPart w S (.mk k t o c ps) [.int .i64 k, .string t, .int .i64 o, .bool c, v]
inductive RParts (w : World) (S : Nat → Prop) : List JPart → Value → Prop
  | mk (xs : List JPart) (A : Option Addr) (c : Nat) (cs : Nat → List Value) (hc : xs.length ≤ c) (hm : c ≤ 9223372036854775807 ∧ (A = none → c = 0))
      (hR : ∀ j x, xs[j]? = some x → RPart w S x (cs j))
      (hA : 0 < xs.length → ∃ ad, A = some ad ∧ S ad.block ∧ ∀ j i u, j < xs.length → (cs j)[i]? = some u → w.cell? (ad.add (j * 5 + i)) = some u) :
      RParts w S xs (.slice A xs.length c)
end
theorem RPart.len {w : World} {S : Nat → Prop} {x : JPart} {cs : List Value} (h : RPart w S x cs) : cs.length = 5 := by cases h; rfl
theorem RParts.row {w : World} {S : Nat → Prop} {xs : List JPart} {v : Value} : RParts w S xs v ↔ Row 5 (RPart w S) w S v xs := by
  constructor
  · intro h
    cases h with
    | mk _ A c cs hc hm hR hA => exact ⟨A, c, rfl, hc, hm, cs, fun j x hj => ⟨(hR j x hj).len, hR j x hj⟩, hA⟩
  · rintro ⟨A, c, rfl, hc, hm, cs, hR, hA⟩
    exact .mk xs A c cs hc hm (fun j x hj => (hR j x hj).2) hA

/-- A word's two cells. -/
def RWord (w : World) (S : Nat → Prop) (x : JWord) (cs : List Value) : Prop := ∃ v, cs = [.int .i64 x.pos, v] ∧ RParts w S x.parts v
def RAssign (w : World) (S : Nat → Prop) (x : JAssign) (cs : List Value) : Prop :=
  ∃ v, cs = [.int .i64 x.pos, .string x.name, .int .i64 x.value.pos, v] ∧ RParts w S x.value.parts v
def RRedir (w : World) (S : Nat → Prop) (x : JRedir) (cs : List Value) : Prop :=
  ∃ v, cs = [.int .i64 x.pos, .int .i64 x.fd, .int .i64 x.op, .int .i64 x.target.pos, v] ∧ RParts w S x.target.parts v
abbrev RWords (w : World) (S : Nat → Prop) (v : Value) (xs : List JWord) : Prop := Row 2 (RWord w S) w S v xs
abbrev RAssigns (w : World) (S : Nat → Prop) (v : Value) (xs : List JAssign) : Prop := Row 4 (RAssign w S) w S v xs
abbrev RRedirs (w : World) (S : Nat → Prop) (v : Value) (xs : List JRedir) : Prop := Row 5 (RRedir w S) w S v xs

mutual
inductive RNode (w : World) (S : Nat → Prop) : JNode → List Value → Prop
  | mk (kind pos : Int) (name : ByteArray) (all : Bool) (assigns : List JAssign) (words : List JWord) (redirs : List JRedir) (kids : List JNode) (items : List JItem)
      (va vw vr vk vi : Value) (ha : RAssigns w S va assigns) (hw : RWords w S vw words) (hr : RRedirs w S vr redirs) (hk : RNodes w S kids vk) (hi : RItems w S items vi) :
      RNode w S (.mk kind pos name all assigns words redirs kids items) [.int .i64 kind, .int .i64 pos, .string name, .bool all, va, vw, vr, vk, vi]
inductive RNodes (w : World) (S : Nat → Prop) : List JNode → Value → Prop
  | mk (xs : List JNode) (A : Option Addr) (c : Nat) (cs : Nat → List Value) (hc : xs.length ≤ c) (hm : c ≤ 9223372036854775807 ∧ (A = none → c = 0))
      (hR : ∀ j x, xs[j]? = some x → RNode w S x (cs j))
      (hA : 0 < xs.length → ∃ ad, A = some ad ∧ S ad.block ∧ ∀ j i u, j < xs.length → (cs j)[i]? = some u → w.cell? (ad.add (j * 9 + i)) = some u) :
      RNodes w S xs (.slice A xs.length c)
inductive RItem (w : World) (S : Nat → Prop) : JItem → List Value → Prop
  | mk (patterns : List JWord) (body : List JNode) (vp vb : Value) (hp : RWords w S vp patterns) (hb : RNodes w S body vb) : RItem w S (.mk patterns body) [vp, vb]
inductive RItems (w : World) (S : Nat → Prop) : List JItem → Value → Prop
  | mk (xs : List JItem) (A : Option Addr) (c : Nat) (cs : Nat → List Value) (hc : xs.length ≤ c) (hm : c ≤ 9223372036854775807 ∧ (A = none → c = 0))
      (hR : ∀ j x, xs[j]? = some x → RItem w S x (cs j))
      (hA : 0 < xs.length → ∃ ad, A = some ad ∧ S ad.block ∧ ∀ j i u, j < xs.length → (cs j)[i]? = some u → w.cell? (ad.add (j * 2 + i)) = some u) :
      RItems w S xs (.slice A xs.length c)
end
theorem RNode.len {w : World} {S : Nat → Prop} {x : JNode} {cs : List Value} (h : RNode w S x cs) : cs.length = 9 := by cases h; rfl
theorem RItem.len {w : World} {S : Nat → Prop} {x : JItem} {cs : List Value} (h : RItem w S x cs) : cs.length = 2 := by cases h; rfl
theorem RNodes.row {w : World} {S : Nat → Prop} {xs : List JNode} {v : Value} : RNodes w S xs v ↔ Row 9 (RNode w S) w S v xs := by
  constructor
  · intro h
    cases h with
    | mk _ A c cs hc hm hR hA => exact ⟨A, c, rfl, hc, hm, cs, fun j x hj => ⟨(hR j x hj).len, hR j x hj⟩, hA⟩
  · rintro ⟨A, c, rfl, hc, hm, cs, hR, hA⟩
    exact .mk xs A c cs hc hm (fun j x hj => (hR j x hj).2) hA
theorem RItems.row {w : World} {S : Nat → Prop} {xs : List JItem} {v : Value} : RItems w S xs v ↔ Row 2 (RItem w S) w S v xs := by
  constructor
  · intro h
    cases h with
    | mk _ A c cs hc hm hR hA => exact ⟨A, c, rfl, hc, hm, cs, fun j x hj => ⟨(hR j x hj).len, hR j x hj⟩, hA⟩
  · rintro ⟨A, c, rfl, hc, hm, cs, hR, hA⟩
    exact .mk xs A c cs hc hm (fun j x hj => (hR j x hj).2) hA

/-! ### Movers: what is allowed has not turned -/
/-- Every allowed block is allowed there too, and reads there as here. -/
def Mv (w : World) (S : Nat → Prop) (w' : World) (S' : Nat → Prop) : Prop := ∀ k, S k → S' k ∧ w'.heap[k]? = w.heap[k]?
theorem Mv.cell {w w' : World} {S S' : Nat → Prop} (h : Mv w S w' S') {a : Addr} (ha : S a.block) {u : Value} (hc : w.cell? a = some u) : w'.cell? a = some u :=
  (World.cell?_of_block (h _ ha).2).trans hc
theorem add_block (a : Addr) (n : Nat) : (a.add n).block = a.block := by unfold Addr.add; split <;> rfl
theorem Row.mv {α : Type} {sz : Nat} {R R' : α → List Value → Prop} {w w' : World} {S S' : Nat → Prop} {v : Value} {xs : List α} (h : Row sz R w S v xs) (hm : Mv w S w' S')
    (hR : ∀ x cs, x ∈ xs → R x cs → R' x cs) : Row sz R' w' S' v xs := by
  obtain ⟨A, c, rfl, hc, hb, cs, h1, h2⟩ := h
  refine ⟨A, c, rfl, hc, hb, cs, fun j x hj => ⟨(h1 j x hj).1, hR _ _ (List.mem_of_getElem? hj) (h1 j x hj).2⟩, fun h0 => ?_⟩
  obtain ⟨ad, e, hs, hcell⟩ := h2 h0
  exact ⟨ad, e, (hm _ hs).1, fun j i u hj hu => hm.cell (by rw [add_block]; exact hs) (hcell j i u hj hu)⟩
mutual
theorem RPart.mv {w w' : World} {S S' : Nat → Prop} (hm : Mv w S w' S') : {x : JPart} → {cs : List Value} → RPart w S x cs → RPart w' S' x cs
  | _, _, .mk k t o c ps v h => .mk k t o c ps v (RParts.mv hm h)
theorem RParts.mv {w w' : World} {S S' : Nat → Prop} (hm : Mv w S w' S') : {xs : List JPart} → {v : Value} → RParts w S xs v → RParts w' S' xs v
  | _, _, .mk xs A c cs hc hb hR hA => .mk xs A c cs hc hb (fun j x hj => RPart.mv hm (hR j x hj)) fun h0 => by
    obtain ⟨ad, e, hs, hcell⟩ := hA h0
    exact ⟨ad, e, (hm _ hs).1, fun j i u hj hu => hm.cell (by rw [add_block]; exact hs) (hcell j i u hj hu)⟩
end
theorem RWord.mv {w w' : World} {S S' : Nat → Prop} (hm : Mv w S w' S') {x : JWord} {cs : List Value} (h : RWord w S x cs) : RWord w' S' x cs := by
  obtain ⟨v, rfl, h⟩ := h
  exact ⟨v, rfl, h.mv hm⟩
theorem RAssign.mv {w w' : World} {S S' : Nat → Prop} (hm : Mv w S w' S') {x : JAssign} {cs : List Value} (h : RAssign w S x cs) : RAssign w' S' x cs := by
  obtain ⟨v, rfl, h⟩ := h
  exact ⟨v, rfl, h.mv hm⟩
theorem RRedir.mv {w w' : World} {S S' : Nat → Prop} (hm : Mv w S w' S') {x : JRedir} {cs : List Value} (h : RRedir w S x cs) : RRedir w' S' x cs := by
  obtain ⟨v, rfl, h⟩ := h
  exact ⟨v, rfl, h.mv hm⟩
theorem RWords.mv {w w' : World} {S S' : Nat → Prop} (hm : Mv w S w' S') {v : Value} {xs : List JWord} (h : RWords w S v xs) : RWords w' S' v xs := Row.mv h hm fun _ _ _ => RWord.mv hm
theorem RAssigns.mv {w w' : World} {S S' : Nat → Prop} (hm : Mv w S w' S') {v : Value} {xs : List JAssign} (h : RAssigns w S v xs) : RAssigns w' S' v xs := Row.mv h hm fun _ _ _ => RAssign.mv hm
theorem RRedirs.mv {w w' : World} {S S' : Nat → Prop} (hm : Mv w S w' S') {v : Value} {xs : List JRedir} (h : RRedirs w S v xs) : RRedirs w' S' v xs := Row.mv h hm fun _ _ _ => RRedir.mv hm
mutual
theorem RNode.mv {w w' : World} {S S' : Nat → Prop} (hm : Mv w S w' S') : {x : JNode} → {cs : List Value} → RNode w S x cs → RNode w' S' x cs
  | _, _, .mk k p n a la lw lr lk li va vw vr vk vi ha hw hr hk hi => .mk k p n a la lw lr lk li va vw vr vk vi (ha.mv hm) (hw.mv hm) (hr.mv hm) (RNodes.mv hm hk) (RItems.mv hm hi)
theorem RNodes.mv {w w' : World} {S S' : Nat → Prop} (hm : Mv w S w' S') : {xs : List JNode} → {v : Value} → RNodes w S xs v → RNodes w' S' xs v
  | _, _, .mk xs A c cs hc hb hR hA => .mk xs A c cs hc hb (fun j x hj => RNode.mv hm (hR j x hj)) fun h0 => by
    obtain ⟨ad, e, hs, hcell⟩ := hA h0
    exact ⟨ad, e, (hm _ hs).1, fun j i u hj hu => hm.cell (by rw [add_block]; exact hs) (hcell j i u hj hu)⟩
theorem RItem.mv {w w' : World} {S S' : Nat → Prop} (hm : Mv w S w' S') : {x : JItem} → {cs : List Value} → RItem w S x cs → RItem w' S' x cs
  | _, _, .mk p b vp vb hp hb => .mk p b vp vb (hp.mv hm) (RNodes.mv hm hb)
theorem RItems.mv {w w' : World} {S S' : Nat → Prop} (hm : Mv w S w' S') : {xs : List JItem} → {v : Value} → RItems w S xs v → RItems w' S' xs v
  | _, _, .mk xs A c cs hc hb hR hA => .mk xs A c cs hc hb (fun j x hj => RItem.mv hm (hR j x hj)) fun h0 => by
    obtain ⟨ad, e, hs, hcell⟩ := hA h0
    exact ⟨ad, e, (hm _ hs).1, fun j i u hj hu => hm.cell (by rw [add_block]; exact hs) (hcell j i u hj hu)⟩
end
/-- What lies below B reads on behind a call that leaves what is below B. -/
theorem Mv.below {w w' : World} {B : Nat} {S : Nat → Prop} (hb : Below B w w') (hS : ∀ k, S k → k < B) : Mv w S w' S := fun k hk => ⟨hk, hb.block k (hS k hk)⟩

end Go.Proofs.YtdfcjodkmjofgaaGreat
