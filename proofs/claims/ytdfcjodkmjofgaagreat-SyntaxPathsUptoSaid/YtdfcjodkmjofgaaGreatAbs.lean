/-
  A calculus over abstract states: the operations of the program over data without memory, and what it means that a state of memory is told by such a state.
-/
import Derived.Test.YtdfcjodkmjofgaaGreatBase
namespace Go.Proofs.YtdfcjodkmjofgaaGreat
open Go.RowKit

/-- Data without pointers: numbers, truths, strings, slices (their elements' cells). -/
inductive Dat where
  | int (k : IntKind) (n : Int)
  | bool (b : Bool)
  | str (s : List UInt8)
  | list (xs : List (List Dat))
/-- What is known of a value. top: nothing. own: a slice of the call's own (its mark, its element type, its elements). ptr: into box o at a cell. rptr: to cells that are only read. sl: a slice of data xs and behind them n elements in box o. emp: a slice of capacity 0. anyb: a truth. -/
inductive AV where
  | top
  | dat (d : Dat)
  | own (id : Nat) (e : TypeId) (xs : List (List Dat))
  | nils
  | ptr (o off : Nat)
  | nilp
  | rptr (cells : List Dat)
  | sl (o : Nat) (e : TypeId) (xs : List (List Dat)) (n : Nat)
  | emp
  | anyb
  | fn (f : FuncId) (caps : List AV)
  | agg (cs : List AV)
  | tup (vs : List AV)

/-- Where memory is told: my: the blocks that the call may write (what it does not hold is as it was); Pm: cells that stay as they are; n boxes, box o in block m o; lab: the mark of a block of an own slice; cap: how many variables of its type a box's block has room for; bo: where in its block a box begins; dl: the calls that the function has deferred. -/
structure Cx where
  my : Nat → Prop
  Pm : Addr → Prop
  n : Nat
  m : Nat → Nat
  lab : Nat → Option Nat
  cap : Nat → Nat
  bo : Nat → Nat
  dl : List Deferred
/-- Nothing is told but the cells that stay. -/
def Cx.fresh (B : Nat) (Pm : Addr → Prop) : Cx := ⟨fun b => B ≤ b, Pm, 0, fun _ => 0, fun _ => none, fun _ => 0, fun _ => 0, []⟩

inductive DRel (w : World) (Pm : Addr → Prop) : Dat → Value → Prop
  | int (k : IntKind) (n : Int) : DRel w Pm (.int k n) (.int k n)
  | bool (b : Bool) : DRel w Pm (.bool b) (.bool b)
  | str (s : List UInt8) : DRel w Pm (.str s) (.string ⟨s.toArray⟩)
  | list (xs : List (List Dat)) (A : Option Addr) (c sz : Nat) (vs : Nat → Nat → Value) (hc : xs.length ≤ c) (hm : c ≤ maxLen ∧ (A = none → c = 0))
      (hl : ∀ (j : Nat) (x : List Dat), xs[j]? = some x → x.length = sz) (hR : ∀ (j : Nat) (x : List Dat) (i : Nat) (d : Dat), xs[j]? = some x → x[i]? = some d → DRel w Pm d (vs j i))
      (hA : 0 < xs.length → ∃ ad : Addr, A = some ad ∧ ∀ j i, j < xs.length → i < sz → Pm (ad.add (j * sz + i)) ∧ w.cell? (ad.add (j * sz + i)) = some (vs j i)) :
      DRel w Pm (.list xs) (.slice A xs.length c)

inductive VRel (P : Program) (w : World) (X : Cx) : AV → Value → Prop
  | top (v : Value) : VRel P w X .top v
  | dat (d : Dat) (v : Value) (h : DRel w X.Pm d v) : VRel P w X (.dat d) v
  | nils : VRel P w X .nils (.slice none 0 0)
  | ownNil (id : Nat) (e : TypeId) : VRel P w X (.own id e []) (.slice none 0 0)
  | own (id : Nat) (e : TypeId) (xs : List (List Dat)) (b c : Nat) (cur : Array Value) (i : TypeInfo) (he : P.info? e = some i) (hb : X.my b) (hl : X.lab b = some id)
      (hh : w.heap[b]? = some (.cells cur e (0, 0))) (hc : xs.length ≤ c) (hm : c ≤ maxLen) (hs : cur.size = c * i.size) (hx : ∀ (j : Nat) (x : List Dat), xs[j]? = some x → x.length = i.size)
      (hr : ∀ (j : Nat) (x : List Dat) (k : Nat) (d : Dat), xs[j]? = some x → x[k]? = some d → ∃ v, cur[j * i.size + k]? = some v ∧ DRel w X.Pm d v) (hp : ∀ k, X.Pm ⟨b, k, none⟩ ↔ k < xs.length * i.size) :
      VRel P w X (.own id e xs) (.slice (some ⟨b, 0, none⟩) xs.length c)
  | ptr (o off : Nat) (h : o < X.n) : VRel P w X (.ptr o off) (.pointer (some ⟨X.m o, X.bo o + off, none⟩))
  | nilp : VRel P w X .nilp (.pointer none)
  | sl (o : Nat) (e : TypeId) (xs : List (List Dat)) (n : Nat) (ti : TypeInfo) (he : P.info? e = some ti) (h : o < X.n) (hl : xs.length + n ≤ X.cap o) (hb : X.bo o = xs.length * ti.size) (hx : ∀ (j : Nat) (x : List Dat), xs[j]? = some x → x.length = ti.size)
      (hr : ∀ (j : Nat) (x : List Dat) (k : Nat) (d : Dat), xs[j]? = some x → x[k]? = some d → ∃ v, X.Pm ⟨X.m o, j * ti.size + k, none⟩ ∧ w.cell? ⟨X.m o, j * ti.size + k, none⟩ = some v ∧ DRel w X.Pm d v) :
      VRel P w X (.sl o e xs n) (.slice (some ⟨X.m o, 0, none⟩) (xs.length + n) (X.cap o))
  | emp (A : Option Addr) : VRel P w X .emp (.slice A 0 0)
  | anyb (b : Bool) : VRel P w X .anyb (.bool b)
  | rptr (cells : List Dat) (ad : Addr) (h : ∀ (i : Nat) (d : Dat), cells[i]? = some d → ∃ v, X.Pm (ad.add i) ∧ w.cell? (ad.add i) = some v ∧ DRel w X.Pm d v) : VRel P w X (.rptr cells) (.pointer (some ad))
  | fn (f : FuncId) (caps : List AV) (vs : Array Value) (hs : vs.size = caps.length) (h : ∀ (i : Nat) (c : AV) (v : Value), caps[i]? = some c → vs[i]? = some v → VRel P w X c v) : VRel P w X (.fn f caps) (.func (.func f) #[] vs)
  | agg (cs : List AV) (vs : Array Value) (hs : vs.size = cs.length) (h : ∀ (i : Nat) (c : AV) (v : Value), cs[i]? = some c → vs[i]? = some v → VRel P w X c v) : VRel P w X (.agg cs) (.agg vs)
  | tup (cs : List AV) (vs : Array Value) (hs : vs.size = cs.length) (h : ∀ (i : Nat) (c : AV) (v : Value), cs[i]? = some c → vs[i]? = some v → VRel P w X c v) : VRel P w X (.tup cs) (.tuple vs)

theorem DRel.mv {w w' : World} {Pm Pm' : Addr → Prop} (h : ∀ a, Pm a → Pm' a ∧ w'.cell? a = w.cell? a) : {d : Dat} → {v : Value} → DRel w Pm d v → DRel w' Pm' d v
  | _, _, .int k n => .int k n
  | _, _, .bool b => .bool b
  | _, _, .str s => .str s
  | _, _, .list xs A c sz vs hc hm hl hR hA => .list xs A c sz vs hc hm hl (fun j x i d hj hi => DRel.mv h (hR j x i d hj hi)) fun h0 => by
    obtain ⟨ad, e, hcell⟩ := hA h0
    exact ⟨ad, e, fun j i hj hi => ⟨(h _ (hcell j i hj hi).1).1, (h _ (hcell j i hj hi).1).2.trans (hcell j i hj hi).2⟩⟩

theorem DRel.one {w : World} {Pm : Addr → Prop} {d : Dat} {v : Value} (h : DRel w Pm d v) : v.oneCell' = true := by cases h <;> rfl

/-! ### marks -/
mutual
/-- No own slice marked id. -/
def AV.noOwn (id : Nat) : AV → Bool
  | .own i _ _ => !(i == id)
  | .agg cs => AV.noOwnL id cs
  | .tup cs => AV.noOwnL id cs
  | .fn _ cs => AV.noOwnL id cs
  | _ => true
def AV.noOwnL (id : Nat) : List AV → Bool
  | [] => true
  | a :: l => a.noOwn id && AV.noOwnL id l
end
mutual
/-- An own slice marked id becomes data. -/
def AV.dem (id : Nat) : AV → AV
  | .own i e xs => bif i == id then .dat (.list xs) else .own i e xs
  | .agg cs => .agg (AV.demL id cs)
  | .tup cs => .tup (AV.demL id cs)
  | .fn f cs => .fn f (AV.demL id cs)
  | .top => .top
  | .dat d => .dat d
  | .nils => .nils
  | .ptr o k => .ptr o k
  | .nilp => .nilp
  | .rptr c => .rptr c
  | .sl o e xs n => .sl o e xs n
  | .emp => .emp
  | .anyb => .anyb
def AV.demL (id : Nat) : List AV → List AV
  | [] => []
  | a :: l => a.dem id :: AV.demL id l
end
mutual
/-- What is handed to a callee: own slices as data; no pointer. -/
def AV.sh : AV → Option AV
  | .own _ _ xs => some (.dat (.list xs))
  | .nils => some (.dat (.list []))
  | .dat d => some (.dat d)
  | .agg cs => (AV.shL cs).map .agg
  | .fn f [] => some (.fn f [])
  | .top => some .top
  | .emp => some (.dat (.list []))
  | .anyb => some .anyb
  | _ => none
def AV.shL : List AV → Option (List AV)
  | [] => some []
  | a :: l => match a.sh, AV.shL l with
    | some a, some l => some (a :: l)
    | _, _ => none
end
mutual
/-- All pointers go to boxes below k. -/
def AV.bnd (k : Nat) : AV → Bool
  | .ptr o _ => Nat.blt o k
  | .sl o _ _ _ => Nat.blt o k
  | .agg cs => AV.bndL k cs
  | .tup cs => AV.bndL k cs
  | .fn _ cs => AV.bndL k cs
  | _ => true
def AV.bndL (k : Nat) : List AV → Bool
  | [] => true
  | a :: l => a.bnd k && AV.bndL k l
end

theorem AV.noOwnL_get {id : Nat} : {l : List AV} → AV.noOwnL id l = true → ∀ {i : Nat} {a : AV}, l[i]? = some a → a.noOwn id = true
  | [], _, _, _, h => by simp at h
  | x :: l, hn, 0, a, h => by simp [AV.noOwnL] at hn; simp at h; subst h; exact hn.1
  | x :: l, hn, i + 1, a, h => by simp [AV.noOwnL] at hn; exact AV.noOwnL_get hn.2 (i := i) (by simpa using h)
theorem AV.bndL_get {k : Nat} : {l : List AV} → AV.bndL k l = true → ∀ {i : Nat} {a : AV}, l[i]? = some a → a.bnd k = true
  | [], _, _, _, h => by simp at h
  | x :: l, hn, 0, a, h => by simp [AV.bndL] at hn; simp at h; subst h; exact hn.1
  | x :: l, hn, i + 1, a, h => by simp [AV.bndL] at hn; exact AV.bndL_get hn.2 (i := i) (by simpa using h)
theorem AV.demL_length (id : Nat) : (l : List AV) → (AV.demL id l).length = l.length
  | [] => rfl
  | x :: l => by simp [AV.demL, AV.demL_length id l]
theorem AV.demL_get {id : Nat} : {l : List AV} → {i : Nat} → {a : AV} → (AV.demL id l)[i]? = some a → ∃ x, l[i]? = some x ∧ a = x.dem id
  | [], _, _, h => by simp [AV.demL] at h
  | x :: l, 0, a, h => by simp [AV.demL] at h; exact ⟨x, rfl, h.symm⟩
  | x :: l, i + 1, a, h => by simp [AV.demL] at h; simpa using AV.demL_get h
theorem AV.shL_get : {l l' : List AV} → AV.shL l = some l' → l'.length = l.length ∧ ∀ {i : Nat} {a : AV}, l'[i]? = some a → ∃ x, l[i]? = some x ∧ x.sh = some a
  | [], l', h => by simp [AV.shL] at h; subst h; exact ⟨rfl, fun h => by simp at h⟩
  | x :: l, l', h => by
    simp only [AV.shL] at h
    split at h
    · rename_i a l1 ha hl
      injection h with h
      subst h
      obtain ⟨h1, h2⟩ := AV.shL_get hl
      refine ⟨by simp [h1], fun {i b} hb => ?_⟩
      cases i with
      | zero => simp at hb; subst hb; exact ⟨x, rfl, ha⟩
      | succ i => simpa using h2 (by simpa using hb)
    · cases h

/-! ### movers of readings -/
/-- What is told moves: cells that stay are there; own slices whose mark is not 'bad' stand as they stood; boxes below k stand where they stood. -/
structure Mov (w : World) (X : Cx) (w' : World) (X' : Cx) (bad : Option Nat) (k : Nat) : Prop where
  B : ∀ b, X.my b → X'.my b
  pm : ∀ a, X.Pm a → X'.Pm a ∧ w'.cell? a = w.cell? a
  own : ∀ b id, X.lab b = some id → some id ≠ bad → X'.lab b = some id ∧ w'.heap[b]? = w.heap[b]? ∧ ∀ j, X'.Pm ⟨b, j, none⟩ ↔ X.Pm ⟨b, j, none⟩
  n : k ≤ X'.n
  m : ∀ o, o < k → X'.m o = X.m o ∧ X'.cap o = X.cap o ∧ X'.bo o = X.bo o
theorem VRel.mv {P : Program} {w w' : World} {X X' : Cx} {bad : Option Nat} {k : Nat} (h : Mov w X w' X' bad k) :
    {a : AV} → {v : Value} → VRel P w X a v → (∀ id, bad = some id → a.noOwn id = true) → a.bnd k = true → VRel P w' X' a v
  | _, _, .top v, _, _ => .top v
  | _, _, .dat d v hd, _, _ => .dat d v (hd.mv h.pm)
  | _, _, .nils, _, _ => .nils
  | _, _, .ownNil id e, _, _ => .ownNil id e
  | _, _, .own id e xs b c cur i he hb hl hh hc hm hs hx hr hp, hn, _ => by
    have hne : some id ≠ bad := fun e => by have := hn id e.symm; simp [AV.noOwn] at this
    obtain ⟨h1, h2, h3⟩ := h.own b id hl hne
    exact .own id e xs b c cur i he (h.B _ hb) h1 (h2.trans hh) hc hm hs hx (fun j x k d hj hk => by
      obtain ⟨v, hv, hd⟩ := hr j x k d hj hk
      exact ⟨v, hv, hd.mv h.pm⟩) (fun k => (h3 k).trans (hp k))
  | _, _, .ptr o off ho, _, hb => by
    have hlt : o < k := by simpa [AV.bnd, Nat.blt_eq] using hb
    rw [← (h.m o hlt).1, ← (h.m o hlt).2.2]
    exact .ptr o off (Nat.lt_of_lt_of_le hlt h.n)
  | _, _, .nilp, _, _ => .nilp
  | _, _, .sl o e xs n ti he ho hl hbo hx hr, _, hb => by
    have hlt : o < k := by simpa [AV.bnd, Nat.blt_eq] using hb
    obtain ⟨h1, h2, h3⟩ := h.m o hlt
    rw [← h1, ← h2]
    refine .sl o e xs n ti he (Nat.lt_of_lt_of_le hlt h.n) (by rw [h2]; exact hl) (h3.trans hbo) hx fun j x k d hj hk => ?_
    obtain ⟨v, k1, k2, k3⟩ := hr j x k d hj hk
    rw [h1]
    exact ⟨v, (h.pm _ k1).1, (h.pm _ k1).2.trans k2, k3.mv h.pm⟩
  | _, _, .emp A, _, _ => .emp A
  | _, _, .anyb b, _, _ => .anyb b
  | _, _, .rptr cells ad hc, _, _ => .rptr cells ad fun i d hi => by
    obtain ⟨v, h1, h2, h3⟩ := hc i d hi
    exact ⟨v, (h.pm _ h1).1, (h.pm _ h1).2.trans h2, h3.mv h.pm⟩
  | _, _, .fn f caps vs hs hc, hn, hb => .fn f caps vs hs fun i c v hi hv => VRel.mv h (hc i c v hi hv) (fun id e => AV.noOwnL_get (by simpa [AV.noOwn] using hn id e) hi) (AV.bndL_get (by simpa [AV.bnd] using hb) hi)
  | _, _, .agg cs vs hs hc, hn, hb => .agg cs vs hs fun i c v hi hv => VRel.mv h (hc i c v hi hv) (fun id e => AV.noOwnL_get (by simpa [AV.noOwn] using hn id e) hi) (AV.bndL_get (by simpa [AV.bnd] using hb) hi)
  | _, _, .tup cs vs hs hc, hn, hb => .tup cs vs hs fun i c v hi hv => VRel.mv h (hc i c v hi hv) (fun id e => AV.noOwnL_get (by simpa [AV.noOwn] using hn id e) hi) (AV.bndL_get (by simpa [AV.bnd] using hb) hi)

/-- What is told has its pointers below n. -/
theorem VRel.bnd {P : Program} {w : World} {X : Cx} : {a : AV} → {v : Value} → VRel P w X a v → a.bnd X.n = true
  | _, _, .top v => rfl
  | _, _, .dat d v hd => rfl
  | _, _, .nils => rfl
  | _, _, .ownNil id e => rfl
  | _, _, .own .. => rfl
  | _, _, .ptr o off ho => by simpa [AV.bnd, Nat.blt_eq] using ho
  | _, _, .nilp => rfl
  | _, _, .sl o e xs n ti he ho hl hb hx hr => by simpa [AV.bnd, Nat.blt_eq] using ho
  | _, _, .emp A => rfl
  | _, _, .anyb b => rfl
  | _, _, .rptr cells ad hc => rfl
  | _, _, .fn f caps vs hs hc => by
    have : ∀ (l : List AV), (∀ (i : Nat) (c : AV), l[i]? = some c → c.bnd X.n = true) → AV.bndL X.n l = true := by
      intro l
      induction l with
      | nil => intro _; rfl
      | cons x l ih => intro hh; simp [AV.bndL, hh 0 x rfl, ih fun i c hi => hh (i + 1) c (by simpa using hi)]
    exact this caps fun i c hi => by
      have hlt : i < vs.size := by rw [hs]; exact (List.getElem?_eq_some_iff.1 hi).1
      exact VRel.bnd (hc i c vs[i] hi (Array.getElem?_eq_getElem hlt))
  | _, _, .agg caps vs hs hc => by
    have : ∀ (l : List AV), (∀ (i : Nat) (c : AV), l[i]? = some c → c.bnd X.n = true) → AV.bndL X.n l = true := by
      intro l
      induction l with
      | nil => intro _; rfl
      | cons x l ih => intro hh; simp [AV.bndL, hh 0 x rfl, ih fun i c hi => hh (i + 1) c (by simpa using hi)]
    exact this caps fun i c hi => by
      have hlt : i < vs.size := by rw [hs]; exact (List.getElem?_eq_some_iff.1 hi).1
      exact VRel.bnd (hc i c vs[i] hi (Array.getElem?_eq_getElem hlt))
  | _, _, .tup caps vs hs hc => by
    have : ∀ (l : List AV), (∀ (i : Nat) (c : AV), l[i]? = some c → c.bnd X.n = true) → AV.bndL X.n l = true := by
      intro l
      induction l with
      | nil => intro _; rfl
      | cons x l ih => intro hh; simp [AV.bndL, hh 0 x rfl, ih fun i c hi => hh (i + 1) c (by simpa using hi)]
    exact this caps fun i c hi => by
      have hlt : i < vs.size := by rw [hs]; exact (List.getElem?_eq_some_iff.1 hi).1
      exact VRel.bnd (hc i c vs[i] hi (Array.getElem?_eq_getElem hlt))

mutual
/-- All boxes that are told of are p's. -/
def AV.okp (p : Nat → Bool) : AV → Bool
  | .ptr o _ => p o
  | .sl o _ _ _ => p o
  | .agg cs => AV.okpL p cs
  | .tup cs => AV.okpL p cs
  | .fn _ cs => AV.okpL p cs
  | _ => true
def AV.okpL (p : Nat → Bool) : List AV → Bool
  | [] => true
  | a :: l => a.okp p && AV.okpL p l
end
theorem AV.okpL_get {p : Nat → Bool} : {l : List AV} → AV.okpL p l = true → ∀ {i : Nat} {a : AV}, l[i]? = some a → a.okp p = true
  | [], _, _, _, h => by simp at h
  | x :: l, hn, 0, a, h => by simp [AV.okpL] at hn; simp at h; subst h; exact hn.1
  | x :: l, hn, i + 1, a, h => by simp [AV.okpL] at hn; exact AV.okpL_get hn.2 (i := i) (by simpa using h)
mutual
theorem AV.okp_mono {p q : Nat → Bool} (h : ∀ o, p o = true → q o = true) : (a : AV) → a.okp p = true → a.okp q = true
  | .ptr o _, hp => h o hp
  | .sl o _ _ _, hp => h o hp
  | .agg cs, hp => AV.okpL_mono h cs hp
  | .tup cs, hp => AV.okpL_mono h cs hp
  | .fn _ cs, hp => AV.okpL_mono h cs hp
  | .top, _ => rfl
  | .dat _, _ => rfl
  | .own _ _ _, _ => rfl
  | .nils, _ => rfl
  | .nilp, _ => rfl
  | .rptr _, _ => rfl
  | .emp, _ => rfl
  | .anyb, _ => rfl
theorem AV.okpL_mono {p q : Nat → Bool} (h : ∀ o, p o = true → q o = true) : (l : List AV) → AV.okpL p l = true → AV.okpL q l = true
  | [], _ => rfl
  | a :: l, hp => by
    simp only [AV.okpL, Bool.and_eq_true] at hp ⊢
    exact ⟨AV.okp_mono h a hp.1, AV.okpL_mono h l hp.2⟩
end
mutual
theorem AV.bnd_okp (k : Nat) : (a : AV) → a.bnd k = a.okp fun o => Nat.blt o k
  | .ptr o _ => rfl
  | .sl o _ _ _ => rfl
  | .agg cs => by simp only [AV.bnd, AV.okp]; exact AV.bndL_okpL k cs
  | .tup cs => by simp only [AV.bnd, AV.okp]; exact AV.bndL_okpL k cs
  | .fn _ cs => by simp only [AV.bnd, AV.okp]; exact AV.bndL_okpL k cs
  | .top => rfl
  | .dat _ => rfl
  | .own _ _ _ => rfl
  | .nils => rfl
  | .nilp => rfl
  | .rptr _ => rfl
  | .emp => rfl
  | .anyb => rfl
theorem AV.bndL_okpL (k : Nat) : (l : List AV) → AV.bndL k l = AV.okpL (fun o => Nat.blt o k) l
  | [] => rfl
  | a :: l => by simp only [AV.bndL, AV.okpL]; rw [AV.bnd_okp k a, AV.bndL_okpL k l]
end
/-- What is told moves where only boxes of p are asked to stand. -/
theorem VRel.mvp {P : Program} {w w' : World} {X X' : Cx} {p : Nat → Bool} (hpm : ∀ a, X.Pm a → X'.Pm a ∧ w'.cell? a = w.cell? a) (hB : ∀ b, X.my b → X'.my b)
    (hown : ∀ b id, X.lab b = some id → X'.lab b = some id ∧ w'.heap[b]? = w.heap[b]? ∧ ∀ j, X'.Pm ⟨b, j, none⟩ ↔ X.Pm ⟨b, j, none⟩)
    (hn : ∀ o, p o = true → o < X.n → o < X'.n) (hm : ∀ o, p o = true → X'.m o = X.m o ∧ X'.cap o = X.cap o ∧ X'.bo o = X.bo o) :
    {a : AV} → {v : Value} → VRel P w X a v → a.okp p = true → VRel P w' X' a v
  | _, _, .top v, _ => .top v
  | _, _, .dat d v hd, _ => .dat d v (hd.mv hpm)
  | _, _, .nils, _ => .nils
  | _, _, .ownNil id e, _ => .ownNil id e
  | _, _, .own id e xs b c cur i he hb hl hh hc hm' hs hx hr hp, _ => by
    obtain ⟨h1, h2, h3⟩ := hown b id hl
    exact .own id e xs b c cur i he (hB _ hb) h1 (h2.trans hh) hc hm' hs hx (fun j x k d hj hk => by
      obtain ⟨v, hv, hd⟩ := hr j x k d hj hk
      exact ⟨v, hv, hd.mv hpm⟩) (fun k => (h3 k).trans (hp k))
  | _, _, .ptr o off ho, hb => by
    rw [← (hm o hb).1, ← (hm o hb).2.2]
    exact .ptr o off (hn o hb ho)
  | _, _, .nilp, _ => .nilp
  | _, _, .sl o e xs n ti he ho hl hbo hx hr, hb => by
    obtain ⟨h1, h2, h3⟩ := hm o hb
    rw [← h1, ← h2]
    refine .sl o e xs n ti he (hn o hb ho) (by rw [h2]; exact hl) (h3.trans hbo) hx fun j x k d hj hk => ?_
    obtain ⟨v, k1, k2, k3⟩ := hr j x k d hj hk
    rw [h1]
    exact ⟨v, (hpm _ k1).1, (hpm _ k1).2.trans k2, k3.mv hpm⟩
  | _, _, .emp A, _ => .emp A
  | _, _, .anyb b, _ => .anyb b
  | _, _, .rptr cells ad hc, _ => .rptr cells ad fun i d hi => by
    obtain ⟨v, h1, h2, h3⟩ := hc i d hi
    exact ⟨v, (hpm _ h1).1, (hpm _ h1).2.trans h2, h3.mv hpm⟩
  | _, _, .fn f caps vs hs hc, hb => .fn f caps vs hs fun i c v hi hv => VRel.mvp hpm hB hown hn hm (hc i c v hi hv) (AV.okpL_get (by simpa [AV.okp] using hb) hi)
  | _, _, .agg cs vs hs hc, hb => .agg cs vs hs fun i c v hi hv => VRel.mvp hpm hB hown hn hm (hc i c v hi hv) (AV.okpL_get (by simpa [AV.okp] using hb) hi)
  | _, _, .tup cs vs hs hc, hb => .tup cs vs hs fun i c v hi hv => VRel.mvp hpm hB hown hn hm (hc i c v hi hv) (AV.okpL_get (by simpa [AV.okp] using hb) hi)

theorem add_plain (b j : Nat) : (⟨b, 0, none⟩ : Addr).add j = ⟨b, j, none⟩ := by unfold Addr.add; split <;> simp_all
/-- An own slice is data. -/
theorem VRel.asDat {P : Program} {w : World} {X : Cx} {id : Nat} {e : TypeId} {xs : List (List Dat)} {v : Value} (h : VRel P w X (.own id e xs) v) : DRel w X.Pm (.list xs) v := by
  cases h with
  | ownNil => exact .list [] none 0 0 (fun _ _ => .slice none 0 0) (Nat.le_refl _) ⟨Nat.zero_le _, fun _ => rfl⟩ (fun j x h => by simp at h) (fun j x i d h => by simp at h) (fun h => by simp at h)
  | own _ _ _ b c cur i he hb hl hh hc hm hs hx hr hp =>
    refine .list xs _ c i.size (fun j k => (cur[j * i.size + k]?).getD undef) hc ⟨hm, fun h => by cases h⟩ hx (fun j x k d hj hk => ?_) (fun h0 => ⟨_, rfl, fun j k hj hk => ?_⟩)
    · obtain ⟨v, hv, hd⟩ := hr j x k d hj hk
      rw [hv]
      exact hd
    · have hx' : xs[j]? = some xs[j] := List.getElem?_eq_getElem hj
      have hk' : k < (xs[j]).length := by rw [hx j _ hx']; exact hk
      obtain ⟨v, hv, hd⟩ := hr j _ k _ hx' (List.getElem?_eq_getElem hk')
      rw [add_plain]
      refine ⟨(hp _).2 ?_, ?_⟩
      · have h3 : j * i.size + i.size ≤ xs.length * i.size := by rw [← Nat.succ_mul]; exact Nat.mul_le_mul_right _ hj
        omega
      · rw [cell_of_row w b _ cur e (0, 0) hh, hv]
        rfl
theorem VRel.nilsDat {P : Program} {w : World} {X : Cx} {v : Value} (h : VRel P w X .nils v) : DRel w X.Pm (.list []) v := by
  cases h
  exact .list [] none 0 0 (fun _ _ => .slice none 0 0) (Nat.le_refl _) ⟨Nat.zero_le _, fun _ => rfl⟩ (fun j x h => by simp at h) (fun j x i d h => by simp at h) (fun h => by simp at h)
theorem VRel.empDat {P : Program} {w : World} {X : Cx} {v : Value} (h : VRel P w X .emp v) : DRel w X.Pm (.list []) v := by
  cases h with
  | emp A => exact .list [] A 0 0 (fun _ _ => .slice none 0 0) (Nat.le_refl _) ⟨Nat.zero_le _, fun _ => rfl⟩ (fun j x h => by simp at h) (fun j x i d h => by simp at h) (fun h => by simp at h)
theorem VRel.dem {P : Program} {w : World} {X : Cx} (id : Nat) : {a : AV} → {v : Value} → VRel P w X a v → VRel P w X (a.dem id) v
  | _, _, .top v => .top v
  | _, _, .dat d v hd => .dat d v hd
  | _, _, .nils => .nils
  | _, _, .ownNil i e => by
    simp only [AV.dem]
    cases i == id
    · exact .ownNil i e
    · exact .dat _ _ (VRel.asDat (P := P) (X := X) (.ownNil i e))
  | _, _, .own i e xs b c cur ti he hb hl hh hc hm hs hx hr hp => by
    simp only [AV.dem]
    cases i == id
    · exact .own i e xs b c cur ti he hb hl hh hc hm hs hx hr hp
    · exact .dat _ _ (VRel.asDat (.own i e xs b c cur ti he hb hl hh hc hm hs hx hr hp))
  | _, _, .ptr o off ho => .ptr o off ho
  | _, _, .nilp => .nilp
  | _, _, .sl o e xs n ti he ho hl hb hx hr => .sl o e xs n ti he ho hl hb hx hr
  | _, _, .emp A => .emp A
  | _, _, .anyb b => .anyb b
  | _, _, .rptr cells ad hc => .rptr cells ad hc
  | _, _, .fn f caps vs hs hc => .fn f _ vs (by rw [AV.demL_length]; exact hs) fun i c v hi hv => by
    obtain ⟨x, hx, rfl⟩ := AV.demL_get hi
    exact VRel.dem id (hc i x v hx hv)
  | _, _, .agg caps vs hs hc => .agg _ vs (by rw [AV.demL_length]; exact hs) fun i c v hi hv => by
    obtain ⟨x, hx, rfl⟩ := AV.demL_get hi
    exact VRel.dem id (hc i x v hx hv)
  | _, _, .tup caps vs hs hc => .tup _ vs (by rw [AV.demL_length]; exact hs) fun i c v hi hv => by
    obtain ⟨x, hx, rfl⟩ := AV.demL_get hi
    exact VRel.dem id (hc i x v hx hv)
mutual
theorem AV.dem_noOwn (id : Nat) : (a : AV) → (a.dem id).noOwn id = true
  | .own i e xs => by
    simp only [AV.dem]
    cases h : i == id
    · simp [AV.noOwn, h]
    · rfl
  | .agg cs => by simpa [AV.dem, AV.noOwn] using AV.demL_noOwn id cs
  | .tup cs => by simpa [AV.dem, AV.noOwn] using AV.demL_noOwn id cs
  | .fn f cs => by simpa [AV.dem, AV.noOwn] using AV.demL_noOwn id cs
  | .top => rfl
  | .dat d => rfl
  | .nils => rfl
  | .ptr o k => rfl
  | .nilp => rfl
  | .rptr c => rfl
  | .sl o e xs n => rfl
  | .emp => rfl
  | .anyb => rfl
theorem AV.demL_noOwn (id : Nat) : (l : List AV) → AV.noOwnL id (AV.demL id l) = true
  | [] => rfl
  | a :: l => by simp [AV.demL, AV.noOwnL, AV.dem_noOwn id a, AV.demL_noOwn id l]
end
mutual
/-- All own slices become data. -/
def AV.demA : AV → AV
  | .own _ _ xs => .dat (.list xs)
  | .agg cs => .agg (AV.demAL cs)
  | .tup cs => .tup (AV.demAL cs)
  | .fn f cs => .fn f (AV.demAL cs)
  | .top => .top
  | .dat d => .dat d
  | .nils => .nils
  | .ptr o k => .ptr o k
  | .nilp => .nilp
  | .rptr c => .rptr c
  | .sl o e xs n => .sl o e xs n
  | .emp => .emp
  | .anyb => .anyb
def AV.demAL : List AV → List AV
  | [] => []
  | a :: l => a.demA :: AV.demAL l
end
theorem AV.demAL_length : (l : List AV) → (AV.demAL l).length = l.length
  | [] => rfl
  | x :: l => by simp [AV.demAL, AV.demAL_length l]
theorem AV.demAL_get : {l : List AV} → {i : Nat} → {a : AV} → (AV.demAL l)[i]? = some a → ∃ x, l[i]? = some x ∧ a = x.demA
  | [], _, _, h => by simp [AV.demAL] at h
  | x :: l, 0, a, h => by simp [AV.demAL] at h; exact ⟨x, rfl, h.symm⟩
  | x :: l, i + 1, a, h => by simp [AV.demAL] at h; simpa using AV.demAL_get h
/-- With no own slice left, what is told moves along with cells that stay and boxes. -/
theorem VRel.demA {P : Program} {w w' : World} {X X' : Cx} (hpm : ∀ a, X.Pm a → X'.Pm a ∧ w'.cell? a = w.cell? a) (hn : X.n ≤ X'.n) (hm : ∀ o, o < X.n → X'.m o = X.m o ∧ X'.cap o = X.cap o ∧ X'.bo o = X.bo o) : {a : AV} → {v : Value} → VRel P w X a v → VRel P w' X' a.demA v
  | _, _, .top v => .top v
  | _, _, .dat d v hd => .dat d v (hd.mv hpm)
  | _, _, .nils => .nils
  | _, _, .ownNil i e => .dat _ _ (VRel.asDat (P := P) (X := X') (.ownNil i e))
  | _, _, .own i e xs b c cur ti he hb hl hh hc hm' hs hx hr hp => .dat _ _ ((VRel.asDat (.own i e xs b c cur ti he hb hl hh hc hm' hs hx hr hp)).mv hpm)
  | _, _, .ptr o off ho => by
    show VRel P w' X' (.ptr o off) _
    rw [← (hm o ho).1, ← (hm o ho).2.2]
    exact .ptr o off (Nat.lt_of_lt_of_le ho hn)
  | _, _, .nilp => .nilp
  | _, _, .sl o e xs n ti he ho hl hbo hx hr => by
    obtain ⟨h1, h2, h3⟩ := hm o ho
    show VRel P w' X' (.sl o e xs n) _
    rw [← h1, ← h2]
    refine .sl o e xs n ti he (Nat.lt_of_lt_of_le ho hn) (by rw [h2]; exact hl) (h3.trans hbo) hx fun j x k d hj hk => ?_
    obtain ⟨v, k1, k2, k3⟩ := hr j x k d hj hk
    rw [h1]
    exact ⟨v, (hpm _ k1).1, (hpm _ k1).2.trans k2, k3.mv hpm⟩
  | _, _, .emp A => .emp A
  | _, _, .anyb b => .anyb b
  | _, _, .rptr cells ad hc => .rptr cells ad fun i d hi => by
    obtain ⟨v, h1, h2, h3⟩ := hc i d hi
    exact ⟨v, (hpm _ h1).1, (hpm _ h1).2.trans h2, h3.mv hpm⟩
  | _, _, .fn f caps vs hs hc => .fn f _ vs (by rw [AV.demAL_length]; exact hs) fun i c v hi hv => by
    obtain ⟨x, hx, rfl⟩ := AV.demAL_get hi
    exact VRel.demA hpm hn hm (hc i x v hx hv)
  | _, _, .agg caps vs hs hc => .agg _ vs (by rw [AV.demAL_length]; exact hs) fun i c v hi hv => by
    obtain ⟨x, hx, rfl⟩ := AV.demAL_get hi
    exact VRel.demA hpm hn hm (hc i x v hx hv)
  | _, _, .tup caps vs hs hc => .tup _ vs (by rw [AV.demAL_length]; exact hs) fun i c v hi hv => by
    obtain ⟨x, hx, rfl⟩ := AV.demAL_get hi
    exact VRel.demA hpm hn hm (hc i x v hx hv)
/-- What is handed over reads so, in whatever labels and boxes. -/
theorem VRel.sh {P : Program} {w : World} {X X' : Cx} (hpm : X'.Pm = X.Pm) : {a a' : AV} → {v : Value} → VRel P w X a v → a.sh = some a' → VRel P w X' a' v
  | _, _, _, .top v, e => by simp [AV.sh] at e; subst e; exact .top v
  | _, _, _, .dat d v hd, e => by simp [AV.sh] at e; subst e; exact .dat d v (hpm ▸ hd)
  | _, _, _, .nils, e => by simp [AV.sh] at e; subst e; exact .dat _ _ (hpm ▸ VRel.nilsDat (P := P) (X := X) .nils)
  | _, _, _, .ownNil i e, h => by simp [AV.sh] at h; subst h; exact .dat _ _ (hpm ▸ VRel.asDat (P := P) (X := X) (.ownNil i e))
  | _, _, _, .own i e xs b c cur ti he hb hl hh hc hm hs hx hr hp, h => by
    simp [AV.sh] at h
    subst h
    exact .dat _ _ (hpm ▸ VRel.asDat (.own i e xs b c cur ti he hb hl hh hc hm hs hx hr hp))
  | _, _, _, .ptr o off ho, h => by simp [AV.sh] at h
  | _, _, _, .nilp, h => by simp [AV.sh] at h
  | _, _, _, .sl .., h => by simp [AV.sh] at h
  | _, _, _, .emp A, e => by simp [AV.sh] at e; subst e; exact .dat _ _ (hpm ▸ VRel.empDat (P := P) (X := X) (.emp A))
  | _, _, _, .anyb b, e => by simp [AV.sh] at e; subst e; exact .anyb b
  | _, _, _, .rptr cells ad hc, h => by simp [AV.sh] at h
  | _, _, _, .fn f [] vs hs hc, h => by
    simp [AV.sh] at h
    subst h
    exact .fn f [] vs hs fun i c v hi => by simp at hi
  | _, _, _, .fn f (_ :: _) vs hs hc, h => by simp [AV.sh] at h
  | _, _, _, .agg caps vs hs hc, h => by
    simp only [AV.sh, Option.map_eq_some_iff] at h
    obtain ⟨l, hl, rfl⟩ := h
    obtain ⟨h1, h2⟩ := AV.shL_get hl
    exact .agg l vs (by rw [h1]; exact hs) fun i c v hi hv => by
      obtain ⟨x, hx, hsx⟩ := h2 hi
      exact VRel.sh hpm (hc i x v hx hv) hsx
  | _, _, _, .tup caps vs hs hc, h => by simp [AV.sh] at h

end Go.Proofs.YtdfcjodkmjofgaaGreat
