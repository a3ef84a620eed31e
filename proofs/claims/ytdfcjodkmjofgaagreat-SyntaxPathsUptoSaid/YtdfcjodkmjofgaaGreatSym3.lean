/-
  Bodies over what is not known.
-/
import Derived.Test.YtdfcjodkmjofgaaGreatSym2
namespace Go.Proofs.YtdfcjodkmjofgaaGreat
open Go.RowKit

/-- An append's base. -/
def sbase (d : Nat) (e : TypeId) : AV → Option (Nat × List (List Dat))
  | .nils => some (d, [])
  | .own id e' xs => bif Nat.beq e' e then some (id, xs) else none
  | _ => none
/-- One operation. opn: an element of what is appended is written behind it. -/
def sstep (E : Wd) (V : View) (opn : Bool) (o : Oper) (s : St) (K : St → Prop) : Prop :=
  match o.op with
  | .box e x => match (s.ev x).cells, V.inf e with
    | some cs, some ti => bif Nat.beq cs.length ti.size then K (St.put { s with heap := s.heap ++ [(e, cs)] } o.dst (.ptr s.heap.length 0)) else False
    | _, _ => False
  | .alloc e => match V.inf e with
    | some ⟨size, _, some cs⟩ => bif Nat.beq cs.length size then K (St.put { s with heap := s.heap ++ [(e, cs)] } o.dst (.ptr s.heap.length 0)) else False
    | _ => False
  | .store t x v => match s.ev x, (s.ev v).cells, V.inf t with
    | .ptr b k, some vc, some ti => match s.heap[b]? with
      | some (T, cs) => bif vc.all AV.one && (Nat.beq vc.length ti.size) && Nat.ble (k + vc.length) cs.length && Nat.blt 0 vc.length then K (St.put { s with heap := s.heap.set b (T, cs.take k ++ vc ++ cs.drop (k + vc.length)) } o.dst .top) else False
      | none => False
    | _, _, _ => False
  | .build t parts => match sbuild V t (partsAv s parts) with
    | some v => K (s.put o.dst v)
    | none => False
  | .buildSlice t len parts => match sbuildSlice V t len (partsAv s parts) with
    | some (_, []) => K (s.put o.dst .emp)
    | some (e, x :: xs) => K (s.put o.dst (.own (o.dst.getD 0) e (x :: xs)))
    | none => False
  | .binOp .add t x y t' => match s.ev x, s.ev y with
    | .dat (.str a), .dat (.str b) => E.cat a b ∧ K (s.put o.dst (.dat (.str (E.ct a b))))
    | _, _ => sread E V s (.binOp .add t x y t') fun v => K (s.put o.dst v)
  | .call { callee := .builtin .append, args := args, argTypes := tys } => match args.toList, tys.toList with
    | [x, y], [t, t'] => match V.und t with
      | some (.slice e) => match V.inf e, (s.ev y).elems with
        | some ⟨size, bytes, some _⟩, some ys => bif Nat.beq t' t && Nat.blt 0 size && Nat.blt 0 bytes then (E.szs ys size ∧ (match s.ev x with
            | .emp => E.bd [] ys bytes ∧ (E.nil ys → K (s.put o.dst .emp)) ∧ (E.ne ys → K (s.put o.dst (.own (o.dst.getD 0) e ys)))
            | b => match sbase (o.dst.getD 0) e b with
              | some (id, xs) => E.bd xs ys bytes ∧ (bif opn then (match ys with
                | [] => False
                | z :: zs => K (St.put { s.dem id with heap := (s.dem id).heap ++ [(e, ((z :: zs).flatten).map .dat)] } o.dst (.sl (s.dem id).heap.length e xs (z :: zs).length))) else K ((s.dem id).put o.dst (.own id e (E.ap xs ys))))
              | none => False)) else False
        | _, _ => False
      | _ => False
    | _, _ => False
  | .call { callee := .builtin .max, args := args, .. } => match args.toList with
    | [x, y] => match s.ev x, s.ev y with
      | .dat (.int k a), .dat (.int k' b) => if k = k' then K (s.put o.dst (.dat (.int k (E.mx a b)))) else False
      | _, _ => False
    | _ => False
  | .call { callee := .value f, args := args, .. } => match callAv s f args.toList with
    | some (g, l) => ∃ K', E.call g l K' ∧ ∀ r, K' r → K (s.put o.dst r)
    | none => match callFull s f args.toList with
      | some (g, l) => ∃ r H', E.callF g l s.heap r H' ∧ K (St.put ⟨AV.demAL s.slots, H'⟩ o.dst r)
      | none => False
  | op => sread E V s op fun v => K (s.put o.dst v)
def sget (t : Nat) : List AV → Option AV
  | [] => none
  | a :: l => match t with
    | 0 => some a
    | t + 1 => sget t l
def oget (j : Nat) : List Oper → Option Oper
  | [] => none
  | a :: l => match j with
    | 0 => some a
    | j + 1 => oget j l
/-- What a guard says: A where it lets by, B where not. -/
def sguard (all : Array Oper) (s : St) (o : Oper) (A B : Unit → Prop) : Prop :=
  match o.guard with
  | none => A ()
  | some (j, want) => match oget j all.toList with
    | some o' => match o'.dst with
      | some t => match sget t s.slots with
        | some (.dat (.bool b)) => (match want with
          | true => (match b with
            | true => A ()
            | false => B ())
          | false => (match b with
            | true => B ()
            | false => A ()))
        | _ => False
      | none => False
    | none => False
def sops (E : Wd) (V : View) (all : Array Oper) : List Oper → St → (St → Prop) → Prop
  | [], s, K => K s
  | o :: rest, s, K => sguard all s o (fun _ => sstep E V (opens all o) o s fun s' => sops E V all rest s' K) (fun _ => sops E V all rest (s.put o.dst .top) K)
def sqstep (E : Wd) (V : View) (o : Oper) (s : St) (K : St → Prop) : Prop :=
  match o.op with
  | .build t parts => match sbuild V t (partsAv s parts) with
    | some v => K (s.put o.dst v)
    | none => False
  | .call { callee := .value f, args := args, .. } => match callAv s f args.toList with
    | some (g, l) => ∃ d, E.call g l (fun r => r = .dat d) ∧ d.flat = true ∧ K (s.put o.dst (.dat d))
    | none => False
  | op => sread E V s op fun v => K (s.put o.dst v)
def squiet (E : Wd) (V : View) (all : Array Oper) : List Oper → St → (St → Prop) → Prop
  | [], s, K => K s
  | o :: rest, s, K => sguard all s o (fun _ => sqstep E V o s fun s' => squiet E V all rest s' K) (fun _ => squiet E V all rest (s.put o.dst .top) K)
def shead (E : Wd) (V : View) (all : Array Oper) : List Oper → St → (St → Prop) → Prop
  | [], s, K => K s
  | o :: rest, s, K => sguard all s o (fun _ => sread E V s o.op fun v => shead E V all rest (s.put o.dst v) K) (fun _ => shead E V all rest (s.put o.dst .top) K)
def findAl (i : Nat) : Nat → List BE → Option (Nat × BE)
  | _, [] => none
  | r, b :: l => bif Nat.beq b.al i then some (r, b) else findAl i (r + 1) l
def findSt (i : Nat) : Nat → List BE → Option (Nat × BE × List AV)
  | _, [] => none
  | r, b :: l => match b.st with
    | some (j, vc) => bif Nat.beq j i then some (r, b, vc) else findSt i (r + 1) l
    | none => findSt i (r + 1) l
/-- The values of a head that lays the boxes bl. -/
def sfree (E : Wd) (V : View) (bl : List BE) : Nat → List Oper → St → (St → Prop) → Prop
  | _, [], s, K => K s
  | i, o :: rest, s, K => match o.guard with
    | none => (match o.op with
      | .alloc e => match V.inf e, findAl i 0 bl with
        | some ⟨size, _, some zc⟩, some (r, b) => bif Nat.beq zc.length size && Nat.beq b.T e then (b.zc = zc ∧ sfree E V bl (i + 1) rest (s.put o.dst (.ptr (s.heap.length + r) 0)) K) else False
        | _, _ => False
      | .store t x y => match s.ev x, (s.ev y).cells, V.inf t, findSt i 0 bl with
        | .ptr q 0, some vc, some ti, some (r, b, vc0) => bif Nat.beq q (s.heap.length + r) && (vc.all AV.one && Nat.beq vc.length ti.size && Nat.beq vc.length b.zc.length && Nat.blt 0 vc.length && AV.bndL s.heap.length vc) then (vc0 = vc ∧ sfree E V bl (i + 1) rest (s.put o.dst .top) K) else False
        | _, _, _, _ => False
      | .build t parts => match sbuild V t (partsAv s parts) with
        | some v => bif v.bnd s.heap.length && bl.all (fun b => !b.has i) then sfree E V bl (i + 1) rest (s.put o.dst v) K else False
        | none => False
      | .call { callee := .value f, args := args, .. } => match callAv s f args.toList with
        | some (g, l) => bif bl.all (fun b => !b.has i) then (∃ r, E.call g l (fun r' => r' = r) ∧ r.bnd s.heap.length = true ∧ sfree E V bl (i + 1) rest (s.put o.dst r) K) else False
        | none => False
      | .binOp .add t x y t' => match s.ev x, s.ev y with
        | .dat (.str a), .dat (.str b) => bif bl.all (fun b => !b.has i) then (E.cat a b ∧ sfree E V bl (i + 1) rest (s.put o.dst (.dat (.str (E.ct a b)))) K) else False
        | _, _ => sread E V s (.binOp .add t x y t') fun v => bif v.bnd s.heap.length && bl.all (fun b => !b.has i) then sfree E V bl (i + 1) rest (s.put o.dst v) K else False
      | op => sread E V s op fun v => bif v.bnd s.heap.length && bl.all (fun b => !b.has i) then sfree E V bl (i + 1) rest (s.put o.dst v) K else False)
    | some _ => False
/-- A region that draws its order. -/
inductive SDraw (E : Wd) (V : View) (ops : Array Oper) (s : St) (K : St → Prop) : Prop
  | quiet (h : Region.lexB .any ops = true) (h2 : squiet E V ops ops.toList s K) : SDraw E V ops s K
  | tail (n : Nat) (h : Region.lexTailB .any ops n = true) (h2 : shead E V ops (ops.toList.take n) s fun s' => sops E V ops (ops.toList.drop n) s' K) : SDraw E V ops s K
  | free (n : Nat) (bl : List BE) (h : freeB .any ops n = true) (hb : blB .any ops n bl = true) (h2 : sfree E V bl 0 (ops.toList.take n) s fun s' => sops E V ops (ops.toList.drop n) ⟨s'.slots, s'.heap ++ heapB bl fun _ => true⟩ K) : SDraw E V ops s K
  | other (h : ∀ (P : Program) (nb : Nat) (K' : AEx → St → Prop), V.OK P → E = Wd.std P → (∀ s', K s' → K' .norm s') → awp P nb (.region 0 ops true) s K') : SDraw E V ops s K

/-- Less is told. -/
inductive LeV : AV → AV → Prop
  | top (a : AV) : LeV a .top
  | eq {a b : AV} (h : a = b) : LeV a b
  | nils (id : Nat) (e : TypeId) : LeV .nils (.own id e [])
  | nilsO {id : Nat} {e : TypeId} {xs : List (List Dat)} (h : xs = []) : LeV .nils (.own id e xs)
  | nilsD {xs : List (List Dat)} (h : xs = []) : LeV .nils (.dat (.list xs))
  | empD {xs : List (List Dat)} (h : xs = []) : LeV .emp (.dat (.list xs))
  | ownD (id : Nat) (e : TypeId) {xs ys : List (List Dat)} (h : xs = ys) : LeV (.own id e xs) (.dat (.list ys))
  | ownE {id : Nat} {e : TypeId} {xs ys : List (List Dat)} (h : xs = ys) : LeV (.own id e xs) (.own id e ys)
  | intE {k : IntKind} {a b : Int} (h : a = b) : LeV (.dat (.int k a)) (.dat (.int k b))
  | boolE {a b : Bool} (h : a = b) : LeV (.dat (.bool a)) (.dat (.bool b))
  | strE {a b : List UInt8} (h : a = b) : LeV (.dat (.str a)) (.dat (.str b))
  | listE {a b : List (List Dat)} (h : a = b) : LeV (.dat (.list a)) (.dat (.list b))
  | anyb (b : Bool) : LeV (.dat (.bool b)) .anyb
def LeL : List AV → List AV → Prop
  | [], [] => True
  | _ :: l, .top :: m => LeL l m
  | a :: l, b :: m => LeV a b ∧ LeL l m
  | _, _ => False
def LeH : Boxes → Boxes → Prop
  | _, [] => True
  | (T, _) :: l, (T', []) :: m => T = T' ∧ LeH l m
  | (T, cs) :: l, (T', cs') :: m => T = T' ∧ LeL cs cs' ∧ LeH l m
  | _, _ => False
/-- No pointer goes to a box that is told of no more; the boxes that were there at the beginning are told of. -/
def leB (nb : Nat) (s : St) : Bool := Nat.ble nb s.heap.length && AV.bndL s.heap.length s.slots && s.heap.all fun b => AV.bndL s.heap.length b.2
def LeS (nb : Nat) (s s' : St) : Prop := LeL s.slots s'.slots ∧ LeH s.heap s'.heap ∧ leB nb s' = true
/-- A loop. -/
inductive SLoop (nb : Nat) (body : St → (AEx → St → Prop) → Prop) (s : St) (K : AEx → St → Prop) : Prop
  | mk (α : Type) (mk : α → St) (m : α → Nat) (a : α) (h0 : LeS nb s (mk a)) (h : ∀ a, body (mk a) fun e s' => match e with
      | .norm => ∃ a', m a' < m a ∧ LeS nb s' (mk a')
      | .exit id => K (.exit id) s'
      | .ret => K .ret s') : SLoop nb body s K
def swp (E : Wd) (V : View) (nb : Nat) : Code → St → (AEx → St → Prop) → Prop
  | .skip, s, K => K .norm s
  | .region _ ops false, s, K => sops E V ops ops.toList s (K .norm)
  | .region _ ops true, s, K => SDraw E V ops s (K .norm)
  | .seq a b, s, K => swp E V nb a s fun e s' => match e with
    | .norm => swp E V nb b s' K
    | .exit id => K (.exit id) s'
    | .ret => K .ret s'
  | .cond c t e, s, K => match s.ev c with
    | .dat (.bool b) => (match b with
      | true => swp E V nb t s K
      | false => swp E V nb e s K)
    | .anyb => swp E V nb t s K ∧ swp E V nb e s K
    | _ => False
  | .block id c, s, K => swp E V nb c s fun e s' => match e with
    | .exit i => bif Nat.beq i id then K .norm s' else K (.exit i) s'
    | .norm => K .norm s'
    | .ret => K .ret s'
  | .loop c, s, K => SLoop nb (swp E V nb c) s K
  | .exit id, s, K => K (.exit id) s
  | .ret, s, K => K .ret s
  | _, _, _ => False

section
variable {V : View} {P : Program}
theorem LeV.rel {w : World} {X : Cx} {a b : AV} {v : Value} (h : LeV a b) (hr : VRel P w X a v) : VRel P w X b v := by
  cases h with
  | top => exact .top v
  | eq h => exact h ▸ hr
  | nils id e => cases hr; exact .ownNil id e
  | nilsO h => subst h; cases hr; exact .ownNil _ _
  | nilsD h => subst h; exact .dat _ _ hr.nilsDat
  | empD h => subst h; exact .dat _ _ hr.empDat
  | ownD id e h => subst h; exact .dat _ _ hr.asDat
  | ownE h => exact h ▸ hr
  | intE h => exact h ▸ hr
  | boolE h => exact h ▸ hr
  | strE h => exact h ▸ hr
  | listE h => exact h ▸ hr
  | anyb b => rw [bool_rel hr]; exact .anyb b
theorem LeL.len : ∀ {l m : List AV}, LeL l m → l.length = m.length
  | [], [], _ => rfl
  | a :: l, b :: m, h => by
    have : LeL l m := by
      cases b <;> first | exact h | exact h.2
    simp [LeL.len this]
  | [], _ :: _, h => h.elim
  | _ :: _, [], h => by cases h
theorem LeL.get : ∀ {l m : List AV}, LeL l m → ∀ {i : Nat} {b : AV}, m[i]? = some b → ∃ a, l[i]? = some a ∧ LeV a b
  | [], [], _, i, b, hb => by simp at hb
  | a :: l, c :: m, h, i, b, hb => by
    have h2 : LeV a c ∧ LeL l m := by
      cases c <;> first | exact h | exact ⟨.top a, h⟩
    cases i with
    | zero => simp at hb; subst hb; exact ⟨a, rfl, h2.1⟩
    | succ i => simpa using LeL.get h2.2 (by simpa using hb)
  | [], _ :: _, h, _, _, _ => h.elim
  | _ :: _, [], h, _, _, _ => by cases h
theorem LeH.get : ∀ {l m : Boxes}, LeH l m → ∀ {o : Nat} {T : TypeId} {cs' : List AV}, m[o]? = some (T, cs') → cs' ≠ [] → ∃ cs, l[o]? = some (T, cs) ∧ LeL cs cs'
  | _, [], _, o, T, cs', hb, _ => by simp at hb
  | (T0, cs0) :: l, (T1, []) :: m, h, o, T, cs', hb, hne => by
    cases o with
    | zero => simp at hb; exact absurd hb.2 hne
    | succ o => simpa using LeH.get h.2 (by simpa using hb) hne
  | (T0, cs0) :: l, (T1, c :: cs1) :: m, h, o, T, cs', hb, hne => by
    cases o with
    | zero =>
      simp at hb
      obtain ⟨rfl, rfl⟩ := hb
      exact ⟨cs0, by rw [h.1]; rfl, h.2.1⟩
    | succ o => simpa using LeH.get h.2.2 (by simpa using hb) hne
  | [], _ :: _, h, _, _, _, _, _ => by simp [LeH] at h
theorem LeS.wk {nb : Nat} {s s' : St} (h : LeS nb s s') : Wk P nb s s' := fun w0 X0 w X a h0 hs => by
  obtain ⟨hl, hh, hb⟩ := h
  unfold leB at hb
  rw [Bool.and_eq_true, Bool.and_eq_true] at hb
  obtain ⟨⟨hb1, hb2⟩, hb3⟩ := hb
  have hle : nb ≤ s'.heap.length := Nat.le_of_ble_eq_true hb1
  have mv : ∀ {c : AV} {v : Value}, c.bnd s'.heap.length = true → VRel P w X c v → VRel P w { X with n := s'.heap.length } c v := fun hc hv =>
    VRel.mv (w := w) (X := X) (X' := { X with n := s'.heap.length }) (bad := none) (k := s'.heap.length) ⟨fun _ h => h, fun a ha => ⟨ha, rfl⟩, fun b id hl _ => ⟨hl, rfl, fun _ => Iff.rfl⟩, Nat.le_refl _, fun _ _ => ⟨rfl, rfl, rfl⟩⟩ hv (fun _ e => by cases e) hc
  refine ⟨{ X with n := s'.heap.length }, hs.defers, hs.size.trans hl.len, fun i c v hi hv => ?_, ⟨rfl, hs.hp.le, fun o T cs ho hne => ?_, fun o T cs ho hne => ?_, fun o o' T T' cs cs' ho hne ho' hne' e => ?_, hs.hp.pm, hs.hp.lab⟩, ⟨hs.po.B, hs.po.below, hs.po.gs, hs.po.keep, by rw [h0]; exact hle, hs.po.mo, hs.po.pm0⟩⟩
  · obtain ⟨c0, h1, h2⟩ := hl.get hi
    exact mv (AV.bndL_get hb2 hi) (h2.rel (hs.slot i c0 v h1 hv))
  · obtain ⟨cs0, h1, h2⟩ := hh.get ho hne
    exact hs.hp.boxb o T cs0 h1 (fun e => by rw [e] at h2; cases cs with | nil => exact hne rfl | cons a l => exact h2)
  · obtain ⟨cs0, h1, h2⟩ := hh.get ho hne
    have hne0 : cs0 ≠ [] := fun e => by rw [e] at h2; cases cs with | nil => exact hne rfl | cons a l => exact h2
    obtain ⟨vs, k1, ⟨k2, k3⟩, k4⟩ := hs.hp.box o T cs0 h1 hne0
    refine ⟨vs, k1, ⟨by rw [← h2.len]; exact k2, k3⟩, fun i c v hi hv => ?_⟩
    obtain ⟨c0, h3, h4⟩ := h2.get hi
    exact mv (AV.bndL_get (by simpa using List.all_eq_true.1 hb3 _ (List.mem_of_getElem? ho)) hi) (h4.rel (k4 i c0 v h3 hv))
  · obtain ⟨cs0, h1, h2⟩ := hh.get ho hne
    obtain ⟨cs1, h3, h4⟩ := hh.get ho' hne'
    exact hs.hp.inj o o' T T' cs0 cs1 h1 (fun e => by rw [e] at h2; cases cs with | nil => exact hne rfl | cons a l => exact h2) h3 (fun e => by rw [e] at h4; cases cs' with | nil => exact hne' rfl | cons a l => exact h4) e
theorem astep_read {o : Oper} {s : St} {K : St → Prop} (h : ∃ v, aval P s o = some v ∧ K (s.put o.dst v)) : astep P o s K := by
  obtain ⟨v, h1, h2⟩ := h
  unfold astep
  rw [h1]
  exact h2
theorem sbase_eq {d : Nat} {e : TypeId} {b : AV} {x : Nat × List (List Dat)} (h : sbase d e b = some x) : baseAv d e b = some x := by
  cases b <;> simp [sbase] at h <;> simp [baseAv, h]
  rename_i id e' xs
  cases hb : Nat.beq e' e with
  | false => rw [hb] at h; cases h
  | true => rw [hb] at h; rw [Nat.eq_of_beq_eq_true hb]; simpa using h
theorem sstep_astep (hV : V.OK P) {opn : Bool} {o : Oper} {s : St} {K K' : St → Prop} (hk : ∀ s', K s' → K' s') (h : sstep (Wd.std P) V opn o s K) : astep P o s K' := by
  unfold sstep at h
  split at h
  · rename_i e x ho
    split at h
    · rename_i cs ti hc hi
      obtain ⟨tj, h1, h2, _⟩ := tiOf_info (hV.inf _ _ hi)
      cases hb : Nat.beq cs.length ti.size with
      | false => rw [hb] at h; exact h.elim
      | true =>
        rw [hb, cond_true] at h
        unfold astep
        have hn : aval P s o = none := by unfold aval; simp only [ho]
        simp only [hn, ho, hc, h1]
        exact ⟨by rw [h2]; exact Nat.eq_of_beq_eq_true hb, hk _ h⟩
    · exact h.elim
  · rename_i e ho
    split at h
    · rename_i size by' cs hi
      obtain ⟨tj, h1, h2, _, h4⟩ := tiOf_info (hV.inf _ _ hi)
      obtain ⟨z, h5, h6, _⟩ := h4 cs rfl
      cases hb : Nat.beq cs.length size with
      | false => rw [hb] at h; exact h.elim
      | true =>
        rw [hb, cond_true] at h
        unfold astep
        have hn : aval P s o = none := by unfold aval; simp only [ho]
        simp only [hn, ho, h1, h5, h6]
        exact ⟨by rw [h2]; exact Nat.eq_of_beq_eq_true hb, hk _ h⟩
    · exact h.elim
  · rename_i t x v ho
    split at h
    · rename_i b k vc ti hx hv hi
      obtain ⟨tj, h1, h2, _⟩ := tiOf_info (hV.inf _ _ hi)
      split at h
      · rename_i T cs hcs
        cases hb : (vc.all AV.one && (Nat.beq vc.length ti.size) && Nat.ble (k + vc.length) cs.length && Nat.blt 0 vc.length) with
        | false => rw [hb] at h; exact h.elim
        | true =>
          rw [hb, cond_true] at h
          unfold astep
          have hn : aval P s o = none := by unfold aval; simp only [ho]
          simp only [hn, ho, hx, hv, h1, hcs]
          simp only [Bool.and_eq_true] at hb
          refine ⟨?_, hk _ h⟩
          rw [h2]
          simp only [Bool.and_eq_true]
          exact ⟨⟨⟨hb.1.1.1, by rw [Nat.eq_of_beq_eq_true hb.1.1.2]; simp⟩, hb.1.2⟩, hb.2⟩
      · exact h.elim
    · exact h.elim
  · rename_i t parts ho
    split at h
    · rename_i v hv
      unfold astep
      have hn : aval P s o = none := by unfold aval; simp only [ho]
      simp only [hn, ho, sbuild_eq hV hv]
      exact hk _ h
    · exact h.elim
  · rename_i t len parts ho
    unfold astep
    have hn : aval P s o = none := by unfold aval; simp only [ho]
    simp only [hn, ho]
    split at h
    · rename_i e hb
      simp only [sbuildSlice_eq hV hb]
      exact ⟨fun _ => hk _ h, fun hne => absurd rfl hne⟩
    · rename_i e x xs hb
      simp only [sbuildSlice_eq hV hb]
      exact ⟨(fun e => by cases e), fun _ => hk _ h⟩
    · exact h.elim
  · rename_i t x y t' ho
    split at h
    · rename_i a b hx hy
      unfold astep
      have hn : aval P s o = none := by unfold aval; simp only [ho, hx, hy, binAv, binStr]
      simp only [hn, ho, hx, hy]
      exact ⟨h.1, hk _ h.2⟩
    · obtain ⟨v, h1, h2⟩ := sread_aval (o := o) hV (by rw [ho]; exact h)
      exact astep_read ⟨v, h1, hk _ h2⟩
  · rename_i args tys ho
    split at h
    · rename_i x y t t' ha ht
      split at h
      · rename_i e hd
        split at h
        · rename_i size by' zc ys hi hy
          obtain ⟨tj, h1, h2, h3, h4⟩ := tiOf_info (hV.inf _ _ hi)
          obtain ⟨z, h5, h6, h7⟩ := h4 zc rfl
          cases hb : (Nat.beq t' t && Nat.blt 0 size && Nat.blt 0 by') with
          | false => rw [hb] at h; exact h.elim
          | true =>
            rw [hb, cond_true] at h
            obtain ⟨hsz, h⟩ := h
            simp only [Bool.and_eq_true] at hb
            have ht' := Nat.eq_of_beq_eq_true hb.1.1
            unfold astep
            have hn : aval P s o = none := by unfold aval; simp only [ho]
            simp only [hn, ho, ha, ht, und_slice hV hd, h1, hy, h5]
            simp only at h2 h3
            refine ⟨ht', by simp only [Bool.and_eq_true]; exact ⟨⟨by simpa using h7, by rw [h2]; exact hb.1.2⟩, by rw [h3]; exact hb.2⟩, by rw [h2]; exact hsz, ?_⟩
            split at h
            · rename_i hx
              simp only [hx]
              obtain ⟨k1, k2, k3⟩ := h
              refine ⟨by rw [h3]; simpa [Wd.std] using k1, fun e => hk _ (k2 e), fun hne => .inl (hk _ (k3 ?_))⟩
              show 0 < ys.length
              exact List.length_pos_iff.2 hne
            · rename_i hne
              split at h
              · rename_i id xs hbase
                obtain ⟨k1, k2⟩ := h
                have hbx := sbase_eq hbase
                split
                · rename_i hx; exact absurd hx hne
                · simp only [hbx]
                  refine ⟨by rw [h3]; exact k1, ?_⟩
                  cases opn with
                  | false => exact .inl (hk _ k2)
                  | true =>
                    rw [cond_true] at k2
                    split at k2
                    · exact k2.elim
                    · exact .inr ⟨by simp, hk _ k2⟩
              · exact h.elim
        · exact h.elim
      · exact h.elim
    · exact h.elim
  · rename_i args tys ho
    split at h
    · rename_i x y ha
      split at h
      · rename_i k a k' b hx hy
        split at h
        · rename_i hkk
          unfold astep
          have hn : aval P s o = none := by unfold aval; simp only [ho]
          simp only [hn, ho, ha, hx, hy]
          exact ⟨hkk, hk _ h⟩
        · exact h.elim
      · exact h.elim
    · exact h.elim
  · rename_i f args tys ho
    unfold astep
    have hn : aval P s o = none := by unfold aval; simp only [ho]
    simp only [hn, ho]
    split at h
    · rename_i g l hc
      simp only [hc]
      obtain ⟨K0, h1, h2⟩ := h
      exact .inl ⟨K0, h1, fun r' e => hk _ (h2 r' e)⟩
    · split at h
      · rename_i g l hc
        simp only [hc]
        obtain ⟨r, H', h1, h2⟩ := h
        exact .inr ⟨_, h1, fun r' H'' ⟨e1, e2⟩ => by rw [e1, e2]; exact hk _ h2⟩
      · exact h.elim
  · obtain ⟨v, h1, h2⟩ := sread_aval (o := o) hV h
    exact astep_read ⟨v, h1, hk _ h2⟩
end
end Go.Proofs.YtdfcjodkmjofgaaGreat
