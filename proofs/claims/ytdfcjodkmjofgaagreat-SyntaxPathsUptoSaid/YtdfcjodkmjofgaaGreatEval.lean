/-
  The calculus run forward: from a closed state to a closed state, with a measure of steps; what it finds the calculus shows.
-/
import Derived.Test.YtdfcjodkmjofgaaGreatBeq
namespace Go.Proofs.YtdfcjodkmjofgaaGreat
open Go.RowKit

abbrev Boxes := List (TypeId × List AV)
abbrev Callee := FuncId → List AV → Boxes → Option (AV × Boxes)

/-- One operation. full: callees to which all boxes are handed over; raw: an append to nothing lays a box. -/
def estep (P : Program) (full : FuncId → Bool) (raw opn : Bool) (call : Callee) (o : Oper) (s : St) : Option St :=
  match aval P s o with
  | some v => some (s.put o.dst v)
  | none => match o.op with
    | .box e x => match (s.ev x).cells, P.info? e with
      | some cs, some ti => bif cs.length == ti.size then some (St.put { s with heap := s.heap ++ [(e, cs)] } o.dst (.ptr s.heap.length 0)) else none
      | _, _ => none
    | .alloc e => match P.info? e with
      | some ti => match ti.zero with
        | some z => match zcells z with
          | some cs => bif cs.length == ti.size then some (St.put { s with heap := s.heap ++ [(e, cs)] } o.dst (.ptr s.heap.length 0)) else none
          | none => none
        | none => none
      | none => none
    | .store t x v => match s.ev x, (s.ev v).cells, P.info? t with
      | .ptr b k, some vc, some ti => match s.heap[b]? with
        | some (T, cs) => bif vc.all AV.one && (vc.length == ti.size) && Nat.ble (k + vc.length) cs.length && Nat.blt 0 vc.length then some (St.put { s with heap := s.heap.set b (T, cs.take k ++ vc ++ cs.drop (k + vc.length)) } o.dst .top) else none
        | none => none
      | _, _, _ => none
    | .build t parts => match buildAv P t (partsAv s parts) with
      | some v => some (s.put o.dst v)
      | none => none
    | .buildSlice t len parts => match buildSliceAv P t len (partsAv s parts) with
      | some (_, []) => some (s.put o.dst .emp)
      | some (e, x :: xs) => some (s.put o.dst (.own (o.dst.getD 0) e (x :: xs)))
      | none => none
    | .binOp .add _ x y _ => match s.ev x, s.ev y with
      | .dat (.str a), .dat (.str b) => bif Nat.ble (a.length + b.length) 4611686018427387904 then some (s.put o.dst (.dat (.str (a ++ b)))) else none
      | _, _ => none
    | .call { callee := .builtin .append, args := args, argTypes := tys } => match args.toList, tys.toList with
      | [x, y], [t, t'] => match P.underlying t with
        | some (.slice e) => match P.info? e, (s.ev y).elems with
          | some ti, some ys => match ti.zero with
            | some z => bif (t' == t) && (z.cells.size == ti.size && Nat.blt 0 ti.size && Nat.blt 0 ti.bytes) && ys.all (fun q => q.length == ti.size) then (match s.ev x with
                | .emp => bif Nat.ble (ys.length * ti.bytes) 140737488355328 then (match ys with
                  | [] => some (s.put o.dst .emp)
                  | y :: ys => bif raw then some (St.put { s with heap := s.heap ++ [(e, ((y :: ys).flatten).map .dat)] } o.dst (.sl s.heap.length e [] (y :: ys).length)) else some (s.put o.dst (.own (o.dst.getD 0) e (y :: ys)))) else none
                | b => match baseAv (o.dst.getD 0) e b with
                  | some (id, xs) => bif Nat.ble ((xs.length + ys.length) * ti.bytes) 140737488355328 then (bif opn && Nat.blt 0 ys.length then some (St.put { s.dem id with heap := (s.dem id).heap ++ [(e, (ys.flatten).map .dat)] } o.dst (.sl (s.dem id).heap.length e xs ys.length)) else some ((s.dem id).put o.dst (.own id e (xs ++ ys)))) else none
                  | none => none) else none
            | none => none
          | _, _ => none
        | _ => none
      | _, _ => none
    | .call { callee := .builtin .max, args := args, .. } => match args.toList with
      | [x, y] => match s.ev x, s.ev y with
        | .dat (.int k a), .dat (.int k' b) => if k = k' then some (s.put o.dst (.dat (.int k (if a < b then b else a)))) else none
        | _, _ => none
      | _ => none
    | .call { callee := .value f, args := args, .. } => match callAv s f args.toList, callFull s f args.toList with
      | some (g, l), some (g', l') => bif full g then (match call g' l' s.heap with
          | some (r, H') => some (St.put ⟨AV.demAL s.slots, H'⟩ o.dst r)
          | none => none) else (match call g l [] with
          | some (r, _) => bif r.bnd 0 then some (s.put o.dst r) else none
          | none => none)
      | none, some (g', l') => match call g' l' s.heap with
          | some (r, H') => some (St.put ⟨AV.demAL s.slots, H'⟩ o.dst r)
          | none => none
      | _, none => none
    | _ => none
/-- What the callees do is so. -/
def Sure (P : Program) (call : Callee) : Prop := ∀ g l H r H', call g l H = some (r, H') → CR P g l H fun r' H'' => r' = r ∧ H'' = H'
theorem Sure.pure {P : Program} {call : Callee} (h : Sure P call) {g : FuncId} {l : List AV} {r : AV} {H' : Boxes} (hc : call g l [] = some (r, H')) (hb : r.bnd 0 = true) : CRet P g l (· = r) :=
  CR.mono (h _ _ _ _ _ hc) fun _ _ ⟨h1, _⟩ => ⟨by rw [h1]; exact hb, h1⟩
theorem estep_astep {P : Program} {full : FuncId → Bool} {raw opn : Bool} {call : Callee} (hc : Sure P call) {o : Oper} {s s' : St} (h : estep P full raw opn call o s = some s') {K : St → Prop} (hk : K s') : astep P o s K := by
  unfold estep at h
  unfold astep
  split at h
  · rename_i v hv
    injection h with h
    subst h
    simp only [hv]
    exact hk
  · rename_i hnone
    simp only [hnone]
    split at h
    · rename_i e x ho
      simp only [ho]
      split at h
      · rename_i cs ti h1 h2
        simp only [h1, h2]
        cases hl : cs.length == ti.size with
        | false => rw [hl] at h; cases h
        | true =>
          rw [hl, cond_true, Option.some.injEq] at h
          subst h
          exact ⟨by simpa using hl, hk⟩
      · cases h
    · rename_i e ho
      simp only [ho]
      split at h
      · rename_i ti hti
        simp only [hti]
        split at h
        · rename_i z hz
          simp only [hz]
          split at h
          · rename_i cs hcs
            simp only [hcs]
            cases hl : cs.length == ti.size with
            | false => rw [hl] at h; cases h
            | true =>
              rw [hl, cond_true, Option.some.injEq] at h
              subst h
              exact ⟨by simpa using hl, hk⟩
          · cases h
        · cases h
      · cases h
    · rename_i t x v ho
      simp only [ho]
      split at h
      · rename_i b k vc ti hx hvc hti
        simp only [hx, hvc, hti]
        split at h
        · rename_i T cs hcs
          simp only [hcs]
          cases hl : (vc.all AV.one && (vc.length == ti.size) && Nat.ble (k + vc.length) cs.length && Nat.blt 0 vc.length) with
          | false => rw [hl] at h; cases h
          | true =>
            rw [hl, cond_true, Option.some.injEq] at h
            subst h
            exact ⟨rfl, hk⟩
        · cases h
      · cases h
    · rename_i t parts ho
      simp only [ho]
      split at h
      · rename_i v hv
        simp only [hv]
        injection h with h
        subst h
        exact hk
      · cases h
    · rename_i t len parts ho
      simp only [ho]
      split at h
      · rename_i e hb
        simp only [hb]
        injection h with h
        subst h
        exact ⟨fun _ => hk, fun hne => absurd rfl hne⟩
      · rename_i e x xs hb
        simp only [hb]
        injection h with h
        subst h
        exact ⟨(fun e => by cases e), fun _ => hk⟩
      · cases h
    · rename_i t x y t' ho
      simp only [ho]
      split at h
      · rename_i p q hx hy
        simp only [hx, hy]
        cases hl : Nat.ble (p.length + q.length) 4611686018427387904 with
        | false => rw [hl] at h; cases h
        | true =>
          rw [hl, cond_true, Option.some.injEq] at h
          subst h
          exact ⟨by simpa using hl, hk⟩
      · cases h
    · rename_i args tys ho
      simp only [ho]
      split at h
      · rename_i x y t t' hargs htys
        simp only [hargs, htys]
        split at h
        · rename_i e he
          simp only [he]
          split at h
          · rename_i ti ys hti hy
            simp only [hti, hy]
            split at h
            · rename_i z hz
              simp only [hz]
              cases hl : (t' == t) && (z.cells.size == ti.size && Nat.blt 0 ti.size && Nat.blt 0 ti.bytes) && ys.all (fun q => q.length == ti.size) with
              | false => rw [hl] at h; cases h
              | true =>
                rw [hl, cond_true] at h
                rw [Bool.and_eq_true, Bool.and_eq_true] at hl
                obtain ⟨⟨h1, h2⟩, h3⟩ := hl
                refine ⟨by simpa using h1, h2, fun q hq => by simpa using List.all_eq_true.1 h3 q hq, ?_⟩
                split at h
                · rename_i hx
                  simp only [hx]
                  cases h4 : Nat.ble (ys.length * ti.bytes) 140737488355328 with
                  | false => rw [h4] at h; cases h
                  | true =>
                    rw [h4, cond_true] at h
                    refine ⟨by simpa using h4, ?_⟩
                    split at h
                    · injection h with h
                      subst h
                      exact ⟨fun _ => hk, fun hne => absurd rfl hne⟩
                    · refine ⟨(fun e => by cases e), fun _ => ?_⟩
                      cases raw with
                      | true => rw [cond_true, Option.some.injEq] at h; subst h; exact .inr hk
                      | false => rw [cond_false, Option.some.injEq] at h; subst h; exact .inl hk
                · rename_i hne
                  split at h
                  · rename_i id xs hb
                    cases h4 : Nat.ble ((xs.length + ys.length) * ti.bytes) 140737488355328 with
                    | false => rw [h4] at h; cases h
                    | true =>
                      rw [h4, cond_true] at h
                      split
                      · rename_i hx
                        exact absurd hx hne
                      · simp only [hb]
                        refine ⟨by simpa using h4, ?_⟩
                        cases h5 : opn && Nat.blt 0 ys.length with
                        | true =>
                          rw [h5, cond_true, Option.some.injEq] at h
                          subst h
                          simp only [Bool.and_eq_true, Nat.blt_eq] at h5
                          exact .inr ⟨h5.2, hk⟩
                        | false =>
                          rw [h5, cond_false, Option.some.injEq] at h
                          subst h
                          exact .inl hk
                  · cases h
            · cases h
          · cases h
        · cases h
      · cases h
    · rename_i args tys ho
      simp only [ho]
      split at h
      · rename_i x y hargs
        simp only [hargs]
        split at h
        · rename_i k m k' n hx hy
          simp only [hx, hy]
          split at h
          · rename_i hkk
            injection h with h
            subst h
            exact ⟨hkk, hk⟩
          · cases h
        · cases h
      · cases h
    · rename_i f args tys ho
      simp only [ho]
      split at h
      · rename_i g l g' l' h1 h2
        simp only [h1, h2]
        cases hf : full g with
        | true =>
          rw [hf, cond_true] at h
          split at h
          · rename_i r H' hr
            injection h with h
            subst h
            exact .inr ⟨_, hc _ _ _ _ _ hr, fun r' H'' ⟨e1, e2⟩ => by rw [e1, e2]; exact hk⟩
          · cases h
        | false =>
          rw [hf, cond_false] at h
          split at h
          · rename_i r H' hr
            cases hb : r.bnd 0 with
            | false => rw [hb] at h; cases h
            | true =>
              rw [hb, cond_true, Option.some.injEq] at h
              subst h
              exact .inl ⟨_, hc.pure hr hb, fun r' e => by rw [e]; exact hk⟩
          · cases h
      · rename_i g' l' h1 h2
        simp only [h1, h2]
        split at h
        · rename_i r H' hr
          injection h with h
          subst h
          exact .inr ⟨_, hc _ _ _ _ _ hr, fun r' H'' ⟨e1, e2⟩ => by rw [e1, e2]; exact hk⟩
        · cases h
      · cases h
    · cases h

/-- An element of what the operation appends is written behind it. -/
def opens (all : Array Oper) (o : Oper) : Bool :=
  all.any fun o' => match o'.op with
    | .indexAddr _ (.tmp t) _ => o.dst == some t
    | _ => false
/-- The boxes of the appends that a region has opened. -/
def opened (all : Array Oper) (s : St) : List Nat :=
  all.toList.filterMap fun o => match o.op, o.dst with
    | .call { callee := .builtin .append, .. }, some t => match opens all o, s.slots[t]? with
      | true, some (.sl p _ _ _) => some p
      | _, _ => none
    | _, _ => none
def eops (P : Program) (full : FuncId → Bool) (raw : Bool) (call : Callee) (all : Array Oper) : List Oper → St → Option St
  | [], s => some s
  | o :: rest, s => match gtest all s o with
    | none => none
    | some none => match estep P full raw (opens all o) call o s with
      | some s' => eops P full raw call all rest s'
      | none => none
    | some (some true) => match estep P full raw (opens all o) call o s with
      | some s' => eops P full raw call all rest s'
      | none => none
    | some (some false) => eops P full raw call all rest (s.put o.dst .top)
theorem eops_aops {P : Program} {full : FuncId → Bool} {raw : Bool} {call : Callee} (hc : Sure P call) {all : Array Oper} {K : St → Prop} : ∀ {l : List Oper} {s s' : St}, eops P full raw call all l s = some s' → K s' → aops P all l s K
  | [], s, s', h, hk => by simp only [eops, Option.some.injEq] at h; subst h; exact hk
  | o :: rest, s, s', h, hk => by
    simp only [eops] at h
    simp only [aops]
    split at h
    · cases h
    · rename_i hg
      simp only [hg]
      split at h
      · rename_i s1 h1
        exact estep_astep hc h1 (K := fun s' => aops P all rest s' K) (eops_aops hc h hk)
      · cases h
    · rename_i hg
      simp only [hg]
      split at h
      · rename_i s1 h1
        exact ⟨fun _ => estep_astep hc h1 (K := fun s' => aops P all rest s' K) (eops_aops hc h hk), fun e => by cases e⟩
      · cases h
    · rename_i hg
      simp only [hg]
      exact ⟨(fun e => by cases e), fun _ => eops_aops hc h hk⟩

def eqstep (P : Program) (call : Callee) (o : Oper) (s : St) : Option St :=
  match aval P s o with
  | some v => some (s.put o.dst v)
  | none => match o.op with
    | .build t parts => match buildAv P t (partsAv s parts) with
      | some v => some (s.put o.dst v)
      | none => none
    | .call { callee := .value f, args := args, .. } => match callAv s f args.toList with
      | some (g, l) => match call g l [] with
        | some (.dat d, _) => bif d.flat then some (s.put o.dst (.dat d)) else none
        | _ => none
      | none => none
    | _ => none
theorem eqstep_aqstep {P : Program} {call : Callee} (hc : Sure P call) {o : Oper} {s s' : St} (h : eqstep P call o s = some s') {K : St → Prop} (hk : K s') : aqstep P o s K := by
  unfold eqstep at h
  unfold aqstep
  split at h
  · rename_i v hv
    injection h with h
    subst h
    simp only [hv]
    exact hk
  · rename_i hnone
    simp only [hnone]
    split at h
    · rename_i t parts ho
      simp only [ho]
      split at h
      · rename_i v hv
        simp only [hv]
        injection h with h
        subst h
        exact hk
      · cases h
    · rename_i f args tys ho
      simp only [ho]
      split at h
      · rename_i g l hca
        simp only [hca]
        split at h
        · rename_i d H' hr
          cases hb : d.flat with
          | false => rw [hb] at h; cases h
          | true =>
            rw [hb, cond_true, Option.some.injEq] at h
            subst h
            exact ⟨d, hc.pure hr rfl, hb, hk⟩
        · cases h
      · cases h
    · cases h
def equiet (P : Program) (call : Callee) (all : Array Oper) : List Oper → St → Option St
  | [], s => some s
  | o :: rest, s => match gtest all s o with
    | none => none
    | some none => match eqstep P call o s with
      | some s' => equiet P call all rest s'
      | none => none
    | some (some true) => match eqstep P call o s with
      | some s' => equiet P call all rest s'
      | none => none
    | some (some false) => equiet P call all rest (s.put o.dst .top)
theorem equiet_aquiet {P : Program} {call : Callee} (hc : Sure P call) {all : Array Oper} {K : St → Prop} : ∀ {l : List Oper} {s s' : St}, equiet P call all l s = some s' → K s' → aquiet P all l s K
  | [], s, s', h, hk => by simp only [equiet, Option.some.injEq] at h; subst h; exact hk
  | o :: rest, s, s', h, hk => by
    simp only [equiet] at h
    simp only [aquiet]
    split at h
    · cases h
    · rename_i hg
      simp only [hg]
      split at h
      · rename_i s1 h1
        exact eqstep_aqstep hc h1 (K := fun s' => aquiet P all rest s' K) (equiet_aquiet hc h hk)
      · cases h
    · rename_i hg
      simp only [hg]
      split at h
      · rename_i s1 h1
        exact ⟨fun _ => eqstep_aqstep hc h1 (K := fun s' => aquiet P all rest s' K) (equiet_aquiet hc h hk), fun e => by cases e⟩
      · cases h
    · rename_i hg
      simp only [hg]
      exact ⟨(fun e => by cases e), fun _ => equiet_aquiet hc h hk⟩

def ehead (P : Program) (all : Array Oper) : List Oper → St → Option St
  | [], s => some s
  | o :: rest, s => match gtest all s o with
    | none => none
    | some none => match aval P s o with
      | some v => ehead P all rest (s.put o.dst v)
      | none => none
    | some (some true) => match aval P s o with
      | some v => ehead P all rest (s.put o.dst v)
      | none => none
    | some (some false) => ehead P all rest (s.put o.dst .top)
theorem ehead_ahead {P : Program} {all : Array Oper} {K : St → Prop} : ∀ {l : List Oper} {s s' : St}, ehead P all l s = some s' → K s' → ahead P all l s K
  | [], s, s', h, hk => by simp only [ehead, Option.some.injEq] at h; subst h; exact hk
  | o :: rest, s, s', h, hk => by
    simp only [ehead] at h
    simp only [ahead]
    split at h
    · cases h
    · rename_i hg
      simp only [hg]
      split at h
      · rename_i v hv
        simp only [hv]
        exact ehead_ahead h hk
      · cases h
    · rename_i hg
      simp only [hg]
      split at h
      · rename_i v hv
        simp only [hv]
        exact ⟨fun _ => ehead_ahead h hk, fun e => by cases e⟩
      · cases h
    · rename_i hg
      simp only [hg]
      exact ⟨(fun e => by cases e), fun _ => ehead_ahead h hk⟩

def oval (P : Program) (call : Callee) (o : Oper) (s : St) : Option AV :=
  match aval P s o with
  | some v => some v
  | none => match o.op with
    | .build t parts => buildAv P t (partsAv s parts)
    | .buildSlice t len parts => match buildSliceAv P t len (partsAv s parts) with
      | some (_, []) => some .emp
      | some (e, x :: xs) => some (.own (o.dst.getD 0) e (x :: xs))
      | none => none
    | .binOp .add _ x y _ => match s.ev x, s.ev y with
      | .dat (.str a), .dat (.str b) => bif Nat.ble (a.length + b.length) 4611686018427387904 then some (.dat (.str (a ++ b))) else none
      | _, _ => none
    | .call { callee := .value f, args := args, .. } => match callAv s f args.toList with
      | some (g, l) => match call g l [] with
        | some (r, _) => bif r.bnd 0 then some r else none
        | none => none
      | none => none
    | _ => none
theorem oval_OVal {P : Program} {call : Callee} (hc : Sure P call) {o : Oper} {s : St} {v : AV} (h : oval P call o s = some v) : OVal P s o v := by
  unfold oval at h
  split at h
  · rename_i u hu
    exact .inl (hu.trans h)
  · split at h
    · rename_i t parts ho
      exact .inr (.inl ⟨t, parts, ho, h⟩)
    · rename_i t len parts ho
      split at h
      · rename_i e hb
        injection h with h
        subst h
        exact .inr (.inr (.inl ⟨t, len, parts, e, [], ho, hb, rfl⟩))
      · rename_i e x xs hb
        injection h with h
        subst h
        exact .inr (.inr (.inl ⟨t, len, parts, e, x :: xs, ho, hb, rfl⟩))
      · cases h
    · rename_i t x y t' ho
      split at h
      · rename_i a b hx hy
        cases hl : Nat.ble (a.length + b.length) 4611686018427387904 with
        | false => rw [hl] at h; cases h
        | true =>
          rw [hl, cond_true, Option.some.injEq] at h
          exact .inr (.inr (.inr (.inr ⟨t, x, y, t', a, b, ho, hx, hy, by simpa using hl, h.symm⟩)))
      · cases h
    · rename_i f args tys ho
      split at h
      · rename_i g l hca
        split at h
        · rename_i r H' hr
          cases hb : r.bnd 0 with
          | false => rw [hb] at h; cases h
          | true =>
            rw [hb, cond_true, Option.some.injEq] at h
            subst h
            exact .inr (.inr (.inr (.inl ⟨f, args, tys, g, l, ho, hca, hc.pure hr hb⟩)))
        · cases h
      · cases h
    · cases h
/-- What an operation of a head does besides its value. -/
inductive HK where
  | val
  | off
  | al (r : Nat)
  | st (r : Nat) (vc : List AV)
/-- A head's values, the boxes counted from c on. -/
def ehrun (P : Program) (call : Callee) (all : Array Oper) : Nat → List Oper → St → Option (List (AV × HK))
  | _, [], _ => some []
  | c, o :: rest, s => match gtest all s o with
    | none => none
    | some (some false) => match ehrun P call all c rest (s.put o.dst .top) with
      | some vs => some ((.top, .off) :: vs)
      | none => none
    | some _ => match allocOf P o with
      | some _ => match ehrun P call all (c + 1) rest (s.put o.dst (.ptr (s.heap.length + c) 0)) with
        | some vs => some ((.ptr (s.heap.length + c) 0, .al c) :: vs)
        | none => none
      | none => match o.op with
        | .store t x y => match s.ev x, (s.ev y).cells, P.info? t with
          | .ptr q 0, some vc, some ti => bif Nat.ble s.heap.length q && (vc.all AV.one && (vc.length == ti.size) && Nat.blt 0 vc.length && AV.bndL s.heap.length vc) then (match ehrun P call all c rest (s.put o.dst .top) with
            | some vs => some ((.top, .st (q - s.heap.length) vc) :: vs)
            | none => none) else none
          | _, _, _ => none
        | _ => match oval P call o s with
          | some v => bif v.bnd s.heap.length then (match ehrun P call all c rest (s.put o.dst v) with
            | some vs => some ((v, .val) :: vs)
            | none => none) else none
          | none => none
/-- What is done fits the head's boxes. -/
def kchk (P : Program) (bl : List BE) (i : Nat) (o : Oper) : HK → Bool
  | .val => bl.all fun b => !b.has i
  | .off => bl.all fun b => !b.has i
  | .al r => match bl[r]?, allocOf P o with
    | some b, some (T, zc) => b.al == i && b.T == T && AV.beqL b.zc zc
    | _, _ => false
  | .st r vc => match bl[r]? with
    | some b => (match b.st with | some (j, vc') => j == i && AV.beqL vc' vc | none => false) && vc.length == b.zc.length
    | none => false
def kchks (P : Program) (bl : List BE) : Nat → List Oper → List (AV × HK) → Bool
  | i, o :: rest, (_, k) :: ks => kchk P bl i o k && kchks P bl (i + 1) rest ks
  | _, _, _ => true
theorem ehrun_HRun {P : Program} {call : Callee} (hc : Sure P call) {all : Array Oper} {bl : List BE} : ∀ {l : List Oper} {c i : Nat} {s : St} {vs : List (AV × HK)}, ehrun P call all c l s = some vs → kchks P bl i l vs = true → HRun P all bl i l s (vs.map (·.1))
  | [], c, i, s, vs, h, _ => by simp only [ehrun, Option.some.injEq] at h; subst h; rfl
  | o :: rest, c, i, s, vs, h, hk => by
    simp only [ehrun] at h
    split at h
    · cases h
    · rename_i hg
      split at h
      · rename_i us hus
        injection h with h
        subst h
        simp only [kchks, Bool.and_eq_true] at hk
        simp only [List.map_cons, HRun]
        refine ⟨?_, ehrun_HRun hc hus hk.2⟩
        unfold HStep
        simp only [hg]
        exact ⟨trivial, hk.1⟩
      · cases h
    · rename_i b hnf hg
      split at h
      · rename_i bx hal
        split at h
        · rename_i us hus
          injection h with h
          subst h
          simp only [kchks, Bool.and_eq_true] at hk
          simp only [List.map_cons, HRun]
          refine ⟨?_, ehrun_HRun hc hus hk.2⟩
          have hk1 := hk.1
          simp only [kchk] at hk1
          split at hk1
          · rename_i b' T zc hb hal'
            simp only [Bool.and_eq_true, beq_iff_eq] at hk1
            have e := AV.beqL_eq _ _ hk1.2
            unfold HStep
            split
            · rename_i hg'; rw [hg'] at hg; cases hg
            · rename_i hg'; rw [hg'] at hg; injection hg with hg; exact absurd hg.symm hnf
            · exact .inr (.inl ⟨c, b', hb, hk1.1.1, by rw [hal', hk1.1.2, e], rfl⟩)
          · cases hk1
        · cases h
      · rename_i hal
        split at h
        · rename_i t x y hos
          split at h
          · rename_i q vc ti hx hy hti
            cases hok : (Nat.ble s.heap.length q && (vc.all AV.one && (vc.length == ti.size) && Nat.blt 0 vc.length && AV.bndL s.heap.length vc)) with
            | false => rw [hok] at h; cases h
            | true =>
              rw [hok, cond_true] at h
              split at h
              · rename_i us hus
                injection h with h
                subst h
                simp only [kchks, Bool.and_eq_true] at hk
                simp only [List.map_cons, HRun]
                refine ⟨?_, ehrun_HRun hc hus hk.2⟩
                have hk1 := hk.1
                simp only [kchk] at hk1
                split at hk1
                · rename_i b' hb
                  rw [Bool.and_eq_true] at hk1
                  obtain ⟨hk2, hk3⟩ := hk1
                  split at hk2
                  · rename_i j vc' hst
                    simp only [Bool.and_eq_true, beq_iff_eq] at hk2
                    obtain ⟨rfl, hk2⟩ := hk2
                    have e := AV.beqL_eq _ _ hk2
                    subst e
                    simp only [Bool.and_eq_true, Nat.ble_eq] at hok
                    obtain ⟨hle, ⟨⟨h1, h2⟩, h3⟩, h4⟩ := hok
                    have hq : s.heap.length + (q - s.heap.length) = q := by omega
                    unfold HStep
                    split
                    · rename_i hg'; rw [hg'] at hg; cases hg
                    · rename_i hg'; rw [hg'] at hg; injection hg with hg; exact absurd hg.symm hnf
                    · refine .inr (.inr ⟨q - s.heap.length, b', vc', t, x, y, ti, hb, hst, rfl, hos, by rw [hq]; exact hx, hy, hti, ?_⟩)
                      simp only [Bool.and_eq_true]
                      exact ⟨⟨⟨⟨h1, h2⟩, hk3⟩, h3⟩, h4⟩
                  · cases hk2
                · cases hk1
              · cases h
          · cases h
        · split at h
          · rename_i v hv
            cases hb : v.bnd s.heap.length with
            | false => rw [hb] at h; cases h
            | true =>
              rw [hb, cond_true] at h
              split at h
              · rename_i us hus
                injection h with h
                subst h
                simp only [kchks, Bool.and_eq_true] at hk
                simp only [List.map_cons, HRun]
                refine ⟨?_, ehrun_HRun hc hus hk.2⟩
                unfold HStep
                split
                · rename_i hg'; rw [hg'] at hg; cases hg
                · rename_i hg'; rw [hg'] at hg; injection hg with hg; exact absurd hg.symm hnf
                · exact .inl ⟨oval_OVal hc hv, hb, hk.1⟩
              · cases h
          · cases h
/-- The boxes of a head that has run. -/
def mkbl (P : Program) (ks : List (AV × HK)) : Nat → List Oper → List (AV × HK) → List BE
  | i, o :: rest, (_, .al r) :: l => match allocOf P o with
    | some (T, zc) => ⟨i, T, zc, (ks.zipIdx.findSome? fun x => match x with | ((_, .st r' vc), j) => bif r' == r then some (j, vc) else none | _ => none)⟩ :: mkbl P ks (i + 1) rest l
    | none => mkbl P ks (i + 1) rest l
  | i, _ :: rest, _ :: l => mkbl P ks (i + 1) rest l
  | _, _, _ => []
def headable : Op → Bool
  | .box _ _ => false
  | .call { callee := .builtin .append, .. } => false
  | _ => true
def freezeAll (P : Program) (l : List Nat) (s : St) : St := l.foldl (fun s o => s.freeze P o) s
theorem Wk.freezeAll (P : Program) {nb : Nat} : ∀ (l : List Nat) (s : St), Wk P nb s (freezeAll P l s)
  | [], s => Wk.refl P s
  | o :: l, s => (Wk.freeze P o s).trans (Wk.freezeAll P l _)

def eop1 (P : Program) (full : FuncId → Bool) (raw : Bool) (call : Callee) (all : Array Oper) (o : Oper) (s : St) : Option St :=
  match gtest all s o with
  | none => none
  | some (some false) => some (s.put o.dst .top)
  | some _ => estep P full raw (opens all o) call o s
theorem eop1_aop1 {P : Program} {full : FuncId → Bool} {raw : Bool} {call : Callee} (hc : Sure P call) {all : Array Oper} {o : Oper} {s s' : St} (h : eop1 P full raw call all o s = some s') {K : St → Prop} (hk : K s') : aop1 P all o s K := by
  unfold eop1 at h
  unfold aop1
  split at h
  · cases h
  · rename_i hg
    simp only [hg]
    injection h with h
    subst h
    exact ⟨(fun e => by cases e), fun _ => hk⟩
  · rename_i b hnf hg
    cases b with
    | none => simp only [hg]; exact estep_astep hc h hk
    | some b =>
      cases b with
      | false => exact absurd rfl hnf
      | true => simp only [hg]; exact ⟨fun _ => estep_astep hc h hk, (fun e => by cases e)⟩
/-- Own slices in these slots are data. -/
def softL : List AV → List Tmp → List AV
  | sl, [] => sl
  | sl, t :: ds => softL (match sl[t]? with | some (.own _ _ xs) => sl.set t (.dat (.list xs)) | _ => sl) ds
def St.soft (ds : List Tmp) (s : St) : St := { s with slots := softL s.slots ds }
theorem Wk.soft (P : Program) {nb : Nat} : ∀ (ds : List Tmp) (s : St), Wk P nb s (s.soft ds)
  | [], s => Wk.refl P s
  | t :: ds, s => by
    refine Wk.trans (s' := ⟨match s.slots[t]? with | some (.own _ _ xs) => s.slots.set t (.dat (.list xs)) | _ => s.slots, s.heap⟩) ?_ (Wk.soft P ds _)
    intro w0 X0 w X a _ h
    refine ⟨X, h.defers, ?_, fun i c v hi hv => ?_, h.hp, h.po⟩
    · rw [h.size]
      simp only
      split <;> simp
    · simp only at hi
      split at hi
      · rename_i id e xs hx
        rw [List.getElem?_set] at hi
        split at hi
        · rename_i e'
          subst e'
          split at hi
          · injection hi with hi
            subst hi
            exact .dat _ _ (h.slot t _ v hx hv).asDat
          · cases hi
        · exact h.slot i c v hi hv
      · exact h.slot i c v hi hv
/-- Where a region both calls and lays slices of its own, these are told of as data. -/
def softs (ops : Array Oper) : List Tmp := ops.toList.filterMap fun o => match o.op with | .buildSlice .. => o.dst | _ => none
abbrev Level := List (Array Bool × St)
def addE (L : Array Bool) (s : St) : Level → Option Level
  | [] => some [(L, s)]
  | (L', s') :: T => bif L.toList == L'.toList then (bif s.beq s' then some ((L', s') :: T) else none) else (match addE L s T with
    | some T' => some ((L', s') :: T')
    | none => none)
theorem addE_mem {L : Array Bool} {s : St} : ∀ {T T' : Level}, addE L s T = some T' → (L, s) ∈ T' ∧ ∀ x ∈ T, x ∈ T'
  | [], T', h => by simp only [addE, Option.some.injEq] at h; subst h; simp
  | (L', s') :: T, T', h => by
    simp only [addE] at h
    cases hl : L.toList == L'.toList with
    | true =>
      rw [hl, cond_true] at h
      cases hb : s.beq s' with
      | false => rw [hb] at h; cases h
      | true =>
        rw [hb, cond_true, Option.some.injEq] at h
        subst h
        have e1 : L = L' := Array.toList_inj.1 (by simpa using hl)
        exact ⟨by rw [e1, St.beq_eq hb]; simp, fun x hx => hx⟩
    | false =>
      rw [hl, cond_false] at h
      split at h
      · rename_i T2 h2
        injection h with h
        subst h
        obtain ⟨h3, h4⟩ := addE_mem h2
        exact ⟨by simp [h3], fun x hx => by
          rcases List.mem_cons.1 hx with rfl | hx
          · simp
          · simp [h4 x hx]⟩
      · cases h
/-- All that may come next. -/
def enext (P : Program) (full : FuncId → Bool) (raw : Bool) (call : Callee) (ops : Array Oper) (ds : List Tmp) (L : Array Bool) (s : St) : List Nat → Level → Option Level
  | [], T => some T
  | i :: is, T => match ops[i]? with
    | some o => match eop1 P full raw call ops o s with
      | some s' => match addE (L.setIfInBounds i true) (s'.soft ds) T with
        | some T' => enext P full raw call ops ds L s is T'
        | none => none
      | none => none
    | none => none
theorem enext_mem {P : Program} {full : FuncId → Bool} {raw : Bool} {call : Callee} {ops : Array Oper} {ds : List Tmp} {L : Array Bool} {s : St} : ∀ {is : List Nat} {T T' : Level}, enext P full raw call ops ds L s is T = some T' →
    (∀ x ∈ T, x ∈ T') ∧ ∀ i ∈ is, ∃ o s', ops[i]? = some o ∧ eop1 P full raw call ops o s = some s' ∧ (L.setIfInBounds i true, s'.soft ds) ∈ T'
  | [], T, T', h => by simp only [enext, Option.some.injEq] at h; subst h; exact ⟨fun x hx => hx, fun i hi => by simp at hi⟩
  | i :: is, T, T', h => by
    simp only [enext] at h
    split at h
    · rename_i o ho
      split at h
      · rename_i s' hs'
        split at h
        · rename_i T2 h2
          obtain ⟨h3, h4⟩ := addE_mem h2
          obtain ⟨h5, h6⟩ := enext_mem h
          refine ⟨fun x hx => h5 x (h4 x hx), fun j hj => ?_⟩
          rcases List.mem_cons.1 hj with rfl | hj
          · exact ⟨o, s', ho, hs', h5 _ h3⟩
          · exact h6 j hj
        · cases h
      · cases h
    · cases h
def elevel (P : Program) (full : FuncId → Bool) (raw : Bool) (call : Callee) (ops : Array Oper) (ds : List Tmp) : Level → Level → Option Level
  | [], T => some T
  | (L, s) :: rest, T => match Region.ready .any ops L with
    | [] => none
    | i :: is => match enext P full raw call ops ds L s (i :: is) T with
      | some T' => elevel P full raw call ops ds rest T'
      | none => none
theorem elevel_mem {P : Program} {full : FuncId → Bool} {raw : Bool} {call : Callee} {ops : Array Oper} {ds : List Tmp} : ∀ {R T T' : Level}, elevel P full raw call ops ds R T = some T' →
    (∀ x ∈ T, x ∈ T') ∧ ∀ L s, (L, s) ∈ R → Region.ready .any ops L ≠ [] ∧ ∀ i ∈ Region.ready .any ops L, ∃ o s', ops[i]? = some o ∧ eop1 P full raw call ops o s = some s' ∧ (L.setIfInBounds i true, s'.soft ds) ∈ T'
  | [], T, T', h => by simp only [elevel, Option.some.injEq] at h; subst h; exact ⟨fun x hx => hx, fun L s hi => by simp at hi⟩
  | (L, s) :: rest, T, T', h => by
    simp only [elevel] at h
    split at h
    · cases h
    · rename_i i is hr
      split at h
      · rename_i T2 h2
        obtain ⟨h3, h4⟩ := enext_mem h2
        obtain ⟨h5, h6⟩ := elevel_mem h
        refine ⟨fun x hx => h5 x (h3 x hx), fun L' s' hm => ?_⟩
        rcases List.mem_cons.1 hm with e | hm
        · simp only [Prod.mk.injEq] at e
          obtain ⟨rfl, rfl⟩ := e
          refine ⟨by rw [hr]; simp, fun j hj => ?_⟩
          rw [hr] at hj
          obtain ⟨o, s2, k1, k2, k3⟩ := h4 j hj
          exact ⟨o, s2, k1, k2, h5 _ k3⟩
        · exact h6 L' s' hm
      · cases h
def efinal (ops : Array Oper) : Level → Option St
  | [(L, s)] => match Region.ready .any ops L with
    | [] => some s
    | _ => none
  | _ => none
def ebfs (P : Program) (full : FuncId → Bool) (raw : Bool) (call : Callee) (ops : Array Oper) (ds : List Tmp) : Nat → Level → Option St
  | 0, T => efinal ops T
  | f + 1, T => match elevel P full raw call ops ds T [] with
    | some T' => ebfs P full raw call ops ds f T'
    | none => none
theorem ebfs_aany {P : Program} {nb : Nat} {full : FuncId → Bool} {raw : Bool} {call : Callee} (hc : Sure P call) {ops : Array Oper} {ds : List Tmp} {K : St → Prop} {s' : St} (hk : K s') : ∀ (f : Nat) (T : Level), ebfs P full raw call ops ds f T = some s' → ∀ L s, (L, s) ∈ T → aany P nb ops f L s K
  | 0, T, h, L, s, hm => by
    simp only [ebfs] at h
    unfold efinal at h
    split at h
    · rename_i L0 s0
      split at h
      · rename_i hr
        injection h with h
        subst h
        have e : (L, s) = (L0, s0) := by simpa using hm
        injection e with e1 e2
        subst e1 e2
        exact ⟨hr, hk⟩
      · cases h
    · cases h
  | f + 1, T, h, L, s, hm => by
    simp only [ebfs] at h
    split at h
    · rename_i T2 h2
      obtain ⟨_, h4⟩ := elevel_mem h2
      obtain ⟨h5, h6⟩ := h4 L s hm
      refine ⟨fun e => absurd e h5, fun i hi => ?_⟩
      obtain ⟨o, s2, k1, k2, k3⟩ := h6 i hi
      simp only [k1]
      exact eop1_aop1 hc k2 ⟨_, Wk.soft P ds s2, ebfs_aany hc hk f T2 h _ _ k3⟩
    · cases h
def tailN (ops : Array Oper) : Option Nat := (List.range (ops.size + 1)).find? fun n => Region.lexTailB .any ops n
def eloop (body : St → Option (AEx × St)) : Nat → St → Option (AEx × St)
  | 0, _ => none
  | n + 1, s => match body s with
    | some (.norm, s') => eloop body n s'
    | some (.exit id, s') => some (.exit id, s')
    | some (.ret, s') => some (.ret, s')
    | none => none
/-- Up to how far a head may reach: no store but of a box's first contents. -/
def freeNs (ops : Array Oper) : List Nat := (List.range (ops.size + 1)).reverse.filter fun n => (ops.toList.take n).all (fun o => headable o.op) && freeB .any ops n
def efree (P : Program) (full : FuncId → Bool) (raw : Bool) (call : Callee) (ops : Array Oper) (s : St) (n : Nat) : Option St :=
  match ehrun P call ops 0 (ops.toList.take n) s with
  | some ks => bif blB .any ops n (mkbl P ks 0 (ops.toList.take n) ks) && kchks P (mkbl P ks 0 (ops.toList.take n) ks) 0 (ops.toList.take n) ks then eops P full raw call ops (ops.toList.drop n) ⟨hslots (ops.toList.take n) (ks.map (·.1)) s.slots, s.heap ++ heapB (mkbl P ks 0 (ops.toList.take n) ks) fun _ => true⟩ else none
  | none => none
/-- The longest head that runs. -/
def efrees (P : Program) (full : FuncId → Bool) (raw : Bool) (call : Callee) (ops : Array Oper) (s : St) : List Nat → Option St
  | [] => none
  | n :: ns => match efree P full raw call ops s n with
    | some s' => some s'
    | none => efrees P full raw call ops s ns
def edrawn (P : Program) (full : FuncId → Bool) (raw : Bool) (call : Callee) (ops : Array Oper) (s : St) : Option St := efrees P full raw call ops s (freeNs ops)
theorem efrees_some {P : Program} {full : FuncId → Bool} {raw : Bool} {call : Callee} {ops : Array Oper} {s s' : St} : ∀ {ns : List Nat}, efrees P full raw call ops s ns = some s' → ∃ n ∈ ns, efree P full raw call ops s n = some s'
  | [], h => by cases h
  | n :: ns, h => by
    simp only [efrees] at h
    split at h
    · rename_i s1 h1
      exact ⟨n, by simp, h1.trans h⟩
    · obtain ⟨m, hm, h2⟩ := efrees_some h
      exact ⟨m, by simp [hm], h2⟩
def ecode (P : Program) (full : FuncId → Bool) (raw : Bool) (call : Callee) (fuel : Nat) : Code → St → Option (AEx × St)
  | .skip, s => some (.norm, s)
  | .region _ ops false, s => match eops P full raw call ops ops.toList s with
    | some s' => some (.norm, freezeAll P (opened ops s') s')
    | none => none
  | .region _ ops true, s => match edrawn P full raw call ops s with
    | some s' => some (.norm, s')
    | none => match ebfs P full raw call ops [] ops.size [(Array.replicate ops.size false, s)] with
      | some s' => some (.norm, freezeAll P (opened ops s') s')
      | none => match ebfs P full raw call ops (softs ops) ops.size [(Array.replicate ops.size false, s)] with
        | some s' => some (.norm, freezeAll P (opened ops s') s')
        | none => none
  | .seq a b, s => match ecode P full raw call fuel a s with
    | some (.norm, s') => ecode P full raw call fuel b s'
    | some (.exit id, s') => some (.exit id, s')
    | some (.ret, s') => some (.ret, s')
    | none => none
  | .cond c t e, s => match s.ev c with
    | .dat (.bool true) => ecode P full raw call fuel t s
    | .dat (.bool false) => ecode P full raw call fuel e s
    | _ => none
  | .block id c, s => match ecode P full raw call fuel c s with
    | some (.exit i, s') => if i = id then some (.norm, s') else some (.exit i, s')
    | some (.norm, s') => some (.norm, s')
    | some (.ret, s') => some (.ret, s')
    | none => none
  | .loop c, s => eloop (ecode P full raw call fuel c) fuel s
  | .exit id, s => some (.exit id, s)
  | .ret, s => some (.ret, s)
  | _, _ => none
theorem ecode_awp {P : Program} {nb : Nat} {full : FuncId → Bool} {raw : Bool} {call : Callee} (hc : Sure P call) (fuel : Nat) : ∀ (c : Code) {s s' : St} {e : AEx}, ecode P full raw call fuel c s = some (e, s') → ∀ {K : AEx → St → Prop}, K e s' → awp P nb c s K
  | .skip, s, s', e, h, K, hk => by
    simp only [ecode, Option.some.injEq, Prod.mk.injEq] at h
    obtain ⟨rfl, rfl⟩ := h
    simpa only [awp] using hk
  | .region _ ops false, s, s', e, h, K, hk => by
    simp only [ecode] at h
    split at h
    · rename_i s1 h1
      simp only [Option.some.injEq, Prod.mk.injEq] at h
      obtain ⟨rfl, rfl⟩ := h
      simp only [awp]
      exact .inr (eops_aops hc h1 ⟨_, Wk.freezeAll P _ s1, hk⟩)
    · cases h
  | .region _ ops true, s, s', e, h, K, hk => by
    simp only [ecode] at h
    simp only [awp]
    split at h
    · rename_i s1 h1
      simp only [Option.some.injEq, Prod.mk.injEq] at h
      obtain ⟨rfl, rfl⟩ := h
      obtain ⟨n, hn, h2⟩ := efrees_some h1
      have hfn := (List.mem_filter.1 hn).2
      simp only [Bool.and_eq_true] at hfn
      unfold efree at h2
      split at h2
      · rename_i ks hks
        cases hok : (blB .any _ n (mkbl P ks 0 _ ks) && kchks P (mkbl P ks 0 _ ks) 0 _ ks) with
        | false => rw [hok] at h2; cases h2
        | true =>
          rw [hok, cond_true] at h2
          rw [Bool.and_eq_true] at hok
          exact .inr (.inr (.inl ⟨n, _, _, hfn.2, hok.1, ehrun_HRun hc hks hok.2, eops_aops hc h2 hk⟩))
      · cases h2
    · split at h
      · rename_i s1 h1
        simp only [Option.some.injEq, Prod.mk.injEq] at h
        obtain ⟨rfl, rfl⟩ := h
        exact .inr (.inr (.inr (ebfs_aany hc ⟨_, Wk.freezeAll P _ s1, hk⟩ _ _ h1 _ _ (by simp))))
      · split at h
        · rename_i s1 h1
          simp only [Option.some.injEq, Prod.mk.injEq] at h
          obtain ⟨rfl, rfl⟩ := h
          exact .inr (.inr (.inr (ebfs_aany hc ⟨_, Wk.freezeAll P _ s1, hk⟩ _ _ h1 _ _ (by simp))))
        · cases h
  | .seq a b, s, s', e, h, K, hk => by
    simp only [ecode] at h
    simp only [awp]
    split at h
    · rename_i s1 h1
      exact ecode_awp hc fuel a h1 (ecode_awp hc fuel b h hk)
    · rename_i id s1 h1
      simp only [Option.some.injEq, Prod.mk.injEq] at h
      obtain ⟨rfl, rfl⟩ := h
      exact ecode_awp hc fuel a h1 hk
    · rename_i s1 h1
      simp only [Option.some.injEq, Prod.mk.injEq] at h
      obtain ⟨rfl, rfl⟩ := h
      exact ecode_awp hc fuel a h1 hk
    · cases h
  | .cond c t e', s, s', e, h, K, hk => by
    simp only [ecode] at h
    simp only [awp]
    split at h
    · rename_i hcv
      rw [hcv]
      exact ⟨fun _ => ecode_awp hc fuel t h hk, fun e => by cases e⟩
    · rename_i hcv
      rw [hcv]
      exact ⟨(fun e => by cases e), fun _ => ecode_awp hc fuel e' h hk⟩
    · cases h
  | .block id c, s, s', e, h, K, hk => by
    simp only [ecode] at h
    simp only [awp]
    split at h
    · rename_i i s1 h1
      split at h
      · rename_i hi
        simp only [Option.some.injEq, Prod.mk.injEq] at h
        obtain ⟨rfl, rfl⟩ := h
        exact ecode_awp hc fuel c h1 (by simp only; rw [if_pos hi]; exact hk)
      · rename_i hi
        simp only [Option.some.injEq, Prod.mk.injEq] at h
        obtain ⟨rfl, rfl⟩ := h
        exact ecode_awp hc fuel c h1 (by simp only; rw [if_neg hi]; exact hk)
    · rename_i s1 h1
      simp only [Option.some.injEq, Prod.mk.injEq] at h
      obtain ⟨rfl, rfl⟩ := h
      exact ecode_awp hc fuel c h1 hk
    · rename_i s1 h1
      simp only [Option.some.injEq, Prod.mk.injEq] at h
      obtain ⟨rfl, rfl⟩ := h
      exact ecode_awp hc fuel c h1 hk
    · cases h
  | .loop c, s, s', e, h, K, hk => by
    simp only [ecode] at h
    simp only [awp]
    refine ⟨fun n s => eloop (ecode P full raw call fuel c) n s = some (e, s'), ⟨fuel, s, Wk.refl P s, h⟩, fun n s hI => ?_⟩
    cases n with
    | zero => simp [eloop] at hI
    | succ n =>
      simp only [eloop] at hI
      split at hI
      · rename_i s1 h1
        exact ecode_awp hc fuel c h1 ⟨n, s1, Nat.lt_succ_self _, Wk.refl P s1, hI⟩
      · rename_i id s1 h1
        simp only [Option.some.injEq, Prod.mk.injEq] at hI
        obtain ⟨rfl, rfl⟩ := hI
        exact ecode_awp hc fuel c h1 hk
      · rename_i s1 h1
        simp only [Option.some.injEq, Prod.mk.injEq] at hI
        obtain ⟨rfl, rfl⟩ := hI
        exact ecode_awp hc fuel c h1 hk
      · cases hI
  | .exit id, s, s', e, h, K, hk => by
    simp only [ecode, Option.some.injEq, Prod.mk.injEq] at h
    obtain ⟨rfl, rfl⟩ := h
    simpa only [awp] using hk
  | .ret, s, s', e, h, K, hk => by
    simp only [ecode, Option.some.injEq, Prod.mk.injEq] at h
    obtain ⟨rfl, rfl⟩ := h
    simpa only [awp] using hk
  | .rangeFunc .., s, s', e, h, K, hk => by simp only [ecode] at h; cases h
  | .scope _, s, s', e, h, K, hk => by simp only [ecode] at h; cases h
  | .label _, s, s', e, h, K, hk => by simp only [ecode] at h; cases h
  | .goto _, s, s', e, h, K, hk => by simp only [ecode] at h; cases h
  | .refuse _, s, s', e, h, K, hk => by simp only [ecode] at h; cases h

mutual
def AV.sls : AV → List Nat
  | .sl o _ _ _ => [o]
  | .agg cs => AV.slsL cs
  | .tup cs => AV.slsL cs
  | .fn _ cs => AV.slsL cs
  | _ => []
def AV.slsL : List AV → List Nat
  | [] => []
  | a :: l => a.sls ++ AV.slsL l
end
/-- A function's run, by its own text. -/
def ebody (P : Program) (full : FuncId → Bool) (call : Callee) (fuel : Nat) (f : FuncId) (fn : Func) (args : List AV) (H : Boxes) : Option (AV × Boxes) :=
  match fn.body with
  | some code => bif fn.name == "runtime.NumGoroutine" then none else (match ecode P full (full f) call fuel code ⟨args ++ List.replicate (fn.ntmps - args.length) .top, H⟩ with
    | some (.exit _, _) => none
    | some (_, s) => match resAv P fn s with
      | some r => bif full f then some (r, s.heap) else (match resAv P fn (freezeAll P r.sls s) with
        | some r' => some (r', (freezeAll P r.sls s).heap)
        | none => none)
      | none => none
    | none => none)
  | none => none
theorem ebody_cr {P : Program} (hm : P.follows .mixedOrders = true) {full : FuncId → Bool} {call : Callee} (hc : Sure P call) {fuel : Nat} {f : FuncId} {fn : Func} {args : List AV} {H : Boxes} {r : AV} {H' : Boxes} (hf : P.funcs[f]? = some fn)
    (h : ebody P full call fuel f fn args H = some (r, H')) : CR P f args H fun r' H'' => r' = r ∧ H'' = H' := by
  unfold ebody at h
  split at h
  · rename_i code hb
    cases hn : fn.name == "runtime.NumGoroutine" with
    | true => rw [hn] at h; cases h
    | false =>
      rw [hn, cond_false] at h
      have fin : ∀ s : St, (match resAv P fn s with
          | some r => bif full f then some (r, s.heap) else (match resAv P fn (freezeAll P r.sls s) with
            | some r' => some (r', (freezeAll P r.sls s).heap)
            | none => none)
          | none => none) = some (r, H') → ∃ s2, Wk P H.length s s2 ∧ ∃ r', resAv P fn s2 = some r' ∧ r' = r ∧ s2.heap = H' := by
        intro s hs
        split at hs
        · rename_i r0 hr0
          revert hs
          cases full f with
          | true =>
            intro hs
            rw [cond_true, Option.some.injEq, Prod.mk.injEq] at hs
            exact ⟨s, Wk.refl P s, r0, hr0, hs.1, hs.2⟩
          | false =>
            intro hs
            rw [cond_false] at hs
            split at hs
            · rename_i r' hr'
              rw [Option.some.injEq, Prod.mk.injEq] at hs
              exact ⟨_, Wk.freezeAll P _ s, r', hr', hs.1, hs.2⟩
            · cases hs
        · cases hs
      split at h
      · cases h
      · rename_i e s hne he
        refine cr_of_awp hm hf hb hn (ecode_awp hc fuel code he ?_)
        cases e with
        | exit id => exact absurd rfl (hne id)
        | norm => exact fin s h
        | ret => exact fin s h
      · cases h
  · cases h
/-- Functions by their texts, some by a table of their own. -/
def efun (P : Program) (full : FuncId → Bool) (fns : FuncId → Option Func) (prim : Callee) : Nat → Callee
  | 0, _, _, _ => none
  | n + 1, f, args, H => match prim f args H with
    | some x => some x
    | none => match fns f with
      | some fn => ebody P full (efun P full fns prim n) n f fn args H
      | none => none
theorem efun_sure {P : Program} (hm : P.follows .mixedOrders = true) {full : FuncId → Bool} {fns : FuncId → Option Func} {prim : Callee} (hfn : ∀ f fn, fns f = some fn → P.funcs[f]? = some fn) (hp : Sure P prim) : ∀ n, Sure P (efun P full fns prim n)
  | 0 => fun g l H r H' h => by simp [efun] at h
  | n + 1 => fun g l H r H' h => by
    simp only [efun] at h
    split at h
    · rename_i x hx
      injection h with h
      subst h
      exact hp _ _ _ _ _ hx
    · split at h
      · rename_i fn hf
        exact ebody_cr hm (efun_sure hm hfn hp n) (hfn _ _ hf) h
      · cases h
end Go.Proofs.YtdfcjodkmjofgaaGreat
