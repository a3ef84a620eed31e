/-
  The calculus of whole bodies over abstract states, and its soundness: what it shows of a body holds of the function's calls.
-/
import Derived.Test.YtdfcjodkmjofgaaGreatEmp
import Derived.Deep.Quiet
import Derived.StillTail
namespace Go.Proofs.YtdfcjodkmjofgaaGreat
open Go.RowKit

/-- What a call with these arguments leaves, where the caller's boxes are H: a result and boxes of K; what the caller does not hand over is as it was. -/
structure CR (P : Program) (f : FuncId) (args : List AV) (H : List (TypeId × List AV)) (K : AV → List (TypeId × List AV) → Prop) : Prop where
  en : ∃ fn, P.funcs[f]? = some fn ∧ (fn.name == "runtime.NumGoroutine") = false ∧ fn.body.isNone = false
  run : ∀ (w : World) (X : Cx) (vs : Array Value), HRel P w X H → Cells P w X args vs →
    Calls P f vs w fun e w' => ∃ v r H' X', e = .returned v ∧ K r H' ∧ Post w X w' X' ∧ HRel P w' X' H' ∧ VRel P w' X' r v
theorem CR.mono {P : Program} {f : FuncId} {args : List AV} {H : List (TypeId × List AV)} {K K' : AV → List (TypeId × List AV) → Prop} (h : CR P f args H K) (hk : ∀ r H', K r H' → K' r H') : CR P f args H K' :=
  ⟨h.en, fun w X vs hp hc => (h.run w X vs hp hc).mono fun _ _ ⟨v, r, H', X', h1, h2, h3⟩ => ⟨v, r, H', X', h1, hk r H' h2, h3⟩⟩
/-- What a call with these arguments (none of them a pointer) returns: a result of K; memory that was there is as it was. -/
def CRet (P : Program) (f : FuncId) (args : List AV) (K : AV → Prop) : Prop := CR P f args [] fun r _ => r.bnd 0 = true ∧ K r
theorem CRet.mono {P : Program} {f : FuncId} {args : List AV} {K K' : AV → Prop} (h : CRet P f args K) (hk : ∀ r, K r → K' r) : CRet P f args K' := CR.mono h fun r _ ⟨h1, h2⟩ => ⟨h1, hk r h2⟩
theorem CRet.run {P : Program} {f : FuncId} {args : List AV} {K : AV → Prop} (h : CRet P f args K) (w : World) (Pm : Addr → Prop) (vs : Array Value) (hpm : ∀ a, Pm a → ∃ u, w.cell? a = some u) (hc : Cells P w (Cx.fresh w.heap.size Pm) args vs) :
    Calls P f vs w fun e w' => ∃ v r X', e = .returned v ∧ K r ∧ Below w.heap.size w w' ∧ (X'.my = (fun b => w.heap.size ≤ b) ∧ (∀ a, X'.Pm a → ∃ u, w'.cell? a = some u) ∧ (∀ a, a.block < w.heap.size → (X'.Pm a ↔ Pm a)) ∧
      ∀ b, X'.lab b ≠ none → w.heap.size ≤ b ∧ b < w'.heap.size) ∧ VRel P w' X' r v ∧ r.bnd 0 = true := by
  refine (CR.run h w (Cx.fresh w.heap.size Pm) vs ⟨rfl, fun b hb => hb, fun o T cs ho => by simp at ho, fun o T cs ho => by simp at ho, fun o o' T T' cs cs' ho => by simp at ho, hpm, fun b hb => absurd rfl hb⟩ hc).mono ?_
  rintro e w' ⟨v, r, H', X', h1, ⟨h2, h3⟩, hpo, hh, hv⟩
  have hB : X'.my = (fun b => w.heap.size ≤ b) := hpo.B
  exact ⟨v, r, X', h1, h3, hpo.below.below, ⟨hB, hh.pm, fun a ha => hpo.pm0 a (by rw [hB]; exact Nat.not_le.2 ha), fun b hb => by have := hh.lab b hb; rw [hB] at this; exact this⟩, hv, h2⟩

def callAv (s : St) (f : Operand) (args : List Operand) : Option (FuncId × List AV) :=
  match s.ev f with
  | .fn g caps => (AV.shL (args.map s.ev ++ caps)).map fun l => (g, l)
  | _ => none
/-- The whole memory of the call handed over: own slices as data. -/
def callFull (s : St) (f : Operand) (args : List Operand) : Option (FuncId × List AV) :=
  match s.ev f with
  | .fn g caps => some (g, AV.demAL (args.map s.ev ++ caps))
  | _ => none
/-- A part of the operation's own text: what its guard says. -/
def gtest (all : Array Oper) (s : St) (o : Oper) : Option (Option Bool) :=
  match o.guard with
  | none => some none
  | some (j, want) => match (all[j]?).bind (·.dst) with
    | some t => match s.slots[t]? with
      | some (.dat (.bool b)) => some (some (b == want))
      | _ => none
    | none => none
def partsAv (s : St) (parts : Array (Nat × Operand)) : List (Nat × AV) := parts.toList.map fun x => (x.1, s.ev x.2)

/-- A slice literal: its elements. -/
def buildSliceAv (P : Program) (t : TypeId) (len : Nat) (parts : List (Nat × AV)) : Option (TypeId × List (List Dat)) :=
  match P.underlying t with
  | some (.slice e) => match P.info? e with
    | some ti => match ti.zero with
      | some z => match zcells z with
        | some zc => bif Nat.ble (len * ti.size) 16777216 && !(ti.size == 0) then (match (afill (fun i => some (i * ti.size, ti.size)) ((List.range (len * ti.size)).map fun k => zc.getD (k % z.cells.size) .top) parts).bind datL with
            | some ds => some (e, chunks ti.size len ds)
            | none => none) else none
        | none => none
      | none => none
    | none => none
  | _ => none

/-- One operation. -/
def astep (P : Program) (o : Oper) (s : St) (K : St → Prop) : Prop :=
  match aval P s o with
  | some v => K (s.put o.dst v)
  | none => match o.op with
    | .box e x => match (s.ev x).cells, P.info? e with
      | some cs, some ti => cs.length = ti.size ∧ K (St.put { s with heap := s.heap ++ [(e, cs)] } o.dst (.ptr s.heap.length 0))
      | _, _ => False
    | .alloc e => match P.info? e with
      | some ti => match ti.zero with
        | some z => match zcells z with
          | some cs => cs.length = ti.size ∧ K (St.put { s with heap := s.heap ++ [(e, cs)] } o.dst (.ptr s.heap.length 0))
          | none => False
        | none => False
      | none => False
    | .store t x v => match s.ev x, (s.ev v).cells, P.info? t with
      | .ptr b k, some vc, some ti => match s.heap[b]? with
        | some (T, cs) => (vc.all AV.one && (vc.length == ti.size) && Nat.ble (k + vc.length) cs.length && Nat.blt 0 vc.length) = true ∧ K (St.put { s with heap := s.heap.set b (T, cs.take k ++ vc ++ cs.drop (k + vc.length)) } o.dst .top)
        | none => False
      | _, _, _ => False
    | .build t parts => match buildAv P t (partsAv s parts) with
      | some v => K (s.put o.dst v)
      | none => False
    | .buildSlice t len parts => match buildSliceAv P t len (partsAv s parts) with
      | some (e, xs) => (xs = [] → K (s.put o.dst .emp)) ∧ (xs ≠ [] → K (s.put o.dst (.own (o.dst.getD 0) e xs)))
      | none => False
    | .binOp .add _ x y _ => match s.ev x, s.ev y with
      | .dat (.str a), .dat (.str b) => a.length + b.length ≤ 4611686018427387904 ∧ K (s.put o.dst (.dat (.str (a ++ b))))
      | _, _ => False
    | .call { callee := .builtin .append, args := args, argTypes := tys } => match args.toList, tys.toList with
      | [x, y], [t, t'] => match P.underlying t with
        | some (.slice e) => match P.info? e, (s.ev y).elems with
          | some ti, some ys => match ti.zero with
            | some z => t' = t ∧ (z.cells.size == ti.size && Nat.blt 0 ti.size && Nat.blt 0 ti.bytes) = true ∧ (∀ q ∈ ys, q.length = ti.size) ∧ (match s.ev x with
                | .emp => ys.length * ti.bytes ≤ 140737488355328 ∧ (ys = [] → K (s.put o.dst .emp)) ∧ (ys ≠ [] → K (s.put o.dst (.own (o.dst.getD 0) e ys)) ∨ K (St.put { s with heap := s.heap ++ [(e, (ys.flatten).map .dat)] } o.dst (.sl s.heap.length e [] ys.length)))
                | b => match baseAv (o.dst.getD 0) e b with
                  | some (id, xs) => (xs.length + ys.length) * ti.bytes ≤ 140737488355328 ∧ (K ((s.dem id).put o.dst (.own id e (xs ++ ys))) ∨ (0 < ys.length ∧ K (St.put { s.dem id with heap := (s.dem id).heap ++ [(e, (ys.flatten).map .dat)] } o.dst (.sl (s.dem id).heap.length e xs ys.length))))
                  | none => False)
            | none => False
          | _, _ => False
        | _ => False
      | _, _ => False
    | .call { callee := .builtin .max, args := args, .. } => match args.toList with
      | [x, y] => match s.ev x, s.ev y with
        | .dat (.int k a), .dat (.int k' b) => k = k' ∧ K (s.put o.dst (.dat (.int k (if a < b then b else a))))
        | _, _ => False
      | _ => False
    | .call { callee := .value f, args := args, .. } => (match callAv s f args.toList with
      | some (g, l) => ∃ K', CRet P g l K' ∧ ∀ r, K' r → K (s.put o.dst r)
      | none => False) ∨ (match callFull s f args.toList with
      | some (g, l) => ∃ K', CR P g l s.heap K' ∧ ∀ r H', K' r H' → K (St.put ⟨AV.demAL s.slots, H'⟩ o.dst r)
      | none => False)
    | _ => False

/-- An operation that stands at its turn. -/
def aop1 (P : Program) (all : Array Oper) (o : Oper) (s : St) (K : St → Prop) : Prop :=
  match gtest all s o with
  | none => False
  | some none => astep P o s K
  | some (some b) => (b = true → astep P o s K) ∧ (b = false → K (s.put o.dst .top))
def aops (P : Program) (all : Array Oper) : List Oper → St → (St → Prop) → Prop
  | [], s, K => K s
  | o :: rest, s, K => match gtest all s o with
    | none => False
    | some none => astep P o s fun s' => aops P all rest s' K
    | some (some b) => (b = true → astep P o s fun s' => aops P all rest s' K) ∧ (b = false → aops P all rest (s.put o.dst .top) K)

/-- A number, a truth, a string. -/
def Dat.flat : Dat → Bool
  | .list _ => false
  | _ => true
/-- One operation that leaves memory alone, or a call that hands back a number, a truth, a string. -/
def aqstep (P : Program) (o : Oper) (s : St) (K : St → Prop) : Prop :=
  match aval P s o with
  | some v => K (s.put o.dst v)
  | none => match o.op with
    | .build t parts => match buildAv P t (partsAv s parts) with
      | some v => K (s.put o.dst v)
      | none => False
    | .call { callee := .value f, args := args, .. } => match callAv s f args.toList with
      | some (g, l) => ∃ d, CRet P g l (fun r => r = .dat d) ∧ d.flat = true ∧ K (s.put o.dst (.dat d))
      | none => False
    | _ => False
def aquiet (P : Program) (all : Array Oper) : List Oper → St → (St → Prop) → Prop
  | [], s, K => K s
  | o :: rest, s, K => match gtest all s o with
    | none => False
    | some none => aqstep P o s fun s' => aquiet P all rest s' K
    | some (some b) => (b = true → aqstep P o s fun s' => aquiet P all rest s' K) ∧ (b = false → aquiet P all rest (s.put o.dst .top) K)
/-- Operations that only read. -/
def ahead (P : Program) (all : Array Oper) : List Oper → St → (St → Prop) → Prop
  | [], s, K => K s
  | o :: rest, s, K => match gtest all s o with
    | none => False
    | some none => match aval P s o with
      | some v => ahead P all rest (s.put o.dst v) K
      | none => False
    | some (some b) => (b = true → match aval P s o with
      | some v => ahead P all rest (s.put o.dst v) K
      | none => False) ∧ (b = false → ahead P all rest (s.put o.dst .top) K)

/-- The value of an operation that leaves memory as told, but for what it makes. -/
def OVal (P : Program) (s : St) (o : Oper) (v : AV) : Prop :=
  aval P s o = some v ∨
  (∃ t parts, o.op = .build t parts ∧ buildAv P t (partsAv s parts) = some v) ∨
  (∃ t len parts e xs, o.op = .buildSlice t len parts ∧ buildSliceAv P t len (partsAv s parts) = some (e, xs) ∧ v = if xs = [] then .emp else .own (o.dst.getD 0) e xs) ∨
  (∃ f args tys g l, o.op = .call { callee := .value f, args := args, argTypes := tys } ∧ callAv s f args.toList = some (g, l) ∧ CRet P g l (· = v)) ∨
  (∃ t x y t' a b, o.op = .binOp .add t x y t' ∧ s.ev x = .dat (.str a) ∧ s.ev y = .dat (.str b) ∧ a.length + b.length ≤ 4611686018427387904 ∧ v = .dat (.str (a ++ b)))
/-- The box that an operation lays. -/
def allocOf (P : Program) (o : Oper) : Option (TypeId × List AV) :=
  match o.op with
  | .alloc e => match P.info? e with
    | some ti => match ti.zero with
      | some z => match zcells z with
        | some cs => bif cs.length == ti.size then some (e, cs) else none
        | none => none
      | none => none
    | none => none
  | _ => none
/-- A box that a head lays: which operation lays it, its type and zero cells; which operation of the head writes it, and what. -/
structure BE where
  al : Nat
  T : TypeId
  zc : List AV
  st : Option (Nat × List AV)
def BE.has (b : BE) (i : Nat) : Bool := b.al == i || (match b.st with | some (j, _) => j == i | none => false)
def BE.cells (L : Nat → Bool) (b : BE) : List AV :=
  match b.st with
  | some (j, vc) => bif L j then vc else (bif L b.al then b.zc else [])
  | none => bif L b.al then b.zc else []
def heapB (bl : List BE) (L : Nat → Bool) : List (TypeId × List AV) := bl.map fun b => (b.T, b.cells L)
/-- One operation of a head: its value. -/
def HStep (P : Program) (all : Array Oper) (bl : List BE) (i : Nat) (s : St) (o : Oper) (v : AV) : Prop :=
  match gtest all s o with
  | none => False
  | some (some false) => v = .top ∧ bl.all (fun b => !b.has i) = true
  | _ => (OVal P s o v ∧ v.bnd s.heap.length = true ∧ bl.all (fun b => !b.has i) = true) ∨
      (∃ (r : Nat) (b : BE), bl[r]? = some b ∧ b.al = i ∧ allocOf P o = some (b.T, b.zc) ∧ v = .ptr (s.heap.length + r) 0) ∨
      (∃ (r : Nat) (b : BE) (vc : List AV) (t : TypeId) (x y : Operand) (ti : TypeInfo), bl[r]? = some b ∧ b.st = some (i, vc) ∧ v = .top ∧ o.op = .store t x y ∧ s.ev x = .ptr (s.heap.length + r) 0 ∧ (s.ev y).cells = some vc ∧ P.info? t = some ti ∧
        (vc.all AV.one && (vc.length == ti.size) && (vc.length == b.zc.length) && Nat.blt 0 vc.length && AV.bndL s.heap.length vc) = true)
def HRun (P : Program) (all : Array Oper) (bl : List BE) : Nat → List Oper → St → List AV → Prop
  | _, [], _, vs => vs = []
  | _, _ :: _, _, [] => False
  | i, o :: rest, s, v :: vs => HStep P all bl i s o v ∧ HRun P all bl (i + 1) rest (s.put o.dst v) vs
/-- The boxes of a head stand well. -/
def blB (md : Region.Mode) (ops : Array Oper) (n : Nat) (bl : List BE) : Bool :=
  bl.all (fun b => Nat.blt b.al n && (match b.st with | some (j, _) => Nat.blt j n && Nat.blt b.al j && Region.waitsFor md ops j b.al | none => true)) &&
  (List.range bl.length).all (fun r => (List.range bl.length).all fun r' => r == r' || (match bl[r]?, bl[r']? with
    | some b, some b' => (List.range n).all fun i => !(b.has i && b'.has i)
    | _, _ => true))
/-- The slots behind a head, its values written. -/
def hslots : List Oper → List AV → List AV → List AV
  | o :: rest, v :: vs, sl => hslots rest vs (match o.dst with | some d => sl.set d v | none => sl)
  | _, _, sl => sl
def guardSlots (all : Array Oper) (o : Oper) : List Tmp :=
  match o.guard with
  | some (j, _) => ((all[j]?).bind (·.dst)).toList
  | none => []
def opReads (all : Array Oper) (o : Oper) : List Tmp :=
  (o.op.operands.toList.filterMap fun x => match x with | .tmp t => some t | _ => none) ++ guardSlots all o
def dstAt (ops : Array Oper) (i : Nat) : Option Tmp := (ops[i]?).bind (·.dst)
def listedTo (m n : Nat) : Array Bool := ((List.range m).map fun i => Nat.blt i n).toArray
/-- The first n operations may come in any order that the edges leave; those behind them come one by one. -/
def freeB (md : Region.Mode) (ops : Array Oper) (n : Nat) : Bool :=
  Nat.ble n ops.size &&
  (List.range n).all (fun i => match ops[i]? with
    | none => false
    | some o => o.after.all (fun e => !Region.binds md e || Nat.blt e.on i) &&
      (opReads ops o).all (fun t => (List.range n).all fun j => !(dstAt ops j == some t) || (Nat.blt j i && Region.waitsFor md ops i j)) &&
      (List.range n).all (fun j => j == i || o.dst == none || !(dstAt ops j == o.dst))) &&
  (n == ops.size || (Region.sinkB md ops n && Region.chainB md ops n)) && Region.seqB md ops (ops.size - n) n (listedTo ops.size n)

inductive AEx where
  | norm
  | exit (id : Nat)
  | ret
/-- s' says no more than s. -/
def Wk (P : Program) (nb : Nat) (s s' : St) : Prop := ∀ w0 X0 w X a, X0.n = nb → SRel P w0 X0 w X s a → ∃ X', SRel P w0 X0 w X' s' a
theorem Wk.trans {P : Program} {nb : Nat} {s s' s'' : St} (h : Wk P nb s s') (k : Wk P nb s' s'') : Wk P nb s s'' := fun w0 X0 w X a h0 hs => by
  obtain ⟨X', h'⟩ := h w0 X0 w X a h0 hs
  exact k w0 X0 w X' a h0 h'
theorem Wk.freeze (P : Program) {nb : Nat} (o : Nat) (s : St) : Wk P nb s (s.freeze P o) := fun _ _ _ _ _ _ h => h.freeze o
theorem Wk.drop (P : Program) {nb : Nat} (o : Nat) (s : St) : Wk P nb s (s.drop o) := fun _ _ _ X _ _ h => ⟨X, h.drop o⟩
theorem Wk.refl (P : Program) {nb : Nat} (s : St) : Wk P nb s s := fun _ _ _ X _ _ h => ⟨X, h⟩

/-- Operations in every order that the edges leave; less may be told behind each. -/
def aany (P : Program) (nb : Nat) (ops : Array Oper) : Nat → Array Bool → St → (St → Prop) → Prop
  | 0, listed, s, K => Region.ready .any ops listed = [] ∧ K s
  | f + 1, listed, s, K => (Region.ready .any ops listed = [] → K s) ∧ ∀ i ∈ Region.ready .any ops listed, match ops[i]? with
    | some o => aop1 P ops o s fun s' => ∃ s2, Wk P nb s' s2 ∧ aany P nb ops f (listed.setIfInBounds i true) s2 K
    | none => False

def awp (P : Program) (nb : Nat) : Code → St → (AEx → St → Prop) → Prop
  | .skip, s, K => K .norm s
  | .region _ ops false, s, K => aops P ops ops.toList s (K .norm) ∨ aops P ops ops.toList s fun s1 => ∃ s2, Wk P nb s1 s2 ∧ K .norm s2
  | .region _ ops true, s, K => (Region.lexB .any ops = true ∧ aquiet P ops ops.toList s (K .norm)) ∨
      (∃ n, Region.lexTailB .any ops n = true ∧ ahead P ops (ops.toList.take n) s fun s' => aops P ops (ops.toList.drop n) s' (K .norm)) ∨
      (∃ n vs bl, freeB .any ops n = true ∧ blB .any ops n bl = true ∧ HRun P ops bl 0 (ops.toList.take n) s vs ∧ aops P ops (ops.toList.drop n) ⟨hslots (ops.toList.take n) vs s.slots, s.heap ++ heapB bl fun _ => true⟩ (K .norm)) ∨
      aany P nb ops ops.size (Array.replicate ops.size false) s fun s1 => ∃ s2, Wk P nb s1 s2 ∧ K .norm s2
  | .seq a b, s, K => awp P nb a s fun e s' => match e with
    | .norm => awp P nb b s' K
    | .exit id => K (.exit id) s'
    | .ret => K .ret s'
  | .cond c t e, s, K => match s.ev c with
    | .dat (.bool b) => (b = true → awp P nb t s K) ∧ (b = false → awp P nb e s K)
    | .anyb => awp P nb t s K ∧ awp P nb e s K
    | _ => False
  | .block id c, s, K => awp P nb c s fun e s' => match e with
    | .exit i => if i = id then K .norm s' else K (.exit i) s'
    | .norm => K .norm s'
    | .ret => K .ret s'
  | .loop c, s, K => ∃ I : Nat → St → Prop, (∃ n s', Wk P nb s s' ∧ I n s') ∧ ∀ n s, I n s → awp P nb c s fun e s' => match e with
    | .norm => ∃ n' s'', n' < n ∧ Wk P nb s' s'' ∧ I n' s''
    | .exit id => K (.exit id) s'
    | .ret => K .ret s'
  | .exit id, s, K => K (.exit id) s
  | .ret, s, K => K .ret s
  | _, _, _ => False
end Go.Proofs.YtdfcjodkmjofgaaGreat
