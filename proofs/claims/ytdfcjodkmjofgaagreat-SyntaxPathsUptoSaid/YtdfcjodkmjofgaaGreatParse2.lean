/-
  The word parser, run by the calculus on some short words; two methods of the string builder come by a table of their own.
-/
import Derived.Test.YtdfcjodkmjofgaaGreatBuilder
import Derived.Test.YtdfcjodkmjofgaaGreatParse
import Derived.Test.YtdfcjodkmjofgaaGreatBeq
namespace Go.Proofs.YtdfcjodkmjofgaaGreat
open Go.RowKit

def byteOf : List Dat → Option UInt8
  | [.int .u8 n] => bif (UInt8.ofNat n.toNat).toNat == n then some (UInt8.ofNat n.toNat) else none
  | _ => none
def bytesOf : List (List Dat) → Option (List UInt8)
  | [] => some []
  | x :: l => match byteOf x, bytesOf l with
    | some b, some l => some (b :: l)
    | _, _ => none
theorem bytesOf_eq : ∀ {xs : List (List Dat)} {l : List UInt8}, bytesOf xs = some l → xs = l.map fun b => [.int .u8 b.toNat]
  | [], l, h => by simp only [bytesOf, Option.some.injEq] at h; subst h; rfl
  | x :: xs, l, h => by
    simp only [bytesOf] at h
    split at h
    · rename_i b l' h1 h2
      injection h with h
      subst h
      rw [bytesOf_eq h2]
      unfold byteOf at h1
      split at h1
      · rename_i n
        cases hb : (((UInt8.ofNat n.toNat).toNat : Int) == n) with
        | false => rw [hb] at h1; cases h1
        | true =>
          rw [hb, cond_true, Option.some.injEq] at h1
          subst h1
          have e : ((UInt8.ofNat n.toNat).toNat : Int) = n := by simpa using hb
          simp only [List.map_cons, e]
      · cases h1
    · cases h
/-- The builder's two methods, and the place of a byte in a string. -/
def primB (P : Program) : Callee := fun f args H =>
  match f, args with
  | 190, [.ptr o k] => match H[o]? with
    | some (T, cs) => match P.info? T with
      | some ti => bif (match cs[k]? with | some .nilp => true | some (.ptr o' k') => o' == o && k' == k | _ => false) && cs.length == ti.size && liesAt P P.depth T 1 k 159 1 then some (.tup [], H.set o (T, cs.set k (.ptr o k))) else none
      | none => none
    | none => none
  | 170, [.ptr o k] => match H[o]? with
    | some (_, cs) => match cs[k + 1]? with
      | some (.own id 5 xs) => match bytesOf xs with
        | some (b :: l) => some (.dat (.str (b :: l)), H.map fun b => (b.1, AV.demL id b.2))
        | _ => none
      | _ => none
    | none => none
  | 178, [.dat (.str s), .dat (.int .u8 c)] => some (.dat (.int .i64 (Lib.indexByte s c.toNat.toUInt8)), H)
  | _, _ => none
theorem primB_sure : Sure Tryz.prog (primB Tryz.prog) := by
  intro g l H r H' h
  unfold primB at h
  split at h
  · rename_i o k
    split at h
    · rename_i T cs ho
      split at h
      · rename_i ti hti
        cases hc : ((match cs[k]? with | some .nilp => true | some (.ptr o' k') => o' == o && k' == k | _ => false) && cs.length == ti.size && liesAt Tryz.prog Tryz.prog.depth T 1 k 159 1) with
        | false => rw [hc] at h; cases h
        | true =>
          rw [hc, cond_true, Option.some.injEq, Prod.mk.injEq] at h
          obtain ⟨rfl, rfl⟩ := h
          rw [Bool.and_eq_true, Bool.and_eq_true] at hc
          obtain ⟨⟨h1, h2⟩, h3⟩ := hc
          refine copyCheck_cr ho ?_ hti (by simpa using h2) h3
          split at h1
          · rename_i hk; exact .inl hk
          · rename_i o' k' hk
            simp only [Bool.and_eq_true, beq_iff_eq] at h1
            obtain ⟨rfl, rfl⟩ := h1
            exact .inr hk
          · cases h1
      · cases h
    · cases h
  · rename_i o k
    split at h
    · rename_i T cs ho
      split at h
      · rename_i id xs hk
        split at h
        · rename_i b l hb
          simp only [Option.some.injEq, Prod.mk.injEq] at h
          obtain ⟨rfl, rfl⟩ := h
          exact string_cr ho (by rw [hk, bytesOf_eq hb]) (by simp)
        · cases h
      · cases h
    · cases h
  · rename_i s c
    simp only [Option.some.injEq, Prod.mk.injEq] at h
    obtain ⟨rfl, rfl⟩ := h
    exact indexByte_cr s c H
  · cases h

/-- Slices as data. -/
def AV.flat : AV → Option AV
  | .own _ _ xs => some (.dat (.list xs))
  | .nils => some (.dat (.list []))
  | .emp => some (.dat (.list []))
  | .dat d => some (.dat d)
  | _ => none
def flatL : List AV → Option (List AV)
  | [] => some []
  | a :: l => match a.flat, flatL l with
    | some a, some l => some (a :: l)
    | _, _ => none
def AV.flatT : AV → Option AV
  | .tup l => (flatL l).map .tup
  | a => a.flat
theorem AV.flat_rel {P : Program} {w : World} {X : Cx} {a a' : AV} {v : Value} (h : a.flat = some a') (hr : VRel P w X a v) : VRel P w X a' v := by
  unfold AV.flat at h
  split at h
  · injection h with h; subst h; exact .dat _ _ hr.asDat
  · injection h with h; subst h; exact nils_dat hr
  · injection h with h; subst h; exact emp_dat hr
  · injection h with h; subst h; exact hr
  · cases h
theorem flatL_get : ∀ {l l' : List AV}, flatL l = some l' → l'.length = l.length ∧ ∀ {i : Nat} {a : AV}, l'[i]? = some a → ∃ x, l[i]? = some x ∧ x.flat = some a
  | [], l', h => by simp [flatL] at h; subst h; exact ⟨rfl, fun h => by simp at h⟩
  | x :: l, l', h => by
    simp only [flatL] at h
    split at h
    · rename_i a l1 ha hl
      injection h with h
      subst h
      obtain ⟨h1, h2⟩ := flatL_get hl
      refine ⟨by simp [h1], fun {i b} hb => ?_⟩
      cases i with
      | zero => simp at hb; subst hb; exact ⟨x, rfl, ha⟩
      | succ i => simpa using h2 (by simpa using hb)
    · cases h
theorem AV.flatT_rel {P : Program} {w : World} {X : Cx} {a a' : AV} {v : Value} (h : a.flatT = some a') (hr : VRel P w X a v) : VRel P w X a' v := by
  unfold AV.flatT at h
  split at h
  · rename_i l
    rw [Option.map_eq_some_iff] at h
    obtain ⟨l', hl, rfl⟩ := h
    obtain ⟨h1, h2⟩ := flatL_get hl
    cases hr with
    | tup _ vs hs hc =>
      refine .tup _ vs (hs.trans h1.symm) fun i c v hi hv => ?_
      obtain ⟨x, hx, hf⟩ := h2 hi
      exact AV.flat_rel hf (hc i x v hx hv)
  · exact AV.flat_rel h hr
/-- A result without boxes: where the call had none, none are told of behind it. -/
theorem CR.bare {P : Program} {f : FuncId} {args : List AV} {K : AV → Boxes → Prop} (h : CR P f args [] K) {r : AV} (hk : ∀ r' H', K r' H' → ∃ r'', r'.flatT = some r'' ∧ r'' = r) (hb : r.bnd 0 = true) : CR P f args [] fun r' H' => r' = r ∧ H' = [] :=
  ⟨h.en, fun w X vs hp hc => (h.run w X vs hp hc).mono fun e w' ⟨v, r', H', X', h1, h2, h3, h4, h5⟩ => by
    obtain ⟨r'', k1, rfl⟩ := hk r' H' h2
    have k2 := AV.flatT_rel k1 h5
    have hX : X.n = 0 := hp.n
    refine ⟨v, r'', [], { X' with n := 0 }, h1, ⟨rfl, rfl⟩, ⟨h3.B, h3.below, h3.gs, h3.keep, by rw [hX]; exact Nat.le_refl _, fun o ho => by omega, h3.pm0⟩, ⟨rfl, h4.le, fun o T cs ho => by simp at ho, fun o T cs ho => by simp at ho, fun o o' T T' cs cs' ho => by simp at ho, h4.pm, h4.lab⟩, ?_⟩
    exact VRel.mv (w := w') (X := X') (X' := { X' with n := 0 }) (bad := none) (k := 0) ⟨fun _ h => h, fun a ha => ⟨ha, rfl⟩, fun b id hl _ => ⟨hl, rfl, fun _ => Iff.rfl⟩, Nat.le_refl _, fun o ho => by omega⟩ k2 (fun _ e => by cases e) hb⟩

def seq1 : Code → Code
  | .seq a _ => a
  | c => c
def seq2 : Code → Code
  | .seq _ b => b
  | c => c
def noFull (_ : FuncId) : Bool := false
noncomputable def fnsP (f : FuncId) : Option Func := Tryz.prog.funcs[f]?
noncomputable def parseCode : Code := Tryz.f141.body.get (by kernel_rfl)
/-- The parser's outer function between the deferred call and its return. -/
noncomputable def parseRun (s : List UInt8) : Option AV :=
  match ecode Tryz.prog noFull false (efun Tryz.prog noFull fnsP (primB Tryz.prog) 40) 40 (seq1 parseCode) ⟨[.dat (.str s)] ++ List.replicate 6 .top, []⟩ with
  | some (.norm, s1) => match ecode Tryz.prog noFull false (efun Tryz.prog noFull fnsP (primB Tryz.prog) 40) 40 (seq1 (seq2 (seq2 parseCode))) s1 with
    | some (.norm, s2) => match resAv Tryz.prog Tryz.f141 s2 with
      | some r => match resAv Tryz.prog Tryz.f141 (freezeAll Tryz.prog r.sls s2) with
        | some r' => r'.flatT
        | none => none
      | none => none
    | _ => none
  | _ => none
def letterT (s : List UInt8) : AV := .tup [.dat (.list [[.int .i64 1, .str s, .int .i64 0, .bool false, .list []]]), .dat (.int .i64 0), .dat (.int .i64 0)]
def isLetterT (s : List UInt8) : Option AV → Bool
  | some r => AV.beq r (letterT s)
  | none => false
end Go.Proofs.YtdfcjodkmjofgaaGreat
