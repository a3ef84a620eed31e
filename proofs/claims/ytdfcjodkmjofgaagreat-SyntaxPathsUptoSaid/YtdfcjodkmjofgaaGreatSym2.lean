/-
  One operation over what is not known, and why it shows what the calculus shows.
-/
import Derived.Test.YtdfcjodkmjofgaaGreatSym
namespace Go.Proofs.YtdfcjodkmjofgaaGreat
open Go.RowKit

/-- A bound of a slice expression. -/
def sbnd (d : Int) : Option AV → Option Int
  | none => some d
  | some (.dat (.int _ n)) => some n
  | _ => none
def sbool (b : Bool) : AV := .dat (.bool b)
/-- Two numbers. -/
def sbinI (E : Wd) (op : BinOp) (k : IntKind) (a b : Int) : Option AV := match op with
  | .add => some (.dat (.int k (E.ar .add k a b)))
  | .sub => some (.dat (.int k (E.ar .sub k a b)))
  | .mul => some (.dat (.int k (E.ar .mul k a b)))
  | .eql => some (.dat (.bool (E.cm .eql a b)))
  | .neq => some (.dat (.bool (E.cm .neq a b)))
  | .lss => some (.dat (.bool (E.cm .lss a b)))
  | .leq => some (.dat (.bool (E.cm .leq a b)))
  | .gtr => some (.dat (.bool (E.cm .gtr a b)))
  | .geq => some (.dat (.bool (E.cm .geq a b)))
  | _ => none
def sbinS (E : Wd) (op : BinOp) (a b : List UInt8) : Option AV := match op with
  | .eql => some (.dat (.bool (E.sc .eql a b)))
  | .neq => some (.dat (.bool (E.sc .neq a b)))
  | .lss => some (.dat (.bool (E.sc .lss a b)))
  | .leq => some (.dat (.bool (E.sc .leq a b)))
  | .gtr => some (.dat (.bool (E.sc .gtr a b)))
  | .geq => some (.dat (.bool (E.sc .geq a b)))
  | _ => none
/-- The operations that only read: a value, beside what must hold. -/
def sread (E : Wd) (V : View) (s : St) (o : Op) (K : AV → Prop) : Prop :=
  match o with
  | .move x => K (s.ev x)
  | .assign x => K (s.ev x)
  | .pick c a b => match s.ev c with
    | .dat (.bool t) => (match t with
      | true => K (s.ev a)
      | false => K (s.ev b))
    | _ => False
  | .nilCheck x => match s.ev x with
    | .ptr o k => K (.ptr o k)
    | .rptr c => K (.rptr c)
    | _ => False
  | .fieldAddr t x f => match V.und t with
    | some d => match sfieldAddr V d (s.ev x) f with
      | some v => K v
      | none => False
    | none => False
  | .field t x f => match V.und t with
    | some d => match sfield V d (s.ev x) f with
      | some v => K v
      | none => False
    | none => False
  | .load t x => match s.ev x with
    | .ptr o k => match s.heap[o]? with
      | some (_, c :: cs) => match sload V t ((c :: cs).drop k) with
        | some v => K v
        | none => False
      | _ => False
    | .rptr c => match sload V t (c.map .dat) with
      | some v => K v
      | none => False
    | _ => False
  | .indexAddr t x i => match V.und t, s.ev i with
    | some (.slice e), .dat (.int _ n) => match V.inf e with
      | some ti => match (s.ev x).elems with
        | some xs => ∃ c, E.nth xs n c ti.size ∧ K (.rptr c)
        | none => match s.ev x with
          | .sl b e' xs m => bif Nat.beq e' e && Nat.blt 0 m then (E.off xs n 0 ∧ K (.ptr b 0)) else False
          | _ => False
      | none => False
    | _, _ => False
  | .index t x i => match V.und t, s.ev x, s.ev i with
    | some .str, .dat (.str l), .dat (.int _ n) => ∃ b, E.sat l n b ∧ K (.dat (.int .u8 (E.u8 b)))
    | _, _, _ => False
  | .binOp op t x y _ => match s.ev x, s.ev y with
    | .dat (.int k a), .dat (.int k' b) => if k = k' then (match sbinI E op k a b with
      | some v => K v
      | none => False) else False
    | .dat (.str a), .dat (.str b) => match sbinS E op a b with
      | some v => K v
      | none => False
    | .dat (.bool a), .dat (.bool b) => match op, V.und t with
      | .eql, some .bool => K (.dat (.bool (E.eb a b)))
      | .neq, some .bool => K (.dat (.bool (!(E.eb a b))))
      | _, _ => False
    | a, .nils => match op, V.und t, a.elems with
      | .eql, some (.slice _), some xs => (match a with
        | .nils => K (sbool true)
        | .emp => K .anyb
        | _ => (E.ne xs → K (sbool false)) ∧ (E.nil xs → K .anyb))
      | .neq, some (.slice _), some xs => (match a with
        | .nils => K (sbool false)
        | .emp => K .anyb
        | _ => (E.ne xs → K (sbool true)) ∧ (E.nil xs → K .anyb))
      | _, _, _ => False
    | .nilp, .nilp => match op, V.und t with
      | .eql, some (.ptr _) => K (sbool true)
      | .neq, some (.ptr _) => K (sbool false)
      | _, _ => False
    | .ptr _ _, .nilp => match op, V.und t with
      | .eql, some (.ptr _) => K (sbool false)
      | .neq, some (.ptr _) => K (sbool true)
      | _, _ => False
    | _, _ => False
  | .unOp .not _ x => match s.ev x with
    | .dat (.bool b) => K (.dat (.bool (!b)))
    | .anyb => K .anyb
    | _ => False
  | .convert t t' x => match V.und t, V.und t', s.ev x with
    | some _, some (.int k), .dat (.int _ n) => K (.dat (.int k (E.wr k n)))
    | some .str, some .str, .dat (.str l) => K (.dat (.str l))
    | _, _, _ => False
  | .slice t x lo hi none => match V.und t with
    | some (.slice e) => match (s.ev x).elems, V.inf e with
      | some xs, some ti => match sbnd 0 (lo.map s.ev), sbnd (E.ln xs 0) (hi.map s.ev) with
        | some l, some h => E.sok xs l h ti.size ∧ K (.dat (.list (E.sb xs l h)))
        | _, _ => False
      | _, _ => False
    | some .str => match s.ev x with
      | .dat (.str q) => match sbnd 0 (lo.map s.ev), sbnd (E.sl q) (hi.map s.ev) with
        | some l, some h => E.stok q l h ∧ K (.dat (.str (E.ss q l h)))
        | _, _ => False
      | _ => False
    | _ => False
  | .extract x i => match s.ev x with
    | .tup vs => match vs[i]? with
      | some v => K v
      | none => False
    | _ => False
  | .makeFunc (.func f) first caps => match first.toList with
    | [] => K (.fn f (caps.toList.map s.ev))
    | _ => False
  | .call { callee := .builtin .len, args := args, argTypes := tys } => match args.toList, tys.toList with
    | [x], [t] => match V.und t, s.ev x with
      | some .str, .dat (.str q) => K (.dat (.int .i64 (E.sl q)))
      | some (.slice _), .sl _ _ xs n => K (.dat (.int .i64 (E.ln xs n)))
      | some (.slice _), a => match a.elems with
        | some xs => K (.dat (.int .i64 (E.ln xs 0)))
        | none => False
      | _, _ => False
    | _, _ => False
  | _ => False
/-- The words stand. -/
structure Wd.Means (E : Wd) (P : Program) : Prop where
  eq : E = Wd.std P

section
variable {V : View} {P : Program}
theorem arI_bin {op : BinOp} {k : IntKind} {a b : Int} {v : AV} (h : sbinI (Wd.std P) op k a b = some v) : binInt op k a b = some v := by
  cases op <;> (simp [sbinI, Wd.std, arI, cmI] at h <;> simp [binInt, boolAv, h])
theorem scS_bin {op : BinOp} {a b : List UInt8} {v : AV} (h : sbinS (Wd.std P) op a b = some v) : binStr op a b = some v := by
  cases op <;> (simp [sbinS, Wd.std, scS] at h <;> simp [binStr, boolAv, h])
theorem sbnd_bnd {d : Int} {x : Option AV} {n : Int} (h : sbnd d x = some n) (h0 : 0 ≤ n) : bndAv d.toNat x = some n.toNat := by
  unfold sbnd at h
  split at h
  · injection h with h; subst h; rfl
  · rename_i k m
    injection h with h
    subst h
    simp only [bndAv]
    rw [if_pos h0]
  · cases h
theorem sread_aval (hV : V.OK P) {s : St} {o : Oper} {K : AV → Prop} (h : sread (Wd.std P) V s o.op K) : ∃ v, aval P s o = some v ∧ K v := by
  unfold sread at h
  unfold aval
  split at h
  · rename_i x ho
    simp only [ho]
    exact ⟨_, rfl, h⟩
  · rename_i x ho
    simp only [ho]
    exact ⟨_, rfl, h⟩
  · rename_i c a b ho
    simp only [ho]
    split at h
    · rename_i t hc
      simp only [hc]
      refine ⟨_, rfl, ?_⟩
      have hp : pickAv t (s.ev a) (s.ev b) = bif t then s.ev a else s.ev b := by
        unfold pickAv
        split
        · rename_i x y hx hy
          rw [hx, hy]
          cases t <;> rfl
        · rfl
      rw [hp]
      cases t
      · exact h
      · exact h
    · exact h.elim
  · rename_i x ho
    simp only [ho]
    split at h
    · rename_i o k hx
      simp only [hx]
      exact ⟨_, rfl, h⟩
    · rename_i c hx
      simp only [hx]
      exact ⟨_, rfl, h⟩
    · exact h.elim
  · rename_i t x f ho
    simp only [ho]
    split at h
    · rename_i d hd
      split at h
      · rename_i v hv
        obtain ⟨d', k1, k2⟩ := sfieldAddr_eq hV hd hv
        simp only [k1]
        exact ⟨v, k2, h⟩
      · exact h.elim
    · exact h.elim
  · rename_i t x f ho
    simp only [ho]
    split at h
    · rename_i d hd
      split at h
      · rename_i v hv
        obtain ⟨d', k1, k2⟩ := sfield_eq hV hd hv
        simp only [k1]
        exact ⟨v, k2, h⟩
      · exact h.elim
    · exact h.elim
  · rename_i t x ho
    simp only [ho]
    split at h
    · rename_i o k hx
      simp only [hx]
      split at h
      · rename_i T c cs hc
        simp only [hc]
        split at h
        · rename_i v hv
          exact ⟨v, sload_load hV hv, h⟩
        · exact h.elim
      · exact h.elim
    · rename_i c hx
      simp only [hx]
      split at h
      · rename_i v hv
        exact ⟨v, sload_load hV hv, h⟩
      · exact h.elim
    · exact h.elim
  · rename_i t x i ho
    simp only [ho]
    split at h
    · rename_i e k n hd hi
      simp only [und_slice hV hd, hi]
      split at h
      · rename_i ti hti
        obtain ⟨tj, h1, h2, _⟩ := tiOf_info (hV.inf _ _ hti)
        split at h
        · rename_i xs hx
          obtain ⟨c, ⟨h3, h4, h5⟩, h6⟩ := h
          refine ⟨_, ?_, h6⟩
          simp only [indexAddrAv, hx, h4, h1, h2]
          rw [if_pos h3, if_pos h5]
        · rename_i hx
          split at h
          · rename_i b e' xs m hxe
            cases hb : (Nat.beq e' e && Nat.blt 0 m) with
            | false => rw [hb] at h; exact h.elim
            | true =>
              rw [hb, cond_true] at h
              obtain ⟨h3, h6⟩ := h
              rw [Bool.and_eq_true] at hb
              have he := Nat.eq_of_beq_eq_true hb.1
              have hm : 0 < m := by simpa using hb.2
              subst he
              have h3' : n = (xs.length : Int) := by simpa [Wd.std] using h3
              subst h3'
              refine ⟨_, ?_, h6⟩
              simp only [indexAddrAv, hxe, AV.elems, h1]
              rw [if_pos ⟨trivial, by omega, by omega⟩]
              simp
          · exact h.elim
      · exact h.elim
    · exact h.elim
  · rename_i t x i ho
    simp only [ho]
    split at h
    · rename_i l k n hd hx hi
      obtain ⟨b, ⟨h1, h2⟩, h3⟩ := h
      refine ⟨_, ?_, h3⟩
      simp only [und_str hV hd, hx, hi, indexAv, h2]
      rw [if_pos h1]
      rfl
    · exact h.elim
  · rename_i op t x y t' ho
    simp only [ho]
    split at h
    · rename_i k a k' b hx hy
      split at h
      · rename_i hk
        subst hk
        split at h
        · rename_i v hv
          refine ⟨v, ?_, h⟩
          have : binAv op (.dat (.int k a)) (.dat (.int k b)) = some v := by
            show (if k = k then binInt op k a b else none) = some v
            rw [if_pos rfl]
            exact arI_bin hv
          simp only [hx, hy, this]
        · exact h.elim
      · exact h.elim
    · rename_i a b hx hy
      split at h
      · rename_i v hv
        refine ⟨v, ?_, h⟩
        have : binAv op (.dat (.str a)) (.dat (.str b)) = some v := scS_bin hv
        simp only [hx, hy, this]
      · exact h.elim
    · rename_i a b hx hy
      split at h
      · rename_i hd
        exact ⟨_, by simp only [hx, hy, binAv, und_bool hV hd, eqAv]; rfl, h⟩
      · rename_i hd
        exact ⟨_, by simp only [hx, hy, binAv, und_bool hV hd, eqAv, Option.bind_some, boolAv, notAv]; rfl, h⟩
      · exact h.elim
    · rename_i hy
      generalize hx : s.ev x = av at h
      simp only [hy]
      split at h
      · rename_i e xs hd he
        have hba : binAv .eql av .nils = none := by cases av <;> simp_all [binAv, AV.elems] <;> (rename_i d; cases d <;> simp_all [binAv])
        simp only [hba, und_slice hV hd, eqAv]
        split at h
        · exact ⟨_, rfl, h⟩
        · exact ⟨_, rfl, h⟩
        · rename_i hn1 hn2
          by_cases h0 : 0 < xs.length
          · refine ⟨boolAv false, ?_, h.1 h0⟩
            cases av with
            | dat d => cases d <;> simp [AV.elems] at he; subst he; simp [nilAv, h0]
            | own id e' ys => simp [AV.elems] at he; subst he; simp [nilAv, h0]
            | nils => exact absurd rfl hn1
            | emp => exact absurd rfl hn2
            | _ => simp [AV.elems] at he
          · refine ⟨.anyb, ?_, h.2 (by show xs = []; simpa using h0)⟩
            cases av with
            | dat d => cases d <;> simp [AV.elems] at he; subst he; simp [nilAv, h0]
            | own id e' ys => simp [AV.elems] at he; subst he; simp [nilAv, h0]
            | nils => exact absurd rfl hn1
            | emp => exact absurd rfl hn2
            | _ => simp [AV.elems] at he
      · rename_i e xs hd he
        have hba : binAv .neq av .nils = none := by cases av <;> simp_all [binAv, AV.elems] <;> (rename_i d; cases d <;> simp_all [binAv])
        simp only [hba, und_slice hV hd, eqAv]
        split at h
        · exact ⟨_, rfl, h⟩
        · exact ⟨_, rfl, h⟩
        · rename_i hn1 hn2
          by_cases h0 : 0 < xs.length
          · refine ⟨boolAv true, ?_, h.1 h0⟩
            cases av with
            | dat d => cases d <;> simp [AV.elems] at he; subst he; simp [nilAv, h0, notAv, boolAv]
            | own id e' ys => simp [AV.elems] at he; subst he; simp [nilAv, h0, notAv, boolAv]
            | nils => exact absurd rfl hn1
            | emp => exact absurd rfl hn2
            | _ => simp [AV.elems] at he
          · refine ⟨.anyb, ?_, h.2 (by show xs = []; simpa using h0)⟩
            cases av with
            | dat d => cases d <;> simp [AV.elems] at he; subst he; simp [nilAv, h0, notAv]
            | own id e' ys => simp [AV.elems] at he; subst he; simp [nilAv, h0, notAv]
            | nils => exact absurd rfl hn1
            | emp => exact absurd rfl hn2
            | _ => simp [AV.elems] at he
      · exact h.elim
    · rename_i hx hy
      split at h
      · rename_i hd
        exact ⟨_, by simp only [hx, hy, binAv, und_ptr hV hd, eqAv]; rfl, h⟩
      · rename_i hd
        exact ⟨_, by simp only [hx, hy, binAv, und_ptr hV hd, eqAv, Option.bind_some, boolAv, notAv]; rfl, h⟩
      · exact h.elim
    · rename_i hx hy
      split at h
      · rename_i hd
        exact ⟨_, by simp only [hx, hy, binAv, und_ptr hV hd, eqAv]; rfl, h⟩
      · rename_i hd
        exact ⟨_, by simp only [hx, hy, binAv, und_ptr hV hd, eqAv, Option.bind_some, boolAv, notAv]; rfl, h⟩
      · exact h.elim
    · exact h.elim
  · rename_i t x ho
    simp only [ho]
    split at h
    · rename_i b hx
      simp only [hx]
      exact ⟨_, rfl, h⟩
    · rename_i hx
      simp only [hx]
      exact ⟨_, rfl, h⟩
    · exact h.elim
  · rename_i t t' x ho
    simp only [ho]
    split at h
    · rename_i d k k' n hd hd' hx
      obtain ⟨d', k1, _⟩ := hV.und _ _ hd
      simp only [k1, und_int hV hd', hx]
      exact ⟨_, by cases d' <;> rfl, h⟩
    · rename_i l hd hd' hx
      simp only [und_str hV hd, und_str hV hd', hx]
      exact ⟨_, rfl, h⟩
    · exact h.elim
  · rename_i t x lo hi ho
    simp only [ho]
    split at h
    · rename_i e hd
      simp only [und_slice hV hd]
      split at h
      · rename_i xs ti hx hti
        obtain ⟨tj, k1, k2, _⟩ := tiOf_info (hV.inf _ _ hti)
        split at h
        · rename_i l hh hl hhh
          obtain ⟨⟨h0, h1, h2, h3⟩, h4⟩ := h
          refine ⟨_, ?_, h4⟩
          have b1 := sbnd_bnd hl h0
          have b2 := sbnd_bnd hhh (by omega)
          have b2' : bndAv xs.length (hi.map s.ev) = some hh.toNat := by simpa [Wd.std] using b2
          simp only [sliceAv, hx, k1, b2']
          rw [show bndAv 0 (lo.map s.ev) = some l.toNat from b1]
          simp only
          rw [if_pos ⟨by omega, by omega⟩]
          cases hc : xs[l.toNat]? with
          | some c =>
            simp only [h3 c hc, k2]
            rw [if_pos trivial]
            rfl
          | none =>
            have : xs.length ≤ l.toNat := by simpa using hc
            simp only [Wd.std]
            rw [List.drop_eq_nil_of_le this]
            simp
        · exact h.elim
      · exact h.elim
    · rename_i hd
      simp only [und_str hV hd]
      split at h
      · rename_i q hx
        simp only [hx]
        split at h
        · rename_i l hh hl hhh
          obtain ⟨⟨h0, h1, h2⟩, h4⟩ := h
          refine ⟨_, ?_, h4⟩
          have b1 := sbnd_bnd hl h0
          have b2 := sbnd_bnd hhh (by omega)
          have b2' : bndAv q.length (hi.map s.ev) = some hh.toNat := by simpa [Wd.std] using b2
          simp only [sliceAv, b2']
          rw [show bndAv 0 (lo.map s.ev) = some l.toNat from b1]
          simp only
          rw [if_pos ⟨by omega, by omega⟩]
          rfl
        · exact h.elim
      · exact h.elim
    · exact h.elim
  · rename_i x i ho
    simp only [ho]
    split at h
    · rename_i vs hx
      simp only [hx]
      split at h
      · rename_i v hv
        exact ⟨v, hv, h⟩
      · exact h.elim
    · exact h.elim
  · rename_i f first caps ho
    simp only [ho]
    split at h
    · rename_i hf
      have : first = #[] := by simpa using congrArg List.toArray hf
      subst this
      exact ⟨_, rfl, h⟩
    · exact h.elim
  · rename_i args tys ho
    simp only [ho]
    split at h
    · rename_i x t ha ht
      simp only [ha, ht]
      split at h
      · rename_i q hd hx
        simp only [und_str hV hd, hx]
        exact ⟨_, rfl, h⟩
      · rename_i e b e' xs n hd hx
        simp only [und_slice hV hd, hx]
        exact ⟨_, rfl, h⟩
      · rename_i e a hd hne
        generalize hx : s.ev x = av at h hne
        simp only [und_slice hV hd]
        split at h
        · rename_i xs he
          refine ⟨_, ?_, h⟩
          cases av with
          | dat d => cases d <;> simp [AV.elems] at he; subst he; simp [lenAv, Wd.std]
          | own id e' ys => simp [AV.elems] at he; subst he; simp [lenAv, Wd.std]
          | nils => simp [AV.elems] at he; subst he; simp [lenAv, Wd.std]
          | emp => simp [AV.elems] at he; subst he; simp [lenAv, Wd.std]
          | _ => simp [AV.elems] at he
        · exact h.elim
      · exact h.elim
    · exact h.elim
  · exact h.elim
end
end Go.Proofs.YtdfcjodkmjofgaaGreat
