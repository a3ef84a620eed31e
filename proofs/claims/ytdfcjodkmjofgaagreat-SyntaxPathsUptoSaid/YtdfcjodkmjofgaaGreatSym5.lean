/-
  Bodies over boxes: every order of a region, one state for each set of operations that are done; contracts with boxes.
-/
import Derived.Test.YtdfcjodkmjofgaaGreatFrame
namespace Go.Proofs.YtdfcjodkmjofgaaGreat
open Go.RowKit

mutual
/-- Slices over box o become own slices; 'ap' puts two lists together. -/
def AV.sfz (ap : List (List Dat) → List (List Dat) → List (List Dat)) (o : Nat) (e : TypeId) (sz : Nat) (ds : List Dat) : AV → AV
  | .sl p e' xs n => bif Nat.beq p o then (bif Nat.beq e' e && Nat.beq (n * sz) ds.length then .own (o + 1000000) e (ap xs (chunks sz n ds)) else .top) else .sl p e' xs n
  | .ptr p k => .ptr p k
  | .agg cs => .agg (AV.sfzL ap o e sz ds cs)
  | .tup cs => .tup (AV.sfzL ap o e sz ds cs)
  | .fn f cs => .fn f (AV.sfzL ap o e sz ds cs)
  | .own id e xs => .own id e xs
  | .top => .top
  | .dat d => .dat d
  | .nils => .nils
  | .nilp => .nilp
  | .rptr c => .rptr c
  | .emp => .emp
  | .anyb => .anyb
def AV.sfzL (ap : List (List Dat) → List (List Dat) → List (List Dat)) (o : Nat) (e : TypeId) (sz : Nat) (ds : List Dat) : List AV → List AV
  | [] => []
  | a :: l => a.sfz ap o e sz ds :: AV.sfzL ap o e sz ds l
end
theorem natbeq (a b : Nat) : Nat.beq a b = (a == b) := by rw [Bool.eq_iff_iff, Nat.beq_eq, beq_iff_eq]
mutual
theorem AV.sfz_eq (o : Nat) (e : TypeId) (sz : Nat) (ds : List Dat) : (a : AV) → a.sfz (fun x y => x ++ y) o e sz ds = a.frz o e sz ds
  | .sl p e' xs n => by simp only [AV.sfz, AV.frz, natbeq]
  | .ptr p k => rfl
  | .agg cs => by simp only [AV.sfz, AV.frz]; rw [AV.sfzL_eq o e sz ds cs]
  | .tup cs => by simp only [AV.sfz, AV.frz]; rw [AV.sfzL_eq o e sz ds cs]
  | .fn f cs => by simp only [AV.sfz, AV.frz]; rw [AV.sfzL_eq o e sz ds cs]
  | .own id e xs => rfl
  | .top => rfl
  | .dat d => rfl
  | .nils => rfl
  | .nilp => rfl
  | .rptr c => rfl
  | .emp => rfl
  | .anyb => rfl
theorem AV.sfzL_eq (o : Nat) (e : TypeId) (sz : Nat) (ds : List Dat) : (l : List AV) → AV.sfzL (fun x y => x ++ y) o e sz ds l = AV.frzL o e sz ds l
  | [] => rfl
  | a :: l => by simp only [AV.sfzL, AV.frzL]; rw [AV.sfz_eq o e sz ds a, AV.sfzL_eq o e sz ds l]
end
def bget (o : Nat) : Boxes → Option (TypeId × List AV)
  | [] => none
  | b :: l => match o with
    | 0 => some b
    | o + 1 => bget o l
theorem bget_eq : ∀ (o : Nat) (l : Boxes), bget o l = l[o]?
  | _, [] => by simp [bget]
  | 0, b :: l => by simp [bget]
  | o + 1, b :: l => by simpa [bget] using bget_eq o l
def bmod (o : Nat) : Boxes → Boxes
  | [] => []
  | b :: l => match o with
    | 0 => (b.1, []) :: l
    | o + 1 => b :: bmod o l
theorem bmod_eq : ∀ (o : Nat) (l : Boxes), bmod o l = l.modify o fun b => (b.1, [])
  | _, [] => by simp [bmod]
  | 0, b :: l => by simp [bmod]
  | o + 1, b :: l => by simp [bmod, bmod_eq o l]
def bmap (f : List AV → List AV) : Boxes → Boxes
  | [] => []
  | b :: l => (b.1, f b.2) :: bmap f l
theorem bmap_eq (f : List AV → List AV) : ∀ (l : Boxes), bmap f l = l.map fun b => (b.1, f b.2)
  | [] => rfl
  | b :: l => by simp [bmap, bmap_eq f l]
def sfreeze (E : Wd) (V : View) (o : Nat) (s : St) : St :=
  match bget o s.heap with
  | some (e, c :: cs) => match V.inf e, datL (c :: cs) with
    | some ti, some ds => ⟨AV.sfzL E.ap o e ti.size ds s.slots, bmap (AV.sfzL E.ap o e ti.size ds) (bmod o s.heap)⟩
    | _, _ => s
  | _ => s
def sfreezes (E : Wd) (V : View) : List Nat → St → St
  | [], s => s
  | o :: l, s => sfreezes E V l (sfreeze E V o s)
theorem sfreeze_wk {V : View} {P : Program} (hV : V.OK P) {nb : Nat} (o : Nat) (s : St) : Wk P nb s (sfreeze (Wd.std P) V o s) := by
  unfold sfreeze
  split
  · rename_i e c cs hg
    split
    · rename_i ti ds hi hd
      obtain ⟨tj, k1, k2, _⟩ := tiOf_info (hV.inf _ _ hi)
      have hfz : (⟨AV.sfzL (Wd.std P).ap o e ti.size ds s.slots, bmap (AV.sfzL (Wd.std P).ap o e ti.size ds) (bmod o s.heap)⟩ : St) = s.freeze P o := by
        rw [bget_eq] at hg
        unfold St.freeze
        simp only [hg, k1, hd, k2, List.isEmpty_cons, cond_false]
        rw [bmap_eq, bmod_eq]
        have e1 : (Wd.std P).ap = fun x y => x ++ y := rfl
        have e2 : AV.sfzL (fun x y => x ++ y) o e ti.size ds = AV.frzL o e ti.size ds := funext fun l => AV.sfzL_eq o e ti.size ds l
        rw [e1, e2]
      rw [hfz]
      exact Wk.freeze P o s
    · exact Wk.refl P s
  · exact Wk.refl P s
theorem sfreezes_wk {V : View} {P : Program} (hV : V.OK P) {nb : Nat} : ∀ (l : List Nat) (s : St), Wk P nb s (sfreezes (Wd.std P) V l s)
  | [], s => Wk.refl P s
  | o :: l, s => (sfreeze_wk hV o s).trans (sfreezes_wk hV l _)
theorem LeS.wkAny {P : Program} {nb : Nat} {s s' : St} (h : LeS s.heap.length s s') : Wk P nb s s' := fun w0 X0 w X a h0 hs => by
  have hle : X0.n ≤ s.heap.length := by rw [← hs.hp.n]; exact hs.po.mn
  have h2 : LeS X0.n s s' := by
    obtain ⟨k1, k2, k3⟩ := h
    refine ⟨k1, k2, ?_⟩
    unfold leB at k3 ⊢
    rw [Bool.and_eq_true, Bool.and_eq_true] at k3 ⊢
    exact ⟨⟨Nat.ble_eq_true_of_le (Nat.le_trans hle (Nat.le_of_ble_eq_true k3.1.1)), k3.1.2⟩, k3.2⟩
  exact h2.wk w0 X0 w X a rfl hs

/-! ### every order -/
def lset (i : Nat) : List Bool → List Bool
  | [] => []
  | b :: l => match i with
    | 0 => true :: l
    | i + 1 => b :: lset i l
theorem lset_eq : ∀ (i : Nat) (l : List Bool), lset i l = l.set i true
  | _, [] => by simp [lset]
  | 0, b :: l => by simp [lset]
  | i + 1, b :: l => by simp [lset, lset_eq i l]
def sany1 (E : Wd) (V : View) (ops : Array Oper) (F : List Bool → St) (L : List Bool) : List Nat → Prop
  | [] => True
  | i :: is => (match oget i ops.toList with
    | some o => sguard ops (F L) o (fun _ => sstep E V (opens ops o) o (F L) fun s' => LeS s'.heap.length s' (F (lset i L))) (fun _ => LeS (F L).heap.length ((F L).put o.dst .top) (F (lset i L)))
    | none => False) ∧ sany1 E V ops F L is
def sany (E : Wd) (V : View) (ops : Array Oper) (F : List Bool → St) (K : St → Prop) : List (List Bool × List Nat) → Prop
  | [] => True
  | (L, is) :: rest => sany1 E V ops F L is ∧ (match is with
    | [] => K (F L)
    | _ => True) ∧ sany E V ops F K rest
def tabB (ops : Array Oper) (tab : List (List Bool × List Nat)) : Bool :=
  (tab.any fun q => q.1 == List.replicate ops.size false) && tab.all fun p => Region.ready .any ops p.1.toArray == p.2 && p.1.length == ops.size && p.2.all (fun i => !(p.1.getD i true) && tab.any (fun q => q.1 == p.1.set i true)) && (p.1.any (fun b => !b) || p.2.isEmpty)
theorem sany1_get {E : Wd} {V : View} {ops : Array Oper} {F : List Bool → St} {L : List Bool} : ∀ {is : List Nat}, sany1 E V ops F L is → ∀ i ∈ is, ∃ o, ops[i]? = some o ∧
    sguard ops (F L) o (fun _ => sstep E V (opens ops o) o (F L) fun s' => LeS s'.heap.length s' (F (L.set i true))) (fun _ => LeS (F L).heap.length ((F L).put o.dst .top) (F (L.set i true)))
  | [], _, i, hi => by simp at hi
  | j :: is, h, i, hi => by
    obtain ⟨h1, h2⟩ := h
    rcases List.mem_cons.1 hi with rfl | hi
    · split at h1
      · rename_i o ho
        rw [oget_eq, Array.getElem?_toList] at ho
        rw [lset_eq] at h1
        exact ⟨o, ho, h1⟩
      · exact h1.elim
    · exact sany1_get h2 i hi
theorem sany_get {E : Wd} {V : View} {ops : Array Oper} {F : List Bool → St} {K : St → Prop} : ∀ {tab : List (List Bool × List Nat)}, sany E V ops F K tab → ∀ p ∈ tab, sany1 E V ops F p.1 p.2 ∧ (p.2 = [] → K (F p.1))
  | [], _, p, hp => by simp at hp
  | (L, is) :: rest, h, p, hp => by
    obtain ⟨h1, h2, h3⟩ := h
    rcases List.mem_cons.1 hp with rfl | hp
    · exact ⟨h1, fun e => by simp only at e; subst e; exact h2⟩
    · exact sany_get h3 p hp
theorem count_set : ∀ (l : List Bool) (i : Nat), l.getD i true = false → (l.set i true).count true = l.count true + 1
  | [], i, h => by simp at h
  | b :: l, 0, h => by simp at h; subst h; simp
  | b :: l, i + 1, h => by
    have := count_set l i (by simpa using h)
    simp [List.count_cons, this]
    omega
theorem put_len (s : St) (d : Option Tmp) (v : AV) : (s.put d v).heap.length = s.heap.length := by cases d <;> rfl
theorem SDraw.any {E : Wd} {V : View} {ops : Array Oper} {s : St} {K : St → Prop} (tab : List (List Bool × List Nat)) (F : List Bool → St) (fz : List Nat) (ht : tabB ops tab = true) (hs : F (List.replicate ops.size false) = s)
    (h : sany E V ops F (fun s1 => K (sfreezes E V fz s1)) tab) : SDraw E V ops s K := .other fun P nb K' hV hE hk => by
  subst hE
  right; right; right
  unfold tabB at ht
  rw [Bool.and_eq_true] at ht
  obtain ⟨ht0, ht⟩ := ht
  rw [List.all_eq_true] at ht
  have key : ∀ (f : Nat) (L : List Bool), ops.size ≤ f + L.count true → (∃ q ∈ tab, q.1 = L) → aany P nb ops f L.toArray (F L) fun s1 => ∃ s2, Wk P nb s1 s2 ∧ K' .norm s2 := by
    intro f
    induction f with
    | zero =>
      rintro L hc ⟨p, hp, rfl⟩
      have h1 := ht p hp
      simp only [Bool.and_eq_true, beq_iff_eq] at h1
      obtain ⟨⟨⟨h1, h2⟩, h3⟩, h4⟩ := h1
      have hall : p.1.any (fun b => !b) = false := by
        cases hq : p.1.any (fun b => !b) with
        | false => rfl
        | true =>
          rw [List.any_eq_true] at hq
          obtain ⟨b, hb, hbf⟩ := hq
          have hb' : b = false := by simpa using hbf
          subst hb'
          have : p.1.count true < p.1.length := by
            rcases Nat.lt_or_ge (p.1.count true) p.1.length with h | h
            · exact h
            · have he : p.1.count true = p.1.length := Nat.le_antisymm List.count_le_length h
              have := (List.count_eq_length.1 he) false hb
              cases this
          omega
      rw [hall, Bool.false_or, List.isEmpty_iff] at h4
      simp only [aany]
      exact ⟨by rw [h1, h4], _, sfreezes_wk hV fz _, hk _ ((sany_get h p hp).2 h4)⟩
    | succ f ih =>
      rintro L hc ⟨p, hp, rfl⟩
      have h1 := ht p hp
      simp only [Bool.and_eq_true, beq_iff_eq] at h1
      obtain ⟨⟨⟨h1, h2⟩, h3⟩, h4⟩ := h1
      simp only [aany]
      refine ⟨fun he => ⟨_, sfreezes_wk hV fz _, hk _ ((sany_get h p hp).2 (by rw [← h1, he]))⟩, fun i hi => ?_⟩
      rw [h1] at hi
      obtain ⟨o, ho, hg⟩ := sany1_get (sany_get h p hp).1 i hi
      rw [ho]
      have h5 := List.all_eq_true.1 h3 i hi
      simp only [Bool.and_eq_true, Bool.not_eq_true', List.any_eq_true, beq_iff_eq] at h5
      obtain ⟨h5, q, hq, hqe⟩ := h5
      have hnext := ih (p.1.set i true) (by rw [count_set _ _ h5]; omega) ⟨q, hq, hqe⟩
      have harr : p.1.toArray.setIfInBounds i true = (p.1.set i true).toArray := by simp
      rw [harr]
      have fin : ∀ s', LeS s'.heap.length s' (F (p.1.set i true)) → ∃ s2, Wk P nb s' s2 ∧ aany P nb ops f (p.1.set i true).toArray s2 fun s1 => ∃ s2, Wk P nb s1 s2 ∧ K' .norm s2 := fun s' hl => ⟨_, LeS.wkAny hl, hnext⟩
      unfold aop1
      rcases sguard_gtest hg with ⟨hg, hA⟩ | ⟨b, hg, hA, hB⟩
      · simp only [hg]
        exact sstep_astep hV fin hA
      · simp only [hg]
        exact ⟨fun e => sstep_astep hV fin (hA e), fun e => fin _ (by rw [put_len]; exact hB e)⟩
  rw [← hs]
  have := key ops.size (List.replicate ops.size false) (by omega) (by
    rw [List.any_eq_true] at ht0
    obtain ⟨q, hq, he⟩ := ht0
    exact ⟨q, hq, by simpa using he⟩)
  simpa using this

/-! ### contracts with boxes -/
mutual
/-- All marks are 0. -/
def AV.mk0 : AV → AV
  | .own _ e xs => .own 0 e xs
  | .agg cs => .agg (AV.mk0L cs)
  | .tup cs => .tup (AV.mk0L cs)
  | .fn f cs => .fn f (AV.mk0L cs)
  | .sl p e xs n => .sl p e xs n
  | .ptr p k => .ptr p k
  | .top => .top
  | .dat d => .dat d
  | .nils => .nils
  | .nilp => .nilp
  | .rptr c => .rptr c
  | .emp => .emp
  | .anyb => .anyb
def AV.mk0L : List AV → List AV
  | [] => []
  | a :: l => a.mk0 :: AV.mk0L l
end
theorem AV.mk0L_length : (m : List AV) → (AV.mk0L m).length = m.length
  | [] => rfl
  | x :: m => by simp [AV.mk0L, AV.mk0L_length m]
theorem AV.mk0L_get : {m : List AV} → {i : Nat} → (AV.mk0L m)[i]? = (m[i]?).map AV.mk0
  | [], i => by simp [AV.mk0L]
  | x :: m, 0 => by simp [AV.mk0L]
  | x :: m, i + 1 => by simpa [AV.mk0L] using AV.mk0L_get (m := m) (i := i)
def mk0B (H : Boxes) : Boxes := bmap AV.mk0L H
section
variable {P : Program} {w : World}
theorem VRel.mk0 {X : Cx} : {a : AV} → {v : Value} → VRel P w X a v → VRel P w { X with lab := fun b => (X.lab b).map fun _ => 0 } a.mk0 v
  | _, _, .top v => .top v
  | _, _, .dat d v hd => .dat d v hd
  | _, _, .nils => .nils
  | _, _, .ownNil id e => .ownNil 0 e
  | _, _, .own id e xs b c cur i he hb hl hh hc hm' hs hx hr hp => .own 0 e xs b c cur i he hb (by show (X.lab b).map _ = _; rw [hl]; rfl) hh hc hm' hs hx hr hp
  | _, _, .ptr o off ho => VRel.ptr (X := { X with lab := fun b => (X.lab b).map fun _ => 0 }) o off ho
  | _, _, .nilp => .nilp
  | _, _, .sl o e xs n ti he ho hl hbo hx hr => VRel.sl (X := { X with lab := fun b => (X.lab b).map fun _ => 0 }) o e xs n ti he ho hl hbo hx hr
  | _, _, .emp A => .emp A
  | _, _, .anyb b => .anyb b
  | _, _, .rptr cells ad hc => .rptr cells ad hc
  | _, _, .fn f caps vs hs hc => .fn f _ vs (by rw [AV.mk0L_length]; exact hs) fun i c v hi hv => by
    rw [AV.mk0L_get, Option.map_eq_some_iff] at hi
    obtain ⟨c0, h0, rfl⟩ := hi
    exact VRel.mk0 (hc i c0 v h0 hv)
  | _, _, .agg caps vs hs hc => .agg _ vs (by rw [AV.mk0L_length]; exact hs) fun i c v hi hv => by
    rw [AV.mk0L_get, Option.map_eq_some_iff] at hi
    obtain ⟨c0, h0, rfl⟩ := hi
    exact VRel.mk0 (hc i c0 v h0 hv)
  | _, _, .tup caps vs hs hc => .tup _ vs (by rw [AV.mk0L_length]; exact hs) fun i c v hi hv => by
    rw [AV.mk0L_get, Option.map_eq_some_iff] at hi
    obtain ⟨c0, h0, rfl⟩ := hi
    exact VRel.mk0 (hc i c0 v h0 hv)
theorem HRel.mk0 {X : Cx} {H : Boxes} (h : HRel P w X H) : HRel P w { X with lab := fun b => (X.lab b).map fun _ => 0 } (mk0B H) := by
  have key : ∀ {o : Nat} {T : TypeId} {cs : List AV}, (mk0B H)[o]? = some (T, cs) → cs ≠ [] → ∃ cs0, H[o]? = some (T, cs0) ∧ cs = AV.mk0L cs0 ∧ cs0 ≠ [] := by
    intro o T cs ho hne
    rw [mk0B, bmap_eq, List.getElem?_map, Option.map_eq_some_iff] at ho
    obtain ⟨⟨T0, cs0⟩, h1, h2⟩ := ho
    simp only [Prod.mk.injEq] at h2
    obtain ⟨rfl, rfl⟩ := h2
    exact ⟨cs0, h1, rfl, fun e => hne (by rw [e]; rfl)⟩
  refine ⟨by rw [mk0B, bmap_eq, List.length_map]; exact h.n, h.le, fun o T cs ho hne => ?_, fun o T cs ho hne => ?_, fun o o' T T' cs cs' ho hne ho' hne' e => ?_, h.pm, fun b hb => ?_⟩
  · obtain ⟨cs0, k1, _, k3⟩ := key ho hne
    obtain ⟨b1, b2, b3⟩ := h.boxb o T cs0 k1 k3
    exact ⟨b1, by show (X.lab (X.m o)).map _ = none; rw [b2]; rfl, b3⟩
  · obtain ⟨cs0, k1, rfl, k3⟩ := key ho hne
    obtain ⟨vs, b1, b2, b3⟩ := h.box o T cs0 k1 k3
    refine ⟨vs, b1, by rw [AV.mk0L_length]; exact b2, fun i c v hi hv => ?_⟩
    rw [AV.mk0L_get, Option.map_eq_some_iff] at hi
    obtain ⟨c0, h0, rfl⟩ := hi
    exact VRel.mk0 (b3 i c0 v h0 hv)
  · obtain ⟨cs0, k1, _, k3⟩ := key ho hne
    obtain ⟨cs1, k4, _, k6⟩ := key ho' hne'
    exact h.inj o o' T T' cs0 cs1 k1 k3 k4 k6 e
  · exact h.lab b fun e => hb (by show (X.lab b).map _ = none; rw [e]; rfl)
end
theorem CR.mk0 {P : Program} {f : FuncId} {args : List AV} {H : Boxes} {K : AV → Boxes → Prop} (h : CR P f args H K) : CR P f args H fun r H' => ∃ r0 H0, K r0 H0 ∧ r = r0.mk0 ∧ H' = mk0B H0 :=
  ⟨h.en, fun w X vs hp hc => (h.run w X vs hp hc).mono fun e w' ⟨v, r, H', X', h1, h2, h3, h4, h5⟩ =>
    ⟨v, r.mk0, mk0B H', { X' with lab := fun b => (X'.lab b).map fun _ => 0 }, h1, ⟨r, H', h2, rfl, rfl⟩, ⟨h3.B, h3.below, h3.gs, h3.keep, h3.mn, h3.mo, h3.pm0⟩, h4.mk0, h5.mk0⟩⟩
/-- Where more is told, what is told of less. -/
theorem CR.weak {P : Program} {f : FuncId} {args args' : List AV} {H H' : Boxes} {K : AV → Boxes → Prop} (h : CR P f args H K) (hl : LeL args' args) (hh : LeH H' H) (hn : H'.length = H.length) : CR P f args' H' K := by
  refine ⟨h.en, fun w X vs hp hc => h.run w X vs ?_ ⟨hc.1.trans hl.len, fun i c v hi hv => ?_⟩⟩
  · have key : ∀ {o : Nat} {T : TypeId} {cs : List AV}, H[o]? = some (T, cs) → cs ≠ [] → ∃ cs0, H'[o]? = some (T, cs0) ∧ LeL cs0 cs ∧ cs0 ≠ [] := by
      intro o T cs ho hne
      obtain ⟨cs0, h1, h2⟩ := hh.get ho hne
      exact ⟨cs0, h1, h2, fun e => by rw [e] at h2; cases cs with | nil => exact hne rfl | cons a l => exact h2⟩
    refine ⟨hp.n.trans hn, hp.le, fun o T cs ho hne => ?_, fun o T cs ho hne => ?_, fun o o' T T' cs cs' ho hne ho' hne' e => ?_, hp.pm, hp.lab⟩
    · obtain ⟨cs0, h1, _, h3⟩ := key ho hne
      exact hp.boxb o T cs0 h1 h3
    · obtain ⟨cs0, h1, h2, h3⟩ := key ho hne
      obtain ⟨us, k1, k2, k3⟩ := hp.box o T cs0 h1 h3
      rw [h2.len] at k2
      refine ⟨us, k1, k2, fun i c v hi hv => ?_⟩
      obtain ⟨c0, m1, m2⟩ := h2.get hi
      exact m2.rel (k3 i c0 v m1 hv)
    · obtain ⟨cs0, h1, _, h3⟩ := key ho hne
      obtain ⟨cs1, h4, _, h6⟩ := key ho' hne'
      exact hp.inj o o' T T' cs0 cs1 h1 h3 h4 h6 e
  · obtain ⟨c0, m1, m2⟩ := hl.get hi
    exact m2.rel (hc.2 i c0 v m1 hv)
def St.cut (n : Nat) : List AV → List AV
  | [] => []
  | a :: l => (bif a.bnd n then a else .top) :: St.cut n l
theorem St.cut_le (n : Nat) : ∀ l, LeL l (St.cut n l)
  | [] => trivial
  | a :: l => by
    simp only [St.cut]
    cases h : a.bnd n with
    | true =>
      rw [cond_true]
      cases a <;> first | exact St.cut_le n l | exact ⟨.eq rfl, St.cut_le n l⟩
    | false => rw [cond_false]; exact St.cut_le n l
theorem St.cut_bnd (n : Nat) : ∀ l, AV.bndL n (St.cut n l) = true
  | [] => rfl
  | a :: l => by
    simp only [St.cut, AV.bndL, Bool.and_eq_true]
    refine ⟨?_, St.cut_bnd n l⟩
    cases h : a.bnd n with
    | true => rw [cond_true]; exact h
    | false => rfl
def bndB (n : Nat) : Boxes → Bool
  | [] => true
  | b :: l => AV.bndL n b.2 && bndB n l
theorem bndB_eq (n : Nat) : ∀ l, bndB n l = l.all fun b => AV.bndL n b.2
  | [] => rfl
  | b :: l => by simp [bndB, bndB_eq n l]
/-- What is handed back, and what the boxes hold then. -/
inductive SFinH (V : View) (rs : List ResultVar) (nb : Nat) (s : St) (K : AV → Boxes → Prop) : Prop
  | mk (r : AV) (H' : Boxes) (hk : K r H') (hn : Nat.ble nb H'.length = true) (hh : LeH s.heap H') (hb : bndB H'.length H' = true) (hs : SFin (sres V rs ⟨St.cut H'.length s.slots, H'⟩) r) : SFinH V rs nb s K
/-- A function's contract over boxes, by its body. -/
theorem crH_of_swp {P : Program} {V : View} (hm : P.follows .mixedOrders = true) (hV : V.OK P) {f : FuncId} {fn : Func} {code : Code} {args : List AV} {H : Boxes} {K : AV → Boxes → Prop} (hf : P.funcs[f]? = some fn) (hb : fn.body = some code) (hn : (fn.name == "runtime.NumGoroutine") = false)
    (h : ∀ E, Wd.std P = E → (∀ (i : Nat) (c : AV), args[i]? = some c → c.real) → swp E V H.length code (sstart fn args H) fun e s' => match e with
      | .exit _ => False
      | .norm => SFinH V fn.results.toList H.length s' K
      | .ret => SFinH V fn.results.toList H.length s' K) : CR P f args H K := by
  refine CR.of_real ⟨fn, hf, hn, by rw [hb]; rfl⟩ fun hreal => ?_
  have base := cr_of_awp hm hf hb hn (K := fun r' H'' => ∃ r, K r H'' ∧ ∀ (w : World) (X : Cx) (x : Value), VRel P w X r' x → VRel P w X r x) (swp_awp hV code (fun e s' hs => ?_) (h _ rfl hreal))
  · exact ⟨base.en, fun w X vs hp hc => (base.run w X vs hp hc).mono fun e w' ⟨v, r', H', X', h1, ⟨r, k1, k2⟩, h3, h4, h5⟩ => ⟨v, r, H', X', h1, k1, h3, h4, k2 _ _ _ h5⟩⟩
  have fin : SFinH V fn.results.toList H.length s' K → ∃ s2, Wk P H.length s' s2 ∧ ∃ r, resAv P fn s2 = some r ∧ ∃ r2, K r2 s2.heap ∧ ∀ (w : World) (X : Cx) (x : Value), VRel P w X r x → VRel P w X r2 x := by
    rintro ⟨r, H', hk, hn, hh, hbb, hs⟩
    obtain ⟨a, h1, h2⟩ := hs.rel (P := P)
    refine ⟨⟨St.cut H'.length s'.slots, H'⟩, LeS.wk ⟨St.cut_le _ _, hh, ?_⟩, a, sres_eq hV h1, r, hk, h2⟩
    unfold leB
    rw [Bool.and_eq_true, Bool.and_eq_true]
    exact ⟨⟨hn, St.cut_bnd _ _⟩, by rw [← bndB_eq]; exact hbb⟩
  cases e with
  | exit id => exact hs.elim
  | norm => exact fin hs
  | ret => exact fin hs
end Go.Proofs.YtdfcjodkmjofgaaGreat
