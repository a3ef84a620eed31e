/-
  Words, assignments, redirections, branches and nodes held against each other, by the specification.
-/
import Derived.Test.YtdfcjodkmjofgaaGreatC1
namespace Go.Proofs.YtdfcjodkmjofgaaGreat
open Go.RowKit

def C54 (a b : List WordD) : Prop := CRet Tryz.prog 54 [.dat (.list (a.map WordD.cells)), .dat (.list (b.map WordD.cells))] (· = .dat (.bool (sameBy WordD.same a b)))
set_option maxRecDepth 100000 in
set_option maxHeartbeats 4000000 in
theorem c54  (a b : List WordD): C54 a b := by
  refine cret_of_swp mixedOrders VT_ok Tryz.func54 (code := Tryz.f54.body.get (by kernel_rfl)) (by kernel_rfl) (by kernel_rfl) rfl fun E hE hreal => ?_
  obtain ⟨ar, cm, sc, eb, wr, ln, sl, ct, ap, sb, ss, u8, mx, nth, off, sat, sok, stok, cat, bd, szs, ne, nil, call, callF⟩ := E
  have hmax : a.length ≤ maxLen := by have := real_list (hreal 0 _ rfl); rwa [List.length_map] at this
  clear hreal
  generalize hA : a.map WordD.cells = A
  generalize hB : b.map WordD.cells = B
  generalize hr : sameBy WordD.same a b = r
  cbv
  generalize h1 : cm .neq _ _ = c1
  cases c1
  case true =>
    cbv
    refine .eq (.boolE ?_)
    rw [← hr]
    cases hq : sameBy WordD.same a b with
    | false => rfl
    | true =>
      have := (sameBy_iff.1 hq).1
      cases hE
      simp [cmI] at h1
      rw [← hA, ← hB, List.length_map, List.length_map] at h1
      omega
  case false =>
    cbv
    have hAl : A.length = a.length := by rw [← hA, List.length_map]
    have hBl : B.length = b.length := by rw [← hB, List.length_map]
    have hlen : a.length = b.length := by
      cases hE
      simp [cmI] at h1
      omega
    refine .mk {i : Nat // i ≤ a.length ∧ ∀ (j : Nat) (x y : WordD), j < i → a[j]? = some x → b[j]? = some y → WordD.same x y = true} (fun i => ⟨slotsOf 29 [(0, .dat (.list A)), (1, .dat (.list B)), (5, .dat (.int .i64 i.1))], []⟩) (fun i => a.length - i.1) ⟨0, Nat.zero_le _, fun j x y h => by omega⟩ ?_ ?_
    · cbv
      exact ⟨⟨.eq rfl, .eq rfl, .eq rfl, trivial⟩, trivial⟩
    · rintro ⟨i, hi, hs⟩
      cbv
      generalize h2 : cm .lss _ _ = c2
      cases c2
      case false =>
        cbv
        have hi2 : i = a.length := by
          cases hE
          simp [cmI, hAl] at h2
          omega
        refine .eq (.boolE ?_)
        rw [← hr]
        refine (sameBy_iff.2 ⟨hlen, fun j x y hx hy => hs j x y ?_ hx hy⟩).symm
        rw [hi2]
        exact (List.getElem?_eq_some_iff.1 hx).1
      case true =>
        have hi2 : i < a.length := by
          cases hE
          simp [cmI, hAl] at h2
          omega
        obtain ⟨x, hx⟩ : ∃ x, a[i]? = some x := ⟨_, List.getElem?_eq_getElem hi2⟩
        obtain ⟨y, hy⟩ : ∃ y, b[i]? = some y := ⟨_, List.getElem?_eq_getElem (hlen ▸ hi2)⟩
        obtain ⟨k1, p1⟩ := x
        obtain ⟨k2, p2⟩ := y
        have nx : nth A (Int.ofNat i) (WordD.cells ⟨k1, p1⟩) 2 := by
          cases hE
          exact ⟨Int.natCast_nonneg i, by rw [← hA]; simp [hx], rfl⟩
        have ny : nth B (Int.ofNat i) (WordD.cells ⟨k2, p2⟩) 2 := by
          cases hE
          exact ⟨Int.natCast_nonneg i, by rw [← hB]; simp [hy], rfl⟩
        simp only [WordD.cells] at nx ny
        generalize hp1 : PartD.cellsL p1 = P1 at nx
        generalize hp2 : PartD.cellsL p2 = P2 at ny
        have bad : WordD.same ⟨k1, p1⟩ ⟨k2, p2⟩ = false → false = r := fun h => by
          rw [← hr]
          cases hq : sameBy WordD.same a b with
          | false => rfl
          | true =>
            have := (sameBy_iff.1 hq).2 i _ _ hx hy
            rw [h] at this
            cases this
        have next : WordD.same ⟨k1, p1⟩ ⟨k2, p2⟩ = true → ∀ (j : Nat) (x y : WordD), j < i + 1 → a[j]? = some x → b[j]? = some y → WordD.same x y = true := fun hxy j x y hj hx' hy' => by
          rcases Nat.lt_succ_iff_lt_or_eq.1 hj with h | rfl
          · exact hs j x y h hx' hy'
          · rw [hx] at hx'
            rw [hy] at hy'
            injection hx' with hx'
            injection hy' with hy'
            subst hx' hy'
            exact hxy
        cbv
        refine .quiet (by kernel_rfl) ?_
        cbv
        refine ⟨_, nx, ?_⟩
        cbv
        refine ⟨_, ny, ?_⟩
        cbv
        have hcallq : call 93 [.dat (.list P1), .dat (.list P2)] (· = .dat (.bool (PartD.sameL p1 p2))) := by
          cases hE
          rw [← hp1, ← hp2]
          exact c93 p1 p2
        generalize hq : PartD.sameL p1 p2 = q at hcallq
        refine ⟨_, hcallq, rfl, ?_⟩
        cbv
        cases q
        case false =>
          cbv
          refine .eq (.boolE (bad ?_))
          simp [WordD.same, hq]
        cbv
        have hxy := next (by
          cases hE
          skip
          simp [WordD.same, hq])
        refine ⟨⟨i + 1, hi2, hxy⟩, ?_, ?_⟩
        · show a.length - (i + 1) < a.length - i
          omega
        · cbv
          exact ⟨⟨.eq rfl, .eq rfl, .intE (by cases hE; exact inc_id hi2 hmax), trivial⟩, trivial⟩

def C53 (a b : List AssignD) : Prop := CRet Tryz.prog 53 [.dat (.list (a.map AssignD.cells)), .dat (.list (b.map AssignD.cells))] (· = .dat (.bool (sameBy AssignD.same a b)))
set_option maxRecDepth 100000 in
set_option maxHeartbeats 4000000 in
theorem c53  (a b : List AssignD): C53 a b := by
  refine cret_of_swp mixedOrders VT_ok Tryz.func53 (code := Tryz.f53.body.get (by kernel_rfl)) (by kernel_rfl) (by kernel_rfl) rfl fun E hE hreal => ?_
  obtain ⟨ar, cm, sc, eb, wr, ln, sl, ct, ap, sb, ss, u8, mx, nth, off, sat, sok, stok, cat, bd, szs, ne, nil, call, callF⟩ := E
  have hmax : a.length ≤ maxLen := by have := real_list (hreal 0 _ rfl); rwa [List.length_map] at this
  clear hreal
  generalize hA : a.map AssignD.cells = A
  generalize hB : b.map AssignD.cells = B
  generalize hr : sameBy AssignD.same a b = r
  cbv
  generalize h1 : cm .neq _ _ = c1
  cases c1
  case true =>
    cbv
    refine .eq (.boolE ?_)
    rw [← hr]
    cases hq : sameBy AssignD.same a b with
    | false => rfl
    | true =>
      have := (sameBy_iff.1 hq).1
      cases hE
      simp [cmI] at h1
      rw [← hA, ← hB, List.length_map, List.length_map] at h1
      omega
  case false =>
    cbv
    have hAl : A.length = a.length := by rw [← hA, List.length_map]
    have hBl : B.length = b.length := by rw [← hB, List.length_map]
    have hlen : a.length = b.length := by
      cases hE
      simp [cmI] at h1
      omega
    refine .mk {i : Nat // i ≤ a.length ∧ ∀ (j : Nat) (x y : AssignD), j < i → a[j]? = some x → b[j]? = some y → AssignD.same x y = true} (fun i => ⟨slotsOf 44 [(0, .dat (.list A)), (1, .dat (.list B)), (5, .dat (.int .i64 i.1))], []⟩) (fun i => a.length - i.1) ⟨0, Nat.zero_le _, fun j x y h => by omega⟩ ?_ ?_
    · cbv
      exact ⟨⟨.eq rfl, .eq rfl, .eq rfl, trivial⟩, trivial⟩
    · rintro ⟨i, hi, hs⟩
      cbv
      generalize h2 : cm .lss _ _ = c2
      cases c2
      case false =>
        cbv
        have hi2 : i = a.length := by
          cases hE
          simp [cmI, hAl] at h2
          omega
        refine .eq (.boolE ?_)
        rw [← hr]
        refine (sameBy_iff.2 ⟨hlen, fun j x y hx hy => hs j x y ?_ hx hy⟩).symm
        rw [hi2]
        exact (List.getElem?_eq_some_iff.1 hx).1
      case true =>
        have hi2 : i < a.length := by
          cases hE
          simp [cmI, hAl] at h2
          omega
        obtain ⟨x, hx⟩ : ∃ x, a[i]? = some x := ⟨_, List.getElem?_eq_getElem hi2⟩
        obtain ⟨y, hy⟩ : ∃ y, b[i]? = some y := ⟨_, List.getElem?_eq_getElem (hlen ▸ hi2)⟩
        obtain ⟨k1, t1, v1, p1⟩ := x
        obtain ⟨k2, t2, v2, p2⟩ := y
        have nx : nth A (Int.ofNat i) (AssignD.cells ⟨k1, t1, v1, p1⟩) 4 := by
          cases hE
          exact ⟨Int.natCast_nonneg i, by rw [← hA]; simp [hx], rfl⟩
        have ny : nth B (Int.ofNat i) (AssignD.cells ⟨k2, t2, v2, p2⟩) 4 := by
          cases hE
          exact ⟨Int.natCast_nonneg i, by rw [← hB]; simp [hy], rfl⟩
        simp only [AssignD.cells] at nx ny
        generalize hp1 : PartD.cellsL p1 = P1 at nx
        generalize hp2 : PartD.cellsL p2 = P2 at ny
        have bad : AssignD.same ⟨k1, t1, v1, p1⟩ ⟨k2, t2, v2, p2⟩ = false → false = r := fun h => by
          rw [← hr]
          cases hq : sameBy AssignD.same a b with
          | false => rfl
          | true =>
            have := (sameBy_iff.1 hq).2 i _ _ hx hy
            rw [h] at this
            cases this
        have next : AssignD.same ⟨k1, t1, v1, p1⟩ ⟨k2, t2, v2, p2⟩ = true → ∀ (j : Nat) (x y : AssignD), j < i + 1 → a[j]? = some x → b[j]? = some y → AssignD.same x y = true := fun hxy j x y hj hx' hy' => by
          rcases Nat.lt_succ_iff_lt_or_eq.1 hj with h | rfl
          · exact hs j x y h hx' hy'
          · rw [hx] at hx'
            rw [hy] at hy'
            injection hx' with hx'
            injection hy' with hy'
            subst hx' hy'
            exact hxy
        cbv
        refine .quiet (by kernel_rfl) ?_
        cbv
        refine ⟨_, nx, ?_⟩
        cbv
        refine ⟨_, ny, ?_⟩
        cbv
        generalize h3 : sc .neq _ _ = c3
        cases c3
        case true =>
          cbv
          refine .eq (.boolE (bad ?_))
          cases hE
          simp [scS] at h3
          simp [AssignD.same, h3]
        cbv
        refine ⟨_, nx, ?_⟩
        cbv
        refine ⟨_, ny, ?_⟩
        cbv
        have hcallq : call 93 [.dat (.list P1), .dat (.list P2)] (· = .dat (.bool (PartD.sameL p1 p2))) := by
          cases hE
          rw [← hp1, ← hp2]
          exact c93 p1 p2
        generalize hq : PartD.sameL p1 p2 = q at hcallq
        refine ⟨_, hcallq, rfl, ?_⟩
        cbv
        cases q
        case false =>
          cbv
          refine .eq (.boolE (bad ?_))
          simp [AssignD.same, hq]
        cbv
        have hxy := next (by
          cases hE
          simp [scS] at h3
          simp [AssignD.same, hq, h3])
        refine ⟨⟨i + 1, hi2, hxy⟩, ?_, ?_⟩
        · show a.length - (i + 1) < a.length - i
          omega
        · cbv
          exact ⟨⟨.eq rfl, .eq rfl, .intE (by cases hE; exact inc_id hi2 hmax), trivial⟩, trivial⟩

def C55 (a b : List RedirD) : Prop := CRet Tryz.prog 55 [.dat (.list (a.map RedirD.cells)), .dat (.list (b.map RedirD.cells))] (· = .dat (.bool (sameBy RedirD.same a b)))
set_option maxRecDepth 100000 in
set_option maxHeartbeats 4000000 in
theorem c55  (a b : List RedirD): C55 a b := by
  refine cret_of_swp mixedOrders VT_ok Tryz.func55 (code := Tryz.f55.body.get (by kernel_rfl)) (by kernel_rfl) (by kernel_rfl) rfl fun E hE hreal => ?_
  obtain ⟨ar, cm, sc, eb, wr, ln, sl, ct, ap, sb, ss, u8, mx, nth, off, sat, sok, stok, cat, bd, szs, ne, nil, call, callF⟩ := E
  have hmax : a.length ≤ maxLen := by have := real_list (hreal 0 _ rfl); rwa [List.length_map] at this
  clear hreal
  generalize hA : a.map RedirD.cells = A
  generalize hB : b.map RedirD.cells = B
  generalize hr : sameBy RedirD.same a b = r
  cbv
  generalize h1 : cm .neq _ _ = c1
  cases c1
  case true =>
    cbv
    refine .eq (.boolE ?_)
    rw [← hr]
    cases hq : sameBy RedirD.same a b with
    | false => rfl
    | true =>
      have := (sameBy_iff.1 hq).1
      cases hE
      simp [cmI] at h1
      rw [← hA, ← hB, List.length_map, List.length_map] at h1
      omega
  case false =>
    cbv
    have hAl : A.length = a.length := by rw [← hA, List.length_map]
    have hBl : B.length = b.length := by rw [← hB, List.length_map]
    have hlen : a.length = b.length := by
      cases hE
      simp [cmI] at h1
      omega
    refine .mk {i : Nat // i ≤ a.length ∧ ∀ (j : Nat) (x y : RedirD), j < i → a[j]? = some x → b[j]? = some y → RedirD.same x y = true} (fun i => ⟨slotsOf 57 [(0, .dat (.list A)), (1, .dat (.list B)), (5, .dat (.int .i64 i.1))], []⟩) (fun i => a.length - i.1) ⟨0, Nat.zero_le _, fun j x y h => by omega⟩ ?_ ?_
    · cbv
      exact ⟨⟨.eq rfl, .eq rfl, .eq rfl, trivial⟩, trivial⟩
    · rintro ⟨i, hi, hs⟩
      cbv
      generalize h2 : cm .lss _ _ = c2
      cases c2
      case false =>
        cbv
        have hi2 : i = a.length := by
          cases hE
          simp [cmI, hAl] at h2
          omega
        refine .eq (.boolE ?_)
        rw [← hr]
        refine (sameBy_iff.2 ⟨hlen, fun j x y hx hy => hs j x y ?_ hx hy⟩).symm
        rw [hi2]
        exact (List.getElem?_eq_some_iff.1 hx).1
      case true =>
        have hi2 : i < a.length := by
          cases hE
          simp [cmI, hAl] at h2
          omega
        obtain ⟨x, hx⟩ : ∃ x, a[i]? = some x := ⟨_, List.getElem?_eq_getElem hi2⟩
        obtain ⟨y, hy⟩ : ∃ y, b[i]? = some y := ⟨_, List.getElem?_eq_getElem (hlen ▸ hi2)⟩
        obtain ⟨k1, f1, o1, v1, p1⟩ := x
        obtain ⟨k2, f2, o2, v2, p2⟩ := y
        have nx : nth A (Int.ofNat i) (RedirD.cells ⟨k1, f1, o1, v1, p1⟩) 5 := by
          cases hE
          exact ⟨Int.natCast_nonneg i, by rw [← hA]; simp [hx], rfl⟩
        have ny : nth B (Int.ofNat i) (RedirD.cells ⟨k2, f2, o2, v2, p2⟩) 5 := by
          cases hE
          exact ⟨Int.natCast_nonneg i, by rw [← hB]; simp [hy], rfl⟩
        simp only [RedirD.cells] at nx ny
        generalize hp1 : PartD.cellsL p1 = P1 at nx
        generalize hp2 : PartD.cellsL p2 = P2 at ny
        have bad : RedirD.same ⟨k1, f1, o1, v1, p1⟩ ⟨k2, f2, o2, v2, p2⟩ = false → false = r := fun h => by
          rw [← hr]
          cases hq : sameBy RedirD.same a b with
          | false => rfl
          | true =>
            have := (sameBy_iff.1 hq).2 i _ _ hx hy
            rw [h] at this
            cases this
        have next : RedirD.same ⟨k1, f1, o1, v1, p1⟩ ⟨k2, f2, o2, v2, p2⟩ = true → ∀ (j : Nat) (x y : RedirD), j < i + 1 → a[j]? = some x → b[j]? = some y → RedirD.same x y = true := fun hxy j x y hj hx' hy' => by
          rcases Nat.lt_succ_iff_lt_or_eq.1 hj with h | rfl
          · exact hs j x y h hx' hy'
          · rw [hx] at hx'
            rw [hy] at hy'
            injection hx' with hx'
            injection hy' with hy'
            subst hx' hy'
            exact hxy
        cbv
        refine .quiet (by kernel_rfl) ?_
        cbv
        refine ⟨_, nx, ?_⟩
        cbv
        refine ⟨_, ny, ?_⟩
        cbv
        generalize h3 : cm .neq _ _ = c3
        cases c3
        case true =>
          cbv
          refine .eq (.boolE (bad ?_))
          cases hE
          simp [cmI] at h3
          simp [RedirD.same, h3]
        cbv
        refine ⟨_, nx, ?_⟩
        cbv
        refine ⟨_, ny, ?_⟩
        cbv
        generalize h4 : cm .neq _ _ = c4
        cases c4
        case true =>
          cbv
          refine .eq (.boolE (bad ?_))
          cases hE
          simp [cmI] at h4
          simp [RedirD.same, h4]
        cbv
        refine ⟨_, nx, ?_⟩
        cbv
        refine ⟨_, ny, ?_⟩
        cbv
        have hcallq : call 93 [.dat (.list P1), .dat (.list P2)] (· = .dat (.bool (PartD.sameL p1 p2))) := by
          cases hE
          rw [← hp1, ← hp2]
          exact c93 p1 p2
        generalize hq : PartD.sameL p1 p2 = q at hcallq
        refine ⟨_, hcallq, rfl, ?_⟩
        cbv
        cases q
        case false =>
          cbv
          refine .eq (.boolE (bad ?_))
          simp [RedirD.same, hq]
        cbv
        have hxy := next (by
          cases hE
          simp [cmI] at h3 h4
          simp [RedirD.same, hq, h3, h4])
        refine ⟨⟨i + 1, hi2, hxy⟩, ?_, ?_⟩
        · show a.length - (i + 1) < a.length - i
          omega
        · cbv
          exact ⟨⟨.eq rfl, .eq rfl, .intE (by cases hE; exact inc_id hi2 hmax), trivial⟩, trivial⟩

end Go.Proofs.YtdfcjodkmjofgaaGreat
