/-
  Parts that are held against each other.
-/
import Derived.Test.YtdfcjodkmjofgaaGreatTab
import Derived.Test.YtdfcjodkmjofgaaGreatPrim
namespace Go.Proofs.YtdfcjodkmjofgaaGreat
open Go.RowKit

def C93 (a b : List PartD) : Prop := CRet Tryz.prog 93 [.dat (.list (PartD.cellsL a)), .dat (.list (PartD.cellsL b))] (· = .dat (.bool (PartD.sameL a b)))
set_option maxRecDepth 100000 in
theorem c93s (n : Nat) (ih : ∀ a b : List PartD, PartD.szL a < n → C93 a b) (a b : List PartD) (hsz : PartD.szL a < n + 1) : C93 a b := by
  refine cret_of_swp mixedOrders VT_ok Tryz.func93 (code := Tryz.f93.body.get (by kernel_rfl)) (by kernel_rfl) (by kernel_rfl) rfl fun E hE hreal => ?_
  obtain ⟨ar, cm, sc, eb, wr, ln, sl, ct, ap, sb, ss, u8, mx, nth, off, sat, sok, stok, cat, bd, szs, ne, nil, call, callF⟩ := E
  have hmax : a.length ≤ maxLen := by have := real_list (hreal 0 _ rfl); rwa [PartD.cellsL_len] at this
  clear hreal
  generalize hA : PartD.cellsL a = A
  generalize hB : PartD.cellsL b = B
  generalize hr : PartD.sameL a b = r
  cbv
  generalize h1 : cm .neq _ _ = c1
  cases c1
  · cbv
    have hlen : a.length = b.length := by
      cases hE
      rw [← PartD.cellsL_len a, ← PartD.cellsL_len b, hA, hB]
      simp [cmI] at h1
      omega
    have hAl : A.length = a.length := by rw [← hA, PartD.cellsL_len]
    refine .mk {i : Nat // i ≤ a.length ∧ ∀ (j : Nat) (x y : PartD), j < i → a[j]? = some x → b[j]? = some y → x.same y = true} (fun i => ⟨slotsOf 61 [(0, .dat (.list A)), (1, .dat (.list B)), (5, .dat (.int .i64 i.1))], []⟩) (fun i => a.length - i.1) ⟨0, Nat.zero_le _, fun j x y h => by omega⟩ ?_ ?_
    · cbv
      exact ⟨⟨.eq rfl, .eq rfl, .eq rfl, trivial⟩, trivial⟩
    · rintro ⟨i, hi, hs⟩
      cbv
      generalize h2 : cm .lss _ _ = c2
      cases c2
      · cbv
        have hi2 : i = a.length := by
          cases hE
          simp [cmI, hAl] at h2
          omega
        refine .eq (.boolE ?_)
        rw [← hr]
        refine (PartD.sameL_iff.2 ⟨hlen, fun j x y hx hy => hs j x y ?_ hx hy⟩).symm
        rw [hi2]
        exact (List.getElem?_eq_some_iff.1 hx).1
      · have hi2 : i < a.length := by
          cases hE
          simp [cmI, hAl] at h2
          omega
        obtain ⟨x, hx⟩ : ∃ x, a[i]? = some x := ⟨_, List.getElem?_eq_getElem hi2⟩
        obtain ⟨y, hy⟩ : ∃ y, b[i]? = some y := ⟨_, List.getElem?_eq_getElem (hlen ▸ hi2)⟩
        obtain ⟨k1, t1, o1, e1, p1⟩ := x
        obtain ⟨k2, t2, o2, e2, p2⟩ := y
        have nx : nth A (Int.ofNat i) (PartD.cells (.mk k1 t1 o1 e1 p1)) 5 := by
          cases hE
          exact ⟨Int.natCast_nonneg i, by rw [← hA]; exact PartD.cellsL_get hx, rfl⟩
        have ny : nth B (Int.ofNat i) (PartD.cells (.mk k2 t2 o2 e2 p2)) 5 := by
          cases hE
          exact ⟨Int.natCast_nonneg i, by rw [← hB]; exact PartD.cellsL_get hy, rfl⟩
        simp only [PartD.cells] at nx ny
        generalize hp1 : PartD.cellsL p1 = P1 at nx
        generalize hp2 : PartD.cellsL p2 = P2 at ny
        cbv
        refine .free 12 [⟨8, 63, [.dat (.int .i64 0), .dat (.str []), .dat (.int .i64 0), .dat (.bool false), .nils], some (10, [.dat (.int .i64 k1), .dat (.str t1), .dat (.int .i64 o1), .dat (.bool e1), .dat (.list P1)])⟩,
          ⟨9, 63, [.dat (.int .i64 0), .dat (.str []), .dat (.int .i64 0), .dat (.bool false), .nils], some (11, [.dat (.int .i64 k2), .dat (.str t2), .dat (.int .i64 o2), .dat (.bool e2), .dat (.list P2)])⟩] (by kernel_rfl) (by kernel_rfl) ?_
        cbv
        refine ⟨_, nx, ?_⟩
        cbv
        refine ⟨_, ny, ?_⟩
        cbv
        have bad : PartD.same (.mk k1 t1 o1 e1 p1) (.mk k2 t2 o2 e2 p2) = false → false = r := fun h => by
          rw [← hr]
          cases hq : PartD.sameL a b with
          | false => rfl
          | true =>
            have := (PartD.sameL_iff.1 hq).2 i _ _ hx hy
            rw [h] at this
            cases this
        generalize h3 : cm .neq _ _ = c3
        cases c3
        case true =>
          cbv
          refine .eq (.boolE (bad ?_))
          cases hE
          simp [cmI] at h3
          simp [PartD.same, h3]
        cbv
        generalize h4 : sc .neq _ _ = c4
        cases c4
        case true =>
          cbv
          refine .eq (.boolE (bad ?_))
          cases hE
          simp [scS] at h4
          simp [PartD.same, h4]
        cbv
        generalize h5 : cm .neq _ _ = c5
        cases c5
        case true =>
          cbv
          refine .eq (.boolE (bad ?_))
          cases hE
          simp [cmI] at h5
          simp [PartD.same, h5]
        cbv
        generalize h6 : eb _ _ = c6
        cases c6
        case false =>
          cbv
          refine .eq (.boolE (bad ?_))
          cases hE
          simp at h6
          simp [PartD.same, h6]
        cbv
        have hcall : call 93 [.dat (.list P1), .dat (.list P2)] (· = .dat (.bool (PartD.sameL p1 p2))) := by
          cases hE
          rw [← hp1, ← hp2]
          refine ih p1 p2 ?_
          have := PartD.sz_mem hx
          simp [PartD.sz] at this
          omega
        generalize hq : PartD.sameL p1 p2 = q at hcall
        refine ⟨_, hcall, ?_⟩
        rintro _ rfl
        cbv
        cases q
        · cbv
          refine .eq (.boolE (bad ?_))
          simp [PartD.same, hq]
        · cbv
          have hxy : PartD.same (.mk k1 t1 o1 e1 p1) (.mk k2 t2 o2 e2 p2) = true := by
            cases hE
            simp [cmI] at h3 h5
            simp [scS] at h4
            simp at h6
            simp [PartD.same, h3, h4, h5, h6, hq]
          refine ⟨⟨i + 1, hi2, fun j x y hj hx' hy' => ?_⟩, ?_, ?_⟩
          · rcases Nat.lt_succ_iff_lt_or_eq.1 hj with h | rfl
            · exact hs j x y h hx' hy'
            · rw [hx] at hx'
              rw [hy] at hy'
              injection hx' with hx'
              injection hy' with hy'
              subst hx' hy'
              exact hxy
          · show a.length - (i + 1) < a.length - i
            omega
          · cbv
            exact ⟨⟨.eq rfl, .eq rfl, .intE (by cases hE; exact inc_id hi2 hmax), trivial⟩, trivial⟩
  · cbv
    refine .eq (.boolE ?_)
    rw [← hr]
    cases hq : PartD.sameL a b with
    | false => rfl
    | true =>
      have := (PartD.sameL_iff.1 hq).1
      cases hE
      simp [cmI] at h1
      rw [← hA, ← hB, PartD.cellsL_len, PartD.cellsL_len] at h1
      omega
theorem c93 (a b : List PartD) : C93 a b := by
  have key : ∀ n (a b : List PartD), PartD.szL a < n → C93 a b := fun n => by
    induction n with
    | zero => intro a b h; omega
    | succ n ih => exact c93s n ih
  exact key _ a b (Nat.lt_succ_self _)
end Go.Proofs.YtdfcjodkmjofgaaGreat
/-
  Words, assignments, redirections, branches and nodes held against each other, by the specification.
-/
namespace Go.Proofs.YtdfcjodkmjofgaaGreat
open Go.RowKit

def C54 (a b : List WordD) : Prop := CRet Tryz.prog 54 [.dat (.list (a.map WordD.cells)), .dat (.list (b.map WordD.cells))] (· = .dat (.bool (sameBy WordD.same a b)))
set_option maxRecDepth 100000 in
set_option maxHeartbeats 4000000 in
theorem c54  (a b : List WordD): C54 a b := by
  refine cret_of_swp mixedOrders VT_ok Tryz.func54 (code := Tryz.f54.body.get (by kernel_rfl)) (by kernel_rfl) (by kernel_rfl) rfl fun E hE hreal => ?_
  obtain ⟨ar, cm, sc, eb, wr, ln, sl, ct, ap, sb, ss, u8, mx, nth, off, sat, sok, stok, cat, bd, szs, ne, nil, call, callF⟩ := E
  have hmax : a.length ≤ maxLen := by have := real_list (hreal 0 _ rfl); rwa [List.length_map] at this
  clear hreal
  generalize hA : a.map WordD.cells = A
  generalize hB : b.map WordD.cells = B
  generalize hr : sameBy WordD.same a b = r
  cbv
  generalize h1 : cm .neq _ _ = c1
  cases c1
  case true =>
    cbv
    refine .eq (.boolE ?_)
    rw [← hr]
    cases hq : sameBy WordD.same a b with
    | false => rfl
    | true =>
      have := (sameBy_iff.1 hq).1
      cases hE
      simp [cmI] at h1
      rw [← hA, ← hB, List.length_map, List.length_map] at h1
      omega
  case false =>
    cbv
    have hAl : A.length = a.length := by rw [← hA, List.length_map]
    have hBl : B.length = b.length := by rw [← hB, List.length_map]
    have hlen : a.length = b.length := by
      cases hE
      simp [cmI] at h1
      omega
    refine .mk {i : Nat // i ≤ a.length ∧ ∀ (j : Nat) (x y : WordD), j < i → a[j]? = some x → b[j]? = some y → WordD.same x y = true} (fun i => ⟨slotsOf 29 [(0, .dat (.list A)), (1, .dat (.list B)), (5, .dat (.int .i64 i.1))], []⟩) (fun i => a.length - i.1) ⟨0, Nat.zero_le _, fun j x y h => by omega⟩ ?_ ?_
    · cbv
      exact ⟨⟨.eq rfl, .eq rfl, .eq rfl, trivial⟩, trivial⟩
    · rintro ⟨i, hi, hs⟩
      cbv
      generalize h2 : cm .lss _ _ = c2
      cases c2
      case false =>
        cbv
        have hi2 : i = a.length := by
          cases hE
          simp [cmI, hAl] at h2
          omega
        refine .eq (.boolE ?_)
        rw [← hr]
        refine (sameBy_iff.2 ⟨hlen, fun j x y hx hy => hs j x y ?_ hx hy⟩).symm
        rw [hi2]
        exact (List.getElem?_eq_some_iff.1 hx).1
      case true =>
        have hi2 : i < a.length := by
          cases hE
          simp [cmI, hAl] at h2
          omega
        obtain ⟨x, hx⟩ : ∃ x, a[i]? = some x := ⟨_, List.getElem?_eq_getElem hi2⟩
        obtain ⟨y, hy⟩ : ∃ y, b[i]? = some y := ⟨_, List.getElem?_eq_getElem (hlen ▸ hi2)⟩
        obtain ⟨k1, p1⟩ := x
        obtain ⟨k2, p2⟩ := y
        have nx : nth A (Int.ofNat i) (WordD.cells ⟨k1, p1⟩) 2 := by
          cases hE
          exact ⟨Int.natCast_nonneg i, by rw [← hA]; simp [hx], rfl⟩
        have ny : nth B (Int.ofNat i) (WordD.cells ⟨k2, p2⟩) 2 := by
          cases hE
          exact ⟨Int.natCast_nonneg i, by rw [← hB]; simp [hy], rfl⟩
        simp only [WordD.cells] at nx ny
        generalize hp1 : PartD.cellsL p1 = P1 at nx
        generalize hp2 : PartD.cellsL p2 = P2 at ny
        have bad : WordD.same ⟨k1, p1⟩ ⟨k2, p2⟩ = false → false = r := fun h => by
          rw [← hr]
          cases hq : sameBy WordD.same a b with
          | false => rfl
          | true =>
            have := (sameBy_iff.1 hq).2 i _ _ hx hy
            rw [h] at this
            cases this
        have next : WordD.same ⟨k1, p1⟩ ⟨k2, p2⟩ = true → ∀ (j : Nat) (x y : WordD), j < i + 1 → a[j]? = some x → b[j]? = some y → WordD.same x y = true := fun hxy j x y hj hx' hy' => by
          rcases Nat.lt_succ_iff_lt_or_eq.1 hj with h | rfl
          · exact hs j x y h hx' hy'
          · rw [hx] at hx'
            rw [hy] at hy'
            injection hx' with hx'
            injection hy' with hy'
            subst hx' hy'
            exact hxy
        cbv
        refine .quiet (by kernel_rfl) ?_
        cbv
        refine ⟨_, nx, ?_⟩
        cbv
        refine ⟨_, ny, ?_⟩
        cbv
        have hcallq : call 93 [.dat (.list P1), .dat (.list P2)] (· = .dat (.bool (PartD.sameL p1 p2))) := by
          cases hE
          rw [← hp1, ← hp2]
          exact c93 p1 p2
        generalize hq : PartD.sameL p1 p2 = q at hcallq
        refine ⟨_, hcallq, rfl, ?_⟩
        cbv
        cases q
        case false =>
          cbv
          refine .eq (.boolE (bad ?_))
          simp [WordD.same, hq]
        cbv
        have hxy := next (by
          cases hE
          skip
          simp [WordD.same, hq])
        refine ⟨⟨i + 1, hi2, hxy⟩, ?_, ?_⟩
        · show a.length - (i + 1) < a.length - i
          omega
        · cbv
          exact ⟨⟨.eq rfl, .eq rfl, .intE (by cases hE; exact inc_id hi2 hmax), trivial⟩, trivial⟩

def C53 (a b : List AssignD) : Prop := CRet Tryz.prog 53 [.dat (.list (a.map AssignD.cells)), .dat (.list (b.map AssignD.cells))] (· = .dat (.bool (sameBy AssignD.same a b)))
set_option maxRecDepth 100000 in
set_option maxHeartbeats 4000000 in
theorem c53  (a b : List AssignD): C53 a b := by
  refine cret_of_swp mixedOrders VT_ok Tryz.func53 (code := Tryz.f53.body.get (by kernel_rfl)) (by kernel_rfl) (by kernel_rfl) rfl fun E hE hreal => ?_
  obtain ⟨ar, cm, sc, eb, wr, ln, sl, ct, ap, sb, ss, u8, mx, nth, off, sat, sok, stok, cat, bd, szs, ne, nil, call, callF⟩ := E
  have hmax : a.length ≤ maxLen := by have := real_list (hreal 0 _ rfl); rwa [List.length_map] at this
  clear hreal
  generalize hA : a.map AssignD.cells = A
  generalize hB : b.map AssignD.cells = B
  generalize hr : sameBy AssignD.same a b = r
  cbv
  generalize h1 : cm .neq _ _ = c1
  cases c1
  case true =>
    cbv
    refine .eq (.boolE ?_)
    rw [← hr]
    cases hq : sameBy AssignD.same a b with
    | false => rfl
    | true =>
      have := (sameBy_iff.1 hq).1
      cases hE
      simp [cmI] at h1
      rw [← hA, ← hB, List.length_map, List.length_map] at h1
      omega
  case false =>
    cbv
    have hAl : A.length = a.length := by rw [← hA, List.length_map]
    have hBl : B.length = b.length := by rw [← hB, List.length_map]
    have hlen : a.length = b.length := by
      cases hE
      simp [cmI] at h1
      omega
    refine .mk {i : Nat // i ≤ a.length ∧ ∀ (j : Nat) (x y : AssignD), j < i → a[j]? = some x → b[j]? = some y → AssignD.same x y = true} (fun i => ⟨slotsOf 44 [(0, .dat (.list A)), (1, .dat (.list B)), (5, .dat (.int .i64 i.1))], []⟩) (fun i => a.length - i.1) ⟨0, Nat.zero_le _, fun j x y h => by omega⟩ ?_ ?_
    · cbv
      exact ⟨⟨.eq rfl, .eq rfl, .eq rfl, trivial⟩, trivial⟩
    · rintro ⟨i, hi, hs⟩
      cbv
      generalize h2 : cm .lss _ _ = c2
      cases c2
      case false =>
        cbv
        have hi2 : i = a.length := by
          cases hE
          simp [cmI, hAl] at h2
          omega
        refine .eq (.boolE ?_)
        rw [← hr]
        refine (sameBy_iff.2 ⟨hlen, fun j x y hx hy => hs j x y ?_ hx hy⟩).symm
        rw [hi2]
        exact (List.getElem?_eq_some_iff.1 hx).1
      case true =>
        have hi2 : i < a.length := by
          cases hE
          simp [cmI, hAl] at h2
          omega
        obtain ⟨x, hx⟩ : ∃ x, a[i]? = some x := ⟨_, List.getElem?_eq_getElem hi2⟩
        obtain ⟨y, hy⟩ : ∃ y, b[i]? = some y := ⟨_, List.getElem?_eq_getElem (hlen ▸ hi2)⟩
        obtain ⟨k1, t1, v1, p1⟩ := x
        obtain ⟨k2, t2, v2, p2⟩ := y
        have nx : nth A (Int.ofNat i) (AssignD.cells ⟨k1, t1, v1, p1⟩) 4 := by
          cases hE
          exact ⟨Int.natCast_nonneg i, by rw [← hA]; simp [hx], rfl⟩
        have ny : nth B (Int.ofNat i) (AssignD.cells ⟨k2, t2, v2, p2⟩) 4 := by
          cases hE
          exact ⟨Int.natCast_nonneg i, by rw [← hB]; simp [hy], rfl⟩
        simp only [AssignD.cells] at nx ny
        generalize hp1 : PartD.cellsL p1 = P1 at nx
        generalize hp2 : PartD.cellsL p2 = P2 at ny
        have bad : AssignD.same ⟨k1, t1, v1, p1⟩ ⟨k2, t2, v2, p2⟩ = false → false = r := fun h => by
          rw [← hr]
          cases hq : sameBy AssignD.same a b with
          | false => rfl
          | true =>
            have := (sameBy_iff.1 hq).2 i _ _ hx hy
            rw [h] at this
            cases this
        have next : AssignD.same ⟨k1, t1, v1, p1⟩ ⟨k2, t2, v2, p2⟩ = true → ∀ (j : Nat) (x y : AssignD), j < i + 1 → a[j]? = some x → b[j]? = some y → AssignD.same x y = true := fun hxy j x y hj hx' hy' => by
          rcases Nat.lt_succ_iff_lt_or_eq.1 hj with h | rfl
          · exact hs j x y h hx' hy'
          · rw [hx] at hx'
            rw [hy] at hy'
            injection hx' with hx'
            injection hy' with hy'
            subst hx' hy'
            exact hxy
        cbv
        refine .quiet (by kernel_rfl) ?_
        cbv
        refine ⟨_, nx, ?_⟩
        cbv
        refine ⟨_, ny, ?_⟩
        cbv
        generalize h3 : sc .neq _ _ = c3
        cases c3
        case true =>
          cbv
          refine .eq (.boolE (bad ?_))
          cases hE
          simp [scS] at h3
          simp [AssignD.same, h3]
        cbv
        refine ⟨_, nx, ?_⟩
        cbv
        refine ⟨_, ny, ?_⟩
        cbv
        have hcallq : call 93 [.dat (.list P1), .dat (.list P2)] (· = .dat (.bool (PartD.sameL p1 p2))) := by
          cases hE
          rw [← hp1, ← hp2]
          exact c93 p1 p2
        generalize hq : PartD.sameL p1 p2 = q at hcallq
        refine ⟨_, hcallq, rfl, ?_⟩
        cbv
        cases q
        case false =>
          cbv
          refine .eq (.boolE (bad ?_))
          simp [AssignD.same, hq]
        cbv
        have hxy := next (by
          cases hE
          simp [scS] at h3
          simp [AssignD.same, hq, h3])
        refine ⟨⟨i + 1, hi2, hxy⟩, ?_, ?_⟩
        · show a.length - (i + 1) < a.length - i
          omega
        · cbv
          exact ⟨⟨.eq rfl, .eq rfl, .intE (by cases hE; exact inc_id hi2 hmax), trivial⟩, trivial⟩

def C55 (a b : List RedirD) : Prop := CRet Tryz.prog 55 [.dat (.list (a.map RedirD.cells)), .dat (.list (b.map RedirD.cells))] (· = .dat (.bool (sameBy RedirD.same a b)))
set_option maxRecDepth 100000 in
set_option maxHeartbeats 4000000 in
theorem c55  (a b : List RedirD): C55 a b := by
  refine cret_of_swp mixedOrders VT_ok Tryz.func55 (code := Tryz.f55.body.get (by kernel_rfl)) (by kernel_rfl) (by kernel_rfl) rfl fun E hE hreal => ?_
  obtain ⟨ar, cm, sc, eb, wr, ln, sl, ct, ap, sb, ss, u8, mx, nth, off, sat, sok, stok, cat, bd, szs, ne, nil, call, callF⟩ := E
  have hmax : a.length ≤ maxLen := by have := real_list (hreal 0 _ rfl); rwa [List.length_map] at this
  clear hreal
  generalize hA : a.map RedirD.cells = A
  generalize hB : b.map RedirD.cells = B
  generalize hr : sameBy RedirD.same a b = r
  cbv
  generalize h1 : cm .neq _ _ = c1
  cases c1
  case true =>
    cbv
    refine .eq (.boolE ?_)
    rw [← hr]
    cases hq : sameBy RedirD.same a b with
    | false => rfl
    | true =>
      have := (sameBy_iff.1 hq).1
      cases hE
      simp [cmI] at h1
      rw [← hA, ← hB, List.length_map, List.length_map] at h1
      omega
  case false =>
    cbv
    have hAl : A.length = a.length := by rw [← hA, List.length_map]
    have hBl : B.length = b.length := by rw [← hB, List.length_map]
    have hlen : a.length = b.length := by
      cases hE
      simp [cmI] at h1
      omega
    refine .mk {i : Nat // i ≤ a.length ∧ ∀ (j : Nat) (x y : RedirD), j < i → a[j]? = some x → b[j]? = some y → RedirD.same x y = true} (fun i => ⟨slotsOf 57 [(0, .dat (.list A)), (1, .dat (.list B)), (5, .dat (.int .i64 i.1))], []⟩) (fun i => a.length - i.1) ⟨0, Nat.zero_le _, fun j x y h => by omega⟩ ?_ ?_
    · cbv
      exact ⟨⟨.eq rfl, .eq rfl, .eq rfl, trivial⟩, trivial⟩
    · rintro ⟨i, hi, hs⟩
      cbv
      generalize h2 : cm .lss _ _ = c2
      cases c2
      case false =>
        cbv
        have hi2 : i = a.length := by
          cases hE
          simp [cmI, hAl] at h2
          omega
        refine .eq (.boolE ?_)
        rw [← hr]
        refine (sameBy_iff.2 ⟨hlen, fun j x y hx hy => hs j x y ?_ hx hy⟩).symm
        rw [hi2]
        exact (List.getElem?_eq_some_iff.1 hx).1
      case true =>
        have hi2 : i < a.length := by
          cases hE
          simp [cmI, hAl] at h2
          omega
        obtain ⟨x, hx⟩ : ∃ x, a[i]? = some x := ⟨_, List.getElem?_eq_getElem hi2⟩
        obtain ⟨y, hy⟩ : ∃ y, b[i]? = some y := ⟨_, List.getElem?_eq_getElem (hlen ▸ hi2)⟩
        obtain ⟨k1, f1, o1, v1, p1⟩ := x
        obtain ⟨k2, f2, o2, v2, p2⟩ := y
        have nx : nth A (Int.ofNat i) (RedirD.cells ⟨k1, f1, o1, v1, p1⟩) 5 := by
          cases hE
          exact ⟨Int.natCast_nonneg i, by rw [← hA]; simp [hx], rfl⟩
        have ny : nth B (Int.ofNat i) (RedirD.cells ⟨k2, f2, o2, v2, p2⟩) 5 := by
          cases hE
          exact ⟨Int.natCast_nonneg i, by rw [← hB]; simp [hy], rfl⟩
        simp only [RedirD.cells] at nx ny
        generalize hp1 : PartD.cellsL p1 = P1 at nx
        generalize hp2 : PartD.cellsL p2 = P2 at ny
        have bad : RedirD.same ⟨k1, f1, o1, v1, p1⟩ ⟨k2, f2, o2, v2, p2⟩ = false → false = r := fun h => by
          rw [← hr]
          cases hq : sameBy RedirD.same a b with
          | false => rfl
          | true =>
            have := (sameBy_iff.1 hq).2 i _ _ hx hy
            rw [h] at this
            cases this
        have next : RedirD.same ⟨k1, f1, o1, v1, p1⟩ ⟨k2, f2, o2, v2, p2⟩ = true → ∀ (j : Nat) (x y : RedirD), j < i + 1 → a[j]? = some x → b[j]? = some y → RedirD.same x y = true := fun hxy j x y hj hx' hy' => by
          rcases Nat.lt_succ_iff_lt_or_eq.1 hj with h | rfl
          · exact hs j x y h hx' hy'
          · rw [hx] at hx'
            rw [hy] at hy'
            injection hx' with hx'
            injection hy' with hy'
            subst hx' hy'
            exact hxy
        cbv
        refine .quiet (by kernel_rfl) ?_
        cbv
        refine ⟨_, nx, ?_⟩
        cbv
        refine ⟨_, ny, ?_⟩
        cbv
        generalize h3 : cm .neq _ _ = c3
        cases c3
        case true =>
          cbv
          refine .eq (.boolE (bad ?_))
          cases hE
          simp [cmI] at h3
          simp [RedirD.same, h3]
        cbv
        refine ⟨_, nx, ?_⟩
        cbv
        refine ⟨_, ny, ?_⟩
        cbv
        generalize h4 : cm .neq _ _ = c4
        cases c4
        case true =>
          cbv
          refine .eq (.boolE (bad ?_))
          cases hE
          simp [cmI] at h4
          simp [RedirD.same, h4]
        cbv
        refine ⟨_, nx, ?_⟩
        cbv
        refine ⟨_, ny, ?_⟩
        cbv
        have hcallq : call 93 [.dat (.list P1), .dat (.list P2)] (· = .dat (.bool (PartD.sameL p1 p2))) := by
          cases hE
          rw [← hp1, ← hp2]
          exact c93 p1 p2
        generalize hq : PartD.sameL p1 p2 = q at hcallq
        refine ⟨_, hcallq, rfl, ?_⟩
        cbv
        cases q
        case false =>
          cbv
          refine .eq (.boolE (bad ?_))
          simp [RedirD.same, hq]
        cbv
        have hxy := next (by
          cases hE
          simp [cmI] at h3 h4
          simp [RedirD.same, hq, h3, h4])
        refine ⟨⟨i + 1, hi2, hxy⟩, ?_, ?_⟩
        · show a.length - (i + 1) < a.length - i
          omega
        · cbv
          exact ⟨⟨.eq rfl, .eq rfl, .intE (by cases hE; exact inc_id hi2 hmax), trivial⟩, trivial⟩

end Go.Proofs.YtdfcjodkmjofgaaGreat
/-
  Nodes and branches held against each other, by the specification.
-/
namespace Go.Proofs.YtdfcjodkmjofgaaGreat
open Go.RowKit

def C21 (x y : NodeD) : Prop := CRet Tryz.prog 21 [x.av, y.av] (· = .dat (.bool (x.same y)))
def C56 (a b : List NodeD) : Prop := CRet Tryz.prog 56 [.dat (.list (NodeD.cellsL a)), .dat (.list (NodeD.cellsL b))] (· = .dat (.bool (NodeD.sameL a b)))
def C57 (a b : List ItemD) : Prop := CRet Tryz.prog 57 [.dat (.list (ItemD.cellsL a)), .dat (.list (ItemD.cellsL b))] (· = .dat (.bool (ItemD.sameL a b)))
set_option maxRecDepth 100000 in
set_option maxHeartbeats 4000000 in
theorem c56s (n : Nat) (ih : ∀ x y : NodeD, x.sz ≤ n → C21 x y) (a b : List NodeD) (hsz : NodeD.szL a ≤ n): C56 a b := by
  refine cret_of_swp mixedOrders VT_ok Tryz.func56 (code := Tryz.f56.body.get (by kernel_rfl)) (by kernel_rfl) (by kernel_rfl) rfl fun E hE hreal => ?_
  obtain ⟨ar, cm, sc, eb, wr, ln, sl, ct, ap, sb, ss, u8, mx, nth, off, sat, sok, stok, cat, bd, szs, ne, nil, call, callF⟩ := E
  have hmax : a.length ≤ maxLen := by have := real_list (hreal 0 _ rfl); rwa [NodeD.cellsL_len] at this
  clear hreal
  generalize hA : NodeD.cellsL a = A
  generalize hB : NodeD.cellsL b = B
  generalize hr : NodeD.sameL a b = r
  cbv
  generalize h1 : cm .neq _ _ = c1
  cases c1
  case true =>
    cbv
    refine .eq (.boolE ?_)
    rw [← hr]
    cases hq : NodeD.sameL a b with
    | false => rfl
    | true =>
      have := (NodeD.sameL_iff.1 hq).1
      cases hE
      simp [cmI] at h1
      rw [← hA, ← hB, NodeD.cellsL_len, NodeD.cellsL_len] at h1
      omega
  case false =>
    cbv
    have hAl : A.length = a.length := by rw [← hA, NodeD.cellsL_len]
    have hBl : B.length = b.length := by rw [← hB, NodeD.cellsL_len]
    have hlen : a.length = b.length := by
      cases hE
      simp [cmI] at h1
      omega
    refine .mk {i : Nat // i ≤ a.length ∧ ∀ (j : Nat) (x y : NodeD), j < i → a[j]? = some x → b[j]? = some y → NodeD.same x y = true} (fun i => ⟨slotsOf 27 [(0, .dat (.list A)), (1, .dat (.list B)), (5, .dat (.int .i64 i.1))], []⟩) (fun i => a.length - i.1) ⟨0, Nat.zero_le _, fun j x y h => by omega⟩ ?_ ?_
    · cbv
      exact ⟨⟨.eq rfl, .eq rfl, .eq rfl, trivial⟩, trivial⟩
    · rintro ⟨i, hi, hs⟩
      cbv
      generalize h2 : cm .lss _ _ = c2
      cases c2
      case false =>
        cbv
        have hi2 : i = a.length := by
          cases hE
          simp [cmI, hAl] at h2
          omega
        refine .eq (.boolE ?_)
        rw [← hr]
        refine (NodeD.sameL_iff.2 ⟨hlen, fun j x y hx hy => hs j x y ?_ hx hy⟩).symm
        rw [hi2]
        exact (List.getElem?_eq_some_iff.1 hx).1
      case true =>
        have hi2 : i < a.length := by
          cases hE
          simp [cmI, hAl] at h2
          omega
        obtain ⟨x, hx⟩ : ∃ x, a[i]? = some x := ⟨_, List.getElem?_eq_getElem hi2⟩
        obtain ⟨y, hy⟩ : ∃ y, b[i]? = some y := ⟨_, List.getElem?_eq_getElem (hlen ▸ hi2)⟩
        obtain ⟨k1, p1, n1, a1, g1, w1, r1, d1, i1⟩ := x
        obtain ⟨k2, p2, n2, a2, g2, w2, r2, d2, i2⟩ := y
        have nx : nth A (Int.ofNat i) (NodeD.cells (.mk k1 p1 n1 a1 g1 w1 r1 d1 i1)) 9 := by
          cases hE
          exact ⟨Int.natCast_nonneg i, by rw [← hA]; exact NodeD.cellsL_get hx, rfl⟩
        have ny : nth B (Int.ofNat i) (NodeD.cells (.mk k2 p2 n2 a2 g2 w2 r2 d2 i2)) 9 := by
          cases hE
          exact ⟨Int.natCast_nonneg i, by rw [← hB]; exact NodeD.cellsL_get hy, rfl⟩
        simp only [NodeD.cells] at nx ny
        generalize hg1 : g1.map AssignD.cells = G1 at nx
        generalize hw1 : w1.map WordD.cells = W1 at nx
        generalize hr1 : r1.map RedirD.cells = R1 at nx
        generalize hd1 : NodeD.cellsL d1 = D1 at nx
        generalize hi1 : ItemD.cellsL i1 = I1 at nx
        generalize hg2 : g2.map AssignD.cells = G2 at ny
        generalize hw2 : w2.map WordD.cells = W2 at ny
        generalize hr2 : r2.map RedirD.cells = R2 at ny
        generalize hd2 : NodeD.cellsL d2 = D2 at ny
        generalize hi2' : ItemD.cellsL i2 = I2 at ny
        have bad : NodeD.same (.mk k1 p1 n1 a1 g1 w1 r1 d1 i1) (.mk k2 p2 n2 a2 g2 w2 r2 d2 i2) = false → false = r := fun h => by
          rw [← hr]
          cases hq : NodeD.sameL a b with
          | false => rfl
          | true =>
            have := (NodeD.sameL_iff.1 hq).2 i _ _ hx hy
            rw [h] at this
            cases this
        have next : NodeD.same (.mk k1 p1 n1 a1 g1 w1 r1 d1 i1) (.mk k2 p2 n2 a2 g2 w2 r2 d2 i2) = true → ∀ (j : Nat) (x y : NodeD), j < i + 1 → a[j]? = some x → b[j]? = some y → NodeD.same x y = true := fun hxy j x y hj hx' hy' => by
          rcases Nat.lt_succ_iff_lt_or_eq.1 hj with h | rfl
          · exact hs j x y h hx' hy'
          · rw [hx] at hx'
            rw [hy] at hy'
            injection hx' with hx'
            injection hy' with hy'
            subst hx' hy'
            exact hxy
        cbv
        refine .quiet (by kernel_rfl) ?_
        cbv
        refine ⟨_, nx, ?_⟩
        cbv
        refine ⟨_, ny, ?_⟩
        cbv
        have hcallq : call 21 [.agg [.dat (.int .i64 k1), .dat (.int .i64 p1), .dat (.str n1), .dat (.bool a1), .dat (.list G1), .dat (.list W1), .dat (.list R1), .dat (.list D1), .dat (.list I1)], .agg [.dat (.int .i64 k2), .dat (.int .i64 p2), .dat (.str n2), .dat (.bool a2), .dat (.list G2), .dat (.list W2), .dat (.list R2), .dat (.list D2), .dat (.list I2)]] (· = .dat (.bool (NodeD.same (.mk k1 p1 n1 a1 g1 w1 r1 d1 i1) (.mk k2 p2 n2 a2 g2 w2 r2 d2 i2)))) := by
          cases hE
          rw [← hg1, ← hw1, ← hr1, ← hd1, ← hi1, ← hg2, ← hw2, ← hr2, ← hd2, ← hi2']
          refine ih (.mk k1 p1 n1 a1 g1 w1 r1 d1 i1) (.mk k2 p2 n2 a2 g2 w2 r2 d2 i2) ?_
          exact Nat.le_trans (by rw [NodeD.szL_by]; exact szBy_mem hx) hsz
        generalize hq : NodeD.same (.mk k1 p1 n1 a1 g1 w1 r1 d1 i1) (.mk k2 p2 n2 a2 g2 w2 r2 d2 i2) = q at hcallq
        refine ⟨_, hcallq, rfl, ?_⟩
        cbv
        cases q
        case false =>
          cbv
          refine .eq (.boolE (bad ?_))
          exact hq
        cbv
        have hxy := next (by
          cases hE
          skip
          exact hq)
        refine ⟨⟨i + 1, hi2, hxy⟩, ?_, ?_⟩
        · show a.length - (i + 1) < a.length - i
          omega
        · cbv
          exact ⟨⟨.eq rfl, .eq rfl, .intE (by cases hE; exact inc_id hi2 hmax), trivial⟩, trivial⟩

set_option maxRecDepth 100000 in
set_option maxHeartbeats 4000000 in
theorem c57s (n : Nat) (ih : ∀ x y : NodeD, x.sz ≤ n → C21 x y) (a b : List ItemD) (hsz : ItemD.szL a ≤ n): C57 a b := by
  refine cret_of_swp mixedOrders VT_ok Tryz.func57 (code := Tryz.f57.body.get (by kernel_rfl)) (by kernel_rfl) (by kernel_rfl) rfl fun E hE hreal => ?_
  obtain ⟨ar, cm, sc, eb, wr, ln, sl, ct, ap, sb, ss, u8, mx, nth, off, sat, sok, stok, cat, bd, szs, ne, nil, call, callF⟩ := E
  have hmax : a.length ≤ maxLen := by have := real_list (hreal 0 _ rfl); rwa [ItemD.cellsL_len] at this
  clear hreal
  generalize hA : ItemD.cellsL a = A
  generalize hB : ItemD.cellsL b = B
  generalize hr : ItemD.sameL a b = r
  cbv
  generalize h1 : cm .neq _ _ = c1
  cases c1
  case true =>
    cbv
    refine .eq (.boolE ?_)
    rw [← hr]
    cases hq : ItemD.sameL a b with
    | false => rfl
    | true =>
      have := (ItemD.sameL_iff.1 hq).1
      cases hE
      simp [cmI] at h1
      rw [← hA, ← hB, ItemD.cellsL_len, ItemD.cellsL_len] at h1
      omega
  case false =>
    cbv
    have hAl : A.length = a.length := by rw [← hA, ItemD.cellsL_len]
    have hBl : B.length = b.length := by rw [← hB, ItemD.cellsL_len]
    have hlen : a.length = b.length := by
      cases hE
      simp [cmI] at h1
      omega
    refine .mk {i : Nat // i ≤ a.length ∧ ∀ (j : Nat) (x y : ItemD), j < i → a[j]? = some x → b[j]? = some y → ItemD.same x y = true} (fun i => ⟨slotsOf 43 [(0, .dat (.list A)), (1, .dat (.list B)), (5, .dat (.int .i64 i.1))], []⟩) (fun i => a.length - i.1) ⟨0, Nat.zero_le _, fun j x y h => by omega⟩ ?_ ?_
    · cbv
      exact ⟨⟨.eq rfl, .eq rfl, .eq rfl, trivial⟩, trivial⟩
    · rintro ⟨i, hi, hs⟩
      cbv
      generalize h2 : cm .lss _ _ = c2
      cases c2
      case false =>
        cbv
        have hi2 : i = a.length := by
          cases hE
          simp [cmI, hAl] at h2
          omega
        refine .eq (.boolE ?_)
        rw [← hr]
        refine (ItemD.sameL_iff.2 ⟨hlen, fun j x y hx hy => hs j x y ?_ hx hy⟩).symm
        rw [hi2]
        exact (List.getElem?_eq_some_iff.1 hx).1
      case true =>
        have hi2 : i < a.length := by
          cases hE
          simp [cmI, hAl] at h2
          omega
        obtain ⟨x, hx⟩ : ∃ x, a[i]? = some x := ⟨_, List.getElem?_eq_getElem hi2⟩
        obtain ⟨y, hy⟩ : ∃ y, b[i]? = some y := ⟨_, List.getElem?_eq_getElem (hlen ▸ hi2)⟩
        obtain ⟨p1, d1⟩ := x
        obtain ⟨p2, d2⟩ := y
        have nx : nth A (Int.ofNat i) (ItemD.cells (.mk p1 d1)) 2 := by
          cases hE
          exact ⟨Int.natCast_nonneg i, by rw [← hA]; exact ItemD.cellsL_get hx, rfl⟩
        have ny : nth B (Int.ofNat i) (ItemD.cells (.mk p2 d2)) 2 := by
          cases hE
          exact ⟨Int.natCast_nonneg i, by rw [← hB]; exact ItemD.cellsL_get hy, rfl⟩
        simp only [ItemD.cells] at nx ny
        generalize hp1 : p1.map WordD.cells = P1 at nx
        generalize hp2 : p2.map WordD.cells = P2 at ny
        generalize hd1 : NodeD.cellsL d1 = D1 at nx
        generalize hd2 : NodeD.cellsL d2 = D2 at ny
        have bad : ItemD.same (.mk p1 d1) (.mk p2 d2) = false → false = r := fun h => by
          rw [← hr]
          cases hq : ItemD.sameL a b with
          | false => rfl
          | true =>
            have := (ItemD.sameL_iff.1 hq).2 i _ _ hx hy
            rw [h] at this
            cases this
        have next : ItemD.same (.mk p1 d1) (.mk p2 d2) = true → ∀ (j : Nat) (x y : ItemD), j < i + 1 → a[j]? = some x → b[j]? = some y → ItemD.same x y = true := fun hxy j x y hj hx' hy' => by
          rcases Nat.lt_succ_iff_lt_or_eq.1 hj with h | rfl
          · exact hs j x y h hx' hy'
          · rw [hx] at hx'
            rw [hy] at hy'
            injection hx' with hx'
            injection hy' with hy'
            subst hx' hy'
            exact hxy
        cbv
        refine .quiet (by kernel_rfl) ?_
        cbv
        refine ⟨_, nx, ?_⟩
        cbv
        refine ⟨_, ny, ?_⟩
        cbv
        have hcallq : call 54 [.dat (.list P1), .dat (.list P2)] (· = .dat (.bool (sameBy WordD.same p1 p2))) := by
          cases hE
          rw [← hp1, ← hp2]
          exact c54 p1 p2
        generalize hq : sameBy WordD.same p1 p2 = q at hcallq
        refine ⟨_, hcallq, rfl, ?_⟩
        cbv
        cases q
        case false =>
          cbv
          refine .eq (.boolE (bad ?_))
          simp [ItemD.same, hq]
        cbv
        refine ⟨_, nx, ?_⟩
        cbv
        refine ⟨_, ny, ?_⟩
        cbv
        have hcallq2 : call 56 [.dat (.list D1), .dat (.list D2)] (· = .dat (.bool (NodeD.sameL d1 d2))) := by
          cases hE
          rw [← hd1, ← hd2]
          refine c56s n ih d1 d2 ?_
          have h1 : ItemD.sz (.mk p1 d1) ≤ ItemD.szL a := by rw [ItemD.szL_by]; exact szBy_mem hx
          simp [ItemD.sz] at h1
          omega
        generalize hq2 : NodeD.sameL d1 d2 = q2 at hcallq2
        refine ⟨_, hcallq2, rfl, ?_⟩
        cbv
        cases q2
        case false =>
          cbv
          refine .eq (.boolE (bad ?_))
          simp [ItemD.same, hq2]
        cbv
        have hxy := next (by
          cases hE
          skip
          simp [ItemD.same, hq, hq2])
        refine ⟨⟨i + 1, hi2, hxy⟩, ?_, ?_⟩
        · show a.length - (i + 1) < a.length - i
          omega
        · cbv
          exact ⟨⟨.eq rfl, .eq rfl, .intE (by cases hE; exact inc_id hi2 hmax), trivial⟩, trivial⟩

set_option maxRecDepth 100000 in
set_option maxHeartbeats 4000000 in
theorem c21s (n : Nat) (ih : ∀ x y : NodeD, x.sz ≤ n → C21 x y) (x y : NodeD) (hsz : x.sz ≤ n + 1) : C21 x y := by
  obtain ⟨k1, p1, n1, a1, g1, w1, r1, d1, i1⟩ := x
  obtain ⟨k2, p2, n2, a2, g2, w2, r2, d2, i2⟩ := y
  refine cret_of_swp mixedOrders VT_ok Tryz.func21 (code := Tryz.f21.body.get (by kernel_rfl)) (by kernel_rfl) (by kernel_rfl) rfl fun E hE hreal => ?_
  obtain ⟨ar, cm, sc, eb, wr, ln, sl, ct, ap, sb, ss, u8, mx, nth, off, sat, sok, stok, cat, bd, szs, ne, nil, call, callF⟩ := E
  clear hreal
  simp only [NodeD.av, NodeD.cells, List.map_cons, List.map_nil]
  generalize hg1 : g1.map AssignD.cells = G1
  generalize hw1 : w1.map WordD.cells = W1
  generalize hr1 : r1.map RedirD.cells = R1
  generalize hd1 : NodeD.cellsL d1 = D1
  generalize hi1 : ItemD.cellsL i1 = I1
  generalize hg2 : g2.map AssignD.cells = G2
  generalize hw2 : w2.map WordD.cells = W2
  generalize hr2 : r2.map RedirD.cells = R2
  generalize hd2 : NodeD.cellsL d2 = D2
  generalize hi2 : ItemD.cellsL i2 = I2
  generalize hr : NodeD.same (.mk k1 p1 n1 a1 g1 w1 r1 d1 i1) (.mk k2 p2 n2 a2 g2 w2 r2 d2 i2) = r
  cbv
  generalize h3 : cm .neq _ _ = c3
  cases c3
  case true =>
    cbv
    refine .eq (.boolE ?_)
    rw [← hr]
    cases hE
    simp [cmI] at h3
    simp [NodeD.same, h3]
  cbv
  generalize h4 : sc .neq _ _ = c4
  cases c4
  case true =>
    cbv
    refine .eq (.boolE ?_)
    rw [← hr]
    cases hE
    simp [scS] at h4
    simp [NodeD.same, h4]
  cbv
  generalize h5 : eb _ _ = c5
  cases c5
  case false =>
    cbv
    refine .eq (.boolE ?_)
    rw [← hr]
    cases hE
    simp [] at h5
    simp [NodeD.same, h5]
  cbv
  have hcallq1 : call 53 [.dat (.list G1), .dat (.list G2)] (· = .dat (.bool (sameBy AssignD.same g1 g2))) := by
    cases hE
    rw [← hg1, ← hg2]
    exact c53 g1 g2
  generalize hq1 : sameBy AssignD.same g1 g2 = q1 at hcallq1
  refine ⟨_, hcallq1, ?_⟩
  rintro _ rfl
  cbv
  cases q1
  case false =>
    cbv
    refine .eq (.boolE ?_)
    rw [← hr]
    cases hE
    simp [NodeD.same, hq1]
  cbv
  have hcallq2 : call 54 [.dat (.list W1), .dat (.list W2)] (· = .dat (.bool (sameBy WordD.same w1 w2))) := by
    cases hE
    rw [← hw1, ← hw2]
    exact c54 w1 w2
  generalize hq2 : sameBy WordD.same w1 w2 = q2 at hcallq2
  refine ⟨_, hcallq2, ?_⟩
  rintro _ rfl
  cbv
  cases q2
  case false =>
    cbv
    refine .eq (.boolE ?_)
    rw [← hr]
    cases hE
    simp [NodeD.same, hq2]
  cbv
  have hcallq3 : call 55 [.dat (.list R1), .dat (.list R2)] (· = .dat (.bool (sameBy RedirD.same r1 r2))) := by
    cases hE
    rw [← hr1, ← hr2]
    exact c55 r1 r2
  generalize hq3 : sameBy RedirD.same r1 r2 = q3 at hcallq3
  refine ⟨_, hcallq3, ?_⟩
  rintro _ rfl
  cbv
  cases q3
  case false =>
    cbv
    refine .eq (.boolE ?_)
    rw [← hr]
    cases hE
    simp [NodeD.same, hq3]
  cbv
  have hcallq4 : call 56 [.dat (.list D1), .dat (.list D2)] (· = .dat (.bool (NodeD.sameL d1 d2))) := by
    cases hE
    rw [← hd1, ← hd2]
    refine c56s n ih d1 d2 ?_
    have h1 := hsz
    simp [NodeD.sz] at h1
    omega
  generalize hq4 : NodeD.sameL d1 d2 = q4 at hcallq4
  refine ⟨_, hcallq4, ?_⟩
  rintro _ rfl
  cbv
  cases q4
  case false =>
    cbv
    refine .eq (.boolE ?_)
    rw [← hr]
    cases hE
    simp [NodeD.same, hq4]
  cbv
  have hcallq5 : call 57 [.dat (.list I1), .dat (.list I2)] (· = .dat (.bool (ItemD.sameL i1 i2))) := by
    cases hE
    rw [← hi1, ← hi2]
    refine c57s n ih i1 i2 ?_
    have h1 := hsz
    simp [NodeD.sz] at h1
    omega
  generalize hq5 : ItemD.sameL i1 i2 = q5 at hcallq5
  refine ⟨_, hcallq5, ?_⟩
  rintro _ rfl
  cbv
  cases q5
  case false =>
    cbv
    refine .eq (.boolE ?_)
    rw [← hr]
    cases hE
    simp [NodeD.same, hq5]
  cbv
  refine .eq (.boolE ?_)
  rw [← hr]
  cases hE
  simp [cmI] at h3
  simp [scS] at h4
  simp at h5
  simp [NodeD.same, h3, h4, h5, hq1, hq2, hq3, hq4, hq5]

theorem c21 (x y : NodeD) : C21 x y := by
  have key : ∀ n (x y : NodeD), x.sz ≤ n → C21 x y := fun n => by
    induction n with
    | zero => intro x y h; have := x.sz_pos; omega
    | succ n ih => exact c21s n ih
  exact key _ x y (Nat.le_refl _)
end Go.Proofs.YtdfcjodkmjofgaaGreat
/-
  Parts, words, assignments, redirections, branches and nodes held against each other, by the program.
-/
namespace Go.Proofs.YtdfcjodkmjofgaaGreat
open Go.RowKit

def C92 (a b : List PartD) : Prop := CRet Tryz.prog 92 [.dat (.list (PartD.cellsL a)), .dat (.list (PartD.cellsL b))] (· = .dat (.bool (PartD.sameL a b)))
def C125 (a b : List PartD) : Prop := CRet Tryz.prog 125 [.dat (.list (PartD.cellsL a)), .dat (.list (PartD.cellsL b)), .fn 126 []] (· = .dat (.bool (PartD.sameL a b)))
def C126 (x y : PartD) : Prop := CRet Tryz.prog 126 [x.av, y.av] (· = .dat (.bool (x.same y)))
set_option maxRecDepth 100000 in
set_option maxHeartbeats 4000000 in
theorem c126s (n : Nat) (ih : ∀ a b : List PartD, PartD.szL a < n → C92 a b) (x y : PartD) (hsz : x.sz ≤ n) : C126 x y := by
  obtain ⟨k1, t1, o1, e1, p1⟩ := x
  obtain ⟨k2, t2, o2, e2, p2⟩ := y
  refine cret_of_swp mixedOrders VT_ok Tryz.func126 (code := Tryz.f126.body.get (by kernel_rfl)) (by kernel_rfl) (by kernel_rfl) rfl fun E hE hreal => ?_
  obtain ⟨ar, cm, sc, eb, wr, ln, sl, ct, ap, sb, ss, u8, mx, nth, off, sat, sok, stok, cat, bd, szs, ne, nil, call, callF⟩ := E
  clear hreal
  simp only [PartD.av, PartD.cells, List.map_cons, List.map_nil]
  generalize hp1 : PartD.cellsL p1 = P1
  generalize hp2 : PartD.cellsL p2 = P2
  generalize hr : PartD.same (.mk k1 t1 o1 e1 p1) (.mk k2 t2 o2 e2 p2) = r
  cbv
  generalize h3 : cm .eql _ _ = c3
  cases c3
  case false =>
    cbv
    refine .eq (.boolE ?_)
    rw [← hr]
    cases hE
    simp [cmI] at h3
    simp [PartD.same, h3]
  cbv
  generalize h4 : sc .eql _ _ = c4
  cases c4
  case false =>
    cbv
    refine .eq (.boolE ?_)
    rw [← hr]
    cases hE
    simp [scS] at h4
    simp [PartD.same, h4]
  cbv
  generalize h5 : cm .eql _ _ = c5
  cases c5
  case false =>
    cbv
    refine .eq (.boolE ?_)
    rw [← hr]
    cases hE
    simp [cmI] at h5
    simp [PartD.same, h5]
  cbv
  generalize h6 : eb _ _ = c6
  cases c6
  case false =>
    cbv
    refine .eq (.boolE ?_)
    rw [← hr]
    cases hE
    simp [] at h6
    simp [PartD.same, h6]
  cbv
  have hcallq : call 92 [.dat (.list P1), .dat (.list P2)] (· = .dat (.bool (PartD.sameL p1 p2))) := by
    cases hE
    rw [← hp1, ← hp2]
    refine ih p1 p2 ?_
    have h1 := hsz
    simp [PartD.sz] at h1
    omega
  generalize hq : PartD.sameL p1 p2 = q at hcallq
  refine ⟨_, hcallq, ?_⟩
  rintro _ rfl
  cbv
  cases q
  case false =>
    cbv
    refine .eq (.boolE ?_)
    rw [← hr]
    cases hE
    simp [PartD.same, hq]
  cbv
  refine .eq (.boolE ?_)
  rw [← hr]
  cases hE
  simp [cmI] at h3 h5
  simp [scS] at h4
  simp at h6
  simp [PartD.same, h3, h4, h5, h6, hq]

set_option maxRecDepth 100000 in
set_option maxHeartbeats 4000000 in
theorem c125s (n : Nat) (ih : ∀ a b : List PartD, PartD.szL a < n → C92 a b) (a b : List PartD) (hsz : PartD.szL a ≤ n): C125 a b := by
  refine cret_of_swp mixedOrders VT_ok Tryz.func125 (code := Tryz.f125.body.get (by kernel_rfl)) (by kernel_rfl) (by kernel_rfl) rfl fun E hE hreal => ?_
  obtain ⟨ar, cm, sc, eb, wr, ln, sl, ct, ap, sb, ss, u8, mx, nth, off, sat, sok, stok, cat, bd, szs, ne, nil, call, callF⟩ := E
  have hmax : a.length ≤ maxLen := by have := real_list (hreal 0 _ rfl); rwa [PartD.cellsL_len] at this
  clear hreal
  generalize hA : PartD.cellsL a = A
  generalize hB : PartD.cellsL b = B
  generalize hr : PartD.sameL a b = r
  cbv
  generalize h1 : cm .neq _ _ = c1
  cases c1
  case true =>
    cbv
    refine .eq (.boolE ?_)
    rw [← hr]
    cases hq : PartD.sameL a b with
    | false => rfl
    | true =>
      have := (PartD.sameL_iff.1 hq).1
      cases hE
      simp [cmI] at h1
      rw [← hA, ← hB, PartD.cellsL_len, PartD.cellsL_len] at h1
      omega
  case false =>
    cbv
    have hAl : A.length = a.length := by rw [← hA, PartD.cellsL_len]
    have hBl : B.length = b.length := by rw [← hB, PartD.cellsL_len]
    have hlen : a.length = b.length := by
      cases hE
      simp [cmI] at h1
      omega
    refine .mk {i : Nat // i ≤ a.length ∧ ∀ (j : Nat) (x y : PartD), j < i → a[j]? = some x → b[j]? = some y → PartD.same x y = true} (fun i => ⟨slotsOf 32 [(1, .dat (.list B)), (2, .fn 126 []), (15, .dat (.list A)), (16, .dat (.int .i64 (ln A 0))), (17, .dat (.int .i64 i.1))], []⟩) (fun i => a.length - i.1) ⟨0, Nat.zero_le _, fun j x y h => by omega⟩ ?_ ?_
    · cbv
      exact ⟨⟨.eq rfl, .eq rfl, .eq rfl, .eq rfl, .eq rfl, trivial⟩, trivial⟩
    · rintro ⟨i, hi, hs⟩
      cbv
      generalize h2 : cm .lss _ _ = c2
      cases c2
      case false =>
        cbv
        have hi2 : i = a.length := by
          cases hE
          simp [cmI, hAl] at h2
          omega
        refine .eq (.boolE ?_)
        rw [← hr]
        refine (PartD.sameL_iff.2 ⟨hlen, fun j x y hx hy => hs j x y ?_ hx hy⟩).symm
        rw [hi2]
        exact (List.getElem?_eq_some_iff.1 hx).1
      case true =>
        have hi2 : i < a.length := by
          cases hE
          simp [cmI, hAl] at h2
          omega
        obtain ⟨x, hx⟩ : ∃ x, a[i]? = some x := ⟨_, List.getElem?_eq_getElem hi2⟩
        obtain ⟨y, hy⟩ : ∃ y, b[i]? = some y := ⟨_, List.getElem?_eq_getElem (hlen ▸ hi2)⟩
        obtain ⟨k1, t1, o1, e1, p1⟩ := x
        obtain ⟨k2, t2, o2, e2, p2⟩ := y
        have nx : nth A (Int.ofNat i) (PartD.cells (.mk k1 t1 o1 e1 p1)) 5 := by
          cases hE
          exact ⟨Int.natCast_nonneg i, by rw [← hA]; exact PartD.cellsL_get hx, rfl⟩
        have ny : nth B (Int.ofNat i) (PartD.cells (.mk k2 t2 o2 e2 p2)) 5 := by
          cases hE
          exact ⟨Int.natCast_nonneg i, by rw [← hB]; exact PartD.cellsL_get hy, rfl⟩
        simp only [PartD.cells] at nx ny
        generalize hp1 : PartD.cellsL p1 = P1 at nx
        generalize hp2 : PartD.cellsL p2 = P2 at ny
        have bad : PartD.same (.mk k1 t1 o1 e1 p1) (.mk k2 t2 o2 e2 p2) = false → false = r := fun h => by
          rw [← hr]
          cases hq : PartD.sameL a b with
          | false => rfl
          | true =>
            have := (PartD.sameL_iff.1 hq).2 i _ _ hx hy
            rw [h] at this
            cases this
        have next : PartD.same (.mk k1 t1 o1 e1 p1) (.mk k2 t2 o2 e2 p2) = true → ∀ (j : Nat) (x y : PartD), j < i + 1 → a[j]? = some x → b[j]? = some y → PartD.same x y = true := fun hxy j x y hj hx' hy' => by
          rcases Nat.lt_succ_iff_lt_or_eq.1 hj with h | rfl
          · exact hs j x y h hx' hy'
          · rw [hx] at hx'
            rw [hy] at hy'
            injection hx' with hx'
            injection hy' with hy'
            subst hx' hy'
            exact hxy
        cbv
        refine ⟨_, nx, ?_⟩
        cbv
        refine ⟨_, ny, ?_⟩
        cbv
        have hcallq : call 126 [.agg [.dat (.int .i64 k1), .dat (.str t1), .dat (.int .i64 o1), .dat (.bool e1), .dat (.list P1)], .agg [.dat (.int .i64 k2), .dat (.str t2), .dat (.int .i64 o2), .dat (.bool e2), .dat (.list P2)]] (· = .dat (.bool (PartD.same (.mk k1 t1 o1 e1 p1) (.mk k2 t2 o2 e2 p2)))) := by
          cases hE
          rw [← hp1, ← hp2]
          exact c126s n ih (.mk k1 t1 o1 e1 p1) (.mk k2 t2 o2 e2 p2) (Nat.le_trans (PartD.sz_mem hx) hsz)
        generalize hq : PartD.same (.mk k1 t1 o1 e1 p1) (.mk k2 t2 o2 e2 p2) = q at hcallq
        refine ⟨_, hcallq, ?_⟩
        rintro _ rfl
        cbv
        cases q
        case false =>
          cbv
          refine .eq (.boolE (bad ?_))
          exact hq
        cbv
        have hxy := next (by
          cases hE
          skip
          exact hq)
        refine ⟨⟨i + 1, hi2, hxy⟩, ?_, ?_⟩
        · show a.length - (i + 1) < a.length - i
          omega
        · cbv
          exact ⟨⟨.eq rfl, .eq rfl, .eq rfl, .eq rfl, .intE (by cases hE; exact inc_id hi2 hmax), trivial⟩, trivial⟩

set_option maxRecDepth 100000 in
theorem c92s (n : Nat) (ih : ∀ a b : List PartD, PartD.szL a < n → C92 a b) (a b : List PartD) (hsz : PartD.szL a ≤ n) : C92 a b := by
  refine cret_of_swp mixedOrders VT_ok Tryz.func92 (code := Tryz.f92.body.get (by kernel_rfl)) (by kernel_rfl) (by kernel_rfl) rfl fun E hE hreal => ?_
  obtain ⟨ar, cm, sc, eb, wr, ln, sl, ct, ap, sb, ss, u8, mx, nth, off, sat, sok, stok, cat, bd, szs, ne, nil, call, callF⟩ := E
  clear hreal
  generalize hp1 : PartD.cellsL a = P1
  generalize hp2 : PartD.cellsL b = P2
  generalize hr : PartD.sameL a b = r
  cbv
  have hcall : call 125 [.dat (.list P1), .dat (.list P2), .fn 126 []] (· = .dat (.bool r)) := by
    cases hE
    rw [← hp1, ← hp2, ← hr]
    exact c125s n ih a b hsz
  refine ⟨_, hcall, ?_⟩
  rintro _ rfl
  cbv
  exact .eq (.boolE rfl)
theorem c92 (a b : List PartD) : C92 a b := by
  have key : ∀ n (a b : List PartD), PartD.szL a < n → C92 a b := fun n => by
    induction n with
    | zero => intro a b h; omega
    | succ n ih => exact fun a b h => c92s n ih a b (Nat.le_of_lt_succ h)
  exact key _ a b (Nat.lt_succ_self _)
def C45 (x y : WordD) : Prop := CRet Tryz.prog 45 [x.av, y.av] (· = .dat (.bool (x.same y)))
set_option maxRecDepth 100000 in
set_option maxHeartbeats 4000000 in
theorem c45  (x y : WordD) : C45 x y := by
  obtain ⟨k1, p1⟩ := x
  obtain ⟨k2, p2⟩ := y
  refine cret_of_swp mixedOrders VT_ok Tryz.func45 (code := Tryz.f45.body.get (by kernel_rfl)) (by kernel_rfl) (by kernel_rfl) rfl fun E hE hreal => ?_
  obtain ⟨ar, cm, sc, eb, wr, ln, sl, ct, ap, sb, ss, u8, mx, nth, off, sat, sok, stok, cat, bd, szs, ne, nil, call, callF⟩ := E
  clear hreal
  simp only [WordD.av, WordD.cells, List.map_cons, List.map_nil]
  generalize hp1 : PartD.cellsL p1 = P1
  generalize hp2 : PartD.cellsL p2 = P2
  generalize hr : WordD.same ⟨k1, p1⟩ ⟨k2, p2⟩ = r
  cbv
  have hcallq : call 92 [.dat (.list P1), .dat (.list P2)] (· = .dat (.bool (PartD.sameL p1 p2))) := by
    cases hE
    rw [← hp1, ← hp2]
    exact c92 p1 p2
  generalize hq : PartD.sameL p1 p2 = q at hcallq
  refine ⟨_, hcallq, ?_⟩
  rintro _ rfl
  cbv
  cases q
  case false =>
    cbv
    refine .eq (.boolE ?_)
    rw [← hr]
    cases hE
    simp [WordD.same, hq]
  cbv
  refine .eq (.boolE ?_)
  rw [← hr]
  cases hE
  skip
  simp [WordD.same, hq]

def C48 (a b : List WordD) : Prop := CRet Tryz.prog 48 [.dat (.list (a.map WordD.cells)), .dat (.list (b.map WordD.cells)), .fn 45 []] (· = .dat (.bool (sameBy WordD.same a b)))
set_option maxRecDepth 100000 in
set_option maxHeartbeats 4000000 in
theorem c48  (a b : List WordD): C48 a b := by
  refine cret_of_swp mixedOrders VT_ok Tryz.func48 (code := Tryz.f48.body.get (by kernel_rfl)) (by kernel_rfl) (by kernel_rfl) rfl fun E hE hreal => ?_
  obtain ⟨ar, cm, sc, eb, wr, ln, sl, ct, ap, sb, ss, u8, mx, nth, off, sat, sok, stok, cat, bd, szs, ne, nil, call, callF⟩ := E
  have hmax : a.length ≤ maxLen := by have := real_list (hreal 0 _ rfl); rwa [List.length_map] at this
  clear hreal
  generalize hA : a.map WordD.cells = A
  generalize hB : b.map WordD.cells = B
  generalize hr : sameBy WordD.same a b = r
  cbv
  generalize h1 : cm .neq _ _ = c1
  cases c1
  case true =>
    cbv
    refine .eq (.boolE ?_)
    rw [← hr]
    cases hq : sameBy WordD.same a b with
    | false => rfl
    | true =>
      have := (sameBy_iff.1 hq).1
      cases hE
      simp [cmI] at h1
      rw [← hA, ← hB, List.length_map, List.length_map] at h1
      omega
  case false =>
    cbv
    have hAl : A.length = a.length := by rw [← hA, List.length_map]
    have hBl : B.length = b.length := by rw [← hB, List.length_map]
    have hlen : a.length = b.length := by
      cases hE
      simp [cmI] at h1
      omega
    refine .mk {i : Nat // i ≤ a.length ∧ ∀ (j : Nat) (x y : WordD), j < i → a[j]? = some x → b[j]? = some y → WordD.same x y = true} (fun i => ⟨slotsOf 32 [(1, .dat (.list B)), (2, .fn 45 []), (15, .dat (.list A)), (16, .dat (.int .i64 (ln A 0))), (17, .dat (.int .i64 i.1))], []⟩) (fun i => a.length - i.1) ⟨0, Nat.zero_le _, fun j x y h => by omega⟩ ?_ ?_
    · cbv
      exact ⟨⟨.eq rfl, .eq rfl, .eq rfl, .eq rfl, .eq rfl, trivial⟩, trivial⟩
    · rintro ⟨i, hi, hs⟩
      cbv
      generalize h2 : cm .lss _ _ = c2
      cases c2
      case false =>
        cbv
        have hi2 : i = a.length := by
          cases hE
          simp [cmI, hAl] at h2
          omega
        refine .eq (.boolE ?_)
        rw [← hr]
        refine (sameBy_iff.2 ⟨hlen, fun j x y hx hy => hs j x y ?_ hx hy⟩).symm
        rw [hi2]
        exact (List.getElem?_eq_some_iff.1 hx).1
      case true =>
        have hi2 : i < a.length := by
          cases hE
          simp [cmI, hAl] at h2
          omega
        obtain ⟨x, hx⟩ : ∃ x, a[i]? = some x := ⟨_, List.getElem?_eq_getElem hi2⟩
        obtain ⟨y, hy⟩ : ∃ y, b[i]? = some y := ⟨_, List.getElem?_eq_getElem (hlen ▸ hi2)⟩
        obtain ⟨k1, p1⟩ := x
        obtain ⟨k2, p2⟩ := y
        have nx : nth A (Int.ofNat i) (WordD.cells ⟨k1, p1⟩) 2 := by
          cases hE
          exact ⟨Int.natCast_nonneg i, by rw [← hA]; simp [hx], rfl⟩
        have ny : nth B (Int.ofNat i) (WordD.cells ⟨k2, p2⟩) 2 := by
          cases hE
          exact ⟨Int.natCast_nonneg i, by rw [← hB]; simp [hy], rfl⟩
        simp only [WordD.cells] at nx ny
        generalize hp1 : PartD.cellsL p1 = P1 at nx
        generalize hp2 : PartD.cellsL p2 = P2 at ny
        have bad : WordD.same ⟨k1, p1⟩ ⟨k2, p2⟩ = false → false = r := fun h => by
          rw [← hr]
          cases hq : sameBy WordD.same a b with
          | false => rfl
          | true =>
            have := (sameBy_iff.1 hq).2 i _ _ hx hy
            rw [h] at this
            cases this
        have next : WordD.same ⟨k1, p1⟩ ⟨k2, p2⟩ = true → ∀ (j : Nat) (x y : WordD), j < i + 1 → a[j]? = some x → b[j]? = some y → WordD.same x y = true := fun hxy j x y hj hx' hy' => by
          rcases Nat.lt_succ_iff_lt_or_eq.1 hj with h | rfl
          · exact hs j x y h hx' hy'
          · rw [hx] at hx'
            rw [hy] at hy'
            injection hx' with hx'
            injection hy' with hy'
            subst hx' hy'
            exact hxy
        cbv
        refine ⟨_, nx, ?_⟩
        cbv
        refine ⟨_, ny, ?_⟩
        cbv
        have hcallq : call 45 [.agg [.dat (.int .i64 k1), .dat (.list P1)], .agg [.dat (.int .i64 k2), .dat (.list P2)]] (· = .dat (.bool (WordD.same ⟨k1, p1⟩ ⟨k2, p2⟩))) := by
          cases hE
          rw [← hp1, ← hp2]
          exact c45 ⟨k1, p1⟩ ⟨k2, p2⟩
        generalize hq : WordD.same ⟨k1, p1⟩ ⟨k2, p2⟩ = q at hcallq
        refine ⟨_, hcallq, ?_⟩
        rintro _ rfl
        cbv
        cases q
        case false =>
          cbv
          refine .eq (.boolE (bad ?_))
          exact hq
        cbv
        have hxy := next (by
          cases hE
          skip
          exact hq)
        refine ⟨⟨i + 1, hi2, hxy⟩, ?_, ?_⟩
        · show a.length - (i + 1) < a.length - i
          omega
        · cbv
          exact ⟨⟨.eq rfl, .eq rfl, .eq rfl, .eq rfl, .intE (by cases hE; exact inc_id hi2 hmax), trivial⟩, trivial⟩

def C44 (x y : AssignD) : Prop := CRet Tryz.prog 44 [x.av, y.av] (· = .dat (.bool (x.same y)))
set_option maxRecDepth 100000 in
set_option maxHeartbeats 4000000 in
theorem c44  (x y : AssignD) : C44 x y := by
  obtain ⟨k1, t1, v1, p1⟩ := x
  obtain ⟨k2, t2, v2, p2⟩ := y
  refine cret_of_swp mixedOrders VT_ok Tryz.func44 (code := Tryz.f44.body.get (by kernel_rfl)) (by kernel_rfl) (by kernel_rfl) rfl fun E hE hreal => ?_
  obtain ⟨ar, cm, sc, eb, wr, ln, sl, ct, ap, sb, ss, u8, mx, nth, off, sat, sok, stok, cat, bd, szs, ne, nil, call, callF⟩ := E
  clear hreal
  simp only [AssignD.av, AssignD.cells, List.map_cons, List.map_nil]
  generalize hp1 : PartD.cellsL p1 = P1
  generalize hp2 : PartD.cellsL p2 = P2
  generalize hr : AssignD.same ⟨k1, t1, v1, p1⟩ ⟨k2, t2, v2, p2⟩ = r
  cbv
  generalize h3 : sc .eql _ _ = c3
  cases c3
  case false =>
    cbv
    refine .eq (.boolE ?_)
    rw [← hr]
    cases hE
    simp [scS] at h3
    simp [AssignD.same, h3]
  cbv
  have hcallq : call 45 [.agg [.dat (.int .i64 v1), .dat (.list P1)], .agg [.dat (.int .i64 v2), .dat (.list P2)]] (· = .dat (.bool (PartD.sameL p1 p2))) := by
    cases hE
    rw [← hp1, ← hp2]
    exact c45 ⟨v1, p1⟩ ⟨v2, p2⟩
  generalize hq : PartD.sameL p1 p2 = q at hcallq
  refine ⟨_, hcallq, ?_⟩
  rintro _ rfl
  cbv
  cases q
  case false =>
    cbv
    refine .eq (.boolE ?_)
    rw [← hr]
    cases hE
    simp [AssignD.same, hq]
  cbv
  refine .eq (.boolE ?_)
  rw [← hr]
  cases hE
  simp [scS] at h3
  simp [AssignD.same, h3, hq]

def C50 (a b : List AssignD) : Prop := CRet Tryz.prog 50 [.dat (.list (a.map AssignD.cells)), .dat (.list (b.map AssignD.cells)), .fn 44 []] (· = .dat (.bool (sameBy AssignD.same a b)))
set_option maxRecDepth 100000 in
set_option maxHeartbeats 4000000 in
theorem c50  (a b : List AssignD): C50 a b := by
  refine cret_of_swp mixedOrders VT_ok Tryz.func50 (code := Tryz.f50.body.get (by kernel_rfl)) (by kernel_rfl) (by kernel_rfl) rfl fun E hE hreal => ?_
  obtain ⟨ar, cm, sc, eb, wr, ln, sl, ct, ap, sb, ss, u8, mx, nth, off, sat, sok, stok, cat, bd, szs, ne, nil, call, callF⟩ := E
  have hmax : a.length ≤ maxLen := by have := real_list (hreal 0 _ rfl); rwa [List.length_map] at this
  clear hreal
  generalize hA : a.map AssignD.cells = A
  generalize hB : b.map AssignD.cells = B
  generalize hr : sameBy AssignD.same a b = r
  cbv
  generalize h1 : cm .neq _ _ = c1
  cases c1
  case true =>
    cbv
    refine .eq (.boolE ?_)
    rw [← hr]
    cases hq : sameBy AssignD.same a b with
    | false => rfl
    | true =>
      have := (sameBy_iff.1 hq).1
      cases hE
      simp [cmI] at h1
      rw [← hA, ← hB, List.length_map, List.length_map] at h1
      omega
  case false =>
    cbv
    have hAl : A.length = a.length := by rw [← hA, List.length_map]
    have hBl : B.length = b.length := by rw [← hB, List.length_map]
    have hlen : a.length = b.length := by
      cases hE
      simp [cmI] at h1
      omega
    refine .mk {i : Nat // i ≤ a.length ∧ ∀ (j : Nat) (x y : AssignD), j < i → a[j]? = some x → b[j]? = some y → AssignD.same x y = true} (fun i => ⟨slotsOf 32 [(1, .dat (.list B)), (2, .fn 44 []), (15, .dat (.list A)), (16, .dat (.int .i64 (ln A 0))), (17, .dat (.int .i64 i.1))], []⟩) (fun i => a.length - i.1) ⟨0, Nat.zero_le _, fun j x y h => by omega⟩ ?_ ?_
    · cbv
      exact ⟨⟨.eq rfl, .eq rfl, .eq rfl, .eq rfl, .eq rfl, trivial⟩, trivial⟩
    · rintro ⟨i, hi, hs⟩
      cbv
      generalize h2 : cm .lss _ _ = c2
      cases c2
      case false =>
        cbv
        have hi2 : i = a.length := by
          cases hE
          simp [cmI, hAl] at h2
          omega
        refine .eq (.boolE ?_)
        rw [← hr]
        refine (sameBy_iff.2 ⟨hlen, fun j x y hx hy => hs j x y ?_ hx hy⟩).symm
        rw [hi2]
        exact (List.getElem?_eq_some_iff.1 hx).1
      case true =>
        have hi2 : i < a.length := by
          cases hE
          simp [cmI, hAl] at h2
          omega
        obtain ⟨x, hx⟩ : ∃ x, a[i]? = some x := ⟨_, List.getElem?_eq_getElem hi2⟩
        obtain ⟨y, hy⟩ : ∃ y, b[i]? = some y := ⟨_, List.getElem?_eq_getElem (hlen ▸ hi2)⟩
        obtain ⟨k1, t1, v1, p1⟩ := x
        obtain ⟨k2, t2, v2, p2⟩ := y
        have nx : nth A (Int.ofNat i) (AssignD.cells ⟨k1, t1, v1, p1⟩) 4 := by
          cases hE
          exact ⟨Int.natCast_nonneg i, by rw [← hA]; simp [hx], rfl⟩
        have ny : nth B (Int.ofNat i) (AssignD.cells ⟨k2, t2, v2, p2⟩) 4 := by
          cases hE
          exact ⟨Int.natCast_nonneg i, by rw [← hB]; simp [hy], rfl⟩
        simp only [AssignD.cells] at nx ny
        generalize hp1 : PartD.cellsL p1 = P1 at nx
        generalize hp2 : PartD.cellsL p2 = P2 at ny
        have bad : AssignD.same ⟨k1, t1, v1, p1⟩ ⟨k2, t2, v2, p2⟩ = false → false = r := fun h => by
          rw [← hr]
          cases hq : sameBy AssignD.same a b with
          | false => rfl
          | true =>
            have := (sameBy_iff.1 hq).2 i _ _ hx hy
            rw [h] at this
            cases this
        have next : AssignD.same ⟨k1, t1, v1, p1⟩ ⟨k2, t2, v2, p2⟩ = true → ∀ (j : Nat) (x y : AssignD), j < i + 1 → a[j]? = some x → b[j]? = some y → AssignD.same x y = true := fun hxy j x y hj hx' hy' => by
          rcases Nat.lt_succ_iff_lt_or_eq.1 hj with h | rfl
          · exact hs j x y h hx' hy'
          · rw [hx] at hx'
            rw [hy] at hy'
            injection hx' with hx'
            injection hy' with hy'
            subst hx' hy'
            exact hxy
        cbv
        refine ⟨_, nx, ?_⟩
        cbv
        refine ⟨_, ny, ?_⟩
        cbv
        have hcallq : call 44 [.agg [.dat (.int .i64 k1), .dat (.str t1), .dat (.int .i64 v1), .dat (.list P1)], .agg [.dat (.int .i64 k2), .dat (.str t2), .dat (.int .i64 v2), .dat (.list P2)]] (· = .dat (.bool (AssignD.same ⟨k1, t1, v1, p1⟩ ⟨k2, t2, v2, p2⟩))) := by
          cases hE
          rw [← hp1, ← hp2]
          exact c44 ⟨k1, t1, v1, p1⟩ ⟨k2, t2, v2, p2⟩
        generalize hq : AssignD.same ⟨k1, t1, v1, p1⟩ ⟨k2, t2, v2, p2⟩ = q at hcallq
        refine ⟨_, hcallq, ?_⟩
        rintro _ rfl
        cbv
        cases q
        case false =>
          cbv
          refine .eq (.boolE (bad ?_))
          exact hq
        cbv
        have hxy := next (by
          cases hE
          skip
          exact hq)
        refine ⟨⟨i + 1, hi2, hxy⟩, ?_, ?_⟩
        · show a.length - (i + 1) < a.length - i
          omega
        · cbv
          exact ⟨⟨.eq rfl, .eq rfl, .eq rfl, .eq rfl, .intE (by cases hE; exact inc_id hi2 hmax), trivial⟩, trivial⟩

def C46 (x y : RedirD) : Prop := CRet Tryz.prog 46 [x.av, y.av] (· = .dat (.bool (x.same y)))
set_option maxRecDepth 100000 in
set_option maxHeartbeats 4000000 in
theorem c46  (x y : RedirD) : C46 x y := by
  obtain ⟨k1, f1, o1, v1, p1⟩ := x
  obtain ⟨k2, f2, o2, v2, p2⟩ := y
  refine cret_of_swp mixedOrders VT_ok Tryz.func46 (code := Tryz.f46.body.get (by kernel_rfl)) (by kernel_rfl) (by kernel_rfl) rfl fun E hE hreal => ?_
  obtain ⟨ar, cm, sc, eb, wr, ln, sl, ct, ap, sb, ss, u8, mx, nth, off, sat, sok, stok, cat, bd, szs, ne, nil, call, callF⟩ := E
  clear hreal
  simp only [RedirD.av, RedirD.cells, List.map_cons, List.map_nil]
  generalize hp1 : PartD.cellsL p1 = P1
  generalize hp2 : PartD.cellsL p2 = P2
  generalize hr : RedirD.same ⟨k1, f1, o1, v1, p1⟩ ⟨k2, f2, o2, v2, p2⟩ = r
  cbv
  generalize h3 : cm .eql _ _ = c3
  cases c3
  case false =>
    cbv
    refine .eq (.boolE ?_)
    rw [← hr]
    cases hE
    simp [cmI] at h3
    simp [RedirD.same, h3]
  cbv
  generalize h4 : cm .eql _ _ = c4
  cases c4
  case false =>
    cbv
    refine .eq (.boolE ?_)
    rw [← hr]
    cases hE
    simp [cmI] at h4
    simp [RedirD.same, h4]
  cbv
  have hcallq : call 45 [.agg [.dat (.int .i64 v1), .dat (.list P1)], .agg [.dat (.int .i64 v2), .dat (.list P2)]] (· = .dat (.bool (PartD.sameL p1 p2))) := by
    cases hE
    rw [← hp1, ← hp2]
    exact c45 ⟨v1, p1⟩ ⟨v2, p2⟩
  generalize hq : PartD.sameL p1 p2 = q at hcallq
  refine ⟨_, hcallq, ?_⟩
  rintro _ rfl
  cbv
  cases q
  case false =>
    cbv
    refine .eq (.boolE ?_)
    rw [← hr]
    cases hE
    simp [RedirD.same, hq]
  cbv
  refine .eq (.boolE ?_)
  rw [← hr]
  cases hE
  simp [cmI] at h3 h4
  simp [RedirD.same, h3, h4, hq]

def C51 (a b : List RedirD) : Prop := CRet Tryz.prog 51 [.dat (.list (a.map RedirD.cells)), .dat (.list (b.map RedirD.cells)), .fn 46 []] (· = .dat (.bool (sameBy RedirD.same a b)))
set_option maxRecDepth 100000 in
set_option maxHeartbeats 4000000 in
theorem c51  (a b : List RedirD): C51 a b := by
  refine cret_of_swp mixedOrders VT_ok Tryz.func51 (code := Tryz.f51.body.get (by kernel_rfl)) (by kernel_rfl) (by kernel_rfl) rfl fun E hE hreal => ?_
  obtain ⟨ar, cm, sc, eb, wr, ln, sl, ct, ap, sb, ss, u8, mx, nth, off, sat, sok, stok, cat, bd, szs, ne, nil, call, callF⟩ := E
  have hmax : a.length ≤ maxLen := by have := real_list (hreal 0 _ rfl); rwa [List.length_map] at this
  clear hreal
  generalize hA : a.map RedirD.cells = A
  generalize hB : b.map RedirD.cells = B
  generalize hr : sameBy RedirD.same a b = r
  cbv
  generalize h1 : cm .neq _ _ = c1
  cases c1
  case true =>
    cbv
    refine .eq (.boolE ?_)
    rw [← hr]
    cases hq : sameBy RedirD.same a b with
    | false => rfl
    | true =>
      have := (sameBy_iff.1 hq).1
      cases hE
      simp [cmI] at h1
      rw [← hA, ← hB, List.length_map, List.length_map] at h1
      omega
  case false =>
    cbv
    have hAl : A.length = a.length := by rw [← hA, List.length_map]
    have hBl : B.length = b.length := by rw [← hB, List.length_map]
    have hlen : a.length = b.length := by
      cases hE
      simp [cmI] at h1
      omega
    refine .mk {i : Nat // i ≤ a.length ∧ ∀ (j : Nat) (x y : RedirD), j < i → a[j]? = some x → b[j]? = some y → RedirD.same x y = true} (fun i => ⟨slotsOf 32 [(1, .dat (.list B)), (2, .fn 46 []), (15, .dat (.list A)), (16, .dat (.int .i64 (ln A 0))), (17, .dat (.int .i64 i.1))], []⟩) (fun i => a.length - i.1) ⟨0, Nat.zero_le _, fun j x y h => by omega⟩ ?_ ?_
    · cbv
      exact ⟨⟨.eq rfl, .eq rfl, .eq rfl, .eq rfl, .eq rfl, trivial⟩, trivial⟩
    · rintro ⟨i, hi, hs⟩
      cbv
      generalize h2 : cm .lss _ _ = c2
      cases c2
      case false =>
        cbv
        have hi2 : i = a.length := by
          cases hE
          simp [cmI, hAl] at h2
          omega
        refine .eq (.boolE ?_)
        rw [← hr]
        refine (sameBy_iff.2 ⟨hlen, fun j x y hx hy => hs j x y ?_ hx hy⟩).symm
        rw [hi2]
        exact (List.getElem?_eq_some_iff.1 hx).1
      case true =>
        have hi2 : i < a.length := by
          cases hE
          simp [cmI, hAl] at h2
          omega
        obtain ⟨x, hx⟩ : ∃ x, a[i]? = some x := ⟨_, List.getElem?_eq_getElem hi2⟩
        obtain ⟨y, hy⟩ : ∃ y, b[i]? = some y := ⟨_, List.getElem?_eq_getElem (hlen ▸ hi2)⟩
        obtain ⟨k1, f1, o1, v1, p1⟩ := x
        obtain ⟨k2, f2, o2, v2, p2⟩ := y
        have nx : nth A (Int.ofNat i) (RedirD.cells ⟨k1, f1, o1, v1, p1⟩) 5 := by
          cases hE
          exact ⟨Int.natCast_nonneg i, by rw [← hA]; simp [hx], rfl⟩
        have ny : nth B (Int.ofNat i) (RedirD.cells ⟨k2, f2, o2, v2, p2⟩) 5 := by
          cases hE
          exact ⟨Int.natCast_nonneg i, by rw [← hB]; simp [hy], rfl⟩
        simp only [RedirD.cells] at nx ny
        generalize hp1 : PartD.cellsL p1 = P1 at nx
        generalize hp2 : PartD.cellsL p2 = P2 at ny
        have bad : RedirD.same ⟨k1, f1, o1, v1, p1⟩ ⟨k2, f2, o2, v2, p2⟩ = false → false = r := fun h => by
          rw [← hr]
          cases hq : sameBy RedirD.same a b with
          | false => rfl
          | true =>
            have := (sameBy_iff.1 hq).2 i _ _ hx hy
            rw [h] at this
            cases this
        have next : RedirD.same ⟨k1, f1, o1, v1, p1⟩ ⟨k2, f2, o2, v2, p2⟩ = true → ∀ (j : Nat) (x y : RedirD), j < i + 1 → a[j]? = some x → b[j]? = some y → RedirD.same x y = true := fun hxy j x y hj hx' hy' => by
          rcases Nat.lt_succ_iff_lt_or_eq.1 hj with h | rfl
          · exact hs j x y h hx' hy'
          · rw [hx] at hx'
            rw [hy] at hy'
            injection hx' with hx'
            injection hy' with hy'
            subst hx' hy'
            exact hxy
        cbv
        refine ⟨_, nx, ?_⟩
        cbv
        refine ⟨_, ny, ?_⟩
        cbv
        have hcallq : call 46 [.agg [.dat (.int .i64 k1), .dat (.int .i64 f1), .dat (.int .i64 o1), .dat (.int .i64 v1), .dat (.list P1)], .agg [.dat (.int .i64 k2), .dat (.int .i64 f2), .dat (.int .i64 o2), .dat (.int .i64 v2), .dat (.list P2)]] (· = .dat (.bool (RedirD.same ⟨k1, f1, o1, v1, p1⟩ ⟨k2, f2, o2, v2, p2⟩))) := by
          cases hE
          rw [← hp1, ← hp2]
          exact c46 ⟨k1, f1, o1, v1, p1⟩ ⟨k2, f2, o2, v2, p2⟩
        generalize hq : RedirD.same ⟨k1, f1, o1, v1, p1⟩ ⟨k2, f2, o2, v2, p2⟩ = q at hcallq
        refine ⟨_, hcallq, ?_⟩
        rintro _ rfl
        cbv
        cases q
        case false =>
          cbv
          refine .eq (.boolE (bad ?_))
          exact hq
        cbv
        have hxy := next (by
          cases hE
          skip
          exact hq)
        refine ⟨⟨i + 1, hi2, hxy⟩, ?_, ?_⟩
        · show a.length - (i + 1) < a.length - i
          omega
        · cbv
          exact ⟨⟨.eq rfl, .eq rfl, .eq rfl, .eq rfl, .intE (by cases hE; exact inc_id hi2 hmax), trivial⟩, trivial⟩

def C20 (x y : NodeD) : Prop := CRet Tryz.prog 20 [x.av, y.av] (· = .dat (.bool (x.same y)))
def C49 (a b : List NodeD) : Prop := CRet Tryz.prog 49 [.dat (.list (NodeD.cellsL a)), .dat (.list (NodeD.cellsL b)), .fn 20 []] (· = .dat (.bool (NodeD.sameL a b)))
def C47 (x y : ItemD) : Prop := CRet Tryz.prog 47 [x.av, y.av] (· = .dat (.bool (x.same y)))
def C52 (a b : List ItemD) : Prop := CRet Tryz.prog 52 [.dat (.list (ItemD.cellsL a)), .dat (.list (ItemD.cellsL b)), .fn 47 []] (· = .dat (.bool (ItemD.sameL a b)))
set_option maxRecDepth 100000 in
set_option maxHeartbeats 4000000 in
theorem c49s (n : Nat) (ih : ∀ x y : NodeD, x.sz ≤ n → C20 x y) (a b : List NodeD) (hsz : NodeD.szL a ≤ n): C49 a b := by
  refine cret_of_swp mixedOrders VT_ok Tryz.func49 (code := Tryz.f49.body.get (by kernel_rfl)) (by kernel_rfl) (by kernel_rfl) rfl fun E hE hreal => ?_
  obtain ⟨ar, cm, sc, eb, wr, ln, sl, ct, ap, sb, ss, u8, mx, nth, off, sat, sok, stok, cat, bd, szs, ne, nil, call, callF⟩ := E
  have hmax : a.length ≤ maxLen := by have := real_list (hreal 0 _ rfl); rwa [NodeD.cellsL_len] at this
  clear hreal
  generalize hA : NodeD.cellsL a = A
  generalize hB : NodeD.cellsL b = B
  generalize hr : NodeD.sameL a b = r
  cbv
  generalize h1 : cm .neq _ _ = c1
  cases c1
  case true =>
    cbv
    refine .eq (.boolE ?_)
    rw [← hr]
    cases hq : NodeD.sameL a b with
    | false => rfl
    | true =>
      have := (NodeD.sameL_iff.1 hq).1
      cases hE
      simp [cmI] at h1
      rw [← hA, ← hB, NodeD.cellsL_len, NodeD.cellsL_len] at h1
      omega
  case false =>
    cbv
    have hAl : A.length = a.length := by rw [← hA, NodeD.cellsL_len]
    have hBl : B.length = b.length := by rw [← hB, NodeD.cellsL_len]
    have hlen : a.length = b.length := by
      cases hE
      simp [cmI] at h1
      omega
    refine .mk {i : Nat // i ≤ a.length ∧ ∀ (j : Nat) (x y : NodeD), j < i → a[j]? = some x → b[j]? = some y → NodeD.same x y = true} (fun i => ⟨slotsOf 32 [(1, .dat (.list B)), (2, .fn 20 []), (15, .dat (.list A)), (16, .dat (.int .i64 (ln A 0))), (17, .dat (.int .i64 i.1))], []⟩) (fun i => a.length - i.1) ⟨0, Nat.zero_le _, fun j x y h => by omega⟩ ?_ ?_
    · cbv
      exact ⟨⟨.eq rfl, .eq rfl, .eq rfl, .eq rfl, .eq rfl, trivial⟩, trivial⟩
    · rintro ⟨i, hi, hs⟩
      cbv
      generalize h2 : cm .lss _ _ = c2
      cases c2
      case false =>
        cbv
        have hi2 : i = a.length := by
          cases hE
          simp [cmI, hAl] at h2
          omega
        refine .eq (.boolE ?_)
        rw [← hr]
        refine (NodeD.sameL_iff.2 ⟨hlen, fun j x y hx hy => hs j x y ?_ hx hy⟩).symm
        rw [hi2]
        exact (List.getElem?_eq_some_iff.1 hx).1
      case true =>
        have hi2 : i < a.length := by
          cases hE
          simp [cmI, hAl] at h2
          omega
        obtain ⟨x, hx⟩ : ∃ x, a[i]? = some x := ⟨_, List.getElem?_eq_getElem hi2⟩
        obtain ⟨y, hy⟩ : ∃ y, b[i]? = some y := ⟨_, List.getElem?_eq_getElem (hlen ▸ hi2)⟩
        obtain ⟨k1, p1, n1, a1, g1, w1, r1, d1, i1⟩ := x
        obtain ⟨k2, p2, n2, a2, g2, w2, r2, d2, i2⟩ := y
        have nx : nth A (Int.ofNat i) (NodeD.cells (.mk k1 p1 n1 a1 g1 w1 r1 d1 i1)) 9 := by
          cases hE
          exact ⟨Int.natCast_nonneg i, by rw [← hA]; exact NodeD.cellsL_get hx, rfl⟩
        have ny : nth B (Int.ofNat i) (NodeD.cells (.mk k2 p2 n2 a2 g2 w2 r2 d2 i2)) 9 := by
          cases hE
          exact ⟨Int.natCast_nonneg i, by rw [← hB]; exact NodeD.cellsL_get hy, rfl⟩
        simp only [NodeD.cells] at nx ny
        generalize hg1 : g1.map AssignD.cells = G1 at nx
        generalize hw1 : w1.map WordD.cells = W1 at nx
        generalize hr1 : r1.map RedirD.cells = R1 at nx
        generalize hd1 : NodeD.cellsL d1 = D1 at nx
        generalize hi1 : ItemD.cellsL i1 = I1 at nx
        generalize hg2 : g2.map AssignD.cells = G2 at ny
        generalize hw2 : w2.map WordD.cells = W2 at ny
        generalize hr2 : r2.map RedirD.cells = R2 at ny
        generalize hd2 : NodeD.cellsL d2 = D2 at ny
        generalize hi2' : ItemD.cellsL i2 = I2 at ny
        have bad : NodeD.same (.mk k1 p1 n1 a1 g1 w1 r1 d1 i1) (.mk k2 p2 n2 a2 g2 w2 r2 d2 i2) = false → false = r := fun h => by
          rw [← hr]
          cases hq : NodeD.sameL a b with
          | false => rfl
          | true =>
            have := (NodeD.sameL_iff.1 hq).2 i _ _ hx hy
            rw [h] at this
            cases this
        have next : NodeD.same (.mk k1 p1 n1 a1 g1 w1 r1 d1 i1) (.mk k2 p2 n2 a2 g2 w2 r2 d2 i2) = true → ∀ (j : Nat) (x y : NodeD), j < i + 1 → a[j]? = some x → b[j]? = some y → NodeD.same x y = true := fun hxy j x y hj hx' hy' => by
          rcases Nat.lt_succ_iff_lt_or_eq.1 hj with h | rfl
          · exact hs j x y h hx' hy'
          · rw [hx] at hx'
            rw [hy] at hy'
            injection hx' with hx'
            injection hy' with hy'
            subst hx' hy'
            exact hxy
        cbv
        refine ⟨_, nx, ?_⟩
        cbv
        refine ⟨_, ny, ?_⟩
        cbv
        have hcallq : call 20 [.agg [.dat (.int .i64 k1), .dat (.int .i64 p1), .dat (.str n1), .dat (.bool a1), .dat (.list G1), .dat (.list W1), .dat (.list R1), .dat (.list D1), .dat (.list I1)], .agg [.dat (.int .i64 k2), .dat (.int .i64 p2), .dat (.str n2), .dat (.bool a2), .dat (.list G2), .dat (.list W2), .dat (.list R2), .dat (.list D2), .dat (.list I2)]] (· = .dat (.bool (NodeD.same (.mk k1 p1 n1 a1 g1 w1 r1 d1 i1) (.mk k2 p2 n2 a2 g2 w2 r2 d2 i2)))) := by
          cases hE
          rw [← hg1, ← hw1, ← hr1, ← hd1, ← hi1, ← hg2, ← hw2, ← hr2, ← hd2, ← hi2']
          refine ih (.mk k1 p1 n1 a1 g1 w1 r1 d1 i1) (.mk k2 p2 n2 a2 g2 w2 r2 d2 i2) ?_
          exact Nat.le_trans (by rw [NodeD.szL_by]; exact szBy_mem hx) hsz
        generalize hq : NodeD.same (.mk k1 p1 n1 a1 g1 w1 r1 d1 i1) (.mk k2 p2 n2 a2 g2 w2 r2 d2 i2) = q at hcallq
        refine ⟨_, hcallq, ?_⟩
        rintro _ rfl
        cbv
        cases q
        case false =>
          cbv
          refine .eq (.boolE (bad ?_))
          exact hq
        cbv
        have hxy := next (by
          cases hE
          skip
          exact hq)
        refine ⟨⟨i + 1, hi2, hxy⟩, ?_, ?_⟩
        · show a.length - (i + 1) < a.length - i
          omega
        · cbv
          exact ⟨⟨.eq rfl, .eq rfl, .eq rfl, .eq rfl, .intE (by cases hE; exact inc_id hi2 hmax), trivial⟩, trivial⟩

set_option maxRecDepth 100000 in
set_option maxHeartbeats 4000000 in
theorem c47s (n : Nat) (ih : ∀ x y : NodeD, x.sz ≤ n → C20 x y) (x y : ItemD) (hsz : x.sz ≤ n) : C47 x y := by
  obtain ⟨p1, d1⟩ := x
  obtain ⟨p2, d2⟩ := y
  refine cret_of_swp mixedOrders VT_ok Tryz.func47 (code := Tryz.f47.body.get (by kernel_rfl)) (by kernel_rfl) (by kernel_rfl) rfl fun E hE hreal => ?_
  obtain ⟨ar, cm, sc, eb, wr, ln, sl, ct, ap, sb, ss, u8, mx, nth, off, sat, sok, stok, cat, bd, szs, ne, nil, call, callF⟩ := E
  clear hreal
  simp only [ItemD.av, ItemD.cells, List.map_cons, List.map_nil]
  generalize hp1 : p1.map WordD.cells = P1
  generalize hp2 : p2.map WordD.cells = P2
  generalize hd1 : NodeD.cellsL d1 = D1
  generalize hd2 : NodeD.cellsL d2 = D2
  generalize hr : ItemD.same (.mk p1 d1) (.mk p2 d2) = r
  cbv
  have hcallq : call 48 [.dat (.list P1), .dat (.list P2), .fn 45 []] (· = .dat (.bool (sameBy WordD.same p1 p2))) := by
    cases hE
    rw [← hp1, ← hp2]
    exact c48 p1 p2
  generalize hq : sameBy WordD.same p1 p2 = q at hcallq
  refine ⟨_, hcallq, ?_⟩
  rintro _ rfl
  cbv
  cases q
  case false =>
    cbv
    refine .eq (.boolE ?_)
    rw [← hr]
    cases hE
    simp [ItemD.same, hq]
  cbv
  have hcallq2 : call 49 [.dat (.list D1), .dat (.list D2), .fn 20 []] (· = .dat (.bool (NodeD.sameL d1 d2))) := by
    cases hE
    rw [← hd1, ← hd2]
    refine c49s n ih d1 d2 ?_
    have h1 := hsz
    simp [ItemD.sz] at h1
    omega
  generalize hq2 : NodeD.sameL d1 d2 = q2 at hcallq2
  refine ⟨_, hcallq2, ?_⟩
  rintro _ rfl
  cbv
  cases q2
  case false =>
    cbv
    refine .eq (.boolE ?_)
    rw [← hr]
    cases hE
    simp [ItemD.same, hq2]
  cbv
  refine .eq (.boolE ?_)
  rw [← hr]
  cases hE
  skip
  simp [ItemD.same, hq, hq2]

set_option maxRecDepth 100000 in
set_option maxHeartbeats 4000000 in
theorem c52s (n : Nat) (ih : ∀ x y : NodeD, x.sz ≤ n → C20 x y) (a b : List ItemD) (hsz : ItemD.szL a ≤ n): C52 a b := by
  refine cret_of_swp mixedOrders VT_ok Tryz.func52 (code := Tryz.f52.body.get (by kernel_rfl)) (by kernel_rfl) (by kernel_rfl) rfl fun E hE hreal => ?_
  obtain ⟨ar, cm, sc, eb, wr, ln, sl, ct, ap, sb, ss, u8, mx, nth, off, sat, sok, stok, cat, bd, szs, ne, nil, call, callF⟩ := E
  have hmax : a.length ≤ maxLen := by have := real_list (hreal 0 _ rfl); rwa [ItemD.cellsL_len] at this
  clear hreal
  generalize hA : ItemD.cellsL a = A
  generalize hB : ItemD.cellsL b = B
  generalize hr : ItemD.sameL a b = r
  cbv
  generalize h1 : cm .neq _ _ = c1
  cases c1
  case true =>
    cbv
    refine .eq (.boolE ?_)
    rw [← hr]
    cases hq : ItemD.sameL a b with
    | false => rfl
    | true =>
      have := (ItemD.sameL_iff.1 hq).1
      cases hE
      simp [cmI] at h1
      rw [← hA, ← hB, ItemD.cellsL_len, ItemD.cellsL_len] at h1
      omega
  case false =>
    cbv
    have hAl : A.length = a.length := by rw [← hA, ItemD.cellsL_len]
    have hBl : B.length = b.length := by rw [← hB, ItemD.cellsL_len]
    have hlen : a.length = b.length := by
      cases hE
      simp [cmI] at h1
      omega
    refine .mk {i : Nat // i ≤ a.length ∧ ∀ (j : Nat) (x y : ItemD), j < i → a[j]? = some x → b[j]? = some y → ItemD.same x y = true} (fun i => ⟨slotsOf 32 [(1, .dat (.list B)), (2, .fn 47 []), (15, .dat (.list A)), (16, .dat (.int .i64 (ln A 0))), (17, .dat (.int .i64 i.1))], []⟩) (fun i => a.length - i.1) ⟨0, Nat.zero_le _, fun j x y h => by omega⟩ ?_ ?_
    · cbv
      exact ⟨⟨.eq rfl, .eq rfl, .eq rfl, .eq rfl, .eq rfl, trivial⟩, trivial⟩
    · rintro ⟨i, hi, hs⟩
      cbv
      generalize h2 : cm .lss _ _ = c2
      cases c2
      case false =>
        cbv
        have hi2 : i = a.length := by
          cases hE
          simp [cmI, hAl] at h2
          omega
        refine .eq (.boolE ?_)
        rw [← hr]
        refine (ItemD.sameL_iff.2 ⟨hlen, fun j x y hx hy => hs j x y ?_ hx hy⟩).symm
        rw [hi2]
        exact (List.getElem?_eq_some_iff.1 hx).1
      case true =>
        have hi2 : i < a.length := by
          cases hE
          simp [cmI, hAl] at h2
          omega
        obtain ⟨x, hx⟩ : ∃ x, a[i]? = some x := ⟨_, List.getElem?_eq_getElem hi2⟩
        obtain ⟨y, hy⟩ : ∃ y, b[i]? = some y := ⟨_, List.getElem?_eq_getElem (hlen ▸ hi2)⟩
        obtain ⟨p1, d1⟩ := x
        obtain ⟨p2, d2⟩ := y
        have nx : nth A (Int.ofNat i) (ItemD.cells (.mk p1 d1)) 2 := by
          cases hE
          exact ⟨Int.natCast_nonneg i, by rw [← hA]; exact ItemD.cellsL_get hx, rfl⟩
        have ny : nth B (Int.ofNat i) (ItemD.cells (.mk p2 d2)) 2 := by
          cases hE
          exact ⟨Int.natCast_nonneg i, by rw [← hB]; exact ItemD.cellsL_get hy, rfl⟩
        simp only [ItemD.cells] at nx ny
        generalize hp1 : p1.map WordD.cells = P1 at nx
        generalize hp2 : p2.map WordD.cells = P2 at ny
        generalize hd1 : NodeD.cellsL d1 = D1 at nx
        generalize hd2 : NodeD.cellsL d2 = D2 at ny
        have bad : ItemD.same (.mk p1 d1) (.mk p2 d2) = false → false = r := fun h => by
          rw [← hr]
          cases hq : ItemD.sameL a b with
          | false => rfl
          | true =>
            have := (ItemD.sameL_iff.1 hq).2 i _ _ hx hy
            rw [h] at this
            cases this
        have next : ItemD.same (.mk p1 d1) (.mk p2 d2) = true → ∀ (j : Nat) (x y : ItemD), j < i + 1 → a[j]? = some x → b[j]? = some y → ItemD.same x y = true := fun hxy j x y hj hx' hy' => by
          rcases Nat.lt_succ_iff_lt_or_eq.1 hj with h | rfl
          · exact hs j x y h hx' hy'
          · rw [hx] at hx'
            rw [hy] at hy'
            injection hx' with hx'
            injection hy' with hy'
            subst hx' hy'
            exact hxy
        cbv
        refine ⟨_, nx, ?_⟩
        cbv
        refine ⟨_, ny, ?_⟩
        cbv
        have hcallq : call 47 [.agg [.dat (.list P1), .dat (.list D1)], .agg [.dat (.list P2), .dat (.list D2)]] (· = .dat (.bool (ItemD.same (.mk p1 d1) (.mk p2 d2)))) := by
          cases hE
          rw [← hp1, ← hp2, ← hd1, ← hd2]
          exact c47s n ih (.mk p1 d1) (.mk p2 d2) (Nat.le_trans (by rw [ItemD.szL_by]; exact szBy_mem hx) hsz)
        generalize hq : ItemD.same (.mk p1 d1) (.mk p2 d2) = q at hcallq
        refine ⟨_, hcallq, ?_⟩
        rintro _ rfl
        cbv
        cases q
        case false =>
          cbv
          refine .eq (.boolE (bad ?_))
          exact hq
        cbv
        have hxy := next (by
          cases hE
          skip
          exact hq)
        refine ⟨⟨i + 1, hi2, hxy⟩, ?_, ?_⟩
        · show a.length - (i + 1) < a.length - i
          omega
        · cbv
          exact ⟨⟨.eq rfl, .eq rfl, .eq rfl, .eq rfl, .intE (by cases hE; exact inc_id hi2 hmax), trivial⟩, trivial⟩

set_option maxRecDepth 100000 in
set_option maxHeartbeats 4000000 in
theorem c20s (n : Nat) (ih : ∀ x y : NodeD, x.sz ≤ n → C20 x y) (x y : NodeD) (hsz : x.sz ≤ n + 1) : C20 x y := by
  obtain ⟨k1, p1, n1, a1, g1, w1, r1, d1, i1⟩ := x
  obtain ⟨k2, p2, n2, a2, g2, w2, r2, d2, i2⟩ := y
  refine cret_of_swp mixedOrders VT_ok Tryz.func20 (code := Tryz.f20.body.get (by kernel_rfl)) (by kernel_rfl) (by kernel_rfl) rfl fun E hE hreal => ?_
  obtain ⟨ar, cm, sc, eb, wr, ln, sl, ct, ap, sb, ss, u8, mx, nth, off, sat, sok, stok, cat, bd, szs, ne, nil, call, callF⟩ := E
  clear hreal
  simp only [NodeD.av, NodeD.cells, List.map_cons, List.map_nil]
  generalize hg1 : g1.map AssignD.cells = G1
  generalize hw1 : w1.map WordD.cells = W1
  generalize hr1 : r1.map RedirD.cells = R1
  generalize hd1 : NodeD.cellsL d1 = D1
  generalize hi1 : ItemD.cellsL i1 = I1
  generalize hg2 : g2.map AssignD.cells = G2
  generalize hw2 : w2.map WordD.cells = W2
  generalize hr2 : r2.map RedirD.cells = R2
  generalize hd2 : NodeD.cellsL d2 = D2
  generalize hi2 : ItemD.cellsL i2 = I2
  generalize hr : NodeD.same (.mk k1 p1 n1 a1 g1 w1 r1 d1 i1) (.mk k2 p2 n2 a2 g2 w2 r2 d2 i2) = r
  cbv
  generalize h3 : cm .eql _ _ = c3
  cases c3
  case false =>
    cbv
    refine .eq (.boolE ?_)
    rw [← hr]
    cases hE
    simp [cmI] at h3
    simp [NodeD.same, h3]
  cbv
  generalize h4 : sc .eql _ _ = c4
  cases c4
  case false =>
    cbv
    refine .eq (.boolE ?_)
    rw [← hr]
    cases hE
    simp [scS] at h4
    simp [NodeD.same, h4]
  cbv
  generalize h5 : eb _ _ = c5
  cases c5
  case false =>
    cbv
    refine .eq (.boolE ?_)
    rw [← hr]
    cases hE
    simp [] at h5
    simp [NodeD.same, h5]
  cbv
  have hcallq1 : call 50 [.dat (.list G1), .dat (.list G2), .fn 44 []] (· = .dat (.bool (sameBy AssignD.same g1 g2))) := by
    cases hE
    rw [← hg1, ← hg2]
    exact c50 g1 g2
  generalize hq1 : sameBy AssignD.same g1 g2 = q1 at hcallq1
  refine ⟨_, hcallq1, ?_⟩
  rintro _ rfl
  cbv
  cases q1
  case false =>
    cbv
    refine .eq (.boolE ?_)
    rw [← hr]
    cases hE
    simp [NodeD.same, hq1]
  cbv
  have hcallq2 : call 48 [.dat (.list W1), .dat (.list W2), .fn 45 []] (· = .dat (.bool (sameBy WordD.same w1 w2))) := by
    cases hE
    rw [← hw1, ← hw2]
    exact c48 w1 w2
  generalize hq2 : sameBy WordD.same w1 w2 = q2 at hcallq2
  refine ⟨_, hcallq2, ?_⟩
  rintro _ rfl
  cbv
  cases q2
  case false =>
    cbv
    refine .eq (.boolE ?_)
    rw [← hr]
    cases hE
    simp [NodeD.same, hq2]
  cbv
  have hcallq3 : call 51 [.dat (.list R1), .dat (.list R2), .fn 46 []] (· = .dat (.bool (sameBy RedirD.same r1 r2))) := by
    cases hE
    rw [← hr1, ← hr2]
    exact c51 r1 r2
  generalize hq3 : sameBy RedirD.same r1 r2 = q3 at hcallq3
  refine ⟨_, hcallq3, ?_⟩
  rintro _ rfl
  cbv
  cases q3
  case false =>
    cbv
    refine .eq (.boolE ?_)
    rw [← hr]
    cases hE
    simp [NodeD.same, hq3]
  cbv
  have hcallq4 : call 49 [.dat (.list D1), .dat (.list D2), .fn 20 []] (· = .dat (.bool (NodeD.sameL d1 d2))) := by
    cases hE
    rw [← hd1, ← hd2]
    refine c49s n ih d1 d2 ?_
    have h1 := hsz
    simp [NodeD.sz] at h1
    omega
  generalize hq4 : NodeD.sameL d1 d2 = q4 at hcallq4
  refine ⟨_, hcallq4, ?_⟩
  rintro _ rfl
  cbv
  cases q4
  case false =>
    cbv
    refine .eq (.boolE ?_)
    rw [← hr]
    cases hE
    simp [NodeD.same, hq4]
  cbv
  have hcallq5 : call 52 [.dat (.list I1), .dat (.list I2), .fn 47 []] (· = .dat (.bool (ItemD.sameL i1 i2))) := by
    cases hE
    rw [← hi1, ← hi2]
    refine c52s n ih i1 i2 ?_
    have h1 := hsz
    simp [NodeD.sz] at h1
    omega
  generalize hq5 : ItemD.sameL i1 i2 = q5 at hcallq5
  refine ⟨_, hcallq5, ?_⟩
  rintro _ rfl
  cbv
  cases q5
  case false =>
    cbv
    refine .eq (.boolE ?_)
    rw [← hr]
    cases hE
    simp [NodeD.same, hq5]
  cbv
  refine .eq (.boolE ?_)
  rw [← hr]
  cases hE
  simp [cmI] at h3
  simp [scS] at h4
  simp at h5
  simp [NodeD.same, h3, h4, h5, hq1, hq2, hq3, hq4, hq5]

theorem c20 (x y : NodeD) : C20 x y := by
  have key : ∀ n (x y : NodeD), x.sz ≤ n → C20 x y := fun n => by
    induction n with
    | zero => intro x y h; have := x.sz_pos; omega
    | succ n ih => exact c20s n ih
  exact key _ x y (Nat.le_refl _)
end Go.Proofs.YtdfcjodkmjofgaaGreat
/-
  The nodes and the words in a node; the weight.
-/
namespace Go.Proofs.YtdfcjodkmjofgaaGreat
open Go.RowKit

def C40 (x : NodeD) : Prop := CRet Tryz.prog 40 [x.av] (· = .dat (.list (NodeD.cellsL x.kidsL)))
set_option maxRecDepth 100000 in
set_option maxHeartbeats 4000000 in
theorem c40 (x : NodeD) (hsz : x.sz ≤ 2097152) : C40 x := by
  obtain ⟨k1, p1, n1, a1, g1, w1, r1, d1, i1⟩ := x
  refine cret_of_swp mixedOrders VT_ok Tryz.func40 (code := Tryz.f40.body.get (by kernel_rfl)) (by kernel_rfl) (by kernel_rfl) rfl fun E hE hreal => ?_
  obtain ⟨ar, cm, sc, eb, wr, ln, sl, ct, ap, sb, ss, u8, mx, nth, off, sat, sok, stok, cat, bd, szs, ne, nil, call, callF⟩ := E
  clear hreal
  have mg : g1.length ≤ maxLen := by unfold maxLen; have := szBy_len AssignD.sz_pos g1; simp only [NodeD.sz] at hsz; omega
  have mr : r1.length ≤ maxLen := by unfold maxLen; have := szBy_len RedirD.sz_pos r1; simp only [NodeD.sz] at hsz; omega
  have mi : i1.length ≤ maxLen := by unfold maxLen; have := szBy_len ItemD.sz_pos i1; rw [← ItemD.szL_by] at this; simp only [NodeD.sz] at hsz; omega
  have bnd : ∀ i, (d1.length + ((i1.take i).flatMap ItemD.body).length) ≤ 2097152 := fun i => by
    have h1 := take_flat ItemD.body ItemD.sz body_len i1 i
    have h2 := szBy_len NodeD.sz_pos d1
    rw [← NodeD.szL_by] at h2
    rw [← ItemD.szL_by] at h1
    simp only [NodeD.sz] at hsz
    omega
  simp only [NodeD.av, NodeD.cells, NodeD.kidsL, List.map_cons, List.map_nil]
  generalize hg1 : g1.map AssignD.cells = G1
  generalize hw1 : w1.map WordD.cells = W1
  generalize hr1 : r1.map RedirD.cells = R1
  generalize hd1 : NodeD.cellsL d1 = D1
  generalize hi1 : ItemD.cellsL i1 = I1
  generalize hr : NodeD.cellsL (d1 ++ i1.flatMap ItemD.body) = r
  obtain ⟨F, hF⟩ : ∃ F : Nat → List (List Dat), ∀ i, F i = NodeD.cellsL (d1 ++ (i1.take i).flatMap ItemD.body) := ⟨_, fun _ => rfl⟩
  cbv
  refine ⟨?_, ?_, ?_⟩
  · cases hE
    intro q hq
    rw [← hd1, NodeD.cellsL_map] at hq
    obtain ⟨x, _, rfl⟩ := List.mem_map.1 hq
    exact x.cells_len
  · cases hE
    show ([].length + D1.length) * 160 ≤ 140737488355328
    have := bnd 0
    rw [← hd1, NodeD.cellsL_len]
    simp at this ⊢
    omega
  cbv
  have hLl : I1.length = i1.length := by rw [← hi1, ItemD.cellsL_len]
  refine .mk ({i : Nat // i ≤ i1.length} × Unit) (fun q => ⟨slotsOf 25 [(1, .ptr 0 0), (3, .own 8 28 (F q.1.1)), (4, .dat (.int .i64 q.1.1))], [(28, [.dat (.int .i64 k1), .dat (.int .i64 p1), .dat (.str n1), .dat (.bool a1), .dat (.list G1), .dat (.list W1), .dat (.list R1), .dat (.list D1), .dat (.list I1)])]⟩) (fun q => i1.length - q.1.1) (⟨0, Nat.zero_le _⟩, ()) ?_ ?_
  · cbv
    and_intros <;> first | exact True.intro | exact LeV.eq rfl | (exact LeV.ownE (by cases hE; rw [hF, ← hd1]; simp))
  · rintro ⟨⟨i, hi⟩, _⟩
    cbv
    generalize h2 : cm .lss _ _ = c2
    cases c2
    case false =>
      have hi2 : i = i1.length := by
        cases hE
        simp [cmI, hLl] at h2
        omega
      subst hi2
      cbv
      refine .eq (.ownD _ _ ?_)
      rw [← hr, hF, List.take_length]
    case true =>
      have hi2 : i < i1.length := by
        cases hE
        simp [cmI, hLl] at h2
        omega
      clear h2
      obtain ⟨x, hx⟩ : ∃ x, i1[i]? = some x := ⟨_, List.getElem?_eq_getElem hi2⟩
      obtain ⟨p2, b2⟩ := x
      have nx : nth I1 (Int.ofNat i) (ItemD.cells (.mk p2 b2)) 2 := by
        cases hE
        exact ⟨Int.natCast_nonneg i, by rw [← hi1]; exact ItemD.cellsL_get hx, rfl⟩
      simp only [ItemD.cells] at nx
      generalize hp2 : p2.map WordD.cells = P2 at nx
      generalize hb2 : NodeD.cellsL b2 = B2 at nx
      cbv
      refine ⟨_, nx, ?_⟩
      cbv
      refine ⟨?_, ?_, ?_⟩
      · cases hE
        intro q hq
        rw [← hb2, NodeD.cellsL_map] at hq
        obtain ⟨x, _, rfl⟩ := List.mem_map.1 hq
        exact x.cells_len
      · cases hE
        show ((F i).length + B2.length) * 160 ≤ 140737488355328
        have := bnd (i + 1)
        rw [hF, ← hb2, NodeD.cellsL_len, NodeD.cellsL_len]
        simp [List.take_add_one, hx, ItemD.body] at this ⊢
        omega
      cbv
      refine ⟨(⟨i + 1, hi2⟩, ()), ?_, ?_⟩
      · show i1.length - (i + 1) < i1.length - i
        omega
      · cbv
        and_intros <;> first | exact True.intro | exact LeV.eq rfl | (exact LeV.ownE (by cases hE; rw [hF, hF, ← hb2]; simp [List.take_add_one, hx, ItemD.body, NodeD.cellsL_map])) | (exact LeV.intE (by cases hE; exact inc_id hi2 mi))

end Go.Proofs.YtdfcjodkmjofgaaGreat
/-
  The words in a node; the weight.
-/
namespace Go.Proofs.YtdfcjodkmjofgaaGreat
open Go.RowKit

def C38 (x : NodeD) : Prop := CRet Tryz.prog 38 [x.av] (· = .dat (.list (x.wordsL.map WordD.cells)))
set_option maxRecDepth 100000 in
set_option maxHeartbeats 4000000 in
theorem c38 (x : NodeD) (hsz : x.sz ≤ 2097152) : C38 x := by
  obtain ⟨k1, p1, n1, a1, g1, w1, r1, d1, i1⟩ := x
  refine cret_of_swp mixedOrders VT_ok Tryz.func38 (code := Tryz.f38.body.get (by kernel_rfl)) (by kernel_rfl) (by kernel_rfl) rfl fun E hE hreal => ?_
  obtain ⟨ar, cm, sc, eb, wr, ln, sl, ct, ap, sb, ss, u8, mx, nth, off, sat, sok, stok, cat, bd, szs, ne, nil, call, callF⟩ := E
  clear hreal
  have mg : g1.length ≤ maxLen := by unfold maxLen; have := szBy_len AssignD.sz_pos g1; simp only [NodeD.sz] at hsz; omega
  have mr : r1.length ≤ maxLen := by unfold maxLen; have := szBy_len RedirD.sz_pos r1; simp only [NodeD.sz] at hsz; omega
  have mi : i1.length ≤ maxLen := by unfold maxLen; have := szBy_len ItemD.sz_pos i1; rw [← ItemD.szL_by] at this; simp only [NodeD.sz] at hsz; omega
  have bnd : ∀ i, g1.length + w1.length + r1.length + ((i1.take i).flatMap ItemD.pats).length ≤ 2097152 := fun i => by
    have h1 := take_flat ItemD.pats ItemD.sz pats_len i1 i
    have h2 := szBy_len AssignD.sz_pos g1
    have h3 := szBy_len WordD.sz_pos w1
    have h4 := szBy_len RedirD.sz_pos r1
    rw [← ItemD.szL_by] at h1
    simp only [NodeD.sz] at hsz
    omega
  simp only [NodeD.av, NodeD.cells, NodeD.wordsL, List.map_cons, List.map_nil]
  generalize hg1 : g1.map AssignD.cells = G1
  generalize hw1 : w1.map WordD.cells = W1
  generalize hr1 : r1.map RedirD.cells = R1
  generalize hd1 : NodeD.cellsL d1 = D1
  generalize hi1 : ItemD.cellsL i1 = I1
  generalize hr : List.map WordD.cells (g1.map AssignD.value ++ w1 ++ r1.map RedirD.target ++ i1.flatMap ItemD.pats) = r
  obtain ⟨F1, hF1⟩ : ∃ F : Nat → List (List Dat), ∀ i, F i = ((g1.take i).map AssignD.value).map WordD.cells := ⟨_, fun _ => rfl⟩
  obtain ⟨F2, hF2⟩ : ∃ F : Nat → List (List Dat), ∀ i, F i = (g1.map AssignD.value ++ w1 ++ (r1.take i).map RedirD.target).map WordD.cells := ⟨_, fun _ => rfl⟩
  obtain ⟨F3, hF3⟩ : ∃ F : Nat → List (List Dat), ∀ i, F i = (g1.map AssignD.value ++ w1 ++ r1.map RedirD.target ++ (i1.take i).flatMap ItemD.pats).map WordD.cells := ⟨_, fun _ => rfl⟩
  cbv
  have hLl : G1.length = g1.length := by rw [← hg1, List.length_map]
  refine .mk ({i : Nat // i ≤ g1.length} × Unit) (fun q => ⟨slotsOf 59 [(1, .ptr 0 0), (3, .own 22 56 (F1 q.1.1)), (4, .dat (.int .i64 q.1.1))], [(28, [.dat (.int .i64 k1), .dat (.int .i64 p1), .dat (.str n1), .dat (.bool a1), .dat (.list G1), .dat (.list W1), .dat (.list R1), .dat (.list D1), .dat (.list I1)])]⟩) (fun q => g1.length - q.1.1) (⟨0, Nat.zero_le _⟩, ()) ?_ ?_
  · cbv
    and_intros <;> first | exact True.intro | exact LeV.eq rfl | (exact LeV.nilsO (by rw [hF1]; simp))
  · rintro ⟨⟨i, hi⟩, _⟩
    cbv
    generalize h2 : cm .lss _ _ = c2
    cases c2
    case false =>
      have hi2 : i = g1.length := by
        cases hE
        simp [cmI, hLl] at h2
        omega
      subst hi2
      cbv
      refine ⟨?_, ?_, ?_⟩
      · cases hE
        intro q hq
        rw [← hw1] at hq
        obtain ⟨x, _, rfl⟩ := List.mem_map.1 hq
        rfl
      · cases hE
        show ((F1 g1.length).length + W1.length) * 32 ≤ 140737488355328
        have := bnd 0
        rw [hF1, ← hw1]
        simp at this ⊢
        omega
      cbv
      have hLl : R1.length = r1.length := by rw [← hr1, List.length_map]
      refine .mk ({i : Nat // i ≤ r1.length} × Unit) (fun q => ⟨slotsOf 59 [(1, .ptr 0 0), (3, .own 22 56 (F2 q.1.1)), (5, .dat (.int .i64 q.1.1))], [(28, [.dat (.int .i64 k1), .dat (.int .i64 p1), .dat (.str n1), .dat (.bool a1), .dat (.list G1), .dat (.list W1), .dat (.list R1), .dat (.list D1), .dat (.list I1)])]⟩) (fun q => r1.length - q.1.1) (⟨0, Nat.zero_le _⟩, ()) ?_ ?_
      · cbv
        and_intros <;> first | exact True.intro | exact LeV.eq rfl | (exact LeV.ownE (by cases hE; rw [hF1, hF2, ← hw1]; simp))
      · rintro ⟨⟨i, hi⟩, _⟩
        cbv
        generalize h2 : cm .lss _ _ = c2
        cases c2
        case false =>
          have hi2 : i = r1.length := by
            cases hE
            simp [cmI, hLl] at h2
            omega
          subst hi2
          cbv
          have hLl : I1.length = i1.length := by rw [← hi1, ItemD.cellsL_len]
          refine .mk ({i : Nat // i ≤ i1.length} × Unit) (fun q => ⟨slotsOf 59 [(1, .ptr 0 0), (3, .own 22 56 (F3 q.1.1)), (6, .dat (.int .i64 q.1.1))], [(28, [.dat (.int .i64 k1), .dat (.int .i64 p1), .dat (.str n1), .dat (.bool a1), .dat (.list G1), .dat (.list W1), .dat (.list R1), .dat (.list D1), .dat (.list I1)])]⟩) (fun q => i1.length - q.1.1) (⟨0, Nat.zero_le _⟩, ()) ?_ ?_
          · cbv
            and_intros <;> first | exact True.intro | exact LeV.eq rfl | (exact LeV.ownE (by cases hE; rw [hF2, hF3]; simp))
          · rintro ⟨⟨i, hi⟩, _⟩
            cbv
            generalize h2 : cm .lss _ _ = c2
            cases c2
            case false =>
              have hi2 : i = i1.length := by
                cases hE
                simp [cmI, hLl] at h2
                omega
              subst hi2
              cbv
              refine .eq (.ownD _ _ ?_)
              rw [← hr, hF3, List.take_length]
            case true =>
              have hi2 : i < i1.length := by
                cases hE
                simp [cmI, hLl] at h2
                omega
              clear h2
              obtain ⟨x, hx⟩ : ∃ x, i1[i]? = some x := ⟨_, List.getElem?_eq_getElem hi2⟩
              obtain ⟨p2, b2⟩ := x
              have nx : nth I1 (Int.ofNat i) (ItemD.cells (.mk p2 b2)) 2 := by
                cases hE
                exact ⟨Int.natCast_nonneg i, by rw [← hi1]; exact ItemD.cellsL_get hx, rfl⟩
              simp only [ItemD.cells] at nx
              generalize hp2 : p2.map WordD.cells = P2 at nx
              generalize hb2 : NodeD.cellsL b2 = B2 at nx
              cbv
              refine ⟨_, nx, ?_⟩
              cbv
              refine ⟨?_, ?_, ?_⟩
              · cases hE
                intro q hq
                rw [← hp2] at hq
                obtain ⟨x, _, rfl⟩ := List.mem_map.1 hq
                rfl
              · cases hE
                show ((F3 i).length + P2.length) * 32 ≤ 140737488355328
                have := bnd (i + 1)
                rw [hF3, ← hp2]
                simp [List.take_add_one, hx, ItemD.pats] at this ⊢
                omega
              cbv
              refine ⟨(⟨i + 1, hi2⟩, ()), ?_, ?_⟩
              · show i1.length - (i + 1) < i1.length - i
                omega
              · cbv
                and_intros <;> first | exact True.intro | exact LeV.eq rfl | (exact LeV.ownE (by cases hE; rw [hF3, hF3, ← hp2]; simp [List.take_add_one, hx, ItemD.pats])) | (exact LeV.intE (by cases hE; exact inc_id hi2 mi))
        case true =>
          have hi2 : i < r1.length := by
            cases hE
            simp [cmI, hLl] at h2
            omega
          clear h2
          obtain ⟨x, hx⟩ : ∃ x, r1[i]? = some x := ⟨_, List.getElem?_eq_getElem hi2⟩
          obtain ⟨k2, f2, o2, v2, p2⟩ := x
          have nx : nth R1 (Int.ofNat i) (RedirD.cells ⟨k2, f2, o2, v2, p2⟩) 5 := by
            cases hE
            exact ⟨Int.natCast_nonneg i, by rw [← hr1]; simp [hx], rfl⟩
          simp only [RedirD.cells] at nx
          generalize hp2 : PartD.cellsL p2 = P2 at nx
          cbv
          refine ⟨_, nx, ?_⟩
          cbv
          refine ⟨?_, ?_, ?_⟩
          · cases hE
            intro q hq
            simp at hq
            subst hq
            rfl
          · cases hE
            show ((F2 i).length + ([_] : List (List Dat)).length) * 32 ≤ 140737488355328
            have := bnd 0
            rw [hF2]
            simp at this ⊢
            omega
          cbv
          refine ⟨(⟨i + 1, hi2⟩, ()), ?_, ?_⟩
          · show r1.length - (i + 1) < r1.length - i
            omega
          · cbv
            and_intros <;> first | exact True.intro | exact LeV.eq rfl | (exact LeV.ownE (by cases hE; rw [hF2, hF2, ← hp2]; simp [List.take_add_one, hx, RedirD.target, WordD.cells])) | (exact LeV.intE (by cases hE; exact inc_id hi2 mr))
    case true =>
      have hi2 : i < g1.length := by
        cases hE
        simp [cmI, hLl] at h2
        omega
      clear h2
      obtain ⟨x, hx⟩ : ∃ x, g1[i]? = some x := ⟨_, List.getElem?_eq_getElem hi2⟩
      obtain ⟨k2, t2, v2, p2⟩ := x
      have nx : nth G1 (Int.ofNat i) (AssignD.cells ⟨k2, t2, v2, p2⟩) 4 := by
        cases hE
        exact ⟨Int.natCast_nonneg i, by rw [← hg1]; simp [hx], rfl⟩
      simp only [AssignD.cells] at nx
      generalize hp2 : PartD.cellsL p2 = P2 at nx
      cbv
      refine ⟨_, nx, ?_⟩
      cbv
      refine ⟨?_, ?_, ?_⟩
      · cases hE
        intro q hq
        simp at hq
        subst hq
        rfl
      · cases hE
        show ((F1 i).length + ([_] : List (List Dat)).length) * 32 ≤ 140737488355328
        have := bnd 0
        rw [hF1]
        simp at this ⊢
        omega
      cbv
      refine ⟨(⟨i + 1, hi2⟩, ()), ?_, ?_⟩
      · show g1.length - (i + 1) < g1.length - i
        omega
      · cbv
        and_intros <;> first | exact True.intro | exact LeV.eq rfl | (exact LeV.ownE (by cases hE; rw [hF1, hF1, ← hp2]; simp [List.take_add_one, hx, AssignD.value, WordD.cells])) | (exact LeV.intE (by cases hE; exact inc_id hi2 mg))

end Go.Proofs.YtdfcjodkmjofgaaGreat
/-
  The weight of parts and of nodes is some number.
-/
namespace Go.Proofs.YtdfcjodkmjofgaaGreat
open Go.RowKit

def isPair (r : AV) : Prop := ∃ x y, r = .tup [.dat (.int .i64 x), .dat (.int .i64 y)]
def isInt (r : AV) : Prop := ∃ x, r = .dat (.int .i64 x)
def C39 (a : List PartD) : Prop := CRet Tryz.prog 39 [.dat (.list (PartD.cellsL a))] isPair
def C11 (x : NodeD) : Prop := CRet Tryz.prog 11 [x.av] isInt
theorem kids_len (x : NodeD) : x.kidsL.length ≤ x.sz := by
  cases x with
  | mk k p n a g w r d is =>
    have h1 := take_flat ItemD.body ItemD.sz body_len is is.length
    have h2 := szBy_len NodeD.sz_pos d
    rw [← NodeD.szL_by] at h2
    rw [← ItemD.szL_by, List.take_length] at h1
    simp only [NodeD.sz, NodeD.kidsL, List.length_append]
    omega
theorem words_len (x : NodeD) : x.wordsL.length ≤ x.sz := by
  cases x with
  | mk k p n a g w r d is =>
    have h1 := take_flat ItemD.pats ItemD.sz pats_len is is.length
    have h2 := szBy_len AssignD.sz_pos g
    have h3 := szBy_len WordD.sz_pos w
    have h4 := szBy_len RedirD.sz_pos r
    rw [← ItemD.szL_by, List.take_length] at h1
    simp only [NodeD.sz, NodeD.wordsL, List.length_append, List.length_map]
    omega
theorem szBy_of_mem {α : Type} {f : α → Nat} {l : List α} {x : α} (h : x ∈ l) : f x ≤ szBy f l := by
  obtain ⟨i, hi⟩ := List.getElem?_of_mem h
  exact szBy_mem hi
theorem kids_sz {x y : NodeD} (h : y ∈ x.kidsL) : y.sz < x.sz := by
  cases x with
  | mk k p n a g w r d is =>
    simp only [NodeD.kidsL, List.mem_append, List.mem_flatMap] at h
    simp only [NodeD.sz]
    rcases h with h | ⟨it, h1, h2⟩
    · have := szBy_of_mem (f := NodeD.sz) h
      rw [← NodeD.szL_by] at this
      omega
    · have h3 := szBy_of_mem (f := ItemD.sz) h1
      rw [← ItemD.szL_by] at h3
      cases it with
      | mk ps b =>
        have h4 := szBy_of_mem (f := NodeD.sz) h2
        simp only [ItemD.body] at h4
        rw [← NodeD.szL_by] at h4
        simp only [ItemD.sz] at h3
        omega
set_option maxRecDepth 100000 in
set_option maxHeartbeats 4000000 in
theorem c39s (n : Nat) (ih : ∀ a : List PartD, PartD.szL a < n → C39 a) (a : List PartD) (hsz : PartD.szL a < n + 1) : C39 a := by
  obtain ⟨K, hK⟩ : ∃ K, K = isPair := ⟨_, rfl⟩
  show CRet Tryz.prog 39 [.dat (.list (PartD.cellsL a))] isPair
  rw [← hK]
  refine cretK_of_swp mixedOrders VT_ok Tryz.func39 (code := Tryz.f39.body.get (by kernel_rfl)) (by kernel_rfl) (by kernel_rfl) fun E hE hreal => ?_
  obtain ⟨ar, cm, sc, eb, wr, ln, sl, ct, ap, sb, ss, u8, mx, nth, off, sat, sok, stok, cat, bd, szs, ne, nil, call, callF⟩ := E
  have hmax : a.length ≤ maxLen := by have := real_list (hreal 0 _ rfl); rwa [PartD.cellsL_len] at this
  clear hreal
  generalize hA : PartD.cellsL a = A
  cbv
  have hLl : A.length = a.length := by rw [← hA, PartD.cellsL_len]
  refine .mk ({i : Nat // i ≤ a.length} × (Int × Int)) (fun q => ⟨slotsOf 41 [(0, .dat (.list A)), (4, .dat (.int .i64 q.2.1)), (5, .dat (.int .i64 q.2.2)), (6, .dat (.int .i64 q.1.1))], []⟩) (fun q => a.length - q.1.1) (⟨0, Nat.zero_le _⟩, (ln A 0, 0)) ?_ ?_
  · cbv
    and_intros <;> first | exact True.intro | exact LeV.eq rfl | (exact LeV.intE rfl)
  · rintro ⟨⟨i, hi⟩, ⟨z1, z2⟩⟩
    cbv
    generalize h2 : cm .lss _ _ = c2
    cases c2
    case false =>
      have hi2 : i = a.length := by
        cases hE
        simp [cmI, hLl] at h2
        omega
      subst hi2
      cbv
      refine .mk (.tup [.dat (.int .i64 z1), .dat (.int .i64 z2)]) (.tup ?_) (by rw [hK]; exact ⟨_, _, rfl⟩) rfl
      exact ⟨.eq rfl, .eq rfl, trivial⟩
    case true =>
      have hi2 : i < a.length := by
        cases hE
        simp [cmI, hLl] at h2
        omega
      clear h2
      obtain ⟨x, hx⟩ : ∃ x, a[i]? = some x := ⟨_, List.getElem?_eq_getElem hi2⟩
      obtain ⟨k2, t2, o2, e2, p2⟩ := x
      have nx : nth A (Int.ofNat i) (PartD.cells (.mk k2 t2 o2 e2 p2)) 5 := by
        cases hE
        exact ⟨Int.natCast_nonneg i, by rw [← hA]; exact PartD.cellsL_get hx, rfl⟩
      simp only [PartD.cells] at nx
      generalize hp2 : PartD.cellsL p2 = P2 at nx
      have hcall : call 39 [.dat (.list P2)] K := by
        cases hE
        rw [← hp2, hK]
        refine ih p2 ?_
        have h1 := PartD.sz_mem hx
        simp [PartD.sz] at h1
        omega
      cbv
      refine ⟨_, nx, ?_⟩
      cbv
      refine ⟨_, hcall, ?_⟩
      intro r hr
      rw [hK] at hr
      obtain ⟨u, v, rfl⟩ := hr
      cbv
      refine ⟨_, nx, ?_⟩
      cbv
      refine ⟨(⟨i + 1, hi2⟩, (ar .add .i64 z1 u, ar .add .i64 (ar .add .i64 z2 v) (sl t2))), ?_, ?_⟩
      · show a.length - (i + 1) < a.length - i
        omega
      · cbv
        and_intros <;> first | exact True.intro | exact LeV.eq rfl | (exact LeV.intE (by cases hE; exact inc_id hi2 hmax))

theorem c39 (a : List PartD) : C39 a := by
  have key : ∀ n (a : List PartD), PartD.szL a < n → C39 a := fun n => by
    induction n with
    | zero => intro a h; omega
    | succ n ih => exact c39s n ih
  exact key _ a (Nat.lt_succ_self _)
set_option maxRecDepth 100000 in
set_option maxHeartbeats 4000000 in
theorem c11s (n : Nat) (ih : ∀ x : NodeD, x.sz ≤ 2097152 → x.sz ≤ n → C11 x) (x : NodeD) (hsz : x.sz ≤ 2097152) (hn : x.sz ≤ n + 1) : C11 x := by
  have kl := kids_len x
  have wl := words_len x
  have kk : ∀ y ∈ x.kidsL, C11 y := fun y hy => ih y (by have := kids_sz hy; omega) (by have := kids_sz hy; omega)
  obtain ⟨K, hK⟩ : ∃ K, K = isInt := ⟨_, rfl⟩
  obtain ⟨K2, hK2⟩ : ∃ K, K = isPair := ⟨_, rfl⟩
  show CRet Tryz.prog 11 [x.av] isInt
  rw [← hK]
  obtain ⟨k1, p1, n1, a1, g1, w1, r1, d1, i1⟩ := x
  refine cretK_of_swp mixedOrders VT_ok Tryz.func11 (code := Tryz.f11.body.get (by kernel_rfl)) (by kernel_rfl) (by kernel_rfl) fun E hE hreal => ?_
  obtain ⟨ar, cm, sc, eb, wr, ln, sl, ct, ap, sb, ss, u8, mx, nth, off, sat, sok, stok, cat, bd, szs, ne, nil, call, callF⟩ := E
  clear hreal
  have mg : g1.length ≤ maxLen := by unfold maxLen; have := szBy_len AssignD.sz_pos g1; simp only [NodeD.sz] at hsz; omega
  have mr : r1.length ≤ maxLen := by unfold maxLen; have := szBy_len RedirD.sz_pos r1; simp only [NodeD.sz] at hsz; omega
  have mi : i1.length ≤ maxLen := by unfold maxLen; have := szBy_len ItemD.sz_pos i1; rw [← ItemD.szL_by] at this; simp only [NodeD.sz] at hsz; omega
  have mw : (NodeD.wordsL (.mk k1 p1 n1 a1 g1 w1 r1 d1 i1)).length ≤ maxLen := by unfold maxLen; omega
  have mk' : (NodeD.kidsL (.mk k1 p1 n1 a1 g1 w1 r1 d1 i1)).length ≤ maxLen := by unfold maxLen; omega
  simp only [NodeD.av, NodeD.cells, List.map_cons, List.map_nil]
  generalize hg1 : g1.map AssignD.cells = G1
  generalize hw1 : w1.map WordD.cells = W1
  generalize hr1 : r1.map RedirD.cells = R1
  generalize hd1 : NodeD.cellsL d1 = D1
  generalize hi1 : ItemD.cellsL i1 = I1
  generalize hWW : NodeD.wordsL (.mk k1 p1 n1 a1 g1 w1 r1 d1 i1) = ww at mw
  generalize hKK : NodeD.kidsL (.mk k1 p1 n1 a1 g1 w1 r1 d1 i1) = kk0 at mk' kk
  generalize hWc : ww.map WordD.cells = WC
  generalize hKc : NodeD.cellsL kk0 = KC
  have h38 : call 38 [.agg [.dat (.int .i64 k1), .dat (.int .i64 p1), .dat (.str n1), .dat (.bool a1), .dat (.list G1), .dat (.list W1), .dat (.list R1), .dat (.list D1), .dat (.list I1)]] (· = .dat (.list WC)) := by
    cases hE
    rw [← hg1, ← hw1, ← hr1, ← hd1, ← hi1, ← hWc, ← hWW]
    exact c38 (.mk k1 p1 n1 a1 g1 w1 r1 d1 i1) hsz
  have h40 : call 40 [.agg [.dat (.int .i64 k1), .dat (.int .i64 p1), .dat (.str n1), .dat (.bool a1), .dat (.list G1), .dat (.list W1), .dat (.list R1), .dat (.list D1), .dat (.list I1)]] (· = .dat (.list KC)) := by
    cases hE
    rw [← hg1, ← hw1, ← hr1, ← hd1, ← hi1, ← hKc, ← hKK]
    exact c40 (.mk k1 p1 n1 a1 g1 w1 r1 d1 i1) hsz
  clear kl wl hsz hn hWW hKK
  cbv
  have hLl : G1.length = g1.length := by rw [← hg1, List.length_map]
  refine .mk ({i : Nat // i ≤ g1.length} × Int) (fun q => ⟨slotsOf 82 [(1, .ptr 0 0), (3, .dat (.int .i64 q.2)), (4, .dat (.int .i64 q.1.1))], [(28, [.dat (.int .i64 k1), .dat (.int .i64 p1), .dat (.str n1), .dat (.bool a1), .dat (.list G1), .dat (.list W1), .dat (.list R1), .dat (.list D1), .dat (.list I1)])]⟩) (fun q => g1.length - q.1.1) (⟨0, Nat.zero_le _⟩, ar .add .i64 (ar .add .i64 (ar .add .i64 (ar .add .i64 1 (sl n1)) (ln G1 0)) (ln R1 0)) (ln I1 0)) ?_ ?_
  · cbv
    and_intros <;> first | exact True.intro | exact LeV.eq rfl | (exact LeV.intE rfl)
  · rintro ⟨⟨i, hi⟩, z⟩
    cbv
    generalize h2 : cm .lss _ _ = c2
    cases c2
    case false =>
      have hi2 : i = g1.length := by
        cases hE
        simp [cmI, hLl] at h2
        omega
      subst hi2
      cbv
      refine ⟨_, h38, ?_⟩
      rintro _ rfl
      cbv
      have hLl : WC.length = ww.length := by rw [← hWc, List.length_map]
      refine .mk ({i : Nat // i ≤ ww.length} × Int) (fun q => ⟨slotsOf 82 [(1, .ptr 0 0), (3, .dat (.int .i64 q.2)), (5, .dat (.list WC)), (6, .dat (.int .i64 q.1.1))], [(28, [.dat (.int .i64 k1), .dat (.int .i64 p1), .dat (.str n1), .dat (.bool a1), .dat (.list G1), .dat (.list W1), .dat (.list R1), .dat (.list D1), .dat (.list I1)])]⟩) (fun q => ww.length - q.1.1) (⟨0, Nat.zero_le _⟩, z) ?_ ?_
      · cbv
        and_intros <;> first | exact True.intro | exact LeV.eq rfl | (exact LeV.intE rfl)
      · rintro ⟨⟨i, hi⟩, z⟩
        cbv
        generalize h2 : cm .lss _ _ = c2
        cases c2
        case false =>
          have hi2 : i = ww.length := by
            cases hE
            simp [cmI, hLl] at h2
            omega
          subst hi2
          cbv
          refine ⟨_, h40, ?_⟩
          rintro _ rfl
          cbv
          have hLl : KC.length = kk0.length := by rw [← hKc, NodeD.cellsL_len]
          refine .mk ({i : Nat // i ≤ kk0.length} × Int) (fun q => ⟨slotsOf 82 [(1, .ptr 0 0), (3, .dat (.int .i64 q.2)), (9, .dat (.list KC)), (10, .dat (.int .i64 q.1.1))], [(28, [.dat (.int .i64 k1), .dat (.int .i64 p1), .dat (.str n1), .dat (.bool a1), .dat (.list G1), .dat (.list W1), .dat (.list R1), .dat (.list D1), .dat (.list I1)])]⟩) (fun q => kk0.length - q.1.1) (⟨0, Nat.zero_le _⟩, z) ?_ ?_
          · cbv
            and_intros <;> first | exact True.intro | exact LeV.eq rfl | (exact LeV.intE rfl)
          · rintro ⟨⟨i, hi⟩, z⟩
            cbv
            generalize h2 : cm .lss _ _ = c2
            cases c2
            case false =>
              have hi2 : i = kk0.length := by
                cases hE
                simp [cmI, hLl] at h2
                omega
              subst hi2
              cbv
              exact .mk (.dat (.int .i64 z)) (.eq (.eq rfl)) (by rw [hK]; exact ⟨_, rfl⟩) rfl
            case true =>
              have hi2 : i < kk0.length := by
                cases hE
                simp [cmI, hLl] at h2
                omega
              clear h2
              obtain ⟨x, hx⟩ : ∃ x, kk0[i]? = some x := ⟨_, List.getElem?_eq_getElem hi2⟩
              have hy : x ∈ kk0 := List.mem_of_getElem? hx
              have cy := kk x hy
              unfold C11 at cy
              obtain ⟨k2, p2, n2, a2, g2, w2, r2, d2, i2⟩ := x
              have nx : nth KC (Int.ofNat i) (NodeD.cells (.mk k2 p2 n2 a2 g2 w2 r2 d2 i2)) 9 := by
                cases hE
                exact ⟨Int.natCast_nonneg i, by rw [← hKc]; exact NodeD.cellsL_get hx, rfl⟩
              simp only [NodeD.cells, NodeD.av, List.map_cons, List.map_nil] at nx cy
              generalize hg2 : g2.map AssignD.cells = G2 at nx cy
              generalize hw2 : w2.map WordD.cells = W2 at nx cy
              generalize hr2 : r2.map RedirD.cells = R2 at nx cy
              generalize hd2 : NodeD.cellsL d2 = D2 at nx cy
              generalize hi2' : ItemD.cellsL i2 = I2 at nx cy
              have hcall : call 11 [.agg [.dat (.int .i64 k2), .dat (.int .i64 p2), .dat (.str n2), .dat (.bool a2), .dat (.list G2), .dat (.list W2), .dat (.list R2), .dat (.list D2), .dat (.list I2)]] K := by cases hE; rw [hK]; exact cy
              cbv
              refine ⟨_, nx, ?_⟩
              cbv
              refine ⟨_, hcall, ?_⟩
              intro r hr
              rw [hK] at hr
              obtain ⟨u, rfl⟩ := hr
              cbv
              refine ⟨(⟨i + 1, hi2⟩, ar .add .i64 z u), ?_, ?_⟩
              · show kk0.length - (i + 1) < kk0.length - i
                omega
              · cbv
                and_intros <;> first | exact True.intro | exact LeV.eq rfl | (exact LeV.intE (by cases hE; exact inc_id hi2 mk'))
        case true =>
          have hi2 : i < ww.length := by
            cases hE
            simp [cmI, hLl] at h2
            omega
          clear h2
          obtain ⟨x, hx⟩ : ∃ x, ww[i]? = some x := ⟨_, List.getElem?_eq_getElem hi2⟩
          obtain ⟨k2, p2⟩ := x
          have nx : nth WC (Int.ofNat i) (WordD.cells ⟨k2, p2⟩) 2 := by
            cases hE
            exact ⟨Int.natCast_nonneg i, by rw [← hWc]; simp [hx], rfl⟩
          simp only [WordD.cells] at nx
          generalize hp2 : PartD.cellsL p2 = P2 at nx
          have hcall : call 39 [.dat (.list P2)] K2 := by cases hE; rw [← hp2, hK2]; exact c39 p2
          cbv
          refine ⟨_, nx, ?_⟩
          cbv
          refine ⟨_, hcall, ?_⟩
          intro r hr
          rw [hK2] at hr
          obtain ⟨u, v, rfl⟩ := hr
          cbv
          refine ⟨(⟨i + 1, hi2⟩, ar .add .i64 (ar .add .i64 (ar .add .i64 z 1) u) v), ?_, ?_⟩
          · show ww.length - (i + 1) < ww.length - i
            omega
          · cbv
            and_intros <;> first | exact True.intro | exact LeV.eq rfl | (exact LeV.intE (by cases hE; exact inc_id hi2 mw))
    case true =>
      have hi2 : i < g1.length := by
        cases hE
        simp [cmI, hLl] at h2
        omega
      clear h2
      obtain ⟨x, hx⟩ : ∃ x, g1[i]? = some x := ⟨_, List.getElem?_eq_getElem hi2⟩
      obtain ⟨k2, t2, v2, p2⟩ := x
      have nx : nth G1 (Int.ofNat i) (AssignD.cells ⟨k2, t2, v2, p2⟩) 4 := by
        cases hE
        exact ⟨Int.natCast_nonneg i, by rw [← hg1]; simp [hx], rfl⟩
      simp only [AssignD.cells] at nx
      generalize hp2 : PartD.cellsL p2 = P2 at nx
      cbv
      refine ⟨_, nx, ?_⟩
      cbv
      refine ⟨(⟨i + 1, hi2⟩, ar .add .i64 z (sl t2)), ?_, ?_⟩
      · show g1.length - (i + 1) < g1.length - i
        omega
      · cbv
        and_intros <;> first | exact True.intro | exact LeV.eq rfl | (exact LeV.intE (by cases hE; exact inc_id hi2 mg))

theorem c11 (x : NodeD) (hsz : x.sz ≤ 2097152) : C11 x := by
  have key : ∀ n (x : NodeD), x.sz ≤ 2097152 → x.sz ≤ n → C11 x := fun n => by
    induction n with
    | zero => intro x _ h; have := x.sz_pos; omega
    | succ n ih => exact c11s n ih
  exact key _ x hsz (Nat.le_refl _)
end Go.Proofs.YtdfcjodkmjofgaaGreat
