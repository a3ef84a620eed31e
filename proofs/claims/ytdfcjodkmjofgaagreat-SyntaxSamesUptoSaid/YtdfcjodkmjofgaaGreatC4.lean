/-
  Parts, words, assignments, redirections, branches and nodes held against each other, by the program.
-/
import Derived.Test.YtdfcjodkmjofgaaGreatC3
namespace Go.Proofs.YtdfcjodkmjofgaaGreat
open Go.RowKit

def C92 (a b : List PartD) : Prop := CRet Tryz.prog 92 [.dat (.list (PartD.cellsL a)), .dat (.list (PartD.cellsL b))] (· = .dat (.bool (PartD.sameL a b)))
def C125 (a b : List PartD) : Prop := CRet Tryz.prog 125 [.dat (.list (PartD.cellsL a)), .dat (.list (PartD.cellsL b)), .fn 126 []] (· = .dat (.bool (PartD.sameL a b)))
def C126 (x y : PartD) : Prop := CRet Tryz.prog 126 [x.av, y.av] (· = .dat (.bool (x.same y)))
set_option maxRecDepth 100000 in
set_option maxHeartbeats 4000000 in
theorem c126s (n : Nat) (ih : ∀ a b : List PartD, PartD.szL a < n → C92 a b) (x y : PartD) (hsz : x.sz ≤ n) : C126 x y := by
  obtain ⟨k1, t1, o1, e1, p1⟩ := x
  obtain ⟨k2, t2, o2, e2, p2⟩ := y
  refine cret_of_swp mixedOrders VT_ok Tryz.func126 (code := Tryz.f126.body.get (by kernel_rfl)) (by kernel_rfl) (by kernel_rfl) rfl fun E hE hreal => ?_
  obtain ⟨ar, cm, sc, eb, wr, ln, sl, ct, ap, sb, ss, u8, mx, nth, off, sat, sok, stok, cat, bd, szs, ne, nil, call, callF⟩ := E
  clear hreal
  simp only [PartD.av, PartD.cells, List.map_cons, List.map_nil]
  generalize hp1 : PartD.cellsL p1 = P1
  generalize hp2 : PartD.cellsL p2 = P2
  generalize hr : PartD.same (.mk k1 t1 o1 e1 p1) (.mk k2 t2 o2 e2 p2) = r
  cbv
  generalize h3 : cm .eql _ _ = c3
  cases c3
  case false =>
    cbv
    refine .eq (.boolE ?_)
    rw [← hr]
    cases hE
    simp [cmI] at h3
    simp [PartD.same, h3]
  cbv
  generalize h4 : sc .eql _ _ = c4
  cases c4
  case false =>
    cbv
    refine .eq (.boolE ?_)
    rw [← hr]
    cases hE
    simp [scS] at h4
    simp [PartD.same, h4]
  cbv
  generalize h5 : cm .eql _ _ = c5
  cases c5
  case false =>
    cbv
    refine .eq (.boolE ?_)
    rw [← hr]
    cases hE
    simp [cmI] at h5
    simp [PartD.same, h5]
  cbv
  generalize h6 : eb _ _ = c6
  cases c6
  case false =>
    cbv
    refine .eq (.boolE ?_)
    rw [← hr]
    cases hE
    simp [] at h6
    simp [PartD.same, h6]
  cbv
  have hcallq : call 92 [.dat (.list P1), .dat (.list P2)] (· = .dat (.bool (PartD.sameL p1 p2))) := by
    cases hE
    rw [← hp1, ← hp2]
    refine ih p1 p2 ?_
    have h1 := hsz
    simp [PartD.sz] at h1
    omega
  generalize hq : PartD.sameL p1 p2 = q at hcallq
  refine ⟨_, hcallq, ?_⟩
  rintro _ rfl
  cbv
  cases q
  case false =>
    cbv
    refine .eq (.boolE ?_)
    rw [← hr]
    cases hE
    simp [PartD.same, hq]
  cbv
  refine .eq (.boolE ?_)
  rw [← hr]
  cases hE
  simp [cmI] at h3 h5
  simp [scS] at h4
  simp at h6
  simp [PartD.same, h3, h4, h5, h6, hq]

set_option maxRecDepth 100000 in
set_option maxHeartbeats 4000000 in
theorem c125s (n : Nat) (ih : ∀ a b : List PartD, PartD.szL a < n → C92 a b) (a b : List PartD) (hsz : PartD.szL a ≤ n): C125 a b := by
  refine cret_of_swp mixedOrders VT_ok Tryz.func125 (code := Tryz.f125.body.get (by kernel_rfl)) (by kernel_rfl) (by kernel_rfl) rfl fun E hE hreal => ?_
  obtain ⟨ar, cm, sc, eb, wr, ln, sl, ct, ap, sb, ss, u8, mx, nth, off, sat, sok, stok, cat, bd, szs, ne, nil, call, callF⟩ := E
  have hmax : a.length ≤ maxLen := by have := real_list (hreal 0 _ rfl); rwa [PartD.cellsL_len] at this
  clear hreal
  generalize hA : PartD.cellsL a = A
  generalize hB : PartD.cellsL b = B
  generalize hr : PartD.sameL a b = r
  cbv
  generalize h1 : cm .neq _ _ = c1
  cases c1
  case true =>
    cbv
    refine .eq (.boolE ?_)
    rw [← hr]
    cases hq : PartD.sameL a b with
    | false => rfl
    | true =>
      have := (PartD.sameL_iff.1 hq).1
      cases hE
      simp [cmI] at h1
      rw [← hA, ← hB, PartD.cellsL_len, PartD.cellsL_len] at h1
      omega
  case false =>
    cbv
    have hAl : A.length = a.length := by rw [← hA, PartD.cellsL_len]
    have hBl : B.length = b.length := by rw [← hB, PartD.cellsL_len]
    have hlen : a.length = b.length := by
      cases hE
      simp [cmI] at h1
      omega
    refine .mk {i : Nat // i ≤ a.length ∧ ∀ (j : Nat) (x y : PartD), j < i → a[j]? = some x → b[j]? = some y → PartD.same x y = true} (fun i => ⟨slotsOf 32 [(1, .dat (.list B)), (2, .fn 126 []), (15, .dat (.list A)), (16, .dat (.int .i64 (ln A 0))), (17, .dat (.int .i64 i.1))], []⟩) (fun i => a.length - i.1) ⟨0, Nat.zero_le _, fun j x y h => by omega⟩ ?_ ?_
    · cbv
      exact ⟨⟨.eq rfl, .eq rfl, .eq rfl, .eq rfl, .eq rfl, trivial⟩, trivial⟩
    · rintro ⟨i, hi, hs⟩
      cbv
      generalize h2 : cm .lss _ _ = c2
      cases c2
      case false =>
        cbv
        have hi2 : i = a.length := by
          cases hE
          simp [cmI, hAl] at h2
          omega
        refine .eq (.boolE ?_)
        rw [← hr]
        refine (PartD.sameL_iff.2 ⟨hlen, fun j x y hx hy => hs j x y ?_ hx hy⟩).symm
        rw [hi2]
        exact (List.getElem?_eq_some_iff.1 hx).1
      case true =>
        have hi2 : i < a.length := by
          cases hE
          simp [cmI, hAl] at h2
          omega
        obtain ⟨x, hx⟩ : ∃ x, a[i]? = some x := ⟨_, List.getElem?_eq_getElem hi2⟩
        obtain ⟨y, hy⟩ : ∃ y, b[i]? = some y := ⟨_, List.getElem?_eq_getElem (hlen ▸ hi2)⟩
        obtain ⟨k1, t1, o1, e1, p1⟩ := x
        obtain ⟨k2, t2, o2, e2, p2⟩ := y
        have nx : nth A (Int.ofNat i) (PartD.cells (.mk k1 t1 o1 e1 p1)) 5 := by
          cases hE
          exact ⟨Int.natCast_nonneg i, by rw [← hA]; exact PartD.cellsL_get hx, rfl⟩
        have ny : nth B (Int.ofNat i) (PartD.cells (.mk k2 t2 o2 e2 p2)) 5 := by
          cases hE
          exact ⟨Int.natCast_nonneg i, by rw [← hB]; exact PartD.cellsL_get hy, rfl⟩
        simp only [PartD.cells] at nx ny
        generalize hp1 : PartD.cellsL p1 = P1 at nx
        generalize hp2 : PartD.cellsL p2 = P2 at ny
        have bad : PartD.same (.mk k1 t1 o1 e1 p1) (.mk k2 t2 o2 e2 p2) = false → false = r := fun h => by
          rw [← hr]
          cases hq : PartD.sameL a b with
          | false => rfl
          | true =>
            have := (PartD.sameL_iff.1 hq).2 i _ _ hx hy
            rw [h] at this
            cases this
        have next : PartD.same (.mk k1 t1 o1 e1 p1) (.mk k2 t2 o2 e2 p2) = true → ∀ (j : Nat) (x y : PartD), j < i + 1 → a[j]? = some x → b[j]? = some y → PartD.same x y = true := fun hxy j x y hj hx' hy' => by
          rcases Nat.lt_succ_iff_lt_or_eq.1 hj with h | rfl
          · exact hs j x y h hx' hy'
          · rw [hx] at hx'
            rw [hy] at hy'
            injection hx' with hx'
            injection hy' with hy'
            subst hx' hy'
            exact hxy
        cbv
        refine ⟨_, nx, ?_⟩
        cbv
        refine ⟨_, ny, ?_⟩
        cbv
        have hcallq : call 126 [.agg [.dat (.int .i64 k1), .dat (.str t1), .dat (.int .i64 o1), .dat (.bool e1), .dat (.list P1)], .agg [.dat (.int .i64 k2), .dat (.str t2), .dat (.int .i64 o2), .dat (.bool e2), .dat (.list P2)]] (· = .dat (.bool (PartD.same (.mk k1 t1 o1 e1 p1) (.mk k2 t2 o2 e2 p2)))) := by
          cases hE
          rw [← hp1, ← hp2]
          exact c126s n ih (.mk k1 t1 o1 e1 p1) (.mk k2 t2 o2 e2 p2) (Nat.le_trans (PartD.sz_mem hx) hsz)
        generalize hq : PartD.same (.mk k1 t1 o1 e1 p1) (.mk k2 t2 o2 e2 p2) = q at hcallq
        refine ⟨_, hcallq, ?_⟩
        rintro _ rfl
        cbv
        cases q
        case false =>
          cbv
          refine .eq (.boolE (bad ?_))
          exact hq
        cbv
        have hxy := next (by
          cases hE
          skip
          exact hq)
        refine ⟨⟨i + 1, hi2, hxy⟩, ?_, ?_⟩
        · show a.length - (i + 1) < a.length - i
          omega
        · cbv
          exact ⟨⟨.eq rfl, .eq rfl, .eq rfl, .eq rfl, .intE (by cases hE; exact inc_id hi2 hmax), trivial⟩, trivial⟩

set_option maxRecDepth 100000 in
theorem c92s (n : Nat) (ih : ∀ a b : List PartD, PartD.szL a < n → C92 a b) (a b : List PartD) (hsz : PartD.szL a ≤ n) : C92 a b := by
  refine cret_of_swp mixedOrders VT_ok Tryz.func92 (code := Tryz.f92.body.get (by kernel_rfl)) (by kernel_rfl) (by kernel_rfl) rfl fun E hE hreal => ?_
  obtain ⟨ar, cm, sc, eb, wr, ln, sl, ct, ap, sb, ss, u8, mx, nth, off, sat, sok, stok, cat, bd, szs, ne, nil, call, callF⟩ := E
  clear hreal
  generalize hp1 : PartD.cellsL a = P1
  generalize hp2 : PartD.cellsL b = P2
  generalize hr : PartD.sameL a b = r
  cbv
  have hcall : call 125 [.dat (.list P1), .dat (.list P2), .fn 126 []] (· = .dat (.bool r)) := by
    cases hE
    rw [← hp1, ← hp2, ← hr]
    exact c125s n ih a b hsz
  refine ⟨_, hcall, ?_⟩
  rintro _ rfl
  cbv
  exact .eq (.boolE rfl)
theorem c92 (a b : List PartD) : C92 a b := by
  have key : ∀ n (a b : List PartD), PartD.szL a < n → C92 a b := fun n => by
    induction n with
    | zero => intro a b h; omega
    | succ n ih => exact fun a b h => c92s n ih a b (Nat.le_of_lt_succ h)
  exact key _ a b (Nat.lt_succ_self _)
def C45 (x y : WordD) : Prop := CRet Tryz.prog 45 [x.av, y.av] (· = .dat (.bool (x.same y)))
set_option maxRecDepth 100000 in
set_option maxHeartbeats 4000000 in
theorem c45  (x y : WordD) : C45 x y := by
  obtain ⟨k1, p1⟩ := x
  obtain ⟨k2, p2⟩ := y
  refine cret_of_swp mixedOrders VT_ok Tryz.func45 (code := Tryz.f45.body.get (by kernel_rfl)) (by kernel_rfl) (by kernel_rfl) rfl fun E hE hreal => ?_
  obtain ⟨ar, cm, sc, eb, wr, ln, sl, ct, ap, sb, ss, u8, mx, nth, off, sat, sok, stok, cat, bd, szs, ne, nil, call, callF⟩ := E
  clear hreal
  simp only [WordD.av, WordD.cells, List.map_cons, List.map_nil]
  generalize hp1 : PartD.cellsL p1 = P1
  generalize hp2 : PartD.cellsL p2 = P2
  generalize hr : WordD.same ⟨k1, p1⟩ ⟨k2, p2⟩ = r
  cbv
  have hcallq : call 92 [.dat (.list P1), .dat (.list P2)] (· = .dat (.bool (PartD.sameL p1 p2))) := by
    cases hE
    rw [← hp1, ← hp2]
    exact c92 p1 p2
  generalize hq : PartD.sameL p1 p2 = q at hcallq
  refine ⟨_, hcallq, ?_⟩
  rintro _ rfl
  cbv
  cases q
  case false =>
    cbv
    refine .eq (.boolE ?_)
    rw [← hr]
    cases hE
    simp [WordD.same, hq]
  cbv
  refine .eq (.boolE ?_)
  rw [← hr]
  cases hE
  skip
  simp [WordD.same, hq]

def C48 (a b : List WordD) : Prop := CRet Tryz.prog 48 [.dat (.list (a.map WordD.cells)), .dat (.list (b.map WordD.cells)), .fn 45 []] (· = .dat (.bool (sameBy WordD.same a b)))
set_option maxRecDepth 100000 in
set_option maxHeartbeats 4000000 in
theorem c48  (a b : List WordD): C48 a b := by
  refine cret_of_swp mixedOrders VT_ok Tryz.func48 (code := Tryz.f48.body.get (by kernel_rfl)) (by kernel_rfl) (by kernel_rfl) rfl fun E hE hreal => ?_
  obtain ⟨ar, cm, sc, eb, wr, ln, sl, ct, ap, sb, ss, u8, mx, nth, off, sat, sok, stok, cat, bd, szs, ne, nil, call, callF⟩ := E
  have hmax : a.length ≤ maxLen := by have := real_list (hreal 0 _ rfl); rwa [List.length_map] at this
  clear hreal
  generalize hA : a.map WordD.cells = A
  generalize hB : b.map WordD.cells = B
  generalize hr : sameBy WordD.same a b = r
  cbv
  generalize h1 : cm .neq _ _ = c1
  cases c1
  case true =>
    cbv
    refine .eq (.boolE ?_)
    rw [← hr]
    cases hq : sameBy WordD.same a b with
    | false => rfl
    | true =>
      have := (sameBy_iff.1 hq).1
      cases hE
      simp [cmI] at h1
      rw [← hA, ← hB, List.length_map, List.length_map] at h1
      omega
  case false =>
    cbv
    have hAl : A.length = a.length := by rw [← hA, List.length_map]
    have hBl : B.length = b.length := by rw [← hB, List.length_map]
    have hlen : a.length = b.length := by
      cases hE
      simp [cmI] at h1
      omega
    refine .mk {i : Nat // i ≤ a.length ∧ ∀ (j : Nat) (x y : WordD), j < i → a[j]? = some x → b[j]? = some y → WordD.same x y = true} (fun i => ⟨slotsOf 32 [(1, .dat (.list B)), (2, .fn 45 []), (15, .dat (.list A)), (16, .dat (.int .i64 (ln A 0))), (17, .dat (.int .i64 i.1))], []⟩) (fun i => a.length - i.1) ⟨0, Nat.zero_le _, fun j x y h => by omega⟩ ?_ ?_
    · cbv
      exact ⟨⟨.eq rfl, .eq rfl, .eq rfl, .eq rfl, .eq rfl, trivial⟩, trivial⟩
    · rintro ⟨i, hi, hs⟩
      cbv
      generalize h2 : cm .lss _ _ = c2
      cases c2
      case false =>
        cbv
        have hi2 : i = a.length := by
          cases hE
          simp [cmI, hAl] at h2
          omega
        refine .eq (.boolE ?_)
        rw [← hr]
        refine (sameBy_iff.2 ⟨hlen, fun j x y hx hy => hs j x y ?_ hx hy⟩).symm
        rw [hi2]
        exact (List.getElem?_eq_some_iff.1 hx).1
      case true =>
        have hi2 : i < a.length := by
          cases hE
          simp [cmI, hAl] at h2
          omega
        obtain ⟨x, hx⟩ : ∃ x, a[i]? = some x := ⟨_, List.getElem?_eq_getElem hi2⟩
        obtain ⟨y, hy⟩ : ∃ y, b[i]? = some y := ⟨_, List.getElem?_eq_getElem (hlen ▸ hi2)⟩
        obtain ⟨k1, p1⟩ := x
        obtain ⟨k2, p2⟩ := y
        have nx : nth A (Int.ofNat i) (WordD.cells ⟨k1, p1⟩) 2 := by
          cases hE
          exact ⟨Int.natCast_nonneg i, by rw [← hA]; simp [hx], rfl⟩
        have ny : nth B (Int.ofNat i) (WordD.cells ⟨k2, p2⟩) 2 := by
          cases hE
          exact ⟨Int.natCast_nonneg i, by rw [← hB]; simp [hy], rfl⟩
        simp only [WordD.cells] at nx ny
        generalize hp1 : PartD.cellsL p1 = P1 at nx
        generalize hp2 : PartD.cellsL p2 = P2 at ny
        have bad : WordD.same ⟨k1, p1⟩ ⟨k2, p2⟩ = false → false = r := fun h => by
          rw [← hr]
          cases hq : sameBy WordD.same a b with
          | false => rfl
          | true =>
            have := (sameBy_iff.1 hq).2 i _ _ hx hy
            rw [h] at this
            cases this
        have next : WordD.same ⟨k1, p1⟩ ⟨k2, p2⟩ = true → ∀ (j : Nat) (x y : WordD), j < i + 1 → a[j]? = some x → b[j]? = some y → WordD.same x y = true := fun hxy j x y hj hx' hy' => by
          rcases Nat.lt_succ_iff_lt_or_eq.1 hj with h | rfl
          · exact hs j x y h hx' hy'
          · rw [hx] at hx'
            rw [hy] at hy'
            injection hx' with hx'
            injection hy' with hy'
            subst hx' hy'
            exact hxy
        cbv
        refine ⟨_, nx, ?_⟩
        cbv
        refine ⟨_, ny, ?_⟩
        cbv
        have hcallq : call 45 [.agg [.dat (.int .i64 k1), .dat (.list P1)], .agg [.dat (.int .i64 k2), .dat (.list P2)]] (· = .dat (.bool (WordD.same ⟨k1, p1⟩ ⟨k2, p2⟩))) := by
          cases hE
          rw [← hp1, ← hp2]
          exact c45 ⟨k1, p1⟩ ⟨k2, p2⟩
        generalize hq : WordD.same ⟨k1, p1⟩ ⟨k2, p2⟩ = q at hcallq
        refine ⟨_, hcallq, ?_⟩
        rintro _ rfl
        cbv
        cases q
        case false =>
          cbv
          refine .eq (.boolE (bad ?_))
          exact hq
        cbv
        have hxy := next (by
          cases hE
          skip
          exact hq)
        refine ⟨⟨i + 1, hi2, hxy⟩, ?_, ?_⟩
        · show a.length - (i + 1) < a.length - i
          omega
        · cbv
          exact ⟨⟨.eq rfl, .eq rfl, .eq rfl, .eq rfl, .intE (by cases hE; exact inc_id hi2 hmax), trivial⟩, trivial⟩

def C44 (x y : AssignD) : Prop := CRet Tryz.prog 44 [x.av, y.av] (· = .dat (.bool (x.same y)))
set_option maxRecDepth 100000 in
set_option maxHeartbeats 4000000 in
theorem c44  (x y : AssignD) : C44 x y := by
  obtain ⟨k1, t1, v1, p1⟩ := x
  obtain ⟨k2, t2, v2, p2⟩ := y
  refine cret_of_swp mixedOrders VT_ok Tryz.func44 (code := Tryz.f44.body.get (by kernel_rfl)) (by kernel_rfl) (by kernel_rfl) rfl fun E hE hreal => ?_
  obtain ⟨ar, cm, sc, eb, wr, ln, sl, ct, ap, sb, ss, u8, mx, nth, off, sat, sok, stok, cat, bd, szs, ne, nil, call, callF⟩ := E
  clear hreal
  simp only [AssignD.av, AssignD.cells, List.map_cons, List.map_nil]
  generalize hp1 : PartD.cellsL p1 = P1
  generalize hp2 : PartD.cellsL p2 = P2
  generalize hr : AssignD.same ⟨k1, t1, v1, p1⟩ ⟨k2, t2, v2, p2⟩ = r
  cbv
  generalize h3 : sc .eql _ _ = c3
  cases c3
  case false =>
    cbv
    refine .eq (.boolE ?_)
    rw [← hr]
    cases hE
    simp [scS] at h3
    simp [AssignD.same, h3]
  cbv
  have hcallq : call 45 [.agg [.dat (.int .i64 v1), .dat (.list P1)], .agg [.dat (.int .i64 v2), .dat (.list P2)]] (· = .dat (.bool (PartD.sameL p1 p2))) := by
    cases hE
    rw [← hp1, ← hp2]
    exact c45 ⟨v1, p1⟩ ⟨v2, p2⟩
  generalize hq : PartD.sameL p1 p2 = q at hcallq
  refine ⟨_, hcallq, ?_⟩
  rintro _ rfl
  cbv
  cases q
  case false =>
    cbv
    refine .eq (.boolE ?_)
    rw [← hr]
    cases hE
    simp [AssignD.same, hq]
  cbv
  refine .eq (.boolE ?_)
  rw [← hr]
  cases hE
  simp [scS] at h3
  simp [AssignD.same, h3, hq]

def C50 (a b : List AssignD) : Prop := CRet Tryz.prog 50 [.dat (.list (a.map AssignD.cells)), .dat (.list (b.map AssignD.cells)), .fn 44 []] (· = .dat (.bool (sameBy AssignD.same a b)))
set_option maxRecDepth 100000 in
set_option maxHeartbeats 4000000 in
theorem c50  (a b : List AssignD): C50 a b := by
  refine cret_of_swp mixedOrders VT_ok Tryz.func50 (code := Tryz.f50.body.get (by kernel_rfl)) (by kernel_rfl) (by kernel_rfl) rfl fun E hE hreal => ?_
  obtain ⟨ar, cm, sc, eb, wr, ln, sl, ct, ap, sb, ss, u8, mx, nth, off, sat, sok, stok, cat, bd, szs, ne, nil, call, callF⟩ := E
  have hmax : a.length ≤ maxLen := by have := real_list (hreal 0 _ rfl); rwa [List.length_map] at this
  clear hreal
  generalize hA : a.map AssignD.cells = A
  generalize hB : b.map AssignD.cells = B
  generalize hr : sameBy AssignD.same a b = r
  cbv
  generalize h1 : cm .neq _ _ = c1
  cases c1
  case true =>
    cbv
    refine .eq (.boolE ?_)
    rw [← hr]
    cases hq : sameBy AssignD.same a b with
    | false => rfl
    | true =>
      have := (sameBy_iff.1 hq).1
      cases hE
      simp [cmI] at h1
      rw [← hA, ← hB, List.length_map, List.length_map] at h1
      omega
  case false =>
    cbv
    have hAl : A.length = a.length := by rw [← hA, List.length_map]
    have hBl : B.length = b.length := by rw [← hB, List.length_map]
    have hlen : a.length = b.length := by
      cases hE
      simp [cmI] at h1
      omega
    refine .mk {i : Nat // i ≤ a.length ∧ ∀ (j : Nat) (x y : AssignD), j < i → a[j]? = some x → b[j]? = some y → AssignD.same x y = true} (fun i => ⟨slotsOf 32 [(1, .dat (.list B)), (2, .fn 44 []), (15, .dat (.list A)), (16, .dat (.int .i64 (ln A 0))), (17, .dat (.int .i64 i.1))], []⟩) (fun i => a.length - i.1) ⟨0, Nat.zero_le _, fun j x y h => by omega⟩ ?_ ?_
    · cbv
      exact ⟨⟨.eq rfl, .eq rfl, .eq rfl, .eq rfl, .eq rfl, trivial⟩, trivial⟩
    · rintro ⟨i, hi, hs⟩
      cbv
      generalize h2 : cm .lss _ _ = c2
      cases c2
      case false =>
        cbv
        have hi2 : i = a.length := by
          cases hE
          simp [cmI, hAl] at h2
          omega
        refine .eq (.boolE ?_)
        rw [← hr]
        refine (sameBy_iff.2 ⟨hlen, fun j x y hx hy => hs j x y ?_ hx hy⟩).symm
        rw [hi2]
        exact (List.getElem?_eq_some_iff.1 hx).1
      case true =>
        have hi2 : i < a.length := by
          cases hE
          simp [cmI, hAl] at h2
          omega
        obtain ⟨x, hx⟩ : ∃ x, a[i]? = some x := ⟨_, List.getElem?_eq_getElem hi2⟩
        obtain ⟨y, hy⟩ : ∃ y, b[i]? = some y := ⟨_, List.getElem?_eq_getElem (hlen ▸ hi2)⟩
        obtain ⟨k1, t1, v1, p1⟩ := x
        obtain ⟨k2, t2, v2, p2⟩ := y
        have nx : nth A (Int.ofNat i) (AssignD.cells ⟨k1, t1, v1, p1⟩) 4 := by
          cases hE
          exact ⟨Int.natCast_nonneg i, by rw [← hA]; simp [hx], rfl⟩
        have ny : nth B (Int.ofNat i) (AssignD.cells ⟨k2, t2, v2, p2⟩) 4 := by
          cases hE
          exact ⟨Int.natCast_nonneg i, by rw [← hB]; simp [hy], rfl⟩
        simp only [AssignD.cells] at nx ny
        generalize hp1 : PartD.cellsL p1 = P1 at nx
        generalize hp2 : PartD.cellsL p2 = P2 at ny
        have bad : AssignD.same ⟨k1, t1, v1, p1⟩ ⟨k2, t2, v2, p2⟩ = false → false = r := fun h => by
          rw [← hr]
          cases hq : sameBy AssignD.same a b with
          | false => rfl
          | true =>
            have := (sameBy_iff.1 hq).2 i _ _ hx hy
            rw [h] at this
            cases this
        have next : AssignD.same ⟨k1, t1, v1, p1⟩ ⟨k2, t2, v2, p2⟩ = true → ∀ (j : Nat) (x y : AssignD), j < i + 1 → a[j]? = some x → b[j]? = some y → AssignD.same x y = true := fun hxy j x y hj hx' hy' => by
          rcases Nat.lt_succ_iff_lt_or_eq.1 hj with h | rfl
          · exact hs j x y h hx' hy'
          · rw [hx] at hx'
            rw [hy] at hy'
            injection hx' with hx'
            injection hy' with hy'
            subst hx' hy'
            exact hxy
        cbv
        refine ⟨_, nx, ?_⟩
        cbv
        refine ⟨_, ny, ?_⟩
        cbv
        have hcallq : call 44 [.agg [.dat (.int .i64 k1), .dat (.str t1), .dat (.int .i64 v1), .dat (.list P1)], .agg [.dat (.int .i64 k2), .dat (.str t2), .dat (.int .i64 v2), .dat (.list P2)]] (· = .dat (.bool (AssignD.same ⟨k1, t1, v1, p1⟩ ⟨k2, t2, v2, p2⟩))) := by
          cases hE
          rw [← hp1, ← hp2]
          exact c44 ⟨k1, t1, v1, p1⟩ ⟨k2, t2, v2, p2⟩
        generalize hq : AssignD.same ⟨k1, t1, v1, p1⟩ ⟨k2, t2, v2, p2⟩ = q at hcallq
        refine ⟨_, hcallq, ?_⟩
        rintro _ rfl
        cbv
        cases q
        case false =>
          cbv
          refine .eq (.boolE (bad ?_))
          exact hq
        cbv
        have hxy := next (by
          cases hE
          skip
          exact hq)
        refine ⟨⟨i + 1, hi2, hxy⟩, ?_, ?_⟩
        · show a.length - (i + 1) < a.length - i
          omega
        · cbv
          exact ⟨⟨.eq rfl, .eq rfl, .eq rfl, .eq rfl, .intE (by cases hE; exact inc_id hi2 hmax), trivial⟩, trivial⟩

def C46 (x y : RedirD) : Prop := CRet Tryz.prog 46 [x.av, y.av] (· = .dat (.bool (x.same y)))
set_option maxRecDepth 100000 in
set_option maxHeartbeats 4000000 in
theorem c46  (x y : RedirD) : C46 x y := by
  obtain ⟨k1, f1, o1, v1, p1⟩ := x
  obtain ⟨k2, f2, o2, v2, p2⟩ := y
  refine cret_of_swp mixedOrders VT_ok Tryz.func46 (code := Tryz.f46.body.get (by kernel_rfl)) (by kernel_rfl) (by kernel_rfl) rfl fun E hE hreal => ?_
  obtain ⟨ar, cm, sc, eb, wr, ln, sl, ct, ap, sb, ss, u8, mx, nth, off, sat, sok, stok, cat, bd, szs, ne, nil, call, callF⟩ := E
  clear hreal
  simp only [RedirD.av, RedirD.cells, List.map_cons, List.map_nil]
  generalize hp1 : PartD.cellsL p1 = P1
  generalize hp2 : PartD.cellsL p2 = P2
  generalize hr : RedirD.same ⟨k1, f1, o1, v1, p1⟩ ⟨k2, f2, o2, v2, p2⟩ = r
  cbv
  generalize h3 : cm .eql _ _ = c3
  cases c3
  case false =>
    cbv
    refine .eq (.boolE ?_)
    rw [← hr]
    cases hE
    simp [cmI] at h3
    simp [RedirD.same, h3]
  cbv
  generalize h4 : cm .eql _ _ = c4
  cases c4
  case false =>
    cbv
    refine .eq (.boolE ?_)
    rw [← hr]
    cases hE
    simp [cmI] at h4
    simp [RedirD.same, h4]
  cbv
  have hcallq : call 45 [.agg [.dat (.int .i64 v1), .dat (.list P1)], .agg [.dat (.int .i64 v2), .dat (.list P2)]] (· = .dat (.bool (PartD.sameL p1 p2))) := by
    cases hE
    rw [← hp1, ← hp2]
    exact c45 ⟨v1, p1⟩ ⟨v2, p2⟩
  generalize hq : PartD.sameL p1 p2 = q at hcallq
  refine ⟨_, hcallq, ?_⟩
  rintro _ rfl
  cbv
  cases q
  case false =>
    cbv
    refine .eq (.boolE ?_)
    rw [← hr]
    cases hE
    simp [RedirD.same, hq]
  cbv
  refine .eq (.boolE ?_)
  rw [← hr]
  cases hE
  simp [cmI] at h3 h4
  simp [RedirD.same, h3, h4, hq]

def C51 (a b : List RedirD) : Prop := CRet Tryz.prog 51 [.dat (.list (a.map RedirD.cells)), .dat (.list (b.map RedirD.cells)), .fn 46 []] (· = .dat (.bool (sameBy RedirD.same a b)))
set_option maxRecDepth 100000 in
set_option maxHeartbeats 4000000 in
theorem c51  (a b : List RedirD): C51 a b := by
  refine cret_of_swp mixedOrders VT_ok Tryz.func51 (code := Tryz.f51.body.get (by kernel_rfl)) (by kernel_rfl) (by kernel_rfl) rfl fun E hE hreal => ?_
  obtain ⟨ar, cm, sc, eb, wr, ln, sl, ct, ap, sb, ss, u8, mx, nth, off, sat, sok, stok, cat, bd, szs, ne, nil, call, callF⟩ := E
  have hmax : a.length ≤ maxLen := by have := real_list (hreal 0 _ rfl); rwa [List.length_map] at this
  clear hreal
  generalize hA : a.map RedirD.cells = A
  generalize hB : b.map RedirD.cells = B
  generalize hr : sameBy RedirD.same a b = r
  cbv
  generalize h1 : cm .neq _ _ = c1
  cases c1
  case true =>
    cbv
    refine .eq (.boolE ?_)
    rw [← hr]
    cases hq : sameBy RedirD.same a b with
    | false => rfl
    | true =>
      have := (sameBy_iff.1 hq).1
      cases hE
      simp [cmI] at h1
      rw [← hA, ← hB, List.length_map, List.length_map] at h1
      omega
  case false =>
    cbv
    have hAl : A.length = a.length := by rw [← hA, List.length_map]
    have hBl : B.length = b.length := by rw [← hB, List.length_map]
    have hlen : a.length = b.length := by
      cases hE
      simp [cmI] at h1
      omega
    refine .mk {i : Nat // i ≤ a.length ∧ ∀ (j : Nat) (x y : RedirD), j < i → a[j]? = some x → b[j]? = some y → RedirD.same x y = true} (fun i => ⟨slotsOf 32 [(1, .dat (.list B)), (2, .fn 46 []), (15, .dat (.list A)), (16, .dat (.int .i64 (ln A 0))), (17, .dat (.int .i64 i.1))], []⟩) (fun i => a.length - i.1) ⟨0, Nat.zero_le _, fun j x y h => by omega⟩ ?_ ?_
    · cbv
      exact ⟨⟨.eq rfl, .eq rfl, .eq rfl, .eq rfl, .eq rfl, trivial⟩, trivial⟩
    · rintro ⟨i, hi, hs⟩
      cbv
      generalize h2 : cm .lss _ _ = c2
      cases c2
      case false =>
        cbv
        have hi2 : i = a.length := by
          cases hE
          simp [cmI, hAl] at h2
          omega
        refine .eq (.boolE ?_)
        rw [← hr]
        refine (sameBy_iff.2 ⟨hlen, fun j x y hx hy => hs j x y ?_ hx hy⟩).symm
        rw [hi2]
        exact (List.getElem?_eq_some_iff.1 hx).1
      case true =>
        have hi2 : i < a.length := by
          cases hE
          simp [cmI, hAl] at h2
          omega
        obtain ⟨x, hx⟩ : ∃ x, a[i]? = some x := ⟨_, List.getElem?_eq_getElem hi2⟩
        obtain ⟨y, hy⟩ : ∃ y, b[i]? = some y := ⟨_, List.getElem?_eq_getElem (hlen ▸ hi2)⟩
        obtain ⟨k1, f1, o1, v1, p1⟩ := x
        obtain ⟨k2, f2, o2, v2, p2⟩ := y
        have nx : nth A (Int.ofNat i) (RedirD.cells ⟨k1, f1, o1, v1, p1⟩) 5 := by
          cases hE
          exact ⟨Int.natCast_nonneg i, by rw [← hA]; simp [hx], rfl⟩
        have ny : nth B (Int.ofNat i) (RedirD.cells ⟨k2, f2, o2, v2, p2⟩) 5 := by
          cases hE
          exact ⟨Int.natCast_nonneg i, by rw [← hB]; simp [hy], rfl⟩
        simp only [RedirD.cells] at nx ny
        generalize hp1 : PartD.cellsL p1 = P1 at nx
        generalize hp2 : PartD.cellsL p2 = P2 at ny
        have bad : RedirD.same ⟨k1, f1, o1, v1, p1⟩ ⟨k2, f2, o2, v2, p2⟩ = false → false = r := fun h => by
          rw [← hr]
          cases hq : sameBy RedirD.same a b with
          | false => rfl
          | true =>
            have := (sameBy_iff.1 hq).2 i _ _ hx hy
            rw [h] at this
            cases this
        have next : RedirD.same ⟨k1, f1, o1, v1, p1⟩ ⟨k2, f2, o2, v2, p2⟩ = true → ∀ (j : Nat) (x y : RedirD), j < i + 1 → a[j]? = some x → b[j]? = some y → RedirD.same x y = true := fun hxy j x y hj hx' hy' => by
          rcases Nat.lt_succ_iff_lt_or_eq.1 hj with h | rfl
          · exact hs j x y h hx' hy'
          · rw [hx] at hx'
            rw [hy] at hy'
            injection hx' with hx'
            injection hy' with hy'
            subst hx' hy'
            exact hxy
        cbv
        refine ⟨_, nx, ?_⟩
        cbv
        refine ⟨_, ny, ?_⟩
        cbv
        have hcallq : call 46 [.agg [.dat (.int .i64 k1), .dat (.int .i64 f1), .dat (.int .i64 o1), .dat (.int .i64 v1), .dat (.list P1)], .agg [.dat (.int .i64 k2), .dat (.int .i64 f2), .dat (.int .i64 o2), .dat (.int .i64 v2), .dat (.list P2)]] (· = .dat (.bool (RedirD.same ⟨k1, f1, o1, v1, p1⟩ ⟨k2, f2, o2, v2, p2⟩))) := by
          cases hE
          rw [← hp1, ← hp2]
          exact c46 ⟨k1, f1, o1, v1, p1⟩ ⟨k2, f2, o2, v2, p2⟩
        generalize hq : RedirD.same ⟨k1, f1, o1, v1, p1⟩ ⟨k2, f2, o2, v2, p2⟩ = q at hcallq
        refine ⟨_, hcallq, ?_⟩
        rintro _ rfl
        cbv
        cases q
        case false =>
          cbv
          refine .eq (.boolE (bad ?_))
          exact hq
        cbv
        have hxy := next (by
          cases hE
          skip
          exact hq)
        refine ⟨⟨i + 1, hi2, hxy⟩, ?_, ?_⟩
        · show a.length - (i + 1) < a.length - i
          omega
        · cbv
          exact ⟨⟨.eq rfl, .eq rfl, .eq rfl, .eq rfl, .intE (by cases hE; exact inc_id hi2 hmax), trivial⟩, trivial⟩

def C20 (x y : NodeD) : Prop := CRet Tryz.prog 20 [x.av, y.av] (· = .dat (.bool (x.same y)))
def C49 (a b : List NodeD) : Prop := CRet Tryz.prog 49 [.dat (.list (NodeD.cellsL a)), .dat (.list (NodeD.cellsL b)), .fn 20 []] (· = .dat (.bool (NodeD.sameL a b)))
def C47 (x y : ItemD) : Prop := CRet Tryz.prog 47 [x.av, y.av] (· = .dat (.bool (x.same y)))
def C52 (a b : List ItemD) : Prop := CRet Tryz.prog 52 [.dat (.list (ItemD.cellsL a)), .dat (.list (ItemD.cellsL b)), .fn 47 []] (· = .dat (.bool (ItemD.sameL a b)))
set_option maxRecDepth 100000 in
set_option maxHeartbeats 4000000 in
theorem c49s (n : Nat) (ih : ∀ x y : NodeD, x.sz ≤ n → C20 x y) (a b : List NodeD) (hsz : NodeD.szL a ≤ n): C49 a b := by
  refine cret_of_swp mixedOrders VT_ok Tryz.func49 (code := Tryz.f49.body.get (by kernel_rfl)) (by kernel_rfl) (by kernel_rfl) rfl fun E hE hreal => ?_
  obtain ⟨ar, cm, sc, eb, wr, ln, sl, ct, ap, sb, ss, u8, mx, nth, off, sat, sok, stok, cat, bd, szs, ne, nil, call, callF⟩ := E
  have hmax : a.length ≤ maxLen := by have := real_list (hreal 0 _ rfl); rwa [NodeD.cellsL_len] at this
  clear hreal
  generalize hA : NodeD.cellsL a = A
  generalize hB : NodeD.cellsL b = B
  generalize hr : NodeD.sameL a b = r
  cbv
  generalize h1 : cm .neq _ _ = c1
  cases c1
  case true =>
    cbv
    refine .eq (.boolE ?_)
    rw [← hr]
    cases hq : NodeD.sameL a b with
    | false => rfl
    | true =>
      have := (NodeD.sameL_iff.1 hq).1
      cases hE
      simp [cmI] at h1
      rw [← hA, ← hB, NodeD.cellsL_len, NodeD.cellsL_len] at h1
      omega
  case false =>
    cbv
    have hAl : A.length = a.length := by rw [← hA, NodeD.cellsL_len]
    have hBl : B.length = b.length := by rw [← hB, NodeD.cellsL_len]
    have hlen : a.length = b.length := by
      cases hE
      simp [cmI] at h1
      omega
    refine .mk {i : Nat // i ≤ a.length ∧ ∀ (j : Nat) (x y : NodeD), j < i → a[j]? = some x → b[j]? = some y → NodeD.same x y = true} (fun i => ⟨slotsOf 32 [(1, .dat (.list B)), (2, .fn 20 []), (15, .dat (.list A)), (16, .dat (.int .i64 (ln A 0))), (17, .dat (.int .i64 i.1))], []⟩) (fun i => a.length - i.1) ⟨0, Nat.zero_le _, fun j x y h => by omega⟩ ?_ ?_
    · cbv
      exact ⟨⟨.eq rfl, .eq rfl, .eq rfl, .eq rfl, .eq rfl, trivial⟩, trivial⟩
    · rintro ⟨i, hi, hs⟩
      cbv
      generalize h2 : cm .lss _ _ = c2
      cases c2
      case false =>
        cbv
        have hi2 : i = a.length := by
          cases hE
          simp [cmI, hAl] at h2
          omega
        refine .eq (.boolE ?_)
        rw [← hr]
        refine (NodeD.sameL_iff.2 ⟨hlen, fun j x y hx hy => hs j x y ?_ hx hy⟩).symm
        rw [hi2]
        exact (List.getElem?_eq_some_iff.1 hx).1
      case true =>
        have hi2 : i < a.length := by
          cases hE
          simp [cmI, hAl] at h2
          omega
        obtain ⟨x, hx⟩ : ∃ x, a[i]? = some x := ⟨_, List.getElem?_eq_getElem hi2⟩
        obtain ⟨y, hy⟩ : ∃ y, b[i]? = some y := ⟨_, List.getElem?_eq_getElem (hlen ▸ hi2)⟩
        obtain ⟨k1, p1, n1, a1, g1, w1, r1, d1, i1⟩ := x
        obtain ⟨k2, p2, n2, a2, g2, w2, r2, d2, i2⟩ := y
        have nx : nth A (Int.ofNat i) (NodeD.cells (.mk k1 p1 n1 a1 g1 w1 r1 d1 i1)) 9 := by
          cases hE
          exact ⟨Int.natCast_nonneg i, by rw [← hA]; exact NodeD.cellsL_get hx, rfl⟩
        have ny : nth B (Int.ofNat i) (NodeD.cells (.mk k2 p2 n2 a2 g2 w2 r2 d2 i2)) 9 := by
          cases hE
          exact ⟨Int.natCast_nonneg i, by rw [← hB]; exact NodeD.cellsL_get hy, rfl⟩
        simp only [NodeD.cells] at nx ny
        generalize hg1 : g1.map AssignD.cells = G1 at nx
        generalize hw1 : w1.map WordD.cells = W1 at nx
        generalize hr1 : r1.map RedirD.cells = R1 at nx
        generalize hd1 : NodeD.cellsL d1 = D1 at nx
        generalize hi1 : ItemD.cellsL i1 = I1 at nx
        generalize hg2 : g2.map AssignD.cells = G2 at ny
        generalize hw2 : w2.map WordD.cells = W2 at ny
        generalize hr2 : r2.map RedirD.cells = R2 at ny
        generalize hd2 : NodeD.cellsL d2 = D2 at ny
        generalize hi2' : ItemD.cellsL i2 = I2 at ny
        have bad : NodeD.same (.mk k1 p1 n1 a1 g1 w1 r1 d1 i1) (.mk k2 p2 n2 a2 g2 w2 r2 d2 i2) = false → false = r := fun h => by
          rw [← hr]
          cases hq : NodeD.sameL a b with
          | false => rfl
          | true =>
            have := (NodeD.sameL_iff.1 hq).2 i _ _ hx hy
            rw [h] at this
            cases this
        have next : NodeD.same (.mk k1 p1 n1 a1 g1 w1 r1 d1 i1) (.mk k2 p2 n2 a2 g2 w2 r2 d2 i2) = true → ∀ (j : Nat) (x y : NodeD), j < i + 1 → a[j]? = some x → b[j]? = some y → NodeD.same x y = true := fun hxy j x y hj hx' hy' => by
          rcases Nat.lt_succ_iff_lt_or_eq.1 hj with h | rfl
          · exact hs j x y h hx' hy'
          · rw [hx] at hx'
            rw [hy] at hy'
            injection hx' with hx'
            injection hy' with hy'
            subst hx' hy'
            exact hxy
        cbv
        refine ⟨_, nx, ?_⟩
        cbv
        refine ⟨_, ny, ?_⟩
        cbv
        have hcallq : call 20 [.agg [.dat (.int .i64 k1), .dat (.int .i64 p1), .dat (.str n1), .dat (.bool a1), .dat (.list G1), .dat (.list W1), .dat (.list R1), .dat (.list D1), .dat (.list I1)], .agg [.dat (.int .i64 k2), .dat (.int .i64 p2), .dat (.str n2), .dat (.bool a2), .dat (.list G2), .dat (.list W2), .dat (.list R2), .dat (.list D2), .dat (.list I2)]] (· = .dat (.bool (NodeD.same (.mk k1 p1 n1 a1 g1 w1 r1 d1 i1) (.mk k2 p2 n2 a2 g2 w2 r2 d2 i2)))) := by
          cases hE
          rw [← hg1, ← hw1, ← hr1, ← hd1, ← hi1, ← hg2, ← hw2, ← hr2, ← hd2, ← hi2']
          refine ih (.mk k1 p1 n1 a1 g1 w1 r1 d1 i1) (.mk k2 p2 n2 a2 g2 w2 r2 d2 i2) ?_
          exact Nat.le_trans (by rw [NodeD.szL_by]; exact szBy_mem hx) hsz
        generalize hq : NodeD.same (.mk k1 p1 n1 a1 g1 w1 r1 d1 i1) (.mk k2 p2 n2 a2 g2 w2 r2 d2 i2) = q at hcallq
        refine ⟨_, hcallq, ?_⟩
        rintro _ rfl
        cbv
        cases q
        case false =>
          cbv
          refine .eq (.boolE (bad ?_))
          exact hq
        cbv
        have hxy := next (by
          cases hE
          skip
          exact hq)
        refine ⟨⟨i + 1, hi2, hxy⟩, ?_, ?_⟩
        · show a.length - (i + 1) < a.length - i
          omega
        · cbv
          exact ⟨⟨.eq rfl, .eq rfl, .eq rfl, .eq rfl, .intE (by cases hE; exact inc_id hi2 hmax), trivial⟩, trivial⟩

set_option maxRecDepth 100000 in
set_option maxHeartbeats 4000000 in
theorem c47s (n : Nat) (ih : ∀ x y : NodeD, x.sz ≤ n → C20 x y) (x y : ItemD) (hsz : x.sz ≤ n) : C47 x y := by
  obtain ⟨p1, d1⟩ := x
  obtain ⟨p2, d2⟩ := y
  refine cret_of_swp mixedOrders VT_ok Tryz.func47 (code := Tryz.f47.body.get (by kernel_rfl)) (by kernel_rfl) (by kernel_rfl) rfl fun E hE hreal => ?_
  obtain ⟨ar, cm, sc, eb, wr, ln, sl, ct, ap, sb, ss, u8, mx, nth, off, sat, sok, stok, cat, bd, szs, ne, nil, call, callF⟩ := E
  clear hreal
  simp only [ItemD.av, ItemD.cells, List.map_cons, List.map_nil]
  generalize hp1 : p1.map WordD.cells = P1
  generalize hp2 : p2.map WordD.cells = P2
  generalize hd1 : NodeD.cellsL d1 = D1
  generalize hd2 : NodeD.cellsL d2 = D2
  generalize hr : ItemD.same (.mk p1 d1) (.mk p2 d2) = r
  cbv
  have hcallq : call 48 [.dat (.list P1), .dat (.list P2), .fn 45 []] (· = .dat (.bool (sameBy WordD.same p1 p2))) := by
    cases hE
    rw [← hp1, ← hp2]
    exact c48 p1 p2
  generalize hq : sameBy WordD.same p1 p2 = q at hcallq
  refine ⟨_, hcallq, ?_⟩
  rintro _ rfl
  cbv
  cases q
  case false =>
    cbv
    refine .eq (.boolE ?_)
    rw [← hr]
    cases hE
    simp [ItemD.same, hq]
  cbv
  have hcallq2 : call 49 [.dat (.list D1), .dat (.list D2), .fn 20 []] (· = .dat (.bool (NodeD.sameL d1 d2))) := by
    cases hE
    rw [← hd1, ← hd2]
    refine c49s n ih d1 d2 ?_
    have h1 := hsz
    simp [ItemD.sz] at h1
    omega
  generalize hq2 : NodeD.sameL d1 d2 = q2 at hcallq2
  refine ⟨_, hcallq2, ?_⟩
  rintro _ rfl
  cbv
  cases q2
  case false =>
    cbv
    refine .eq (.boolE ?_)
    rw [← hr]
    cases hE
    simp [ItemD.same, hq2]
  cbv
  refine .eq (.boolE ?_)
  rw [← hr]
  cases hE
  skip
  simp [ItemD.same, hq, hq2]

set_option maxRecDepth 100000 in
set_option maxHeartbeats 4000000 in
theorem c52s (n : Nat) (ih : ∀ x y : NodeD, x.sz ≤ n → C20 x y) (a b : List ItemD) (hsz : ItemD.szL a ≤ n): C52 a b := by
  refine cret_of_swp mixedOrders VT_ok Tryz.func52 (code := Tryz.f52.body.get (by kernel_rfl)) (by kernel_rfl) (by kernel_rfl) rfl fun E hE hreal => ?_
  obtain ⟨ar, cm, sc, eb, wr, ln, sl, ct, ap, sb, ss, u8, mx, nth, off, sat, sok, stok, cat, bd, szs, ne, nil, call, callF⟩ := E
  have hmax : a.length ≤ maxLen := by have := real_list (hreal 0 _ rfl); rwa [ItemD.cellsL_len] at this
  clear hreal
  generalize hA : ItemD.cellsL a = A
  generalize hB : ItemD.cellsL b = B
  generalize hr : ItemD.sameL a b = r
  cbv
  generalize h1 : cm .neq _ _ = c1
  cases c1
  case true =>
    cbv
    refine .eq (.boolE ?_)
    rw [← hr]
    cases hq : ItemD.sameL a b with
    | false => rfl
    | true =>
      have := (ItemD.sameL_iff.1 hq).1
      cases hE
      simp [cmI] at h1
      rw [← hA, ← hB, ItemD.cellsL_len, ItemD.cellsL_len] at h1
      omega
  case false =>
    cbv
    have hAl : A.length = a.length := by rw [← hA, ItemD.cellsL_len]
    have hBl : B.length = b.length := by rw [← hB, ItemD.cellsL_len]
    have hlen : a.length = b.length := by
      cases hE
      simp [cmI] at h1
      omega
    refine .mk {i : Nat // i ≤ a.length ∧ ∀ (j : Nat) (x y : ItemD), j < i → a[j]? = some x → b[j]? = some y → ItemD.same x y = true} (fun i => ⟨slotsOf 32 [(1, .dat (.list B)), (2, .fn 47 []), (15, .dat (.list A)), (16, .dat (.int .i64 (ln A 0))), (17, .dat (.int .i64 i.1))], []⟩) (fun i => a.length - i.1) ⟨0, Nat.zero_le _, fun j x y h => by omega⟩ ?_ ?_
    · cbv
      exact ⟨⟨.eq rfl, .eq rfl, .eq rfl, .eq rfl, .eq rfl, trivial⟩, trivial⟩
    · rintro ⟨i, hi, hs⟩
      cbv
      generalize h2 : cm .lss _ _ = c2
      cases c2
      case false =>
        cbv
        have hi2 : i = a.length := by
          cases hE
          simp [cmI, hAl] at h2
          omega
        refine .eq (.boolE ?_)
        rw [← hr]
        refine (ItemD.sameL_iff.2 ⟨hlen, fun j x y hx hy => hs j x y ?_ hx hy⟩).symm
        rw [hi2]
        exact (List.getElem?_eq_some_iff.1 hx).1
      case true =>
        have hi2 : i < a.length := by
          cases hE
          simp [cmI, hAl] at h2
          omega
        obtain ⟨x, hx⟩ : ∃ x, a[i]? = some x := ⟨_, List.getElem?_eq_getElem hi2⟩
        obtain ⟨y, hy⟩ : ∃ y, b[i]? = some y := ⟨_, List.getElem?_eq_getElem (hlen ▸ hi2)⟩
        obtain ⟨p1, d1⟩ := x
        obtain ⟨p2, d2⟩ := y
        have nx : nth A (Int.ofNat i) (ItemD.cells (.mk p1 d1)) 2 := by
          cases hE
          exact ⟨Int.natCast_nonneg i, by rw [← hA]; exact ItemD.cellsL_get hx, rfl⟩
        have ny : nth B (Int.ofNat i) (ItemD.cells (.mk p2 d2)) 2 := by
          cases hE
          exact ⟨Int.natCast_nonneg i, by rw [← hB]; exact ItemD.cellsL_get hy, rfl⟩
        simp only [ItemD.cells] at nx ny
        generalize hp1 : p1.map WordD.cells = P1 at nx
        generalize hp2 : p2.map WordD.cells = P2 at ny
        generalize hd1 : NodeD.cellsL d1 = D1 at nx
        generalize hd2 : NodeD.cellsL d2 = D2 at ny
        have bad : ItemD.same (.mk p1 d1) (.mk p2 d2) = false → false = r := fun h => by
          rw [← hr]
          cases hq : ItemD.sameL a b with
          | false => rfl
          | true =>
            have := (ItemD.sameL_iff.1 hq).2 i _ _ hx hy
            rw [h] at this
            cases this
        have next : ItemD.same (.mk p1 d1) (.mk p2 d2) = true → ∀ (j : Nat) (x y : ItemD), j < i + 1 → a[j]? = some x → b[j]? = some y → ItemD.same x y = true := fun hxy j x y hj hx' hy' => by
          rcases Nat.lt_succ_iff_lt_or_eq.1 hj with h | rfl
          · exact hs j x y h hx' hy'
          · rw [hx] at hx'
            rw [hy] at hy'
            injection hx' with hx'
            injection hy' with hy'
            subst hx' hy'
            exact hxy
        cbv
        refine ⟨_, nx, ?_⟩
        cbv
        refine ⟨_, ny, ?_⟩
        cbv
        have hcallq : call 47 [.agg [.dat (.list P1), .dat (.list D1)], .agg [.dat (.list P2), .dat (.list D2)]] (· = .dat (.bool (ItemD.same (.mk p1 d1) (.mk p2 d2)))) := by
          cases hE
          rw [← hp1, ← hp2, ← hd1, ← hd2]
          exact c47s n ih (.mk p1 d1) (.mk p2 d2) (Nat.le_trans (by rw [ItemD.szL_by]; exact szBy_mem hx) hsz)
        generalize hq : ItemD.same (.mk p1 d1) (.mk p2 d2) = q at hcallq
        refine ⟨_, hcallq, ?_⟩
        rintro _ rfl
        cbv
        cases q
        case false =>
          cbv
          refine .eq (.boolE (bad ?_))
          exact hq
        cbv
        have hxy := next (by
          cases hE
          skip
          exact hq)
        refine ⟨⟨i + 1, hi2, hxy⟩, ?_, ?_⟩
        · show a.length - (i + 1) < a.length - i
          omega
        · cbv
          exact ⟨⟨.eq rfl, .eq rfl, .eq rfl, .eq rfl, .intE (by cases hE; exact inc_id hi2 hmax), trivial⟩, trivial⟩

set_option maxRecDepth 100000 in
set_option maxHeartbeats 4000000 in
theorem c20s (n : Nat) (ih : ∀ x y : NodeD, x.sz ≤ n → C20 x y) (x y : NodeD) (hsz : x.sz ≤ n + 1) : C20 x y := by
  obtain ⟨k1, p1, n1, a1, g1, w1, r1, d1, i1⟩ := x
  obtain ⟨k2, p2, n2, a2, g2, w2, r2, d2, i2⟩ := y
  refine cret_of_swp mixedOrders VT_ok Tryz.func20 (code := Tryz.f20.body.get (by kernel_rfl)) (by kernel_rfl) (by kernel_rfl) rfl fun E hE hreal => ?_
  obtain ⟨ar, cm, sc, eb, wr, ln, sl, ct, ap, sb, ss, u8, mx, nth, off, sat, sok, stok, cat, bd, szs, ne, nil, call, callF⟩ := E
  clear hreal
  simp only [NodeD.av, NodeD.cells, List.map_cons, List.map_nil]
  generalize hg1 : g1.map AssignD.cells = G1
  generalize hw1 : w1.map WordD.cells = W1
  generalize hr1 : r1.map RedirD.cells = R1
  generalize hd1 : NodeD.cellsL d1 = D1
  generalize hi1 : ItemD.cellsL i1 = I1
  generalize hg2 : g2.map AssignD.cells = G2
  generalize hw2 : w2.map WordD.cells = W2
  generalize hr2 : r2.map RedirD.cells = R2
  generalize hd2 : NodeD.cellsL d2 = D2
  generalize hi2 : ItemD.cellsL i2 = I2
  generalize hr : NodeD.same (.mk k1 p1 n1 a1 g1 w1 r1 d1 i1) (.mk k2 p2 n2 a2 g2 w2 r2 d2 i2) = r
  cbv
  generalize h3 : cm .eql _ _ = c3
  cases c3
  case false =>
    cbv
    refine .eq (.boolE ?_)
    rw [← hr]
    cases hE
    simp [cmI] at h3
    simp [NodeD.same, h3]
  cbv
  generalize h4 : sc .eql _ _ = c4
  cases c4
  case false =>
    cbv
    refine .eq (.boolE ?_)
    rw [← hr]
    cases hE
    simp [scS] at h4
    simp [NodeD.same, h4]
  cbv
  generalize h5 : eb _ _ = c5
  cases c5
  case false =>
    cbv
    refine .eq (.boolE ?_)
    rw [← hr]
    cases hE
    simp [] at h5
    simp [NodeD.same, h5]
  cbv
  have hcallq1 : call 50 [.dat (.list G1), .dat (.list G2), .fn 44 []] (· = .dat (.bool (sameBy AssignD.same g1 g2))) := by
    cases hE
    rw [← hg1, ← hg2]
    exact c50 g1 g2
  generalize hq1 : sameBy AssignD.same g1 g2 = q1 at hcallq1
  refine ⟨_, hcallq1, ?_⟩
  rintro _ rfl
  cbv
  cases q1
  case false =>
    cbv
    refine .eq (.boolE ?_)
    rw [← hr]
    cases hE
    simp [NodeD.same, hq1]
  cbv
  have hcallq2 : call 48 [.dat (.list W1), .dat (.list W2), .fn 45 []] (· = .dat (.bool (sameBy WordD.same w1 w2))) := by
    cases hE
    rw [← hw1, ← hw2]
    exact c48 w1 w2
  generalize hq2 : sameBy WordD.same w1 w2 = q2 at hcallq2
  refine ⟨_, hcallq2, ?_⟩
  rintro _ rfl
  cbv
  cases q2
  case false =>
    cbv
    refine .eq (.boolE ?_)
    rw [← hr]
    cases hE
    simp [NodeD.same, hq2]
  cbv
  have hcallq3 : call 51 [.dat (.list R1), .dat (.list R2), .fn 46 []] (· = .dat (.bool (sameBy RedirD.same r1 r2))) := by
    cases hE
    rw [← hr1, ← hr2]
    exact c51 r1 r2
  generalize hq3 : sameBy RedirD.same r1 r2 = q3 at hcallq3
  refine ⟨_, hcallq3, ?_⟩
  rintro _ rfl
  cbv
  cases q3
  case false =>
    cbv
    refine .eq (.boolE ?_)
    rw [← hr]
    cases hE
    simp [NodeD.same, hq3]
  cbv
  have hcallq4 : call 49 [.dat (.list D1), .dat (.list D2), .fn 20 []] (· = .dat (.bool (NodeD.sameL d1 d2))) := by
    cases hE
    rw [← hd1, ← hd2]
    refine c49s n ih d1 d2 ?_
    have h1 := hsz
    simp [NodeD.sz] at h1
    omega
  generalize hq4 : NodeD.sameL d1 d2 = q4 at hcallq4
  refine ⟨_, hcallq4, ?_⟩
  rintro _ rfl
  cbv
  cases q4
  case false =>
    cbv
    refine .eq (.boolE ?_)
    rw [← hr]
    cases hE
    simp [NodeD.same, hq4]
  cbv
  have hcallq5 : call 52 [.dat (.list I1), .dat (.list I2), .fn 47 []] (· = .dat (.bool (ItemD.sameL i1 i2))) := by
    cases hE
    rw [← hi1, ← hi2]
    refine c52s n ih i1 i2 ?_
    have h1 := hsz
    simp [NodeD.sz] at h1
    omega
  generalize hq5 : ItemD.sameL i1 i2 = q5 at hcallq5
  refine ⟨_, hcallq5, ?_⟩
  rintro _ rfl
  cbv
  cases q5
  case false =>
    cbv
    refine .eq (.boolE ?_)
    rw [← hr]
    cases hE
    simp [NodeD.same, hq5]
  cbv
  refine .eq (.boolE ?_)
  rw [← hr]
  cases hE
  simp [cmI] at h3
  simp [scS] at h4
  simp at h5
  simp [NodeD.same, h3, h4, h5, hq1, hq2, hq3, hq4, hq5]

theorem c20 (x y : NodeD) : C20 x y := by
  have key : ∀ n (x y : NodeD), x.sz ≤ n → C20 x y := fun n => by
    induction n with
    | zero => intro x y h; have := x.sz_pos; omega
    | succ n ih => exact c20s n ih
  exact key _ x y (Nat.le_refl _)
end Go.Proofs.YtdfcjodkmjofgaaGreat
