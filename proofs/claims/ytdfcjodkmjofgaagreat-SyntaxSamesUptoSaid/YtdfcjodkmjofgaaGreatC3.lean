/-
  Nodes and branches held against each other, by the specification.
-/
import Derived.Test.YtdfcjodkmjofgaaGreatC2
namespace Go.Proofs.YtdfcjodkmjofgaaGreat
open Go.RowKit

def C21 (x y : NodeD) : Prop := CRet Tryz.prog 21 [x.av, y.av] (· = .dat (.bool (x.same y)))
def C56 (a b : List NodeD) : Prop := CRet Tryz.prog 56 [.dat (.list (NodeD.cellsL a)), .dat (.list (NodeD.cellsL b))] (· = .dat (.bool (NodeD.sameL a b)))
def C57 (a b : List ItemD) : Prop := CRet Tryz.prog 57 [.dat (.list (ItemD.cellsL a)), .dat (.list (ItemD.cellsL b))] (· = .dat (.bool (ItemD.sameL a b)))
set_option maxRecDepth 100000 in
set_option maxHeartbeats 4000000 in
theorem c56s (n : Nat) (ih : ∀ x y : NodeD, x.sz ≤ n → C21 x y) (a b : List NodeD) (hsz : NodeD.szL a ≤ n): C56 a b := by
  refine cret_of_swp mixedOrders VT_ok Tryz.func56 (code := Tryz.f56.body.get (by kernel_rfl)) (by kernel_rfl) (by kernel_rfl) rfl fun E hE hreal => ?_
  obtain ⟨ar, cm, sc, eb, wr, ln, sl, ct, ap, sb, ss, u8, mx, nth, off, sat, sok, stok, cat, bd, szs, ne, nil, call, callF⟩ := E
  have hmax : a.length ≤ maxLen := by have := real_list (hreal 0 _ rfl); rwa [NodeD.cellsL_len] at this
  clear hreal
  generalize hA : NodeD.cellsL a = A
  generalize hB : NodeD.cellsL b = B
  generalize hr : NodeD.sameL a b = r
  cbv
  generalize h1 : cm .neq _ _ = c1
  cases c1
  case true =>
    cbv
    refine .eq (.boolE ?_)
    rw [← hr]
    cases hq : NodeD.sameL a b with
    | false => rfl
    | true =>
      have := (NodeD.sameL_iff.1 hq).1
      cases hE
      simp [cmI] at h1
      rw [← hA, ← hB, NodeD.cellsL_len, NodeD.cellsL_len] at h1
      omega
  case false =>
    cbv
    have hAl : A.length = a.length := by rw [← hA, NodeD.cellsL_len]
    have hBl : B.length = b.length := by rw [← hB, NodeD.cellsL_len]
    have hlen : a.length = b.length := by
      cases hE
      simp [cmI] at h1
      omega
    refine .mk {i : Nat // i ≤ a.length ∧ ∀ (j : Nat) (x y : NodeD), j < i → a[j]? = some x → b[j]? = some y → NodeD.same x y = true} (fun i => ⟨slotsOf 27 [(0, .dat (.list A)), (1, .dat (.list B)), (5, .dat (.int .i64 i.1))], []⟩) (fun i => a.length - i.1) ⟨0, Nat.zero_le _, fun j x y h => by omega⟩ ?_ ?_
    · cbv
      exact ⟨⟨.eq rfl, .eq rfl, .eq rfl, trivial⟩, trivial⟩
    · rintro ⟨i, hi, hs⟩
      cbv
      generalize h2 : cm .lss _ _ = c2
      cases c2
      case false =>
        cbv
        have hi2 : i = a.length := by
          cases hE
          simp [cmI, hAl] at h2
          omega
        refine .eq (.boolE ?_)
        rw [← hr]
        refine (NodeD.sameL_iff.2 ⟨hlen, fun j x y hx hy => hs j x y ?_ hx hy⟩).symm
        rw [hi2]
        exact (List.getElem?_eq_some_iff.1 hx).1
      case true =>
        have hi2 : i < a.length := by
          cases hE
          simp [cmI, hAl] at h2
          omega
        obtain ⟨x, hx⟩ : ∃ x, a[i]? = some x := ⟨_, List.getElem?_eq_getElem hi2⟩
        obtain ⟨y, hy⟩ : ∃ y, b[i]? = some y := ⟨_, List.getElem?_eq_getElem (hlen ▸ hi2)⟩
        obtain ⟨k1, p1, n1, a1, g1, w1, r1, d1, i1⟩ := x
        obtain ⟨k2, p2, n2, a2, g2, w2, r2, d2, i2⟩ := y
        have nx : nth A (Int.ofNat i) (NodeD.cells (.mk k1 p1 n1 a1 g1 w1 r1 d1 i1)) 9 := by
          cases hE
          exact ⟨Int.natCast_nonneg i, by rw [← hA]; exact NodeD.cellsL_get hx, rfl⟩
        have ny : nth B (Int.ofNat i) (NodeD.cells (.mk k2 p2 n2 a2 g2 w2 r2 d2 i2)) 9 := by
          cases hE
          exact ⟨Int.natCast_nonneg i, by rw [← hB]; exact NodeD.cellsL_get hy, rfl⟩
        simp only [NodeD.cells] at nx ny
        generalize hg1 : g1.map AssignD.cells = G1 at nx
        generalize hw1 : w1.map WordD.cells = W1 at nx
        generalize hr1 : r1.map RedirD.cells = R1 at nx
        generalize hd1 : NodeD.cellsL d1 = D1 at nx
        generalize hi1 : ItemD.cellsL i1 = I1 at nx
        generalize hg2 : g2.map AssignD.cells = G2 at ny
        generalize hw2 : w2.map WordD.cells = W2 at ny
        generalize hr2 : r2.map RedirD.cells = R2 at ny
        generalize hd2 : NodeD.cellsL d2 = D2 at ny
        generalize hi2' : ItemD.cellsL i2 = I2 at ny
        have bad : NodeD.same (.mk k1 p1 n1 a1 g1 w1 r1 d1 i1) (.mk k2 p2 n2 a2 g2 w2 r2 d2 i2) = false → false = r := fun h => by
          rw [← hr]
          cases hq : NodeD.sameL a b with
          | false => rfl
          | true =>
            have := (NodeD.sameL_iff.1 hq).2 i _ _ hx hy
            rw [h] at this
            cases this
        have next : NodeD.same (.mk k1 p1 n1 a1 g1 w1 r1 d1 i1) (.mk k2 p2 n2 a2 g2 w2 r2 d2 i2) = true → ∀ (j : Nat) (x y : NodeD), j < i + 1 → a[j]? = some x → b[j]? = some y → NodeD.same x y = true := fun hxy j x y hj hx' hy' => by
          rcases Nat.lt_succ_iff_lt_or_eq.1 hj with h | rfl
          · exact hs j x y h hx' hy'
          · rw [hx] at hx'
            rw [hy] at hy'
            injection hx' with hx'
            injection hy' with hy'
            subst hx' hy'
            exact hxy
        cbv
        refine .quiet (by kernel_rfl) ?_
        cbv
        refine ⟨_, nx, ?_⟩
        cbv
        refine ⟨_, ny, ?_⟩
        cbv
        have hcallq : call 21 [.agg [.dat (.int .i64 k1), .dat (.int .i64 p1), .dat (.str n1), .dat (.bool a1), .dat (.list G1), .dat (.list W1), .dat (.list R1), .dat (.list D1), .dat (.list I1)], .agg [.dat (.int .i64 k2), .dat (.int .i64 p2), .dat (.str n2), .dat (.bool a2), .dat (.list G2), .dat (.list W2), .dat (.list R2), .dat (.list D2), .dat (.list I2)]] (· = .dat (.bool (NodeD.same (.mk k1 p1 n1 a1 g1 w1 r1 d1 i1) (.mk k2 p2 n2 a2 g2 w2 r2 d2 i2)))) := by
          cases hE
          rw [← hg1, ← hw1, ← hr1, ← hd1, ← hi1, ← hg2, ← hw2, ← hr2, ← hd2, ← hi2']
          refine ih (.mk k1 p1 n1 a1 g1 w1 r1 d1 i1) (.mk k2 p2 n2 a2 g2 w2 r2 d2 i2) ?_
          exact Nat.le_trans (by rw [NodeD.szL_by]; exact szBy_mem hx) hsz
        generalize hq : NodeD.same (.mk k1 p1 n1 a1 g1 w1 r1 d1 i1) (.mk k2 p2 n2 a2 g2 w2 r2 d2 i2) = q at hcallq
        refine ⟨_, hcallq, rfl, ?_⟩
        cbv
        cases q
        case false =>
          cbv
          refine .eq (.boolE (bad ?_))
          exact hq
        cbv
        have hxy := next (by
          cases hE
          skip
          exact hq)
        refine ⟨⟨i + 1, hi2, hxy⟩, ?_, ?_⟩
        · show a.length - (i + 1) < a.length - i
          omega
        · cbv
          exact ⟨⟨.eq rfl, .eq rfl, .intE (by cases hE; exact inc_id hi2 hmax), trivial⟩, trivial⟩

set_option maxRecDepth 100000 in
set_option maxHeartbeats 4000000 in
theorem c57s (n : Nat) (ih : ∀ x y : NodeD, x.sz ≤ n → C21 x y) (a b : List ItemD) (hsz : ItemD.szL a ≤ n): C57 a b := by
  refine cret_of_swp mixedOrders VT_ok Tryz.func57 (code := Tryz.f57.body.get (by kernel_rfl)) (by kernel_rfl) (by kernel_rfl) rfl fun E hE hreal => ?_
  obtain ⟨ar, cm, sc, eb, wr, ln, sl, ct, ap, sb, ss, u8, mx, nth, off, sat, sok, stok, cat, bd, szs, ne, nil, call, callF⟩ := E
  have hmax : a.length ≤ maxLen := by have := real_list (hreal 0 _ rfl); rwa [ItemD.cellsL_len] at this
  clear hreal
  generalize hA : ItemD.cellsL a = A
  generalize hB : ItemD.cellsL b = B
  generalize hr : ItemD.sameL a b = r
  cbv
  generalize h1 : cm .neq _ _ = c1
  cases c1
  case true =>
    cbv
    refine .eq (.boolE ?_)
    rw [← hr]
    cases hq : ItemD.sameL a b with
    | false => rfl
    | true =>
      have := (ItemD.sameL_iff.1 hq).1
      cases hE
      simp [cmI] at h1
      rw [← hA, ← hB, ItemD.cellsL_len, ItemD.cellsL_len] at h1
      omega
  case false =>
    cbv
    have hAl : A.length = a.length := by rw [← hA, ItemD.cellsL_len]
    have hBl : B.length = b.length := by rw [← hB, ItemD.cellsL_len]
    have hlen : a.length = b.length := by
      cases hE
      simp [cmI] at h1
      omega
    refine .mk {i : Nat // i ≤ a.length ∧ ∀ (j : Nat) (x y : ItemD), j < i → a[j]? = some x → b[j]? = some y → ItemD.same x y = true} (fun i => ⟨slotsOf 43 [(0, .dat (.list A)), (1, .dat (.list B)), (5, .dat (.int .i64 i.1))], []⟩) (fun i => a.length - i.1) ⟨0, Nat.zero_le _, fun j x y h => by omega⟩ ?_ ?_
    · cbv
      exact ⟨⟨.eq rfl, .eq rfl, .eq rfl, trivial⟩, trivial⟩
    · rintro ⟨i, hi, hs⟩
      cbv
      generalize h2 : cm .lss _ _ = c2
      cases c2
      case false =>
        cbv
        have hi2 : i = a.length := by
          cases hE
          simp [cmI, hAl] at h2
          omega
        refine .eq (.boolE ?_)
        rw [← hr]
        refine (ItemD.sameL_iff.2 ⟨hlen, fun j x y hx hy => hs j x y ?_ hx hy⟩).symm
        rw [hi2]
        exact (List.getElem?_eq_some_iff.1 hx).1
      case true =>
        have hi2 : i < a.length := by
          cases hE
          simp [cmI, hAl] at h2
          omega
        obtain ⟨x, hx⟩ : ∃ x, a[i]? = some x := ⟨_, List.getElem?_eq_getElem hi2⟩
        obtain ⟨y, hy⟩ : ∃ y, b[i]? = some y := ⟨_, List.getElem?_eq_getElem (hlen ▸ hi2)⟩
        obtain ⟨p1, d1⟩ := x
        obtain ⟨p2, d2⟩ := y
        have nx : nth A (Int.ofNat i) (ItemD.cells (.mk p1 d1)) 2 := by
          cases hE
          exact ⟨Int.natCast_nonneg i, by rw [← hA]; exact ItemD.cellsL_get hx, rfl⟩
        have ny : nth B (Int.ofNat i) (ItemD.cells (.mk p2 d2)) 2 := by
          cases hE
          exact ⟨Int.natCast_nonneg i, by rw [← hB]; exact ItemD.cellsL_get hy, rfl⟩
        simp only [ItemD.cells] at nx ny
        generalize hp1 : p1.map WordD.cells = P1 at nx
        generalize hp2 : p2.map WordD.cells = P2 at ny
        generalize hd1 : NodeD.cellsL d1 = D1 at nx
        generalize hd2 : NodeD.cellsL d2 = D2 at ny
        have bad : ItemD.same (.mk p1 d1) (.mk p2 d2) = false → false = r := fun h => by
          rw [← hr]
          cases hq : ItemD.sameL a b with
          | false => rfl
          | true =>
            have := (ItemD.sameL_iff.1 hq).2 i _ _ hx hy
            rw [h] at this
            cases this
        have next : ItemD.same (.mk p1 d1) (.mk p2 d2) = true → ∀ (j : Nat) (x y : ItemD), j < i + 1 → a[j]? = some x → b[j]? = some y → ItemD.same x y = true := fun hxy j x y hj hx' hy' => by
          rcases Nat.lt_succ_iff_lt_or_eq.1 hj with h | rfl
          · exact hs j x y h hx' hy'
          · rw [hx] at hx'
            rw [hy] at hy'
            injection hx' with hx'
            injection hy' with hy'
            subst hx' hy'
            exact hxy
        cbv
        refine .quiet (by kernel_rfl) ?_
        cbv
        refine ⟨_, nx, ?_⟩
        cbv
        refine ⟨_, ny, ?_⟩
        cbv
        have hcallq : call 54 [.dat (.list P1), .dat (.list P2)] (· = .dat (.bool (sameBy WordD.same p1 p2))) := by
          cases hE
          rw [← hp1, ← hp2]
          exact c54 p1 p2
        generalize hq : sameBy WordD.same p1 p2 = q at hcallq
        refine ⟨_, hcallq, rfl, ?_⟩
        cbv
        cases q
        case false =>
          cbv
          refine .eq (.boolE (bad ?_))
          simp [ItemD.same, hq]
        cbv
        refine ⟨_, nx, ?_⟩
        cbv
        refine ⟨_, ny, ?_⟩
        cbv
        have hcallq2 : call 56 [.dat (.list D1), .dat (.list D2)] (· = .dat (.bool (NodeD.sameL d1 d2))) := by
          cases hE
          rw [← hd1, ← hd2]
          refine c56s n ih d1 d2 ?_
          have h1 : ItemD.sz (.mk p1 d1) ≤ ItemD.szL a := by rw [ItemD.szL_by]; exact szBy_mem hx
          simp [ItemD.sz] at h1
          omega
        generalize hq2 : NodeD.sameL d1 d2 = q2 at hcallq2
        refine ⟨_, hcallq2, rfl, ?_⟩
        cbv
        cases q2
        case false =>
          cbv
          refine .eq (.boolE (bad ?_))
          simp [ItemD.same, hq2]
        cbv
        have hxy := next (by
          cases hE
          skip
          simp [ItemD.same, hq, hq2])
        refine ⟨⟨i + 1, hi2, hxy⟩, ?_, ?_⟩
        · show a.length - (i + 1) < a.length - i
          omega
        · cbv
          exact ⟨⟨.eq rfl, .eq rfl, .intE (by cases hE; exact inc_id hi2 hmax), trivial⟩, trivial⟩

set_option maxRecDepth 100000 in
set_option maxHeartbeats 4000000 in
theorem c21s (n : Nat) (ih : ∀ x y : NodeD, x.sz ≤ n → C21 x y) (x y : NodeD) (hsz : x.sz ≤ n + 1) : C21 x y := by
  obtain ⟨k1, p1, n1, a1, g1, w1, r1, d1, i1⟩ := x
  obtain ⟨k2, p2, n2, a2, g2, w2, r2, d2, i2⟩ := y
  refine cret_of_swp mixedOrders VT_ok Tryz.func21 (code := Tryz.f21.body.get (by kernel_rfl)) (by kernel_rfl) (by kernel_rfl) rfl fun E hE hreal => ?_
  obtain ⟨ar, cm, sc, eb, wr, ln, sl, ct, ap, sb, ss, u8, mx, nth, off, sat, sok, stok, cat, bd, szs, ne, nil, call, callF⟩ := E
  clear hreal
  simp only [NodeD.av, NodeD.cells, List.map_cons, List.map_nil]
  generalize hg1 : g1.map AssignD.cells = G1
  generalize hw1 : w1.map WordD.cells = W1
  generalize hr1 : r1.map RedirD.cells = R1
  generalize hd1 : NodeD.cellsL d1 = D1
  generalize hi1 : ItemD.cellsL i1 = I1
  generalize hg2 : g2.map AssignD.cells = G2
  generalize hw2 : w2.map WordD.cells = W2
  generalize hr2 : r2.map RedirD.cells = R2
  generalize hd2 : NodeD.cellsL d2 = D2
  generalize hi2 : ItemD.cellsL i2 = I2
  generalize hr : NodeD.same (.mk k1 p1 n1 a1 g1 w1 r1 d1 i1) (.mk k2 p2 n2 a2 g2 w2 r2 d2 i2) = r
  cbv
  generalize h3 : cm .neq _ _ = c3
  cases c3
  case true =>
    cbv
    refine .eq (.boolE ?_)
    rw [← hr]
    cases hE
    simp [cmI] at h3
    simp [NodeD.same, h3]
  cbv
  generalize h4 : sc .neq _ _ = c4
  cases c4
  case true =>
    cbv
    refine .eq (.boolE ?_)
    rw [← hr]
    cases hE
    simp [scS] at h4
    simp [NodeD.same, h4]
  cbv
  generalize h5 : eb _ _ = c5
  cases c5
  case false =>
    cbv
    refine .eq (.boolE ?_)
    rw [← hr]
    cases hE
    simp [] at h5
    simp [NodeD.same, h5]
  cbv
  have hcallq1 : call 53 [.dat (.list G1), .dat (.list G2)] (· = .dat (.bool (sameBy AssignD.same g1 g2))) := by
    cases hE
    rw [← hg1, ← hg2]
    exact c53 g1 g2
  generalize hq1 : sameBy AssignD.same g1 g2 = q1 at hcallq1
  refine ⟨_, hcallq1, ?_⟩
  rintro _ rfl
  cbv
  cases q1
  case false =>
    cbv
    refine .eq (.boolE ?_)
    rw [← hr]
    cases hE
    simp [NodeD.same, hq1]
  cbv
  have hcallq2 : call 54 [.dat (.list W1), .dat (.list W2)] (· = .dat (.bool (sameBy WordD.same w1 w2))) := by
    cases hE
    rw [← hw1, ← hw2]
    exact c54 w1 w2
  generalize hq2 : sameBy WordD.same w1 w2 = q2 at hcallq2
  refine ⟨_, hcallq2, ?_⟩
  rintro _ rfl
  cbv
  cases q2
  case false =>
    cbv
    refine .eq (.boolE ?_)
    rw [← hr]
    cases hE
    simp [NodeD.same, hq2]
  cbv
  have hcallq3 : call 55 [.dat (.list R1), .dat (.list R2)] (· = .dat (.bool (sameBy RedirD.same r1 r2))) := by
    cases hE
    rw [← hr1, ← hr2]
    exact c55 r1 r2
  generalize hq3 : sameBy RedirD.same r1 r2 = q3 at hcallq3
  refine ⟨_, hcallq3, ?_⟩
  rintro _ rfl
  cbv
  cases q3
  case false =>
    cbv
    refine .eq (.boolE ?_)
    rw [← hr]
    cases hE
    simp [NodeD.same, hq3]
  cbv
  have hcallq4 : call 56 [.dat (.list D1), .dat (.list D2)] (· = .dat (.bool (NodeD.sameL d1 d2))) := by
    cases hE
    rw [← hd1, ← hd2]
    refine c56s n ih d1 d2 ?_
    have h1 := hsz
    simp [NodeD.sz] at h1
    omega
  generalize hq4 : NodeD.sameL d1 d2 = q4 at hcallq4
  refine ⟨_, hcallq4, ?_⟩
  rintro _ rfl
  cbv
  cases q4
  case false =>
    cbv
    refine .eq (.boolE ?_)
    rw [← hr]
    cases hE
    simp [NodeD.same, hq4]
  cbv
  have hcallq5 : call 57 [.dat (.list I1), .dat (.list I2)] (· = .dat (.bool (ItemD.sameL i1 i2))) := by
    cases hE
    rw [← hi1, ← hi2]
    refine c57s n ih i1 i2 ?_
    have h1 := hsz
    simp [NodeD.sz] at h1
    omega
  generalize hq5 : ItemD.sameL i1 i2 = q5 at hcallq5
  refine ⟨_, hcallq5, ?_⟩
  rintro _ rfl
  cbv
  cases q5
  case false =>
    cbv
    refine .eq (.boolE ?_)
    rw [← hr]
    cases hE
    simp [NodeD.same, hq5]
  cbv
  refine .eq (.boolE ?_)
  rw [← hr]
  cases hE
  simp [cmI] at h3
  simp [scS] at h4
  simp at h5
  simp [NodeD.same, h3, h4, h5, hq1, hq2, hq3, hq4, hq5]

theorem c21 (x y : NodeD) : C21 x y := by
  have key : ∀ n (x y : NodeD), x.sz ≤ n → C21 x y := fun n => by
    induction n with
    | zero => intro x y h; have := x.sz_pos; omega
    | succ n ih => exact c21s n ih
  exact key _ x y (Nat.le_refl _)
end Go.Proofs.YtdfcjodkmjofgaaGreat
