/-
  Parts that are held against each other.
-/
import Derived.Test.YtdfcjodkmjofgaaGreatTab
import Derived.Test.YtdfcjodkmjofgaaGreatPrim
namespace Go.Proofs.YtdfcjodkmjofgaaGreat
open Go.RowKit

def C93 (a b : List PartD) : Prop := CRet Tryz.prog 93 [.dat (.list (PartD.cellsL a)), .dat (.list (PartD.cellsL b))] (· = .dat (.bool (PartD.sameL a b)))
set_option maxRecDepth 100000 in
theorem c93s (n : Nat) (ih : ∀ a b : List PartD, PartD.szL a < n → C93 a b) (a b : List PartD) (hsz : PartD.szL a < n + 1) : C93 a b := by
  refine cret_of_swp mixedOrders VT_ok Tryz.func93 (code := Tryz.f93.body.get (by kernel_rfl)) (by kernel_rfl) (by kernel_rfl) rfl fun E hE hreal => ?_
  obtain ⟨ar, cm, sc, eb, wr, ln, sl, ct, ap, sb, ss, u8, mx, nth, off, sat, sok, stok, cat, bd, szs, ne, nil, call, callF⟩ := E
  have hmax : a.length ≤ maxLen := by have := real_list (hreal 0 _ rfl); rwa [PartD.cellsL_len] at this
  clear hreal
  generalize hA : PartD.cellsL a = A
  generalize hB : PartD.cellsL b = B
  generalize hr : PartD.sameL a b = r
  cbv
  generalize h1 : cm .neq _ _ = c1
  cases c1
  · cbv
    have hlen : a.length = b.length := by
      cases hE
      rw [← PartD.cellsL_len a, ← PartD.cellsL_len b, hA, hB]
      simp [cmI] at h1
      omega
    have hAl : A.length = a.length := by rw [← hA, PartD.cellsL_len]
    refine .mk {i : Nat // i ≤ a.length ∧ ∀ (j : Nat) (x y : PartD), j < i → a[j]? = some x → b[j]? = some y → x.same y = true} (fun i => ⟨slotsOf 61 [(0, .dat (.list A)), (1, .dat (.list B)), (5, .dat (.int .i64 i.1))], []⟩) (fun i => a.length - i.1) ⟨0, Nat.zero_le _, fun j x y h => by omega⟩ ?_ ?_
    · cbv
      exact ⟨⟨.eq rfl, .eq rfl, .eq rfl, trivial⟩, trivial⟩
    · rintro ⟨i, hi, hs⟩
      cbv
      generalize h2 : cm .lss _ _ = c2
      cases c2
      · cbv
        have hi2 : i = a.length := by
          cases hE
          simp [cmI, hAl] at h2
          omega
        refine .eq (.boolE ?_)
        rw [← hr]
        refine (PartD.sameL_iff.2 ⟨hlen, fun j x y hx hy => hs j x y ?_ hx hy⟩).symm
        rw [hi2]
        exact (List.getElem?_eq_some_iff.1 hx).1
      · have hi2 : i < a.length := by
          cases hE
          simp [cmI, hAl] at h2
          omega
        obtain ⟨x, hx⟩ : ∃ x, a[i]? = some x := ⟨_, List.getElem?_eq_getElem hi2⟩
        obtain ⟨y, hy⟩ : ∃ y, b[i]? = some y := ⟨_, List.getElem?_eq_getElem (hlen ▸ hi2)⟩
        obtain ⟨k1, t1, o1, e1, p1⟩ := x
        obtain ⟨k2, t2, o2, e2, p2⟩ := y
        have nx : nth A (Int.ofNat i) (PartD.cells (.mk k1 t1 o1 e1 p1)) 5 := by
          cases hE
          exact ⟨Int.natCast_nonneg i, by rw [← hA]; exact PartD.cellsL_get hx, rfl⟩
        have ny : nth B (Int.ofNat i) (PartD.cells (.mk k2 t2 o2 e2 p2)) 5 := by
          cases hE
          exact ⟨Int.natCast_nonneg i, by rw [← hB]; exact PartD.cellsL_get hy, rfl⟩
        simp only [PartD.cells] at nx ny
        generalize hp1 : PartD.cellsL p1 = P1 at nx
        generalize hp2 : PartD.cellsL p2 = P2 at ny
        cbv
        refine .free 12 [⟨8, 63, [.dat (.int .i64 0), .dat (.str []), .dat (.int .i64 0), .dat (.bool false), .nils], some (10, [.dat (.int .i64 k1), .dat (.str t1), .dat (.int .i64 o1), .dat (.bool e1), .dat (.list P1)])⟩,
          ⟨9, 63, [.dat (.int .i64 0), .dat (.str []), .dat (.int .i64 0), .dat (.bool false), .nils], some (11, [.dat (.int .i64 k2), .dat (.str t2), .dat (.int .i64 o2), .dat (.bool e2), .dat (.list P2)])⟩] (by kernel_rfl) (by kernel_rfl) ?_
        cbv
        refine ⟨_, nx, ?_⟩
        cbv
        refine ⟨_, ny, ?_⟩
        cbv
        have bad : PartD.same (.mk k1 t1 o1 e1 p1) (.mk k2 t2 o2 e2 p2) = false → false = r := fun h => by
          rw [← hr]
          cases hq : PartD.sameL a b with
          | false => rfl
          | true =>
            have := (PartD.sameL_iff.1 hq).2 i _ _ hx hy
            rw [h] at this
            cases this
        generalize h3 : cm .neq _ _ = c3
        cases c3
        case true =>
          cbv
          refine .eq (.boolE (bad ?_))
          cases hE
          simp [cmI] at h3
          simp [PartD.same, h3]
        cbv
        generalize h4 : sc .neq _ _ = c4
        cases c4
        case true =>
          cbv
          refine .eq (.boolE (bad ?_))
          cases hE
          simp [scS] at h4
          simp [PartD.same, h4]
        cbv
        generalize h5 : cm .neq _ _ = c5
        cases c5
        case true =>
          cbv
          refine .eq (.boolE (bad ?_))
          cases hE
          simp [cmI] at h5
          simp [PartD.same, h5]
        cbv
        generalize h6 : eb _ _ = c6
        cases c6
        case false =>
          cbv
          refine .eq (.boolE (bad ?_))
          cases hE
          simp at h6
          simp [PartD.same, h6]
        cbv
        have hcall : call 93 [.dat (.list P1), .dat (.list P2)] (· = .dat (.bool (PartD.sameL p1 p2))) := by
          cases hE
          rw [← hp1, ← hp2]
          refine ih p1 p2 ?_
          have := PartD.sz_mem hx
          simp [PartD.sz] at this
          omega
        generalize hq : PartD.sameL p1 p2 = q at hcall
        refine ⟨_, hcall, ?_⟩
        rintro _ rfl
        cbv
        cases q
        · cbv
          refine .eq (.boolE (bad ?_))
          simp [PartD.same, hq]
        · cbv
          have hxy : PartD.same (.mk k1 t1 o1 e1 p1) (.mk k2 t2 o2 e2 p2) = true := by
            cases hE
            simp [cmI] at h3 h5
            simp [scS] at h4
            simp at h6
            simp [PartD.same, h3, h4, h5, h6, hq]
          refine ⟨⟨i + 1, hi2, fun j x y hj hx' hy' => ?_⟩, ?_, ?_⟩
          · rcases Nat.lt_succ_iff_lt_or_eq.1 hj with h | rfl
            · exact hs j x y h hx' hy'
            · rw [hx] at hx'
              rw [hy] at hy'
              injection hx' with hx'
              injection hy' with hy'
              subst hx' hy'
              exact hxy
          · show a.length - (i + 1) < a.length - i
            omega
          · cbv
            exact ⟨⟨.eq rfl, .eq rfl, .intE (by cases hE; exact inc_id hi2 hmax), trivial⟩, trivial⟩
  · cbv
    refine .eq (.boolE ?_)
    rw [← hr]
    cases hq : PartD.sameL a b with
    | false => rfl
    | true =>
      have := (PartD.sameL_iff.1 hq).1
      cases hE
      simp [cmI] at h1
      rw [← hA, ← hB, PartD.cellsL_len, PartD.cellsL_len] at h1
      omega
theorem c93 (a b : List PartD) : C93 a b := by
  have key : ∀ n (a b : List PartD), PartD.szL a < n → C93 a b := fun n => by
    induction n with
    | zero => intro a b h; omega
    | succ n ih => exact c93s n ih
  exact key _ a b (Nat.lt_succ_self _)
end Go.Proofs.YtdfcjodkmjofgaaGreat
