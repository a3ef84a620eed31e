/-
  The weight of parts and of nodes is some number.
-/
import Derived.Test.YtdfcjodkmjofgaaGreatC6
namespace Go.Proofs.YtdfcjodkmjofgaaGreat
open Go.RowKit

def isPair (r : AV) : Prop := ∃ x y, r = .tup [.dat (.int .i64 x), .dat (.int .i64 y)]
def isInt (r : AV) : Prop := ∃ x, r = .dat (.int .i64 x)
def C39 (a : List PartD) : Prop := CRet Tryz.prog 39 [.dat (.list (PartD.cellsL a))] isPair
def C11 (x : NodeD) : Prop := CRet Tryz.prog 11 [x.av] isInt
theorem kids_len (x : NodeD) : x.kidsL.length ≤ x.sz := by
  cases x with
  | mk k p n a g w r d is =>
    have h1 := take_flat ItemD.body ItemD.sz body_len is is.length
    have h2 := szBy_len NodeD.sz_pos d
    rw [← NodeD.szL_by] at h2
    rw [← ItemD.szL_by, List.take_length] at h1
    simp only [NodeD.sz, NodeD.kidsL, List.length_append]
    omega
theorem words_len (x : NodeD) : x.wordsL.length ≤ x.sz := by
  cases x with
  | mk k p n a g w r d is =>
    have h1 := take_flat ItemD.pats ItemD.sz pats_len is is.length
    have h2 := szBy_len AssignD.sz_pos g
    have h3 := szBy_len WordD.sz_pos w
    have h4 := szBy_len RedirD.sz_pos r
    rw [← ItemD.szL_by, List.take_length] at h1
    simp only [NodeD.sz, NodeD.wordsL, List.length_append, List.length_map]
    omega
theorem szBy_of_mem {α : Type} {f : α → Nat} {l : List α} {x : α} (h : x ∈ l) : f x ≤ szBy f l := by
  obtain ⟨i, hi⟩ := List.getElem?_of_mem h
  exact szBy_mem hi
theorem kids_sz {x y : NodeD} (h : y ∈ x.kidsL) : y.sz < x.sz := by
  cases x with
  | mk k p n a g w r d is =>
    simp only [NodeD.kidsL, List.mem_append, List.mem_flatMap] at h
    simp only [NodeD.sz]
    rcases h with h | ⟨it, h1, h2⟩
    · have := szBy_of_mem (f := NodeD.sz) h
      rw [← NodeD.szL_by] at this
      omega
    · have h3 := szBy_of_mem (f := ItemD.sz) h1
      rw [← ItemD.szL_by] at h3
      cases it with
      | mk ps b =>
        have h4 := szBy_of_mem (f := NodeD.sz) h2
        simp only [ItemD.body] at h4
        rw [← NodeD.szL_by] at h4
        simp only [ItemD.sz] at h3
        omega
set_option maxRecDepth 100000 in
set_option maxHeartbeats 4000000 in
theorem c39s (n : Nat) (ih : ∀ a : List PartD, PartD.szL a < n → C39 a) (a : List PartD) (hsz : PartD.szL a < n + 1) : C39 a := by
  obtain ⟨K, hK⟩ : ∃ K, K = isPair := ⟨_, rfl⟩
  show CRet Tryz.prog 39 [.dat (.list (PartD.cellsL a))] isPair
  rw [← hK]
  refine cretK_of_swp mixedOrders VT_ok Tryz.func39 (code := Tryz.f39.body.get (by kernel_rfl)) (by kernel_rfl) (by kernel_rfl) fun E hE hreal => ?_
  obtain ⟨ar, cm, sc, eb, wr, ln, sl, ct, ap, sb, ss, u8, mx, nth, off, sat, sok, stok, cat, bd, szs, ne, nil, call, callF⟩ := E
  have hmax : a.length ≤ maxLen := by have := real_list (hreal 0 _ rfl); rwa [PartD.cellsL_len] at this
  clear hreal
  generalize hA : PartD.cellsL a = A
  cbv
  have hLl : A.length = a.length := by rw [← hA, PartD.cellsL_len]
  refine .mk ({i : Nat // i ≤ a.length} × (Int × Int)) (fun q => ⟨slotsOf 41 [(0, .dat (.list A)), (4, .dat (.int .i64 q.2.1)), (5, .dat (.int .i64 q.2.2)), (6, .dat (.int .i64 q.1.1))], []⟩) (fun q => a.length - q.1.1) (⟨0, Nat.zero_le _⟩, (ln A 0, 0)) ?_ ?_
  · cbv
    and_intros <;> first | exact True.intro | exact LeV.eq rfl | (exact LeV.intE rfl)
  · rintro ⟨⟨i, hi⟩, ⟨z1, z2⟩⟩
    cbv
    generalize h2 : cm .lss _ _ = c2
    cases c2
    case false =>
      have hi2 : i = a.length := by
        cases hE
        simp [cmI, hLl] at h2
        omega
      subst hi2
      cbv
      refine .mk (.tup [.dat (.int .i64 z1), .dat (.int .i64 z2)]) (.tup ?_) (by rw [hK]; exact ⟨_, _, rfl⟩) rfl
      exact ⟨.eq rfl, .eq rfl, trivial⟩
    case true =>
      have hi2 : i < a.length := by
        cases hE
        simp [cmI, hLl] at h2
        omega
      clear h2
      obtain ⟨x, hx⟩ : ∃ x, a[i]? = some x := ⟨_, List.getElem?_eq_getElem hi2⟩
      obtain ⟨k2, t2, o2, e2, p2⟩ := x
      have nx : nth A (Int.ofNat i) (PartD.cells (.mk k2 t2 o2 e2 p2)) 5 := by
        cases hE
        exact ⟨Int.natCast_nonneg i, by rw [← hA]; exact PartD.cellsL_get hx, rfl⟩
      simp only [PartD.cells] at nx
      generalize hp2 : PartD.cellsL p2 = P2 at nx
      have hcall : call 39 [.dat (.list P2)] K := by
        cases hE
        rw [← hp2, hK]
        refine ih p2 ?_
        have h1 := PartD.sz_mem hx
        simp [PartD.sz] at h1
        omega
      cbv
      refine ⟨_, nx, ?_⟩
      cbv
      refine ⟨_, hcall, ?_⟩
      intro r hr
      rw [hK] at hr
      obtain ⟨u, v, rfl⟩ := hr
      cbv
      refine ⟨_, nx, ?_⟩
      cbv
      refine ⟨(⟨i + 1, hi2⟩, (ar .add .i64 z1 u, ar .add .i64 (ar .add .i64 z2 v) (sl t2))), ?_, ?_⟩
      · show a.length - (i + 1) < a.length - i
        omega
      · cbv
        and_intros <;> first | exact True.intro | exact LeV.eq rfl | (exact LeV.intE (by cases hE; exact inc_id hi2 hmax))

theorem c39 (a : List PartD) : C39 a := by
  have key : ∀ n (a : List PartD), PartD.szL a < n → C39 a := fun n => by
    induction n with
    | zero => intro a h; omega
    | succ n ih => exact c39s n ih
  exact key _ a (Nat.lt_succ_self _)
set_option maxRecDepth 100000 in
set_option maxHeartbeats 4000000 in
theorem c11s (n : Nat) (ih : ∀ x : NodeD, x.sz ≤ 2097152 → x.sz ≤ n → C11 x) (x : NodeD) (hsz : x.sz ≤ 2097152) (hn : x.sz ≤ n + 1) : C11 x := by
  have kl := kids_len x
  have wl := words_len x
  have kk : ∀ y ∈ x.kidsL, C11 y := fun y hy => ih y (by have := kids_sz hy; omega) (by have := kids_sz hy; omega)
  obtain ⟨K, hK⟩ : ∃ K, K = isInt := ⟨_, rfl⟩
  obtain ⟨K2, hK2⟩ : ∃ K, K = isPair := ⟨_, rfl⟩
  show CRet Tryz.prog 11 [x.av] isInt
  rw [← hK]
  obtain ⟨k1, p1, n1, a1, g1, w1, r1, d1, i1⟩ := x
  refine cretK_of_swp mixedOrders VT_ok Tryz.func11 (code := Tryz.f11.body.get (by kernel_rfl)) (by kernel_rfl) (by kernel_rfl) fun E hE hreal => ?_
  obtain ⟨ar, cm, sc, eb, wr, ln, sl, ct, ap, sb, ss, u8, mx, nth, off, sat, sok, stok, cat, bd, szs, ne, nil, call, callF⟩ := E
  clear hreal
  have mg : g1.length ≤ maxLen := by unfold maxLen; have := szBy_len AssignD.sz_pos g1; simp only [NodeD.sz] at hsz; omega
  have mr : r1.length ≤ maxLen := by unfold maxLen; have := szBy_len RedirD.sz_pos r1; simp only [NodeD.sz] at hsz; omega
  have mi : i1.length ≤ maxLen := by unfold maxLen; have := szBy_len ItemD.sz_pos i1; rw [← ItemD.szL_by] at this; simp only [NodeD.sz] at hsz; omega
  have mw : (NodeD.wordsL (.mk k1 p1 n1 a1 g1 w1 r1 d1 i1)).length ≤ maxLen := by unfold maxLen; omega
  have mk' : (NodeD.kidsL (.mk k1 p1 n1 a1 g1 w1 r1 d1 i1)).length ≤ maxLen := by unfold maxLen; omega
  simp only [NodeD.av, NodeD.cells, List.map_cons, List.map_nil]
  generalize hg1 : g1.map AssignD.cells = G1
  generalize hw1 : w1.map WordD.cells = W1
  generalize hr1 : r1.map RedirD.cells = R1
  generalize hd1 : NodeD.cellsL d1 = D1
  generalize hi1 : ItemD.cellsL i1 = I1
  generalize hWW : NodeD.wordsL (.mk k1 p1 n1 a1 g1 w1 r1 d1 i1) = ww at mw
  generalize hKK : NodeD.kidsL (.mk k1 p1 n1 a1 g1 w1 r1 d1 i1) = kk0 at mk' kk
  generalize hWc : ww.map WordD.cells = WC
  generalize hKc : NodeD.cellsL kk0 = KC
  have h38 : call 38 [.agg [.dat (.int .i64 k1), .dat (.int .i64 p1), .dat (.str n1), .dat (.bool a1), .dat (.list G1), .dat (.list W1), .dat (.list R1), .dat (.list D1), .dat (.list I1)]] (· = .dat (.list WC)) := by
    cases hE
    rw [← hg1, ← hw1, ← hr1, ← hd1, ← hi1, ← hWc, ← hWW]
    exact c38 (.mk k1 p1 n1 a1 g1 w1 r1 d1 i1) hsz
  have h40 : call 40 [.agg [.dat (.int .i64 k1), .dat (.int .i64 p1), .dat (.str n1), .dat (.bool a1), .dat (.list G1), .dat (.list W1), .dat (.list R1), .dat (.list D1), .dat (.list I1)]] (· = .dat (.list KC)) := by
    cases hE
    rw [← hg1, ← hw1, ← hr1, ← hd1, ← hi1, ← hKc, ← hKK]
    exact c40 (.mk k1 p1 n1 a1 g1 w1 r1 d1 i1) hsz
  clear kl wl hsz hn hWW hKK
  cbv
  have hLl : G1.length = g1.length := by rw [← hg1, List.length_map]
  refine .mk ({i : Nat // i ≤ g1.length} × Int) (fun q => ⟨slotsOf 82 [(1, .ptr 0 0), (3, .dat (.int .i64 q.2)), (4, .dat (.int .i64 q.1.1))], [(28, [.dat (.int .i64 k1), .dat (.int .i64 p1), .dat (.str n1), .dat (.bool a1), .dat (.list G1), .dat (.list W1), .dat (.list R1), .dat (.list D1), .dat (.list I1)])]⟩) (fun q => g1.length - q.1.1) (⟨0, Nat.zero_le _⟩, ar .add .i64 (ar .add .i64 (ar .add .i64 (ar .add .i64 1 (sl n1)) (ln G1 0)) (ln R1 0)) (ln I1 0)) ?_ ?_
  · cbv
    and_intros <;> first | exact True.intro | exact LeV.eq rfl | (exact LeV.intE rfl)
  · rintro ⟨⟨i, hi⟩, z⟩
    cbv
    generalize h2 : cm .lss _ _ = c2
    cases c2
    case false =>
      have hi2 : i = g1.length := by
        cases hE
        simp [cmI, hLl] at h2
        omega
      subst hi2
      cbv
      refine ⟨_, h38, ?_⟩
      rintro _ rfl
      cbv
      have hLl : WC.length = ww.length := by rw [← hWc, List.length_map]
      refine .mk ({i : Nat // i ≤ ww.length} × Int) (fun q => ⟨slotsOf 82 [(1, .ptr 0 0), (3, .dat (.int .i64 q.2)), (5, .dat (.list WC)), (6, .dat (.int .i64 q.1.1))], [(28, [.dat (.int .i64 k1), .dat (.int .i64 p1), .dat (.str n1), .dat (.bool a1), .dat (.list G1), .dat (.list W1), .dat (.list R1), .dat (.list D1), .dat (.list I1)])]⟩) (fun q => ww.length - q.1.1) (⟨0, Nat.zero_le _⟩, z) ?_ ?_
      · cbv
        and_intros <;> first | exact True.intro | exact LeV.eq rfl | (exact LeV.intE rfl)
      · rintro ⟨⟨i, hi⟩, z⟩
        cbv
        generalize h2 : cm .lss _ _ = c2
        cases c2
        case false =>
          have hi2 : i = ww.length := by
            cases hE
            simp [cmI, hLl] at h2
            omega
          subst hi2
          cbv
          refine ⟨_, h40, ?_⟩
          rintro _ rfl
          cbv
          have hLl : KC.length = kk0.length := by rw [← hKc, NodeD.cellsL_len]
          refine .mk ({i : Nat // i ≤ kk0.length} × Int) (fun q => ⟨slotsOf 82 [(1, .ptr 0 0), (3, .dat (.int .i64 q.2)), (9, .dat (.list KC)), (10, .dat (.int .i64 q.1.1))], [(28, [.dat (.int .i64 k1), .dat (.int .i64 p1), .dat (.str n1), .dat (.bool a1), .dat (.list G1), .dat (.list W1), .dat (.list R1), .dat (.list D1), .dat (.list I1)])]⟩) (fun q => kk0.length - q.1.1) (⟨0, Nat.zero_le _⟩, z) ?_ ?_
          · cbv
            and_intros <;> first | exact True.intro | exact LeV.eq rfl | (exact LeV.intE rfl)
          · rintro ⟨⟨i, hi⟩, z⟩
            cbv
            generalize h2 : cm .lss _ _ = c2
            cases c2
            case false =>
              have hi2 : i = kk0.length := by
                cases hE
                simp [cmI, hLl] at h2
                omega
              subst hi2
              cbv
              exact .mk (.dat (.int .i64 z)) (.eq (.eq rfl)) (by rw [hK]; exact ⟨_, rfl⟩) rfl
            case true =>
              have hi2 : i < kk0.length := by
                cases hE
                simp [cmI, hLl] at h2
                omega
              clear h2
              obtain ⟨x, hx⟩ : ∃ x, kk0[i]? = some x := ⟨_, List.getElem?_eq_getElem hi2⟩
              have hy : x ∈ kk0 := List.mem_of_getElem? hx
              have cy := kk x hy
              unfold C11 at cy
              obtain ⟨k2, p2, n2, a2, g2, w2, r2, d2, i2⟩ := x
              have nx : nth KC (Int.ofNat i) (NodeD.cells (.mk k2 p2 n2 a2 g2 w2 r2 d2 i2)) 9 := by
                cases hE
                exact ⟨Int.natCast_nonneg i, by rw [← hKc]; exact NodeD.cellsL_get hx, rfl⟩
              simp only [NodeD.cells, NodeD.av, List.map_cons, List.map_nil] at nx cy
              generalize hg2 : g2.map AssignD.cells = G2 at nx cy
              generalize hw2 : w2.map WordD.cells = W2 at nx cy
              generalize hr2 : r2.map RedirD.cells = R2 at nx cy
              generalize hd2 : NodeD.cellsL d2 = D2 at nx cy
              generalize hi2' : ItemD.cellsL i2 = I2 at nx cy
              have hcall : call 11 [.agg [.dat (.int .i64 k2), .dat (.int .i64 p2), .dat (.str n2), .dat (.bool a2), .dat (.list G2), .dat (.list W2), .dat (.list R2), .dat (.list D2), .dat (.list I2)]] K := by cases hE; rw [hK]; exact cy
              cbv
              refine ⟨_, nx, ?_⟩
              cbv
              refine ⟨_, hcall, ?_⟩
              intro r hr
              rw [hK] at hr
              obtain ⟨u, rfl⟩ := hr
              cbv
              refine ⟨(⟨i + 1, hi2⟩, ar .add .i64 z u), ?_, ?_⟩
              · show kk0.length - (i + 1) < kk0.length - i
                omega
              · cbv
                and_intros <;> first | exact True.intro | exact LeV.eq rfl | (exact LeV.intE (by cases hE; exact inc_id hi2 mk'))
        case true =>
          have hi2 : i < ww.length := by
            cases hE
            simp [cmI, hLl] at h2
            omega
          clear h2
          obtain ⟨x, hx⟩ : ∃ x, ww[i]? = some x := ⟨_, List.getElem?_eq_getElem hi2⟩
          obtain ⟨k2, p2⟩ := x
          have nx : nth WC (Int.ofNat i) (WordD.cells ⟨k2, p2⟩) 2 := by
            cases hE
            exact ⟨Int.natCast_nonneg i, by rw [← hWc]; simp [hx], rfl⟩
          simp only [WordD.cells] at nx
          generalize hp2 : PartD.cellsL p2 = P2 at nx
          have hcall : call 39 [.dat (.list P2)] K2 := by cases hE; rw [← hp2, hK2]; exact c39 p2
          cbv
          refine ⟨_, nx, ?_⟩
          cbv
          refine ⟨_, hcall, ?_⟩
          intro r hr
          rw [hK2] at hr
          obtain ⟨u, v, rfl⟩ := hr
          cbv
          refine ⟨(⟨i + 1, hi2⟩, ar .add .i64 (ar .add .i64 (ar .add .i64 z 1) u) v), ?_, ?_⟩
          · show ww.length - (i + 1) < ww.length - i
            omega
          · cbv
            and_intros <;> first | exact True.intro | exact LeV.eq rfl | (exact LeV.intE (by cases hE; exact inc_id hi2 mw))
    case true =>
      have hi2 : i < g1.length := by
        cases hE
        simp [cmI, hLl] at h2
        omega
      clear h2
      obtain ⟨x, hx⟩ : ∃ x, g1[i]? = some x := ⟨_, List.getElem?_eq_getElem hi2⟩
      obtain ⟨k2, t2, v2, p2⟩ := x
      have nx : nth G1 (Int.ofNat i) (AssignD.cells ⟨k2, t2, v2, p2⟩) 4 := by
        cases hE
        exact ⟨Int.natCast_nonneg i, by rw [← hg1]; simp [hx], rfl⟩
      simp only [AssignD.cells] at nx
      generalize hp2 : PartD.cellsL p2 = P2 at nx
      cbv
      refine ⟨_, nx, ?_⟩
      cbv
      refine ⟨(⟨i + 1, hi2⟩, ar .add .i64 z (sl t2)), ?_, ?_⟩
      · show g1.length - (i + 1) < g1.length - i
        omega
      · cbv
        and_intros <;> first | exact True.intro | exact LeV.eq rfl | (exact LeV.intE (by cases hE; exact inc_id hi2 mg))

theorem c11 (x : NodeD) (hsz : x.sz ≤ 2097152) : C11 x := by
  have key : ∀ n (x : NodeD), x.sz ≤ 2097152 → x.sz ≤ n → C11 x := fun n => by
    induction n with
    | zero => intro x _ h; have := x.sz_pos; omega
    | succ n ih => exact c11s n ih
  exact key _ x hsz (Nat.le_refl _)
end Go.Proofs.YtdfcjodkmjofgaaGreat
