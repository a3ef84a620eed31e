/-
  The law on Same: what its call gives.
-/
import Derived.Test.YtdfcjodkmjofgaaGreatC7
import Derived.Test.YtdfcjodkmjofgaaGreatAwake
namespace Go.Proofs.YtdfcjodkmjofgaaGreat
open Go.RowKit

theorem PartD.same_refl (x : PartD) : x.same x = true := by
  have key : ∀ n (x : PartD), x.sz ≤ n → x.same x = true := fun n => by
    induction n with
    | zero => intro x h; have := PartD.sz_parts x; omega
    | succ n ih =>
      intro x h
      obtain ⟨k, t, o, c, p⟩ := x
      have h1 : PartD.sameL p p = true := PartD.sameL_iff.2 ⟨rfl, fun i a b ha hb => by
        rw [ha] at hb
        injection hb with hb
        subst hb
        refine ih a ?_
        have := PartD.sz_mem ha
        simp only [PartD.sz] at h
        omega⟩
      simp [PartD.same, h1]
  exact key _ x (Nat.le_refl _)
theorem PartD.sameL_refl (p : List PartD) : PartD.sameL p p = true := PartD.sameL_iff.2 ⟨rfl, fun i a b ha hb => by
  rw [ha] at hb
  injection hb with hb
  subst hb
  exact a.same_refl⟩
theorem sameBy_refl {α : Type} {f : α → α → Bool} (h : ∀ x, f x x = true) (l : List α) : sameBy f l l = true := sameBy_iff.2 ⟨rfl, fun i a b ha hb => by
  rw [ha] at hb
  injection hb with hb
  subst hb
  exact h a⟩
theorem WordD.same_refl (x : WordD) : x.same x = true := PartD.sameL_refl _
theorem AssignD.same_refl (x : AssignD) : x.same x = true := by simp [AssignD.same, PartD.sameL_refl]
theorem RedirD.same_refl (x : RedirD) : x.same x = true := by simp [RedirD.same, PartD.sameL_refl]
theorem NodeD.same_refl (x : NodeD) : x.same x = true := by
  have key : ∀ n (x : NodeD), x.sz ≤ n → x.same x = true := fun n => by
    induction n with
    | zero => intro x h; have := x.sz_pos; omega
    | succ n ih =>
      intro x h
      obtain ⟨k, p, t, a, g, w, r, d, is⟩ := x
      have h1 : ∀ d : List NodeD, NodeD.szL d ≤ n → NodeD.sameL d d = true := fun d hd => NodeD.sameL_iff.2 ⟨rfl, fun i a b ha hb => by
        rw [ha] at hb
        injection hb with hb
        subst hb
        refine ih a ?_
        have := szBy_mem (f := NodeD.sz) ha
        rw [← NodeD.szL_by] at this
        omega⟩
      have h2 : ItemD.sameL is is = true := ItemD.sameL_iff.2 ⟨rfl, fun i a b ha hb => by
        rw [ha] at hb
        injection hb with hb
        subst hb
        have h3 := szBy_mem (f := ItemD.sz) ha
        rw [← ItemD.szL_by] at h3
        cases a with
        | mk ps b =>
          simp only [NodeD.sz, ItemD.sz] at h h3
          simp [ItemD.same, sameBy_refl WordD.same_refl, h1 b (by omega)]⟩
      have h4 : NodeD.sameL d d = true := h1 d (by simp only [NodeD.sz] at h; omega)
      simp [NodeD.same, sameBy_refl WordD.same_refl, sameBy_refl AssignD.same_refl, sameBy_refl RedirD.same_refl, h2, h4]
  exact key _ x (Nat.le_refl _)
set_option maxRecDepth 100000 in
set_option maxHeartbeats 4000000 in
theorem c5 (x y : NodeD) (hx : x.sz ≤ 2097152) (hy : y.sz ≤ 2097152) : CRet Tryz.prog 5 [x.av, y.av] (· = .dat (.bool true)) := by
  obtain ⟨K, hK⟩ : ∃ K, K = isInt := ⟨_, rfl⟩
  obtain ⟨k1, p1, n1, a1, g1, w1, r1, d1, i1⟩ := x
  obtain ⟨k2, p2, n2, a2, g2, w2, r2, d2, i2⟩ := y
  refine cret_of_swp mixedOrders VT_ok Tryz.func5 (code := Tryz.f5.body.get (by kernel_rfl)) (by kernel_rfl) (by kernel_rfl) rfl fun E hE hreal => ?_
  obtain ⟨ar, cm, sc, eb, wr, ln, sl, ct, ap, sb, ss, u8, mx, nth, off, sat, sok, stok, cat, bd, szs, ne, nil, call, callF⟩ := E
  clear hreal
  simp only [NodeD.av, NodeD.cells, List.map_cons, List.map_nil]
  generalize hg1 : g1.map AssignD.cells = G1
  generalize hw1 : w1.map WordD.cells = W1
  generalize hr1 : r1.map RedirD.cells = R1
  generalize hd1 : NodeD.cellsL d1 = D1
  generalize hi1 : ItemD.cellsL i1 = I1
  generalize hg2 : g2.map AssignD.cells = G2
  generalize hw2 : w2.map WordD.cells = W2
  generalize hr2 : r2.map RedirD.cells = R2
  generalize hd2 : NodeD.cellsL d2 = D2
  generalize hi2 : ItemD.cellsL i2 = I2
  have h11 : call 11 [.agg [.dat (.int .i64 k1), .dat (.int .i64 p1), .dat (.str n1), .dat (.bool a1), .dat (.list G1), .dat (.list W1), .dat (.list R1), .dat (.list D1), .dat (.list I1)]] K := by
    cases hE
    rw [← hg1, ← hw1, ← hr1, ← hd1, ← hi1]
    rw [hK]
    exact c11 (.mk k1 p1 n1 a1 g1 w1 r1 d1 i1) hx
  have h11' : call 11 [.agg [.dat (.int .i64 k2), .dat (.int .i64 p2), .dat (.str n2), .dat (.bool a2), .dat (.list G2), .dat (.list W2), .dat (.list R2), .dat (.list D2), .dat (.list I2)]] K := by
    cases hE
    rw [← hg2, ← hw2, ← hr2, ← hd2, ← hi2]
    rw [hK]
    exact c11 (.mk k2 p2 n2 a2 g2 w2 r2 d2 i2) hy
  have h12 : call 12 [] (· = .dat (.bool true)) := by cases hE; exact awake_cret
  have h20 : call 20 [.agg [.dat (.int .i64 k1), .dat (.int .i64 p1), .dat (.str n1), .dat (.bool a1), .dat (.list G1), .dat (.list W1), .dat (.list R1), .dat (.list D1), .dat (.list I1)], .agg [.dat (.int .i64 k2), .dat (.int .i64 p2), .dat (.str n2), .dat (.bool a2), .dat (.list G2), .dat (.list W2), .dat (.list R2), .dat (.list D2), .dat (.list I2)]] (· = .dat (.bool (NodeD.same (.mk k1 p1 n1 a1 g1 w1 r1 d1 i1) (.mk k2 p2 n2 a2 g2 w2 r2 d2 i2)))) := by
    cases hE
    rw [← hg1, ← hw1, ← hr1, ← hd1, ← hi1]
    rw [← hg2, ← hw2, ← hr2, ← hd2, ← hi2]
    exact c20 (.mk k1 p1 n1 a1 g1 w1 r1 d1 i1) (.mk k2 p2 n2 a2 g2 w2 r2 d2 i2)
  have h21 : call 21 [.agg [.dat (.int .i64 k1), .dat (.int .i64 p1), .dat (.str n1), .dat (.bool a1), .dat (.list G1), .dat (.list W1), .dat (.list R1), .dat (.list D1), .dat (.list I1)], .agg [.dat (.int .i64 k2), .dat (.int .i64 p2), .dat (.str n2), .dat (.bool a2), .dat (.list G2), .dat (.list W2), .dat (.list R2), .dat (.list D2), .dat (.list I2)]] (· = .dat (.bool (NodeD.same (.mk k1 p1 n1 a1 g1 w1 r1 d1 i1) (.mk k2 p2 n2 a2 g2 w2 r2 d2 i2)))) := by
    cases hE
    rw [← hg1, ← hw1, ← hr1, ← hd1, ← hi1]
    rw [← hg2, ← hw2, ← hr2, ← hd2, ← hi2]
    exact c21 (.mk k1 p1 n1 a1 g1 w1 r1 d1 i1) (.mk k2 p2 n2 a2 g2 w2 r2 d2 i2)
  have h20' : call 20 [.agg [.dat (.int .i64 k1), .dat (.int .i64 p1), .dat (.str n1), .dat (.bool a1), .dat (.list G1), .dat (.list W1), .dat (.list R1), .dat (.list D1), .dat (.list I1)], .agg [.dat (.int .i64 k1), .dat (.int .i64 p1), .dat (.str n1), .dat (.bool a1), .dat (.list G1), .dat (.list W1), .dat (.list R1), .dat (.list D1), .dat (.list I1)]] (· = .dat (.bool true)) := by
    cases hE
    rw [← hg1, ← hw1, ← hr1, ← hd1, ← hi1]
    have := c20 (.mk k1 p1 n1 a1 g1 w1 r1 d1 i1) (.mk k1 p1 n1 a1 g1 w1 r1 d1 i1)
    unfold C20 at this
    rw [NodeD.same_refl] at this
    exact this
  generalize hq : NodeD.same (.mk k1 p1 n1 a1 g1 w1 r1 d1 i1) (.mk k2 p2 n2 a2 g2 w2 r2 d2 i2) = q at h20 h21
  have heb : eb q q = true := by cases hE; simp
  clear hx hy
  cbv
  refine ⟨_, h11, ?_⟩
  intro r hr
  rw [hK] at hr
  obtain ⟨u, rfl⟩ := hr
  cbv
  generalize cm .gtr _ _ = c1
  cases c1
  case true =>
    cbv
    refine ⟨_, h12, ?_⟩
    rintro _ rfl
    cbv
    exact .eq (.boolE rfl)
  cbv
  refine ⟨_, h11', ?_⟩
  intro r hr
  rw [hK] at hr
  obtain ⟨u2, rfl⟩ := hr
  cbv
  generalize cm .gtr _ _ = c2
  cases c2
  case true =>
    cbv
    refine ⟨_, h12, ?_⟩
    rintro _ rfl
    cbv
    exact .eq (.boolE rfl)
  cbv
  refine .quiet (by kernel_rfl) ?_
  cbv
  refine ⟨_, h20, rfl, ?_⟩
  cbv
  refine ⟨_, h21, rfl, ?_⟩
  cbv
  rw [heb]
  cbv
  refine ⟨_, h20', rfl, ?_⟩
  cbv
  refine ⟨_, h12, rfl, ?_⟩
  cbv
  exact .eq (.boolE rfl)
end Go.Proofs.YtdfcjodkmjofgaaGreat
