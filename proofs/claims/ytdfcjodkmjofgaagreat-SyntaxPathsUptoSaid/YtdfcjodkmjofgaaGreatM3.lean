/-
  The law on Same: what its call gives.
-/
import Derived.Test.YtdfcjodkmjofgaaGreatM1
import Derived.Test.YtdfcjodkmjofgaaGreatAwake
import Derived.Test.YtdfcjodkmjofgaaGreatM2
namespace Go.Proofs.YtdfcjodkmjofgaaGreat
open Go.RowKit

theorem PartD.same_refl (x : PartD) : x.same x = true := by
  have key : ∀ n (x : PartD), x.sz ≤ n → x.same x = true := fun n => by
    induction n with
    | zero => intro x h; have := PartD.sz_parts x; omega
    | succ n ih =>
      intro x h
      obtain ⟨k, t, o, c, p⟩ := x
      have h1 : PartD.sameL p p = true := PartD.sameL_iff.2 ⟨rfl, fun i a b ha hb => by
        rw [ha] at hb
        injection hb with hb
        subst hb
        refine ih a ?_
        have := PartD.sz_mem ha
        simp only [PartD.sz] at h
        omega⟩
      simp [PartD.same, h1]
  exact key _ x (Nat.le_refl _)
theorem PartD.sameL_refl (p : List PartD) : PartD.sameL p p = true := PartD.sameL_iff.2 ⟨rfl, fun i a b ha hb => by
  rw [ha] at hb
  injection hb with hb
  subst hb
  exact a.same_refl⟩
theorem sameBy_refl {α : Type} {f : α → α → Bool} (h : ∀ x, f x x = true) (l : List α) : sameBy f l l = true := sameBy_iff.2 ⟨rfl, fun i a b ha hb => by
  rw [ha] at hb
  injection hb with hb
  subst hb
  exact h a⟩
theorem WordD.same_refl (x : WordD) : x.same x = true := PartD.sameL_refl _
theorem AssignD.same_refl (x : AssignD) : x.same x = true := by simp [AssignD.same, PartD.sameL_refl]
theorem RedirD.same_refl (x : RedirD) : x.same x = true := by simp [RedirD.same, PartD.sameL_refl]
theorem NodeD.same_refl (x : NodeD) : x.same x = true := by
  have key : ∀ n (x : NodeD), x.sz ≤ n → x.same x = true := fun n => by
    induction n with
    | zero => intro x h; have := x.sz_pos; omega
    | succ n ih =>
      intro x h
      obtain ⟨k, p, t, a, g, w, r, d, is⟩ := x
      have h1 : ∀ d : List NodeD, NodeD.szL d ≤ n → NodeD.sameL d d = true := fun d hd => NodeD.sameL_iff.2 ⟨rfl, fun i a b ha hb => by
        rw [ha] at hb
        injection hb with hb
        subst hb
        refine ih a ?_
        have := szBy_mem (f := NodeD.sz) ha
        rw [← NodeD.szL_by] at this
        omega⟩
      have h2 : ItemD.sameL is is = true := ItemD.sameL_iff.2 ⟨rfl, fun i a b ha hb => by
        rw [ha] at hb
        injection hb with hb
        subst hb
        have h3 := szBy_mem (f := ItemD.sz) ha
        rw [← ItemD.szL_by] at h3
        cases a with
        | mk ps b =>
          simp only [NodeD.sz, ItemD.sz] at h h3
          simp [ItemD.same, sameBy_refl WordD.same_refl, h1 b (by omega)]⟩
      have h4 : NodeD.sameL d d = true := h1 d (by simp only [NodeD.sz] at h; omega)
      simp [NodeD.same, sameBy_refl WordD.same_refl, sameBy_refl AssignD.same_refl, sameBy_refl RedirD.same_refl, h2, h4]
  exact key _ x (Nat.le_refl _)
set_option maxRecDepth 100000 in
set_option maxHeartbeats 4000000 in
theorem c5 (x y : NodeD) (hx : x.sz ≤ 2097152) (hy : y.sz ≤ 2097152) : CRet Tryz.prog 5 [x.av, y.av] (· = .dat (.bool true)) := by
  obtain ⟨K, hK⟩ : ∃ K, K = isInt := ⟨_, rfl⟩
  obtain ⟨k1, p1, n1, a1, g1, w1, r1, d1, i1⟩ := x
  obtain ⟨k2, p2, n2, a2, g2, w2, r2, d2, i2⟩ := y
  refine cret_of_swp mixedOrders VT_ok Tryz.func5 (code := Tryz.f5.body.get (by kernel_rfl)) (by kernel_rfl) (by kernel_rfl) rfl fun E hE hreal => ?_
  obtain ⟨ar, cm, sc, eb, wr, ln, sl, ct, ap, sb, ss, u8, mx, nth, off, sat, sok, stok, cat, bd, szs, ne, nil, call, callF⟩ := E
  clear hreal
  simp only [NodeD.av, NodeD.cells, List.map_cons, List.map_nil]
  generalize hg1 : g1.map AssignD.cells = G1
  generalize hw1 : w1.map WordD.cells = W1
  generalize hr1 : r1.map RedirD.cells = R1
  generalize hd1 : NodeD.cellsL d1 = D1
  generalize hi1 : ItemD.cellsL i1 = I1
  generalize hg2 : g2.map AssignD.cells = G2
  generalize hw2 : w2.map WordD.cells = W2
  generalize hr2 : r2.map RedirD.cells = R2
  generalize hd2 : NodeD.cellsL d2 = D2
  generalize hi2 : ItemD.cellsL i2 = I2
  have h11 : call 11 [.agg [.dat (.int .i64 k1), .dat (.int .i64 p1), .dat (.str n1), .dat (.bool a1), .dat (.list G1), .dat (.list W1), .dat (.list R1), .dat (.list D1), .dat (.list I1)]] K := by
    cases hE
    rw [← hg1, ← hw1, ← hr1, ← hd1, ← hi1]
    rw [hK]
    exact c11 (.mk k1 p1 n1 a1 g1 w1 r1 d1 i1) hx
  have h11' : call 11 [.agg [.dat (.int .i64 k2), .dat (.int .i64 p2), .dat (.str n2), .dat (.bool a2), .dat (.list G2), .dat (.list W2), .dat (.list R2), .dat (.list D2), .dat (.list I2)]] K := by
    cases hE
    rw [← hg2, ← hw2, ← hr2, ← hd2, ← hi2]
    rw [hK]
    exact c11 (.mk k2 p2 n2 a2 g2 w2 r2 d2 i2) hy
  have h12 : call 12 [] (· = .dat (.bool true)) := by cases hE; exact awake_cret
  have h20 : call 20 [.agg [.dat (.int .i64 k1), .dat (.int .i64 p1), .dat (.str n1), .dat (.bool a1), .dat (.list G1), .dat (.list W1), .dat (.list R1), .dat (.list D1), .dat (.list I1)], .agg [.dat (.int .i64 k2), .dat (.int .i64 p2), .dat (.str n2), .dat (.bool a2), .dat (.list G2), .dat (.list W2), .dat (.list R2), .dat (.list D2), .dat (.list I2)]] (· = .dat (.bool (NodeD.same (.mk k1 p1 n1 a1 g1 w1 r1 d1 i1) (.mk k2 p2 n2 a2 g2 w2 r2 d2 i2)))) := by
    cases hE
    rw [← hg1, ← hw1, ← hr1, ← hd1, ← hi1]
    rw [← hg2, ← hw2, ← hr2, ← hd2, ← hi2]
    exact c20 (.mk k1 p1 n1 a1 g1 w1 r1 d1 i1) (.mk k2 p2 n2 a2 g2 w2 r2 d2 i2)
  have h21 : call 21 [.agg [.dat (.int .i64 k1), .dat (.int .i64 p1), .dat (.str n1), .dat (.bool a1), .dat (.list G1), .dat (.list W1), .dat (.list R1), .dat (.list D1), .dat (.list I1)], .agg [.dat (.int .i64 k2), .dat (.int .i64 p2), .dat (.str n2), .dat (.bool a2), .dat (.list G2), .dat (.list W2), .dat (.list R2), .dat (.list D2), .dat (.list I2)]] (· = .dat (.bool (NodeD.same (.mk k1 p1 n1 a1 g1 w1 r1 d1 i1) (.mk k2 p2 n2 a2 g2 w2 r2 d2 i2)))) := by
    cases hE
    rw [← hg1, ← hw1, ← hr1, ← hd1, ← hi1]
    rw [← hg2, ← hw2, ← hr2, ← hd2, ← hi2]
    exact c21 (.mk k1 p1 n1 a1 g1 w1 r1 d1 i1) (.mk k2 p2 n2 a2 g2 w2 r2 d2 i2)
  have h20' : call 20 [.agg [.dat (.int .i64 k1), .dat (.int .i64 p1), .dat (.str n1), .dat (.bool a1), .dat (.list G1), .dat (.list W1), .dat (.list R1), .dat (.list D1), .dat (.list I1)], .agg [.dat (.int .i64 k1), .dat (.int .i64 p1), .dat (.str n1), .dat (.bool a1), .dat (.list G1), .dat (.list W1), .dat (.list R1), .dat (.list D1), .dat (.list I1)]] (· = .dat (.bool true)) := by
    cases hE
    rw [← hg1, ← hw1, ← hr1, ← hd1, ← hi1]
    have := c20 (.mk k1 p1 n1 a1 g1 w1 r1 d1 i1) (.mk k1 p1 n1 a1 g1 w1 r1 d1 i1)
    unfold C20 at this
    rw [NodeD.same_refl] at this
    exact this
  generalize hq : NodeD.same (.mk k1 p1 n1 a1 g1 w1 r1 d1 i1) (.mk k2 p2 n2 a2 g2 w2 r2 d2 i2) = q at h20 h21
  have heb : eb q q = true := by cases hE; simp
  clear hx hy
  cbv
  refine ⟨_, h11, ?_⟩
  intro r hr
  rw [hK] at hr
  obtain ⟨u, rfl⟩ := hr
  cbv
  generalize cm .gtr _ _ = c1
  cases c1
  case true =>
    cbv
    refine ⟨_, h12, ?_⟩
    rintro _ rfl
    cbv
    exact .eq (.boolE rfl)
  cbv
  refine ⟨_, h11', ?_⟩
  intro r hr
  rw [hK] at hr
  obtain ⟨u2, rfl⟩ := hr
  cbv
  generalize cm .gtr _ _ = c2
  cases c2
  case true =>
    cbv
    refine ⟨_, h12, ?_⟩
    rintro _ rfl
    cbv
    exact .eq (.boolE rfl)
  cbv
  refine .quiet (by kernel_rfl) ?_
  cbv
  refine ⟨_, h20, rfl, ?_⟩
  cbv
  refine ⟨_, h21, rfl, ?_⟩
  cbv
  rw [heb]
  cbv
  refine ⟨_, h20', rfl, ?_⟩
  cbv
  refine ⟨_, h12, rfl, ?_⟩
  cbv
  exact .eq (.boolE rfl)
end Go.Proofs.YtdfcjodkmjofgaaGreat
/-
  The law on Walk: what its call gives.
-/
namespace Go.Proofs.YtdfcjodkmjofgaaGreat
open Go.RowKit

def tab6 : List (List Bool × List Nat) := [
  ([false, false, false, false, false, false, false, false, false], [0, 2]),
  ([false, false, true, false, false, false, false, false, false], [0]),
  ([true, false, false, false, false, false, false, false, false], [1, 2]),
  ([true, true, false, false, false, false, false, false, false], [2]),
  ([true, false, true, false, false, false, false, false, false], [1]),
  ([true, true, true, false, false, false, false, false, false], [3]),
  ([true, true, true, true, false, false, false, false, false], [4]),
  ([true, true, true, true, true, false, false, false, false], [5]),
  ([true, true, true, true, true, true, false, false, false], [6]),
  ([true, true, true, true, true, true, true, false, false], [7]),
  ([true, true, true, true, true, true, true, true, false], [8]),
  ([true, true, true, true, true, true, true, true, true], [])]
theorem IntD.same_refl (x : IntD) : x.same x = true := by simp [IntD.same]
theorem NodeD.exact_refl (x : NodeD) : x.exact x = true := by
  unfold NodeD.exact
  rw [x.same_refl, sameBy_refl IntD.same_refl]
  rfl
theorem walk_sz {x y : NodeD} (h : y ∈ x.walk) : y.sz ≤ x.sz := by
  have key : ∀ n (x y : NodeD), x.sz ≤ n → y ∈ x.walk → y.sz ≤ x.sz := fun n => by
    induction n with
    | zero => intro x y h; have := x.sz_pos; omega
    | succ n ih =>
      intro x y h hy
      rw [NodeD.walk_eq] at hy
      rcases List.mem_cons.1 hy with rfl | hy
      · exact Nat.le_refl _
      · obtain ⟨z, hz, hy⟩ := List.mem_flatMap.1 hy
        have h1 := kids_sz hz
        have := ih z y (by omega) hy
        omega
  exact key _ x y (Nat.le_refl _) h
set_option maxRecDepth 100000 in
set_option maxHeartbeats 4000000 in
theorem c6 (x : NodeD) (hx : x.sz ≤ 2097152) : CRet Tryz.prog 6 [x.av] (· = .dat (.bool true)) := by
  obtain ⟨K, hK⟩ : ∃ K, K = isInt := ⟨_, rfl⟩
  have h11 := c11 x hx
  have h23 := c23 x hx
  have h24 := c24 x hx
  have h22 := c22 x.walk x.walk (fun y hy => Nat.le_trans (walk_sz hy) hx) (fun y hy => Nat.le_trans (walk_sz hy) hx)
  unfold C11 at h11
  unfold C23 at h23
  unfold C24 at h24
  unfold C22 at h22
  rw [sameBy_refl NodeD.exact_refl] at h22
  rw [← hK] at h11
  generalize NodeD.cellsL x.walk = WL at h22 h23 h24
  obtain ⟨k1, p1, n1, a1, g1, w1, r1, d1, i1⟩ := x
  refine cret_of_swp mixedOrders VT_ok Tryz.func6 (code := Tryz.f6.body.get (by kernel_rfl)) (by kernel_rfl) (by kernel_rfl) rfl fun E hE hreal => ?_
  obtain ⟨ar, cm, sc, eb, wr, ln, sl, ct, ap, sb, ss, u8, mx, nth, off, sat, sok, stok, cat, bd, szs, ne, nil, call, callF⟩ := E
  clear hreal
  simp only [NodeD.av, NodeD.cells, List.map_cons, List.map_nil] at h11 h23 h24 ⊢
  generalize hg1 : g1.map AssignD.cells = G1 at h11 h23 h24
  generalize hw1 : w1.map WordD.cells = W1 at h11 h23 h24
  generalize hr1 : r1.map RedirD.cells = R1 at h11 h23 h24
  generalize hd1 : NodeD.cellsL d1 = D1 at h11 h23 h24
  generalize hi1 : ItemD.cellsL i1 = I1 at h11 h23 h24
  replace h11 : call 11 [.agg [.dat (.int .i64 k1), .dat (.int .i64 p1), .dat (.str n1), .dat (.bool a1), .dat (.list G1), .dat (.list W1), .dat (.list R1), .dat (.list D1), .dat (.list I1)]] K := by
    cases hE
    exact h11
  replace h23 : call 23 [.agg [.dat (.int .i64 k1), .dat (.int .i64 p1), .dat (.str n1), .dat (.bool a1), .dat (.list G1), .dat (.list W1), .dat (.list R1), .dat (.list D1), .dat (.list I1)]] (· = .dat (.list WL)) := by
    cases hE
    exact h23
  replace h24 : call 24 [.agg [.dat (.int .i64 k1), .dat (.int .i64 p1), .dat (.str n1), .dat (.bool a1), .dat (.list G1), .dat (.list W1), .dat (.list R1), .dat (.list D1), .dat (.list I1)]] (· = .dat (.list WL)) := by
    cases hE
    exact h24
  replace h22 : call 22 [.dat (.list WL), .dat (.list WL)] (· = .dat (.bool true)) := by
    cases hE
    exact h22
  have h12 : call 12 [] (· = .dat (.bool true)) := by cases hE; exact awake_cret
  clear hx
  cbv
  refine ⟨_, h11, ?_⟩
  intro r hr
  rw [hK] at hr
  obtain ⟨u, rfl⟩ := hr
  cbv
  generalize cm .gtr _ _ = c1
  cases c1
  case true =>
    cbv
    refine ⟨_, h12, ?_⟩
    rintro _ rfl
    cbv
    exact .eq (.boolE rfl)
  cbv
  refine .any tab6 (fun L => ⟨[.agg [.dat (.int .i64 k1), .dat (.int .i64 p1), .dat (.str n1), .dat (.bool a1), .dat (.list G1), .dat (.list W1), .dat (.list R1), .dat (.list D1), .dat (.list I1)], .ptr 0 0, bif L.getD 8 false then .dat (.bool true) else .dat (.bool false), .agg [.dat (.int .i64 k1), .dat (.int .i64 p1), .dat (.str n1), .dat (.bool a1), .dat (.list G1), .dat (.list W1), .dat (.list R1), .dat (.list D1), .dat (.list I1)], .dat (.int .i64 u), .dat (.bool false), .top, bif L.getD 0 false then .agg [.dat (.int .i64 k1), .dat (.int .i64 p1), .dat (.str n1), .dat (.bool a1), .dat (.list G1), .dat (.list W1), .dat (.list R1), .dat (.list D1), .dat (.list I1)] else .top, bif L.getD 1 false then .dat (.list WL) else .top, bif L.getD 2 false then .agg [.dat (.int .i64 k1), .dat (.int .i64 p1), .dat (.str n1), .dat (.bool a1), .dat (.list G1), .dat (.list W1), .dat (.list R1), .dat (.list D1), .dat (.list I1)] else .top, bif L.getD 3 false then .dat (.list WL) else .top, bif L.getD 4 false then .dat (.bool true) else .top, bif L.getD 5 false then .dat (.bool true) else .top, bif L.getD 6 false then .dat (.bool true) else .top, bif L.getD 7 false then .dat (.bool true) else .top], [(28, [.dat (.int .i64 k1), .dat (.int .i64 p1), .dat (.str n1), .dat (.bool a1), .dat (.list G1), .dat (.list W1), .dat (.list R1), .dat (.list D1), .dat (.list I1)])]⟩) [] (by kernel_rfl) (by cbv) ?_
  cbv
  and_intros
  all_goals first | exact True.intro | exact LeV.eq rfl | (refine ⟨_, h23, ?_⟩; rintro _ rfl; cbv; and_intros <;> first | exact True.intro | exact LeV.eq rfl) | (refine ⟨_, h24, ?_⟩; rintro _ rfl; cbv; and_intros <;> first | exact True.intro | exact LeV.eq rfl) | (refine ⟨_, h22, ?_⟩; rintro _ rfl; cbv; and_intros <;> first | exact True.intro | exact LeV.eq rfl) | (refine ⟨_, h12, ?_⟩; rintro _ rfl; cbv; and_intros <;> first | exact True.intro | exact LeV.eq rfl) | exact .eq (.boolE rfl)
end Go.Proofs.YtdfcjodkmjofgaaGreat
/-
  The law on paths: what its call gives.
-/
namespace Go.Proofs.YtdfcjodkmjofgaaGreat
open Go.RowKit

set_option maxRecDepth 100000 in
set_option maxHeartbeats 4000000 in
theorem c9 (x : NodeD) (hx : x.sz ≤ 2097152) (ofs : Int) (p : List IntD) : CRet Tryz.prog 9 [x.av, .dat (.int .i64 ofs), .dat (.list (p.map IntD.cells))] (· = .dat (.bool true)) := by
  obtain ⟨K, hK⟩ : ∃ K, K = isInt := ⟨_, rfl⟩
  have h11 := c11 x hx
  have h30 := c30 ofs x.sz hx x (Nat.le_refl _)
  have h32 := c32 ofs x.sz hx x (Nat.le_refl _)
  have h31 := c31 (atF ofs x.sz x) (atF ofs x.sz x)
  have h28 := c28 x hx (atF ofs x.sz x)
  have h28' := c28 x hx p
  have h29 := c29 p x hx
  have hf := atF_found ofs x.sz x
  have hsz2 : ∀ y, kidAt x p = some y → y.sz ≤ 2097152 := fun y h => Nat.le_trans (kidAt_sz h) hx
  unfold C11 at h11
  unfold C30 at h30
  unfold C32 at h32
  unfold C31 at h31
  unfold C28 at h28 h28'
  unfold C29 at h29
  rw [sameBy_refl IntD.same_refl] at h31
  rw [← hK] at h11
  generalize atF ofs x.sz x = A at h30 h32 h31 h28 hf
  obtain ⟨y1, hy1⟩ : ∃ y, kidAt x A = some y := by
    cases h : kidAt x A with
    | none => exact absurd h hf
    | some y => exact ⟨y, rfl⟩
  rw [hy1] at h28
  -- what the path leads to
  obtain ⟨y2, b, h2, hs2⟩ : ∃ (y : NodeD) (b : Bool), kidAV (kidAt x p) = .tup [y.av, .dat (.bool b)] ∧ y.sz ≤ 2097152 := by
    cases h : kidAt x p with
    | none => exact ⟨zeroN, false, rfl, by decide⟩
    | some y => exact ⟨y, true, rfl, hsz2 y h⟩
  rw [h2] at h28' h29
  have h27 := c27 y2 y2 hs2 hs2
  unfold C27 at h27
  rw [NodeD.exact_refl] at h27
  simp only [kidAV] at h28
  simp only [NodeD.av_raw] at h11 h27 h28 h28' h29 h30 h32 ⊢
  generalize x.raw = q0 at h11 h27 h28 h28' h29 h30 h32 ⊢
  generalize y1.raw = q1 at h28
  generalize y2.raw = q2 at h27 h28' h29
  obtain ⟨k0, p0, n0, a0, G0, W0, R0, D0, I0⟩ := q0
  obtain ⟨k1, p1, n1, a1, G1, W1, R1, D1, I1⟩ := q1
  obtain ⟨k2, p2, n2, a2, G2, W2, R2, D2, I2⟩ := q2
  generalize A.map IntD.cells = AL at h28 h30 h31 h32
  generalize p.map IntD.cells = PL at h28' h29 ⊢
  refine cret_of_swp mixedOrders VT_ok Tryz.func9 (code := Tryz.f9.body.get (by kernel_rfl)) (by kernel_rfl) (by kernel_rfl) rfl fun E hE hreal => ?_
  obtain ⟨ar, cm, sc, eb, wr, ln, sl, ct, ap, sb, ss, u8, mx, nth, off, sat, sok, stok, cat, bd, szs, ne, nil, call, callF⟩ := E
  clear hreal
  simp only [NR.av, NR.cells] at h11 h27 h28 h28' h29 h30 h32 ⊢
  replace h11 : call 11 [.agg [.dat (.int .i64 k0), .dat (.int .i64 p0), .dat (.str n0), .dat (.bool a0), .dat (.list G0), .dat (.list W0), .dat (.list R0), .dat (.list D0), .dat (.list I0)]] K := by cases hE; exact h11
  replace h30 : call 30 [.agg [.dat (.int .i64 k0), .dat (.int .i64 p0), .dat (.str n0), .dat (.bool a0), .dat (.list G0), .dat (.list W0), .dat (.list R0), .dat (.list D0), .dat (.list I0)], .dat (.int .i64 ofs)] (· = .dat (.list AL)) := by cases hE; exact h30
  replace h32 : call 32 [.agg [.dat (.int .i64 k0), .dat (.int .i64 p0), .dat (.str n0), .dat (.bool a0), .dat (.list G0), .dat (.list W0), .dat (.list R0), .dat (.list D0), .dat (.list I0)], .dat (.int .i64 ofs)] (· = .dat (.list AL)) := by cases hE; exact h32
  replace h31 : call 31 [.dat (.list AL), .dat (.list AL)] (· = .dat (.bool true)) := by cases hE; exact h31
  replace h28 : call 28 [.agg [.dat (.int .i64 k0), .dat (.int .i64 p0), .dat (.str n0), .dat (.bool a0), .dat (.list G0), .dat (.list W0), .dat (.list R0), .dat (.list D0), .dat (.list I0)], .dat (.list AL)] (· = .tup [.agg [.dat (.int .i64 k1), .dat (.int .i64 p1), .dat (.str n1), .dat (.bool a1), .dat (.list G1), .dat (.list W1), .dat (.list R1), .dat (.list D1), .dat (.list I1)], .dat (.bool true)]) := by cases hE; exact h28
  replace h28' : call 28 [.agg [.dat (.int .i64 k0), .dat (.int .i64 p0), .dat (.str n0), .dat (.bool a0), .dat (.list G0), .dat (.list W0), .dat (.list R0), .dat (.list D0), .dat (.list I0)], .dat (.list PL)] (· = .tup [.agg [.dat (.int .i64 k2), .dat (.int .i64 p2), .dat (.str n2), .dat (.bool a2), .dat (.list G2), .dat (.list W2), .dat (.list R2), .dat (.list D2), .dat (.list I2)], .dat (.bool b)]) := by cases hE; exact h28'
  replace h29 : call 29 [.agg [.dat (.int .i64 k0), .dat (.int .i64 p0), .dat (.str n0), .dat (.bool a0), .dat (.list G0), .dat (.list W0), .dat (.list R0), .dat (.list D0), .dat (.list I0)], .dat (.list PL)] (· = .tup [.agg [.dat (.int .i64 k2), .dat (.int .i64 p2), .dat (.str n2), .dat (.bool a2), .dat (.list G2), .dat (.list W2), .dat (.list R2), .dat (.list D2), .dat (.list I2)], .dat (.bool b)]) := by cases hE; exact h29
  replace h27 : call 27 [.agg [.dat (.int .i64 k2), .dat (.int .i64 p2), .dat (.str n2), .dat (.bool a2), .dat (.list G2), .dat (.list W2), .dat (.list R2), .dat (.list D2), .dat (.list I2)], .agg [.dat (.int .i64 k2), .dat (.int .i64 p2), .dat (.str n2), .dat (.bool a2), .dat (.list G2), .dat (.list W2), .dat (.list R2), .dat (.list D2), .dat (.list I2)]] (· = .dat (.bool true)) := by cases hE; exact h27
  have h12 : call 12 [] (· = .dat (.bool true)) := by cases hE; exact awake_cret
  have heb : eb b b = true := by cases hE; simp
  clear hx hsz2 hs2
  cbv
  refine ⟨_, h11, ?_⟩
  intro r hr
  rw [hK] at hr
  obtain ⟨u, rfl⟩ := hr
  cbv
  generalize cm .gtr _ _ = c1
  cases c1
  case true =>
    cbv
    refine ⟨_, h12, ?_⟩
    rintro _ rfl
    cbv
    exact .eq (.boolE rfl)
  cbv
  generalize cm .gtr _ _ = c2
  cases c2
  case true =>
    cbv
    refine ⟨_, h12, ?_⟩
    rintro _ rfl
    cbv
    exact .eq (.boolE rfl)
  cbv
  refine ⟨_, h30, ?_⟩
  rintro _ rfl
  cbv
  refine ⟨_, h32, ?_⟩
  rintro _ rfl
  cbv
  refine ⟨_, h31, ?_⟩
  rintro _ rfl
  cbv
  refine ⟨_, h28, ?_⟩
  rintro _ rfl
  cbv
  refine ⟨_, h28', ?_⟩
  rintro _ rfl
  cbv
  refine ⟨_, h29, ?_⟩
  rintro _ rfl
  cbv
  rw [heb]
  cbv
  refine ⟨_, h27, ?_⟩
  rintro _ rfl
  cbv
  refine ⟨_, h12, ?_⟩
  rintro _ rfl
  cbv
  exact .eq (.boolE rfl)
end Go.Proofs.YtdfcjodkmjofgaaGreat
