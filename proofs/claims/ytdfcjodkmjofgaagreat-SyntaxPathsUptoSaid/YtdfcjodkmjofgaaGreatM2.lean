/-
  The nodes in a node, as the program gathers them.
-/
import Derived.Test.YtdfcjodkmjofgaaGreatM1
import Derived.Test.YtdfcjodkmjofgaaGreatSym5
namespace Go.Proofs.YtdfcjodkmjofgaaGreat
open Go.RowKit

/-- A copy of a list of nodes: the call's own, or of no capacity. -/
def K91 (D : List (List Dat)) (r : AV) : Prop := r = .own 7 28 D ∨ (r = .emp ∧ D = []) ∨ (r = .nils ∧ D = [])
set_option maxRecDepth 100000 in
set_option maxHeartbeats 4000000 in
theorem c91 (D : List (List Dat)) (hl : ∀ q ∈ D, q.length = 9) (hm : D.length ≤ 2097152) : CRet Tryz.prog 91 [.dat (.list D)] (K91 D) := by
  obtain ⟨K, hK⟩ : ∃ K, K = K91 D := ⟨_, rfl⟩
  rw [← hK]
  refine cretK_of_swp mixedOrders VT_ok Tryz.func91 (code := Tryz.f91.body.get (by kernel_rfl)) (by kernel_rfl) (by kernel_rfl) fun E hE hreal => ?_
  obtain ⟨ar, cm, sc, eb, wr, ln, sl, ct, ap, sb, ss, u8, mx, nth, off, sat, sok, stok, cat, bd, szs, ne, nil, call, callF⟩ := E
  clear hreal
  have hs : szs D 9 := by cases hE; exact hl
  have hb : bd [] D 160 := by
    cases hE
    show ([].length + D.length) * 160 ≤ 140737488355328
    simp
    omega
  have hn : nil D → D = [] := fun h => by cases hE; exact h
  have tail : (nil D → SFinK (some AV.emp) K) ∧ (ne D → SFinK (some (AV.own 7 28 D)) K) :=
    ⟨fun h => .mk .emp (.eq (.eq rfl)) (by rw [hK]; exact .inr (.inl ⟨rfl, hn h⟩)) rfl, fun _ => .mk (.own 7 28 D) (.eq (.eq rfl)) (by rw [hK]; exact .inl rfl) rfl⟩
  cbv
  refine ⟨fun _ => ⟨hs, hb, tail.1, tail.2⟩, fun h => ⟨?_, hs, hb, tail.1, tail.2⟩⟩
  exact .mk .nils (.eq (.eq rfl)) (by rw [hK]; exact .inr (.inr ⟨rfl, hn h⟩)) rfl

inductive T3 where
  | a
  | b
  | c
def T3.av (F : List (List Dat)) : T3 → AV
  | .a => .own 7 28 F
  | .b => .own 19 28 F
  | .c => .emp
def C43 (x : NodeD) : Prop := CRet Tryz.prog 43 [x.av] (· = .dat (.list (NodeD.cellsL x.kidsL)))
set_option maxRecDepth 100000 in
set_option maxHeartbeats 4000000 in
theorem c43 (x : NodeD) (hsz : x.sz ≤ 2097152) : C43 x := by
  obtain ⟨k1, p1, n1, a1, g1, w1, r1, d1, i1⟩ := x
  obtain ⟨K, hK⟩ : ∃ K, K = K91 (NodeD.cellsL d1) := ⟨_, rfl⟩
  refine cret_of_swp mixedOrders VT_ok Tryz.func43 (code := Tryz.f43.body.get (by kernel_rfl)) (by kernel_rfl) (by kernel_rfl) rfl fun E hE hreal => ?_
  obtain ⟨ar, cm, sc, eb, wr, ln, sl, ct, ap, sb, ss, u8, mx, nth, off, sat, sok, stok, cat, bd, szs, ne, nil, call, callF⟩ := E
  clear hreal
  have mi : i1.length ≤ maxLen := by unfold maxLen; have := szBy_len ItemD.sz_pos i1; rw [← ItemD.szL_by] at this; simp only [NodeD.sz] at hsz; omega
  have md : d1.length ≤ 2097152 := by have := szBy_len NodeD.sz_pos d1; rw [← NodeD.szL_by] at this; simp only [NodeD.sz] at hsz; omega
  have bnd : ∀ i, (d1.length + ((i1.take i).flatMap ItemD.body).length) ≤ 2097152 := fun i => by
    have h1 := take_flat ItemD.body ItemD.sz body_len i1 i
    have h2 := szBy_len NodeD.sz_pos d1
    rw [← NodeD.szL_by] at h2
    rw [← ItemD.szL_by] at h1
    simp only [NodeD.sz] at hsz
    omega
  simp only [NodeD.av, NodeD.cells, NodeD.kidsL, List.map_cons, List.map_nil]
  generalize hg1 : g1.map AssignD.cells = G1
  generalize hw1 : w1.map WordD.cells = W1
  generalize hr1 : r1.map RedirD.cells = R1
  generalize hd1 : NodeD.cellsL d1 = D1 at hK
  generalize hi1 : ItemD.cellsL i1 = I1
  generalize hr : NodeD.cellsL (d1 ++ i1.flatMap ItemD.body) = r
  obtain ⟨F, hF⟩ : ∃ F : Nat → List (List Dat), ∀ i, F i = NodeD.cellsL (d1 ++ (i1.take i).flatMap ItemD.body) := ⟨_, fun _ => rfl⟩
  have hF0 : F 0 = D1 := by rw [hF, ← hd1]; simp
  have h91 : call 91 [.dat (.list D1)] K := by
    cases hE
    rw [hK]
    refine c91 D1 (fun q hq => ?_) (by rw [← hd1, NodeD.cellsL_len]; exact md)
    rw [← hd1, NodeD.cellsL_map] at hq
    obtain ⟨x, _, rfl⟩ := List.mem_map.1 hq
    exact x.cells_len
  have hLl : I1.length = i1.length := by rw [← hi1, ItemD.cellsL_len]
  cbv
  refine ⟨_, h91, fun r0 hr0 => ?_⟩
  rw [hK] at hr0
  have start : ∃ t : T3, (t = .c → D1 = []) ∧ LeV r0 (t.av D1) := by
    rcases hr0 with rfl | ⟨rfl, h⟩ | ⟨rfl, h⟩
    · exact ⟨.a, (fun e => by cases e), .eq rfl⟩
    · exact ⟨.c, fun _ => h, .eq rfl⟩
    · exact ⟨.a, (fun e => by cases e), .nilsO h⟩
  clear hr0 hK
  obtain ⟨t0, ht0, hr0⟩ := start
  cbv
  refine .mk {q : Nat × T3 // q.1 ≤ i1.length ∧ (q.2 = .c → F q.1 = [])} (fun q => ⟨slotsOf 22 [(1, .ptr 0 0), (3, q.1.2.av (F q.1.1)), (10, .dat (.list I1)), (11, .dat (.int .i64 (ln I1 0))), (12, .dat (.int .i64 q.1.1))], [(28, [.dat (.int .i64 k1), .dat (.int .i64 p1), .dat (.str n1), .dat (.bool a1), .dat (.list G1), .dat (.list W1), .dat (.list R1), .dat (.list D1), .dat (.list I1)])]⟩) (fun q => i1.length - q.1.1) ⟨(0, t0), Nat.zero_le _, fun h => by rw [hF0]; exact ht0 h⟩ ?_ ?_
  · rw [← hF0] at hr0
    cases t0 <;>
    · simp only [T3.av] at hr0
      cbv
      and_intros <;> first | exact True.intro | exact LeV.eq rfl | exact hr0
  rintro ⟨⟨i, t⟩, hi, hc⟩
  cases t
  case a =>
    cbv
    generalize h2 : cm .lss _ _ = c2
    cases c2
    case false =>
      have hi2 : i = i1.length := by
        cases hE
        simp [cmI, hLl] at h2
        simp at hi
        omega
      subst hi2
      cbv
      refine .eq (.ownD _ _ ?_)
      rw [← hr, hF, List.take_length]
    case true =>
      have hi2 : i < i1.length := by
        cases hE
        simp [cmI, hLl] at h2
        omega
      clear h2
      obtain ⟨x, hx⟩ : ∃ x, i1[i]? = some x := ⟨_, List.getElem?_eq_getElem hi2⟩
      obtain ⟨p2, b2⟩ := x
      have nx : nth I1 (Int.ofNat i) (ItemD.cells (.mk p2 b2)) 2 := by
        cases hE
        exact ⟨Int.natCast_nonneg i, by rw [← hi1]; exact ItemD.cellsL_get hx, rfl⟩
      have hstep : F (i + 1) = F i ++ NodeD.cellsL b2 := by
        rw [hF, hF]
        simp [List.take_add_one, hx, ItemD.body, NodeD.cellsL_map]
      have hsz2 : szs (NodeD.cellsL b2) 9 := by
        cases hE
        intro q hq
        rw [NodeD.cellsL_map] at hq
        obtain ⟨x, _, rfl⟩ := List.mem_map.1 hq
        exact x.cells_len
      have hbd : ((F i).length + (NodeD.cellsL b2).length) * 160 ≤ 140737488355328 := by
        have := bnd (i + 1)
        rw [hF, NodeD.cellsL_len, NodeD.cellsL_len]
        simp [List.take_add_one, hx, ItemD.body] at this ⊢
        omega
      simp only [ItemD.cells] at nx
      generalize hp2 : p2.map WordD.cells = P2 at nx
      generalize hb2 : NodeD.cellsL b2 = B2 at nx hstep hsz2 hbd
      cbv
      refine ⟨_, nx, ?_⟩
      cbv
      refine ⟨hsz2, by cases hE; exact hbd, ?_⟩
      refine ⟨⟨(i + 1, .a), hi2, (fun e => by cases e)⟩, by show i1.length - (i + 1) < i1.length - i; omega, ?_⟩
      cbv
      and_intros <;> first | exact True.intro | exact LeV.eq rfl | (exact LeV.ownE (by cases hE; exact hstep.symm)) | (exact LeV.intE (by cases hE; exact inc_id hi2 mi))
  case b =>
    cbv
    generalize h2 : cm .lss _ _ = c2
    cases c2
    case false =>
      have hi2 : i = i1.length := by
        cases hE
        simp [cmI, hLl] at h2
        simp at hi
        omega
      subst hi2
      cbv
      refine .eq (.ownD _ _ ?_)
      rw [← hr, hF, List.take_length]
    case true =>
      have hi2 : i < i1.length := by
        cases hE
        simp [cmI, hLl] at h2
        omega
      clear h2
      obtain ⟨x, hx⟩ : ∃ x, i1[i]? = some x := ⟨_, List.getElem?_eq_getElem hi2⟩
      obtain ⟨p2, b2⟩ := x
      have nx : nth I1 (Int.ofNat i) (ItemD.cells (.mk p2 b2)) 2 := by
        cases hE
        exact ⟨Int.natCast_nonneg i, by rw [← hi1]; exact ItemD.cellsL_get hx, rfl⟩
      have hstep : F (i + 1) = F i ++ NodeD.cellsL b2 := by
        rw [hF, hF]
        simp [List.take_add_one, hx, ItemD.body, NodeD.cellsL_map]
      have hsz2 : szs (NodeD.cellsL b2) 9 := by
        cases hE
        intro q hq
        rw [NodeD.cellsL_map] at hq
        obtain ⟨x, _, rfl⟩ := List.mem_map.1 hq
        exact x.cells_len
      have hbd : ((F i).length + (NodeD.cellsL b2).length) * 160 ≤ 140737488355328 := by
        have := bnd (i + 1)
        rw [hF, NodeD.cellsL_len, NodeD.cellsL_len]
        simp [List.take_add_one, hx, ItemD.body] at this ⊢
        omega
      simp only [ItemD.cells] at nx
      generalize hp2 : p2.map WordD.cells = P2 at nx
      generalize hb2 : NodeD.cellsL b2 = B2 at nx hstep hsz2 hbd
      cbv
      refine ⟨_, nx, ?_⟩
      cbv
      refine ⟨hsz2, by cases hE; exact hbd, ?_⟩
      refine ⟨⟨(i + 1, .b), hi2, (fun e => by cases e)⟩, by show i1.length - (i + 1) < i1.length - i; omega, ?_⟩
      cbv
      and_intros <;> first | exact True.intro | exact LeV.eq rfl | (exact LeV.ownE (by cases hE; exact hstep.symm)) | (exact LeV.intE (by cases hE; exact inc_id hi2 mi))
  case c =>
    cbv
    generalize h2 : cm .lss _ _ = c2
    cases c2
    case false =>
      have hi2 : i = i1.length := by
        cases hE
        simp [cmI, hLl] at h2
        simp at hi
        omega
      subst hi2
      cbv
      refine .eq (.empD ?_)
      rw [← hr, ← List.take_length (l := i1), ← hF]
      exact hc rfl
    case true =>
      have hi2 : i < i1.length := by
        cases hE
        simp [cmI, hLl] at h2
        omega
      clear h2
      obtain ⟨x, hx⟩ : ∃ x, i1[i]? = some x := ⟨_, List.getElem?_eq_getElem hi2⟩
      obtain ⟨p2, b2⟩ := x
      have nx : nth I1 (Int.ofNat i) (ItemD.cells (.mk p2 b2)) 2 := by
        cases hE
        exact ⟨Int.natCast_nonneg i, by rw [← hi1]; exact ItemD.cellsL_get hx, rfl⟩
      have hstep : F (i + 1) = F i ++ NodeD.cellsL b2 := by
        rw [hF, hF]
        simp [List.take_add_one, hx, ItemD.body, NodeD.cellsL_map]
      have hsz2 : szs (NodeD.cellsL b2) 9 := by
        cases hE
        intro q hq
        rw [NodeD.cellsL_map] at hq
        obtain ⟨x, _, rfl⟩ := List.mem_map.1 hq
        exact x.cells_len
      have hbd : ((F i).length + (NodeD.cellsL b2).length) * 160 ≤ 140737488355328 := by
        have := bnd (i + 1)
        rw [hF, NodeD.cellsL_len, NodeD.cellsL_len]
        simp [List.take_add_one, hx, ItemD.body] at this ⊢
        omega
      simp only [ItemD.cells] at nx
      generalize hp2 : p2.map WordD.cells = P2 at nx
      generalize hb2 : NodeD.cellsL b2 = B2 at nx hstep hsz2 hbd
      cbv
      refine ⟨_, nx, ?_⟩
      cbv
      have hbd0 : bd [] B2 160 := by
        cases hE
        show ([].length + B2.length) * 160 ≤ _
        simp
        omega
      have hn0 : nil B2 → B2 = [] := fun h => by cases hE; exact h
      refine ⟨hsz2, hbd0, fun hn => ?_, fun hn => ?_⟩
      · refine ⟨⟨(i + 1, .c), hi2, fun _ => by rw [hstep, hc rfl, hn0 hn, List.nil_append]⟩, by show i1.length - (i + 1) < i1.length - i; omega, ?_⟩
        cbv
        and_intros <;> first | exact True.intro | exact LeV.eq rfl | (exact LeV.intE (by cases hE; exact inc_id hi2 mi))
      · refine ⟨⟨(i + 1, .b), hi2, (fun e => by cases e)⟩, by show i1.length - (i + 1) < i1.length - i; omega, ?_⟩
        cbv
        and_intros <;> first | exact True.intro | exact LeV.eq rfl | (exact LeV.ownE (by rw [hstep, hc rfl, List.nil_append])) | (exact LeV.intE (by cases hE; exact inc_id hi2 mi))
end Go.Proofs.YtdfcjodkmjofgaaGreat
/-
  The nodes of a node, in preorder: what the two walks return.
-/
namespace Go.Proofs.YtdfcjodkmjofgaaGreat
open Go.RowKit

mutual
def NodeD.walk : NodeD → List NodeD
  | .mk k p n a g w r d is => .mk k p n a g w r d is :: (NodeD.walkL d ++ ItemD.walkL is)
def NodeD.walkL : List NodeD → List NodeD
  | [] => []
  | x :: l => x.walk ++ NodeD.walkL l
def ItemD.walk : ItemD → List NodeD
  | .mk _ b => NodeD.walkL b
def ItemD.walkL : List ItemD → List NodeD
  | [] => []
  | x :: l => x.walk ++ ItemD.walkL l
end
theorem NodeD.walkL_map (l : List NodeD) : NodeD.walkL l = l.flatMap NodeD.walk := by
  induction l with
  | nil => rfl
  | cons x l ih => simp [NodeD.walkL, ih]
theorem ItemD.walkL_map (l : List ItemD) : ItemD.walkL l = (l.flatMap ItemD.body).flatMap NodeD.walk := by
  induction l with
  | nil => rfl
  | cons x l ih =>
    cases x with
    | mk p b => simp [ItemD.walkL, ih, ItemD.walk, ItemD.body, NodeD.walkL_map]
theorem NodeD.walk_eq (x : NodeD) : x.walk = x :: x.kidsL.flatMap NodeD.walk := by
  cases x with
  | mk k p n a g w r d is => simp [NodeD.walk, NodeD.kidsL, NodeD.walkL_map, ItemD.walkL_map]
theorem kids_szBy (x : NodeD) : szBy NodeD.sz x.kidsL + 1 ≤ x.sz := by
  have key : ∀ l m : List NodeD, szBy NodeD.sz (l ++ m) = szBy NodeD.sz l + szBy NodeD.sz m := fun l m => by
    induction l with
    | nil => simp [szBy]
    | cons x l ih => simp [szBy, ih]; omega
  have key2 : ∀ is : List ItemD, szBy NodeD.sz (is.flatMap ItemD.body) ≤ ItemD.szL is := fun is => by
    induction is with
    | nil => simp [szBy]
    | cons x l ih =>
      cases x with
      | mk p b =>
        rw [List.flatMap_cons, key]
        simp only [ItemD.body, ItemD.szL, ItemD.sz, NodeD.szL_by]
        omega
  cases x with
  | mk k p n a g w r d is =>
    have := key2 is
    simp only [NodeD.kidsL, key, NodeD.sz, NodeD.szL_by]
    omega
theorem NodeD.walk_len (x : NodeD) : x.walk.length ≤ x.sz := by
  have key : ∀ n (x : NodeD), x.sz ≤ n → x.walk.length ≤ x.sz := fun n => by
    induction n with
    | zero => intro x h; have := x.sz_pos; omega
    | succ n ih =>
      intro x h
      have h1 := kids_szBy x
      have h2 : ∀ l : List NodeD, (∀ y ∈ l, y.sz ≤ n) → (l.flatMap NodeD.walk).length ≤ szBy NodeD.sz l := fun l hl => by
        induction l with
        | nil => simp
        | cons y l ihl =>
          have h3 := ih y (hl y (by simp))
          have h4 := ihl fun z hz => hl z (by simp [hz])
          simp only [List.flatMap_cons, List.length_append, szBy]
          omega
      have h5 := h2 x.kidsL fun y hy => by have := kids_sz hy; omega
      rw [NodeD.walk_eq, List.length_cons]
      omega
  exact key _ x (Nat.le_refl _)
theorem walk_take (l : List NodeD) (i : Nat) : ((l.take i).flatMap NodeD.walk).length ≤ szBy NodeD.sz l := take_flat NodeD.walk NodeD.sz NodeD.walk_len l i
theorem cells9 (l : List NodeD) : ∀ q ∈ NodeD.cellsL l, q.length = 9 := fun q hq => by
  rw [NodeD.cellsL_map] at hq
  obtain ⟨x, _, rfl⟩ := List.mem_map.1 hq
  exact x.cells_len
theorem NodeD.cellsL_append (l m : List NodeD) : NodeD.cellsL (l ++ m) = NodeD.cellsL l ++ NodeD.cellsL m := by simp [NodeD.cellsL_map]

def C24 (x : NodeD) : Prop := CRet Tryz.prog 24 [x.av] (· = .dat (.list (NodeD.cellsL x.walk)))
set_option maxRecDepth 100000 in
set_option maxHeartbeats 4000000 in
theorem c24s (n : Nat) (ih : ∀ x : NodeD, x.sz ≤ 2097152 → x.sz ≤ n → C24 x) (x : NodeD) (hsz : x.sz ≤ 2097152) (hn : x.sz ≤ n + 1) : C24 x := by
  have kl := kids_len x
  have kk : ∀ y ∈ x.kidsL, C24 y := fun y hy => ih y (by have := kids_sz hy; omega) (by have := kids_sz hy; omega)
  have ks := kids_szBy x
  have hw := x.walk_eq
  have h40 := c40 x hsz
  unfold C40 at h40
  unfold C24
  obtain ⟨k1, p1, n1, a1, g1, w1, r1, d1, i1⟩ := x
  refine cret_of_swp mixedOrders VT_ok Tryz.func24 (code := Tryz.f24.body.get (by kernel_rfl)) (by kernel_rfl) (by kernel_rfl) rfl fun E hE hreal => ?_
  obtain ⟨ar, cm, sc, eb, wr, ln, sl, ct, ap, sb, ss, u8, mx, nth, off, sat, sok, stok, cat, bd, szs, ne, nil, call, callF⟩ := E
  clear hreal
  have mk' : (NodeD.kidsL (.mk k1 p1 n1 a1 g1 w1 r1 d1 i1)).length ≤ maxLen := by unfold maxLen; omega
  generalize hKK : NodeD.kidsL (.mk k1 p1 n1 a1 g1 w1 r1 d1 i1) = kk0 at mk' kk ks hw h40 kl
  generalize hWW : NodeD.walk (.mk k1 p1 n1 a1 g1 w1 r1 d1 i1) = ww at hw
  generalize hxx : NodeD.mk k1 p1 n1 a1 g1 w1 r1 d1 i1 = xx at hw ks hsz hn hKK hWW
  have hx9 : xx.cells = NodeD.cells (.mk k1 p1 n1 a1 g1 w1 r1 d1 i1) := by rw [hxx]
  simp only [NodeD.av, NodeD.cells, List.map_cons, List.map_nil] at h40 hx9
  rw [← hxx]
  simp only [NodeD.av, NodeD.cells, List.map_cons, List.map_nil]
  generalize hg1 : g1.map AssignD.cells = G1 at h40 hx9
  generalize hw1 : w1.map WordD.cells = W1 at h40 hx9
  generalize hr1 : r1.map RedirD.cells = R1 at h40 hx9
  generalize hd1 : NodeD.cellsL d1 = D1 at h40 hx9
  generalize hi1 : ItemD.cellsL i1 = I1 at h40 hx9
  generalize hKc : NodeD.cellsL kk0 = KC at h40
  generalize hr : NodeD.cellsL ww = r
  obtain ⟨F, hF⟩ : ∃ F : Nat → List (List Dat), ∀ i, F i = xx.cells :: NodeD.cellsL ((kk0.take i).flatMap NodeD.walk) := ⟨_, fun _ => rfl⟩
  have hF0 : F 0 = [[.int .i64 k1, .int .i64 p1, .str n1, .bool a1, .list G1, .list W1, .list R1, .list D1, .list I1]] := by rw [hF, hx9]; rfl
  have h40' : call 40 [.agg [.dat (.int .i64 k1), .dat (.int .i64 p1), .dat (.str n1), .dat (.bool a1), .dat (.list G1), .dat (.list W1), .dat (.list R1), .dat (.list D1), .dat (.list I1)]] (· = .dat (.list KC)) := by
    cases hE
    exact h40
  have hLl : KC.length = kk0.length := by rw [← hKc, NodeD.cellsL_len]
  have bnd : ∀ i, ((kk0.take i).flatMap NodeD.walk).length + 1 ≤ 2097152 := fun i => by
    have := walk_take kk0 i
    omega
  clear hn hKK h40
  cbv
  refine ⟨_, h40', ?_⟩
  rintro _ rfl
  cbv
  refine .mk {i : Nat // i ≤ kk0.length} (fun q => ⟨slotsOf 24 [(3, .own 7 28 (F q.1)), (4, .dat (.list KC)), (5, .dat (.int .i64 q.1))], []⟩) (fun q => kk0.length - q.1) ⟨0, Nat.zero_le _⟩ ?_ ?_
  · cbv
    and_intros <;> first | exact True.intro | exact LeV.eq rfl | (exact LeV.ownE hF0.symm)
  · rintro ⟨i, hi⟩
    cbv
    generalize h2 : cm .lss _ _ = c2
    cases c2
    case false =>
      have hi2 : i = kk0.length := by
        cases hE
        simp [cmI, hLl] at h2
        omega
      subst hi2
      cbv
      refine .eq (.ownD _ _ ?_)
      rw [← hr, hF, List.take_length, hw]
      rfl
    case true =>
      have hi2 : i < kk0.length := by
        cases hE
        simp [cmI, hLl] at h2
        omega
      clear h2
      obtain ⟨y, hy⟩ : ∃ x, kk0[i]? = some x := ⟨_, List.getElem?_eq_getElem hi2⟩
      have cy := kk y (List.mem_of_getElem? hy)
      unfold C24 at cy
      have nx : nth KC (Int.ofNat i) y.cells 9 := by
        cases hE
        exact ⟨Int.natCast_nonneg i, by rw [← hKc]; exact NodeD.cellsL_get hy, y.cells_len⟩
      have hstep : F (i + 1) = F i ++ NodeD.cellsL y.walk := by
        rw [hF, hF]
        simp [List.take_add_one, hy, NodeD.cellsL_append]
      have hbd : bd (F i) (NodeD.cellsL y.walk) 160 := by
        cases hE
        show ((F i).length + (NodeD.cellsL y.walk).length) * 160 ≤ 140737488355328
        have := bnd (i + 1)
        rw [hF]
        simp [List.take_add_one, hy, NodeD.cellsL_len] at this ⊢
        omega
      have hss : szs (NodeD.cellsL y.walk) 9 := by
        cases hE
        exact cells9 _
      generalize hyw : NodeD.cellsL y.walk = Y at cy hstep hbd hss
      obtain ⟨k2, p2, n2, a2, g2, w2, r2, d2, i2⟩ := y
      simp only [NodeD.cells, NodeD.av, List.map_cons, List.map_nil] at nx cy
      generalize hg2 : g2.map AssignD.cells = G2 at nx cy
      generalize hw2 : w2.map WordD.cells = W2 at nx cy
      generalize hr2 : r2.map RedirD.cells = R2 at nx cy
      generalize hd2 : NodeD.cellsL d2 = D2 at nx cy
      generalize hi2' : ItemD.cellsL i2 = I2 at nx cy
      have cy' : call 24 [.agg [.dat (.int .i64 k2), .dat (.int .i64 p2), .dat (.str n2), .dat (.bool a2), .dat (.list G2), .dat (.list W2), .dat (.list R2), .dat (.list D2), .dat (.list I2)]] (· = .dat (.list Y)) := by
        cases hE
        exact cy
      cbv
      refine ⟨_, nx, ?_⟩
      cbv
      refine ⟨_, cy', ?_⟩
      rintro _ rfl
      cbv
      refine ⟨hss, hbd, ?_⟩
      refine ⟨⟨i + 1, hi2⟩, ?_, ?_⟩
      · show kk0.length - (i + 1) < kk0.length - i
        omega
      · cbv
        and_intros <;> first | exact True.intro | exact LeV.eq rfl | (exact LeV.ownE (by cases hE; exact hstep.symm)) | (exact LeV.intE (by cases hE; exact inc_id hi2 mk'))
theorem c24 (x : NodeD) (hsz : x.sz ≤ 2097152) : C24 x := by
  have key : ∀ n (x : NodeD), x.sz ≤ 2097152 → x.sz ≤ n → C24 x := fun n => by
    induction n with
    | zero => intro x _ h; have := x.sz_pos; omega
    | succ n ih => exact c24s n ih
  exact key _ x hsz (Nat.le_refl _)
end Go.Proofs.YtdfcjodkmjofgaaGreat
/-
  Positions; nodes held against each other with all positions.
-/
namespace Go.Proofs.YtdfcjodkmjofgaaGreat
open Go.RowKit

/-- A number among numbers. -/
structure IntD where
  n : Int
def IntD.cells (x : IntD) : List Dat := [.int .i64 x.n]
def IntD.same (a b : IntD) : Bool := a.n == b.n
def AssignD.posI (a : AssignD) : IntD := ⟨a.pos⟩
def RedirD.posI (a : RedirD) : IntD := ⟨a.pos⟩
def WordD.posI (a : WordD) : IntD := ⟨a.pos⟩
mutual
def NodeD.poss : NodeD → List IntD
  | .mk k p n a g w r d is => ⟨p⟩ :: (g.map AssignD.posI ++ r.map RedirD.posI ++ (NodeD.wordsL (.mk k p n a g w r d is)).map WordD.posI ++ (NodeD.possL d ++ ItemD.possL is))
def NodeD.possL : List NodeD → List IntD
  | [] => []
  | x :: l => x.poss ++ NodeD.possL l
def ItemD.poss : ItemD → List IntD
  | .mk _ b => NodeD.possL b
def ItemD.possL : List ItemD → List IntD
  | [] => []
  | x :: l => x.poss ++ ItemD.possL l
end
theorem NodeD.possL_map (l : List NodeD) : NodeD.possL l = l.flatMap NodeD.poss := by
  induction l with
  | nil => rfl
  | cons x l ih => simp [NodeD.possL, ih]
theorem ItemD.possL_map (l : List ItemD) : ItemD.possL l = (l.flatMap ItemD.body).flatMap NodeD.poss := by
  induction l with
  | nil => rfl
  | cons x l ih =>
    cases x with
    | mk p b => simp [ItemD.possL, ih, ItemD.poss, ItemD.body, NodeD.possL_map]
theorem NodeD.poss_eq (k p : Int) (n : List UInt8) (a : Bool) (g : List AssignD) (w : List WordD) (r : List RedirD) (d : List NodeD) (is : List ItemD) : NodeD.poss (.mk k p n a g w r d is) =
    [⟨p⟩] ++ g.map AssignD.posI ++ r.map RedirD.posI ++ (NodeD.wordsL (.mk k p n a g w r d is)).map WordD.posI ++ (NodeD.kidsL (.mk k p n a g w r d is)).flatMap NodeD.poss := by
  simp [NodeD.poss, NodeD.kidsL, NodeD.possL_map, ItemD.possL_map]
theorem szBy_append {α : Type} (f : α → Nat) (l m : List α) : szBy f (l ++ m) = szBy f l + szBy f m := by
  induction l with
  | nil => simp [szBy]
  | cons x l ih => simp [szBy, ih]; omega
theorem szBy_two {α : Type} (f : α → Nat) (l : List α) : szBy (fun x => 2 * f x) l = 2 * szBy f l := by
  induction l with
  | nil => rfl
  | cons x l ih => simp [szBy, ih]; omega
theorem items_two (is : List ItemD) : (is.flatMap ItemD.pats).length + 2 * szBy NodeD.sz (is.flatMap ItemD.body) ≤ 2 * ItemD.szL is := by
  induction is with
  | nil => simp [szBy]
  | cons x l ih =>
    cases x with
    | mk p b =>
      have h1 := szBy_len WordD.sz_pos p
      simp only [List.flatMap_cons, List.length_append, szBy_append, ItemD.pats, ItemD.body, ItemD.szL, ItemD.sz, NodeD.szL_by] at ih ⊢
      omega
theorem poss_room (k p : Int) (n : List UInt8) (a : Bool) (g : List AssignD) (w : List WordD) (r : List RedirD) (d : List NodeD) (is : List ItemD) :
    1 + g.length + r.length + (NodeD.wordsL (.mk k p n a g w r d is)).length + 2 * szBy NodeD.sz (NodeD.kidsL (.mk k p n a g w r d is)) ≤ 2 * (NodeD.mk k p n a g w r d is).sz := by
  have h1 := items_two is
  have h2 := szBy_len AssignD.sz_pos g
  have h3 := szBy_len WordD.sz_pos w
  have h4 := szBy_len RedirD.sz_pos r
  simp only [NodeD.sz, NodeD.wordsL, NodeD.kidsL, List.length_append, List.length_map, szBy_append, NodeD.szL_by]
  omega
theorem NodeD.poss_len (x : NodeD) : x.poss.length ≤ 2 * x.sz := by
  have key : ∀ n (x : NodeD), x.sz ≤ n → x.poss.length ≤ 2 * x.sz := fun n => by
    induction n with
    | zero => intro x h; have := x.sz_pos; omega
    | succ n ih =>
      intro x h
      have h2 : ∀ l : List NodeD, (∀ y ∈ l, y.sz ≤ n) → (l.flatMap NodeD.poss).length ≤ 2 * szBy NodeD.sz l := fun l hl => by
        induction l with
        | nil => simp
        | cons y l ihl =>
          have h3 := ih y (hl y (by simp))
          have h4 := ihl fun z hz => hl z (by simp [hz])
          simp only [List.flatMap_cons, List.length_append, szBy]
          omega
      have h5 := h2 x.kidsL fun y hy => by have := kids_sz hy; omega
      obtain ⟨k, p, n, a, g, w, r, d, is⟩ := x
      have h6 := poss_room k p n a g w r d is
      rw [NodeD.poss_eq]
      simp only [List.length_append, List.length_map, List.length_cons, List.length_nil]
      omega
  exact key _ x (Nat.le_refl _)
theorem poss_take (l : List NodeD) (i : Nat) : ((l.take i).flatMap NodeD.poss).length ≤ 2 * szBy NodeD.sz l := by
  rw [← szBy_two]
  exact take_flat NodeD.poss (fun x => 2 * x.sz) NodeD.poss_len l i
def NodeD.exact (x y : NodeD) : Bool := x.same y && sameBy IntD.same x.poss y.poss
def C31 (a b : List IntD) : Prop := CRet Tryz.prog 31 [.dat (.list (a.map IntD.cells)), .dat (.list (b.map IntD.cells))] (· = .dat (.bool (sameBy IntD.same a b)))
set_option maxRecDepth 100000 in
set_option maxHeartbeats 4000000 in
theorem c31  (a b : List IntD): C31 a b := by
  refine cret_of_swp mixedOrders VT_ok Tryz.func31 (code := Tryz.f31.body.get (by kernel_rfl)) (by kernel_rfl) (by kernel_rfl) rfl fun E hE hreal => ?_
  obtain ⟨ar, cm, sc, eb, wr, ln, sl, ct, ap, sb, ss, u8, mx, nth, off, sat, sok, stok, cat, bd, szs, ne, nil, call, callF⟩ := E
  have hmax : a.length ≤ maxLen := by have := real_list (hreal 0 _ rfl); rwa [List.length_map] at this
  clear hreal
  generalize hA : a.map IntD.cells = A
  generalize hB : b.map IntD.cells = B
  generalize hr : sameBy IntD.same a b = r
  cbv
  generalize h1 : cm .neq _ _ = c1
  cases c1
  case true =>
    cbv
    refine .eq (.boolE ?_)
    rw [← hr]
    cases hq : sameBy IntD.same a b with
    | false => rfl
    | true =>
      have := (sameBy_iff.1 hq).1
      cases hE
      simp [cmI] at h1
      rw [← hA, ← hB, List.length_map, List.length_map] at h1
      omega
  case false =>
    cbv
    have hAl : A.length = a.length := by rw [← hA, List.length_map]
    have hBl : B.length = b.length := by rw [← hB, List.length_map]
    have hlen : a.length = b.length := by
      cases hE
      simp [cmI] at h1
      omega
    refine .mk {i : Nat // i ≤ a.length ∧ ∀ (j : Nat) (x y : IntD), j < i → a[j]? = some x → b[j]? = some y → IntD.same x y = true} (fun i => ⟨slotsOf 26 [(0, .dat (.list A)), (1, .dat (.list B)), (5, .dat (.int .i64 i.1))], []⟩) (fun i => a.length - i.1) ⟨0, Nat.zero_le _, fun j x y h => by omega⟩ ?_ ?_
    · cbv
      exact ⟨⟨.eq rfl, .eq rfl, .eq rfl, trivial⟩, trivial⟩
    · rintro ⟨i, hi, hs⟩
      cbv
      generalize h2 : cm .lss _ _ = c2
      cases c2
      case false =>
        cbv
        have hi2 : i = a.length := by
          cases hE
          simp [cmI, hAl] at h2
          omega
        refine .eq (.boolE ?_)
        rw [← hr]
        refine (sameBy_iff.2 ⟨hlen, fun j x y hx hy => hs j x y ?_ hx hy⟩).symm
        rw [hi2]
        exact (List.getElem?_eq_some_iff.1 hx).1
      case true =>
        have hi2 : i < a.length := by
          cases hE
          simp [cmI, hAl] at h2
          omega
        obtain ⟨x, hx⟩ : ∃ x, a[i]? = some x := ⟨_, List.getElem?_eq_getElem hi2⟩
        obtain ⟨y, hy⟩ : ∃ y, b[i]? = some y := ⟨_, List.getElem?_eq_getElem (hlen ▸ hi2)⟩
        obtain ⟨k1⟩ := x
        obtain ⟨k2⟩ := y
        have nx : nth A (Int.ofNat i) (IntD.cells ⟨k1⟩) 1 := by
          cases hE
          exact ⟨Int.natCast_nonneg i, by rw [← hA]; simp [hx], rfl⟩
        have ny : nth B (Int.ofNat i) (IntD.cells ⟨k2⟩) 1 := by
          cases hE
          exact ⟨Int.natCast_nonneg i, by rw [← hB]; simp [hy], rfl⟩
        simp only [IntD.cells] at nx ny

        have bad : IntD.same ⟨k1⟩ ⟨k2⟩ = false → false = r := fun h => by
          rw [← hr]
          cases hq : sameBy IntD.same a b with
          | false => rfl
          | true =>
            have := (sameBy_iff.1 hq).2 i _ _ hx hy
            rw [h] at this
            cases this
        have next : IntD.same ⟨k1⟩ ⟨k2⟩ = true → ∀ (j : Nat) (x y : IntD), j < i + 1 → a[j]? = some x → b[j]? = some y → IntD.same x y = true := fun hxy j x y hj hx' hy' => by
          rcases Nat.lt_succ_iff_lt_or_eq.1 hj with h | rfl
          · exact hs j x y h hx' hy'
          · rw [hx] at hx'
            rw [hy] at hy'
            injection hx' with hx'
            injection hy' with hy'
            subst hx' hy'
            exact hxy
        cbv
        refine .quiet (by kernel_rfl) ?_
        cbv
        refine ⟨_, nx, ?_⟩
        cbv
        refine ⟨_, ny, ?_⟩
        cbv
        generalize h3 : cm .neq _ _ = c3
        cases c3
        case true =>
          cbv
          refine .eq (.boolE (bad ?_))
          cases hE
          simp [cmI] at h3
          simp [IntD.same, h3]
        cbv
        have hxy := next (by
          cases hE
          simp [cmI] at h3
          simp [IntD.same, h3])
        refine ⟨⟨i + 1, hi2, hxy⟩, ?_, ?_⟩
        · show a.length - (i + 1) < a.length - i
          omega
        · cbv
          exact ⟨⟨.eq rfl, .eq rfl, .intE (by cases hE; exact inc_id hi2 hmax), trivial⟩, trivial⟩


def C61 (x : NodeD) : Prop := CRet Tryz.prog 61 [x.av] (· = .dat (.list (x.poss.map IntD.cells)))
set_option maxRecDepth 100000 in
set_option maxHeartbeats 4000000 in
theorem c61s (n : Nat) (ih : ∀ x : NodeD, x.sz ≤ 2097152 → x.sz ≤ n → C61 x) (x : NodeD) (hsz : x.sz ≤ 2097152) (hn : x.sz ≤ n + 1) : C61 x := by
  have kk : ∀ y ∈ x.kidsL, C61 y := fun y hy => ih y (by have := kids_sz hy; omega) (by have := kids_sz hy; omega)
  have kl := kids_len x
  have wl := words_len x
  obtain ⟨k1, p1, n1, a1, g1, w1, r1, d1, i1⟩ := x
  have room := poss_room k1 p1 n1 a1 g1 w1 r1 d1 i1
  have hpe := NodeD.poss_eq k1 p1 n1 a1 g1 w1 r1 d1 i1
  unfold C61
  refine cret_of_swp mixedOrders VT_ok Tryz.func61 (code := Tryz.f61.body.get (by kernel_rfl)) (by kernel_rfl) (by kernel_rfl) rfl fun E hE hreal => ?_
  obtain ⟨ar, cm, sc, eb, wr, ln, sl, ct, ap, sb, ss, u8, mx, nth, off, sat, sok, stok, cat, bd, szs, ne, nil, call, callF⟩ := E
  clear hreal
  have mg : g1.length ≤ maxLen := by unfold maxLen; have := szBy_len AssignD.sz_pos g1; simp only [NodeD.sz] at hsz; omega
  have mr : r1.length ≤ maxLen := by unfold maxLen; have := szBy_len RedirD.sz_pos r1; simp only [NodeD.sz] at hsz; omega
  have mw : (NodeD.wordsL (.mk k1 p1 n1 a1 g1 w1 r1 d1 i1)).length ≤ maxLen := by unfold maxLen; omega
  have mk' : (NodeD.kidsL (.mk k1 p1 n1 a1 g1 w1 r1 d1 i1)).length ≤ maxLen := by unfold maxLen; omega
  have h38 := c38 (.mk k1 p1 n1 a1 g1 w1 r1 d1 i1) hsz
  have h40 := c40 (.mk k1 p1 n1 a1 g1 w1 r1 d1 i1) hsz
  unfold C38 at h38
  unfold C40 at h40
  simp only [NodeD.av, NodeD.cells, List.map_cons, List.map_nil] at h38 h40 ⊢
  generalize hWW : NodeD.wordsL (.mk k1 p1 n1 a1 g1 w1 r1 d1 i1) = ww at mw hpe room h38
  generalize hKK : NodeD.kidsL (.mk k1 p1 n1 a1 g1 w1 r1 d1 i1) = kk0 at mk' kk hpe room h40
  generalize hPP : NodeD.poss (.mk k1 p1 n1 a1 g1 w1 r1 d1 i1) = pp at hpe
  generalize hg1 : g1.map AssignD.cells = G1 at h38 h40
  generalize hw1 : w1.map WordD.cells = W1 at h38 h40
  generalize hr1 : r1.map RedirD.cells = R1 at h38 h40
  generalize hd1 : NodeD.cellsL d1 = D1 at h38 h40
  generalize hi1 : ItemD.cellsL i1 = I1 at h38 h40
  generalize hWc : ww.map WordD.cells = WC at h38
  generalize hKc : NodeD.cellsL kk0 = KC at h40
  replace h38 : call 38 [.agg [.dat (.int .i64 k1), .dat (.int .i64 p1), .dat (.str n1), .dat (.bool a1), .dat (.list G1), .dat (.list W1), .dat (.list R1), .dat (.list D1), .dat (.list I1)]] (· = .dat (.list WC)) := by
    cases hE
    exact h38
  replace h40 : call 40 [.agg [.dat (.int .i64 k1), .dat (.int .i64 p1), .dat (.str n1), .dat (.bool a1), .dat (.list G1), .dat (.list W1), .dat (.list R1), .dat (.list D1), .dat (.list I1)]] (· = .dat (.list KC)) := by
    cases hE
    exact h40
  generalize hr : pp.map IntD.cells = r
  rw [hpe] at hr
  obtain ⟨F1, hF1⟩ : ∃ F : Nat → List (List Dat), ∀ i, F i = ([(⟨p1⟩ : IntD)] ++ (g1.take i).map AssignD.posI).map IntD.cells := ⟨_, fun _ => rfl⟩
  obtain ⟨F2, hF2⟩ : ∃ F : Nat → List (List Dat), ∀ i, F i = ([(⟨p1⟩ : IntD)] ++ g1.map AssignD.posI ++ (r1.take i).map RedirD.posI).map IntD.cells := ⟨_, fun _ => rfl⟩
  obtain ⟨F3, hF3⟩ : ∃ F : Nat → List (List Dat), ∀ i, F i = ([(⟨p1⟩ : IntD)] ++ g1.map AssignD.posI ++ r1.map RedirD.posI ++ (ww.take i).map WordD.posI).map IntD.cells := ⟨_, fun _ => rfl⟩
  obtain ⟨F4, hF4⟩ : ∃ F : Nat → List (List Dat), ∀ i, F i = ([(⟨p1⟩ : IntD)] ++ g1.map AssignD.posI ++ r1.map RedirD.posI ++ ww.map WordD.posI ++ (kk0.take i).flatMap NodeD.poss).map IntD.cells := ⟨_, fun _ => rfl⟩
  have hs1 : [[Dat.int .i64 p1]] = F1 0 := by
    rw [hF1]
    simp [IntD.cells]
  generalize hNN : (NodeD.mk k1 p1 n1 a1 g1 w1 r1 d1 i1).sz = nn at hsz room
  clear kl wl hn hWW hKK hPP
  cbv
  have hLl1 : G1.length = g1.length := by rw [← hg1, List.length_map]
  refine .mk {i : Nat // i ≤ g1.length} (fun q => ⟨slotsOf 77 [(1, .ptr 0 0), (3, .own 12 3 (F1 q.1)), (4, .dat (.int .i64 q.1))], [(28, [.dat (.int .i64 k1), .dat (.int .i64 p1), .dat (.str n1), .dat (.bool a1), .dat (.list G1), .dat (.list W1), .dat (.list R1), .dat (.list D1), .dat (.list I1)])]⟩) (fun q => g1.length - q.1) ⟨0, Nat.zero_le _⟩ ?_ ?_
  · cbv
    and_intros <;> first | exact True.intro | exact LeV.eq rfl | (exact LeV.ownE hs1)
  · rintro ⟨i, hi⟩
    cbv
    generalize h2 : cm .lss _ _ = c2
    cases c2
    case false =>
      have hi2 : i = g1.length := by
        cases hE
        simp [cmI, hLl1] at h2
        omega
      subst hi2
      cbv
      have hs2 : F1 g1.length = F2 0 := by
        rw [hF1, hF2]
        simp
      have hLl2 : R1.length = r1.length := by rw [← hr1, List.length_map]
      refine .mk {i : Nat // i ≤ r1.length} (fun q => ⟨slotsOf 77 [(1, .ptr 0 0), (3, .own 12 3 (F2 q.1)), (5, .dat (.int .i64 q.1))], [(28, [.dat (.int .i64 k1), .dat (.int .i64 p1), .dat (.str n1), .dat (.bool a1), .dat (.list G1), .dat (.list W1), .dat (.list R1), .dat (.list D1), .dat (.list I1)])]⟩) (fun q => r1.length - q.1) ⟨0, Nat.zero_le _⟩ ?_ ?_
      · cbv
        and_intros <;> first | exact True.intro | exact LeV.eq rfl | (exact LeV.ownE hs2)
      · rintro ⟨i, hi⟩
        cbv
        generalize h2 : cm .lss _ _ = c2
        cases c2
        case false =>
          have hi2 : i = r1.length := by
            cases hE
            simp [cmI, hLl2] at h2
            omega
          subst hi2
          cbv
          refine ⟨_, h38, ?_⟩
          rintro _ rfl
          cbv
          have hs3 : F2 r1.length = F3 0 := by
            rw [hF2, hF3]
            simp
          have hLl3 : WC.length = ww.length := by rw [← hWc, List.length_map]
          refine .mk {i : Nat // i ≤ ww.length} (fun q => ⟨slotsOf 77 [(1, .ptr 0 0), (3, .own 12 3 (F3 q.1)), (6, .dat (.list WC)), (7, .dat (.int .i64 q.1))], [(28, [.dat (.int .i64 k1), .dat (.int .i64 p1), .dat (.str n1), .dat (.bool a1), .dat (.list G1), .dat (.list W1), .dat (.list R1), .dat (.list D1), .dat (.list I1)])]⟩) (fun q => ww.length - q.1) ⟨0, Nat.zero_le _⟩ ?_ ?_
          · cbv
            and_intros <;> first | exact True.intro | exact LeV.eq rfl | (exact LeV.ownE hs3)
          · rintro ⟨i, hi⟩
            cbv
            generalize h2 : cm .lss _ _ = c2
            cases c2
            case false =>
              have hi2 : i = ww.length := by
                cases hE
                simp [cmI, hLl3] at h2
                omega
              subst hi2
              cbv
              refine ⟨_, h40, ?_⟩
              rintro _ rfl
              cbv
              have hs4 : F3 ww.length = F4 0 := by
                rw [hF3, hF4]
                simp
              have hLl4 : KC.length = kk0.length := by rw [← hKc, NodeD.cellsL_len]
              refine .mk {i : Nat // i ≤ kk0.length} (fun q => ⟨slotsOf 77 [(1, .ptr 0 0), (3, .own 12 3 (F4 q.1)), (8, .dat (.list KC)), (9, .dat (.int .i64 q.1))], [(28, [.dat (.int .i64 k1), .dat (.int .i64 p1), .dat (.str n1), .dat (.bool a1), .dat (.list G1), .dat (.list W1), .dat (.list R1), .dat (.list D1), .dat (.list I1)])]⟩) (fun q => kk0.length - q.1) ⟨0, Nat.zero_le _⟩ ?_ ?_
              · cbv
                and_intros <;> first | exact True.intro | exact LeV.eq rfl | (exact LeV.ownE hs4)
              · rintro ⟨i, hi⟩
                cbv
                generalize h2 : cm .lss _ _ = c2
                cases c2
                case false =>
                  have hi2 : i = kk0.length := by
                    cases hE
                    simp [cmI, hLl4] at h2
                    omega
                  subst hi2
                  cbv
                  refine .eq (.ownD _ _ ?_)
                  rw [← hr, hF4, List.take_length]
                case true =>
                  have hi2 : i < kk0.length := by
                    cases hE
                    simp [cmI, hLl4] at h2
                    omega
                  clear h2
                  obtain ⟨x, hx⟩ : ∃ x, kk0[i]? = some x := ⟨_, List.getElem?_eq_getElem hi2⟩
                  have cy := kk x (List.mem_of_getElem? hx)
                  unfold C61 at cy
                  have hstep : F4 i ++ x.poss.map IntD.cells = F4 (i + 1) := by
                    rw [hF4, hF4]
                    simp [List.take_add_one, hx]
                  have hss : szs (x.poss.map IntD.cells) 1 := by
                    cases hE
                    intro q hq
                    obtain ⟨z, _, rfl⟩ := List.mem_map.1 hq
                    rfl
                  have hbd : bd (F4 i) (x.poss.map IntD.cells) 8 := by
                    cases hE
                    show ((F4 i).length + (x.poss.map IntD.cells).length) * 8 ≤ 140737488355328
                    have h5 := poss_take kk0 (i + 1)
                    rw [hF4]
                    simp [List.take_add_one, hx] at h5 ⊢
                    omega
                  have nx : nth KC (Int.ofNat i) x.cells 9 := by
                    cases hE
                    exact ⟨Int.natCast_nonneg i, by rw [← hKc]; exact NodeD.cellsL_get hx, x.cells_len⟩
                  generalize hyw : x.poss.map IntD.cells = Y at cy hstep hbd hss
                  obtain ⟨k2, p2, n2, a2, g2, w2, r2, d2, i2⟩ := x
                  simp only [NodeD.cells, NodeD.av, List.map_cons, List.map_nil] at nx cy
                  generalize hg2 : g2.map AssignD.cells = G2 at nx cy
                  generalize hw2 : w2.map WordD.cells = W2 at nx cy
                  generalize hr2 : r2.map RedirD.cells = R2 at nx cy
                  generalize hd2 : NodeD.cellsL d2 = D2 at nx cy
                  generalize hi2' : ItemD.cellsL i2 = I2 at nx cy
                  have cy' : call 61 [.agg [.dat (.int .i64 k2), .dat (.int .i64 p2), .dat (.str n2), .dat (.bool a2), .dat (.list G2), .dat (.list W2), .dat (.list R2), .dat (.list D2), .dat (.list I2)]] (· = .dat (.list Y)) := by
                    cases hE
                    exact cy
                  cbv
                  refine ⟨_, nx, ?_⟩
                  cbv
                  refine ⟨_, cy', ?_⟩
                  rintro _ rfl
                  cbv
                  refine ⟨hss, hbd, ?_⟩
                  refine ⟨⟨i + 1, hi2⟩, ?_, ?_⟩
                  · show kk0.length - (i + 1) < kk0.length - i
                    omega
                  · cbv
                    and_intros <;> first | exact True.intro | exact LeV.eq rfl | (exact LeV.ownE (by cases hE; exact hstep)) | (exact LeV.intE (by cases hE; exact inc_id hi2 mk'))
            case true =>
              have hi2 : i < ww.length := by
                cases hE
                simp [cmI, hLl3] at h2
                omega
              clear h2
              obtain ⟨x, hx⟩ : ∃ x, ww[i]? = some x := ⟨_, List.getElem?_eq_getElem hi2⟩
              obtain ⟨v2, q2⟩ := x
              have nx : nth WC (Int.ofNat i) (WordD.cells ⟨v2, q2⟩) 2 := by
                cases hE
                exact ⟨Int.natCast_nonneg i, by rw [← hWc]; simp [hx], rfl⟩
              have hstep : F3 i ++ [[.int .i64 v2]] = F3 (i + 1) := by
                rw [hF3, hF3]
                simp [List.take_add_one, hx, WordD.posI, IntD.cells]
              have hss : szs [[.int .i64 v2]] 1 := by
                cases hE
                intro q hq
                simp at hq
                subst hq
                rfl
              have hbd : bd (F3 i) [[.int .i64 v2]] 8 := by
                cases hE
                show ((F3 i).length + 1) * 8 ≤ 140737488355328
                rw [hF3]
                simp
                omega
              simp only [WordD.cells] at nx
              generalize hq2 : PartD.cellsL q2 = Q2 at nx
              cbv
              refine ⟨_, nx, ?_⟩
              cbv
              refine ⟨hss, hbd, ?_⟩
              refine ⟨⟨i + 1, hi2⟩, ?_, ?_⟩
              · show ww.length - (i + 1) < ww.length - i
                omega
              · cbv
                and_intros <;> first | exact True.intro | exact LeV.eq rfl | (exact LeV.ownE (by cases hE; exact hstep)) | (exact LeV.intE (by cases hE; exact inc_id hi2 mw))
        case true =>
          have hi2 : i < r1.length := by
            cases hE
            simp [cmI, hLl2] at h2
            omega
          clear h2
          obtain ⟨x, hx⟩ : ∃ x, r1[i]? = some x := ⟨_, List.getElem?_eq_getElem hi2⟩
          obtain ⟨v2, f2, o2, t2, q2⟩ := x
          have nx : nth R1 (Int.ofNat i) (RedirD.cells ⟨v2, f2, o2, t2, q2⟩) 5 := by
            cases hE
            exact ⟨Int.natCast_nonneg i, by rw [← hr1]; simp [hx], rfl⟩
          have hstep : F2 i ++ [[.int .i64 v2]] = F2 (i + 1) := by
            rw [hF2, hF2]
            simp [List.take_add_one, hx, RedirD.posI, IntD.cells]
          have hss : szs [[.int .i64 v2]] 1 := by
            cases hE
            intro q hq
            simp at hq
            subst hq
            rfl
          have hbd : bd (F2 i) [[.int .i64 v2]] 8 := by
            cases hE
            show ((F2 i).length + 1) * 8 ≤ 140737488355328
            rw [hF2]
            simp
            omega
          simp only [RedirD.cells] at nx
          generalize hq2 : PartD.cellsL q2 = Q2 at nx
          cbv
          refine ⟨_, nx, ?_⟩
          cbv
          refine ⟨hss, hbd, ?_⟩
          refine ⟨⟨i + 1, hi2⟩, ?_, ?_⟩
          · show r1.length - (i + 1) < r1.length - i
            omega
          · cbv
            and_intros <;> first | exact True.intro | exact LeV.eq rfl | (exact LeV.ownE (by cases hE; exact hstep)) | (exact LeV.intE (by cases hE; exact inc_id hi2 mr))
    case true =>
      have hi2 : i < g1.length := by
        cases hE
        simp [cmI, hLl1] at h2
        omega
      clear h2
      obtain ⟨x, hx⟩ : ∃ x, g1[i]? = some x := ⟨_, List.getElem?_eq_getElem hi2⟩
      obtain ⟨v2, t2, u2, q2⟩ := x
      have nx : nth G1 (Int.ofNat i) (AssignD.cells ⟨v2, t2, u2, q2⟩) 4 := by
        cases hE
        exact ⟨Int.natCast_nonneg i, by rw [← hg1]; simp [hx], rfl⟩
      have hstep : F1 i ++ [[.int .i64 v2]] = F1 (i + 1) := by
        rw [hF1, hF1]
        simp [List.take_add_one, hx, AssignD.posI, IntD.cells]
      have hss : szs [[.int .i64 v2]] 1 := by
        cases hE
        intro q hq
        simp at hq
        subst hq
        rfl
      have hbd : bd (F1 i) [[.int .i64 v2]] 8 := by
        cases hE
        show ((F1 i).length + 1) * 8 ≤ 140737488355328
        rw [hF1]
        simp
        omega
      simp only [AssignD.cells] at nx
      generalize hq2 : PartD.cellsL q2 = Q2 at nx
      cbv
      refine ⟨_, nx, ?_⟩
      cbv
      refine ⟨hss, hbd, ?_⟩
      refine ⟨⟨i + 1, hi2⟩, ?_, ?_⟩
      · show g1.length - (i + 1) < g1.length - i
        omega
      · cbv
        and_intros <;> first | exact True.intro | exact LeV.eq rfl | (exact LeV.ownE (by cases hE; exact hstep)) | (exact LeV.intE (by cases hE; exact inc_id hi2 mg))
theorem c61 (x : NodeD) (hsz : x.sz ≤ 2097152) : C61 x := by
  have key : ∀ n (x : NodeD), x.sz ≤ 2097152 → x.sz ≤ n → C61 x := fun n => by
    induction n with
    | zero => intro x _ h; have := x.sz_pos; omega
    | succ n ih => exact c61s n ih
  exact key _ x hsz (Nat.le_refl _)
end Go.Proofs.YtdfcjodkmjofgaaGreat
/-
  The program's walk: a closure that appends to a captured slice.
-/
namespace Go.Proofs.YtdfcjodkmjofgaaGreat
open Go.RowKit

/-- What holds of the mark 0 holds of every mark. -/
theorem CR.of0 {P : Program} {f : FuncId} {args : List AV} {G : Boxes} {K : AV → Boxes → Prop} (h : CR P f (AV.mk0L args) (mk0B G) K) : CR P f args G K :=
  ⟨h.en, fun w X vs hp hc => (h.run w { X with lab := fun b => (X.lab b).map fun _ => 0 } vs hp.mk0 ⟨by rw [hc.1, AV.mk0L_length], fun i c v hi hv => by
    rw [AV.mk0L_get, Option.map_eq_some_iff] at hi
    obtain ⟨c0, h0, rfl⟩ := hi
    exact VRel.mk0 (hc.2 i c0 v h0 hv)⟩).mono fun _ _ ⟨v, r, H', X', h1, h2, h3, h4, h5⟩ => ⟨v, r, H', X', h1, h2, ⟨h3.B, h3.below, h3.gs, h3.keep, h3.mn, h3.mo, h3.pm0⟩, h4, h5⟩⟩
theorem NodeD.av_bnd (n : Nat) (x : NodeD) : x.av.bnd n = true := by cases x; rfl
theorem NodeD.av_ren (l : List Nat) (x : NodeD) : x.av.ren l = x.av := by cases x; rfl
theorem NodeD.av_mk0 (x : NodeD) : x.av.mk0 = x.av := by cases x; rfl
/-- The closure's boxes: what has been gathered, and the closure itself. -/
def boxW (m : Nat) (xs : List (List Dat)) : Boxes := [(25, [.own m 28 xs]), (81, [.fn 58 [.ptr 0 0, .ptr 1 0]])]
def C58 (x : NodeD) : Prop := ∀ xs : List (List Dat), (∀ q ∈ xs, q.length = 9) → xs.length + x.sz ≤ 2097152 →
  CR Tryz.prog 58 [x.av, .ptr 0 0, .ptr 1 0] (boxW 0 xs) fun r H' => r = .tup [] ∧ H' = boxW 1000003 (xs ++ NodeD.cellsL x.walk)
/-- The contract within more boxes. -/
theorem C58.within {x : NodeD} (h : C58 x) (m : Nat) (xs : List (List Dat)) (h9 : ∀ q ∈ xs, q.length = 9) (hb : xs.length + x.sz ≤ 2097152) (R : Boxes) (hR : ∀ b ∈ R, AV.calmL b.2 = true) :
    CR Tryz.prog 58 [x.av, .ptr 0 0, .ptr 1 0] (boxW m xs ++ R) fun r H' => r = .tup [] ∧ H' = boxW 1000003 (xs ++ NodeD.cellsL x.walk) ++ R := by
  have h1 : CR Tryz.prog 58 [x.av, .ptr 0 0, .ptr 1 0] (boxW m xs) _ := CR.of0 (by
    have := h xs h9 hb
    simp only [AV.mk0L, NodeD.av_mk0, AV.mk0]
    exact this)
  have h2 := CR.frame (G := boxW m xs ++ R) [0, 1] h1 ⟨by decide, rfl, by simp only [AV.bndL, NodeD.av_bnd]; rfl, fun i T cs hi => ?_, fun o T cs ho => ?_⟩ (fun r H' hk => by rw [hk.2]; rfl)
  · simp only [AV.renL, NodeD.av_ren] at h2
    refine h2.mono fun r G' ⟨r0, H', ⟨k1, k2⟩, k3, k4⟩ => ?_
    subst k1 k2
    exact ⟨k3, k4⟩
  · match i, hi with
    | 0, hi => cases hi; exact ⟨by simp, rfl, rfl⟩
    | 1, hi => cases hi; exact ⟨by simp, rfl, rfl⟩
  · match o, ho with
    | 0, ho => exact .inl (by simp)
    | 1, ho => exact .inl (by simp)
    | o + 2, ho => exact .inr (hR _ (List.mem_of_getElem? (show R[o]? = _ from ho)))
/-- The operations of the append that are done, and those that may come next. -/
def tab58 : List (List Bool × List Nat) := [
  ([false, false, false, false, false, false, false, false], [0, 1, 3]),
  ([true, false, false, false, false, false, false, false], [1, 2, 3]),
  ([false, true, false, false, false, false, false, false], [0, 3]),
  ([false, false, false, true, false, false, false, false], [0, 1]),
  ([true, true, false, false, false, false, false, false], [2, 3]),
  ([true, false, true, false, false, false, false, false], [1, 3]),
  ([true, false, false, true, false, false, false, false], [1, 2]),
  ([false, true, false, true, false, false, false, false], [0]),
  ([true, true, true, false, false, false, false, false], [3]),
  ([true, true, false, true, false, false, false, false], [2]),
  ([true, false, true, true, false, false, false, false], [1]),
  ([true, true, true, true, false, false, false, false], [4]),
  ([true, true, true, true, true, false, false, false], [5, 7]),
  ([true, true, true, true, true, true, false, false], [6, 7]),
  ([true, true, true, true, true, false, false, true], [5]),
  ([true, true, true, true, true, true, true, false], [7]),
  ([true, true, true, true, true, true, false, true], [6]),
  ([true, true, true, true, true, true, true, true], [])]
set_option maxRecDepth 100000 in
set_option maxHeartbeats 4000000 in
theorem c58s (n : Nat) (ih : ∀ x : NodeD, x.sz ≤ n → C58 x) (x : NodeD) (hn : x.sz ≤ n + 1) : C58 x := by
  intro xs h9 hb
  have hsz : x.sz ≤ 2097152 := by omega
  have kk : ∀ y ∈ x.kidsL, C58 y := fun y hy => ih y (by have := kids_sz hy; omega)
  have ks := kids_szBy x
  have hw := x.walk_eq
  have h43 := c43 x hsz
  unfold C43 at h43
  have kl := kids_len x
  obtain ⟨k1, p1, n1, a1, g1, w1, r1, d1, i1⟩ := x
  refine crH_of_swp mixedOrders VT_ok Tryz.func58 (code := Tryz.f58.body.get (by kernel_rfl)) (by kernel_rfl) (by kernel_rfl) fun E hE hreal => ?_
  obtain ⟨ar, cm, sc, eb, wr, ln, sl, ct, ap, sb, ss, u8, mx, nth, off, sat, sok, stok, cat, bd, szs, ne, nil, call, callF⟩ := E
  clear hreal
  have mk' : (NodeD.kidsL (.mk k1 p1 n1 a1 g1 w1 r1 d1 i1)).length ≤ maxLen := by unfold maxLen; omega
  generalize hKK : NodeD.kidsL (.mk k1 p1 n1 a1 g1 w1 r1 d1 i1) = kk0 at mk' kk ks hw h43 kl
  generalize hWW : NodeD.walk (.mk k1 p1 n1 a1 g1 w1 r1 d1 i1) = ww at hw
  generalize hxx : NodeD.mk k1 p1 n1 a1 g1 w1 r1 d1 i1 = xx at hw ks hsz hn hKK hWW hb
  have hx9 : xx.cells = NodeD.cells (.mk k1 p1 n1 a1 g1 w1 r1 d1 i1) := by rw [hxx]
  simp only [NodeD.av, NodeD.cells, List.map_cons, List.map_nil] at h43 hx9
  rw [← hxx]
  simp only [NodeD.av, NodeD.cells, List.map_cons, List.map_nil]
  generalize hg1 : g1.map AssignD.cells = G1 at h43 hx9
  generalize hw1 : w1.map WordD.cells = W1 at h43 hx9
  generalize hr1 : r1.map RedirD.cells = R1 at h43 hx9
  generalize hd1 : NodeD.cellsL d1 = D1 at h43 hx9
  generalize hi1 : ItemD.cellsL i1 = I1 at h43 hx9
  generalize hKc : NodeD.cellsL kk0 = KC at h43
  obtain ⟨F, hF⟩ : ∃ F : Nat → List (List Dat), ∀ i, F i = xs ++ xx.cells :: NodeD.cellsL ((kk0.take i).flatMap NodeD.walk) := ⟨_, fun _ => rfl⟩
  have hF0 : F 0 = xs ++ [[.int .i64 k1, .int .i64 p1, .str n1, .bool a1, .list G1, .list W1, .list R1, .list D1, .list I1]] := by rw [hF, hx9]; rfl
  have hFl : F kk0.length = xs ++ NodeD.cellsL ww := by rw [hF, List.take_length, hw]; rfl
  have hap : ap xs [[.int .i64 k1, .int .i64 p1, .str n1, .bool a1, .list G1, .list W1, .list R1, .list D1, .list I1]] = F 0 := by
    cases hE
    exact hF0.symm
  have h43' : call 43 [.agg [.dat (.int .i64 k1), .dat (.int .i64 p1), .dat (.str n1), .dat (.bool a1), .dat (.list G1), .dat (.list W1), .dat (.list R1), .dat (.list D1), .dat (.list I1)]] (· = .dat (.list KC)) := by
    cases hE
    exact h43
  have hLl : KC.length = kk0.length := by rw [← hKc, NodeD.cellsL_len]
  have bnd : ∀ i, xs.length + ((kk0.take i).flatMap NodeD.walk).length + 1 ≤ 2097152 := fun i => by
    have := walk_take kk0 i
    omega
  have hss0 : szs [[.int .i64 0, .int .i64 0, .str [], .bool false, .list [], .list [], .list [], .list [], .list []]] 9 := by
    cases hE
    intro q hq
    simp at hq
    subst hq
    rfl
  have hbd0 : bd xs [[.int .i64 0, .int .i64 0, .str [], .bool false, .list [], .list [], .list [], .list [], .list []]] 160 := by
    cases hE
    show (xs.length + 1) * 160 ≤ 140737488355328
    have := xx.sz_pos
    omega
  have hoff : off xs (ln xs 0) 0 := by
    cases hE
    rfl
  clear hn hKK h43 hF0
  generalize hres : xs ++ NodeD.cellsL ww = res at hFl
  unfold boxW
  cbv
  refine .any tab58 (fun L => ⟨[.agg [.dat (.int .i64 k1), .dat (.int .i64 p1), .dat (.str n1), .dat (.bool a1), .dat (.list G1), .dat (.list W1), .dat (.list R1), .dat (.list D1), .dat (.list I1)], .ptr 0 0, .ptr 1 0, .ptr 2 0, .top, .top,
      bif L.getD 0 false then (bif L.getD 4 false then .dat (.list xs) else .own 0 28 xs) else .top,
      bif L.getD 1 false then .agg [.dat (.int .i64 k1), .dat (.int .i64 p1), .dat (.str n1), .dat (.bool a1), .dat (.list G1), .dat (.list W1), .dat (.list R1), .dat (.list D1), .dat (.list I1)] else .top,
      bif L.getD 2 false then .dat (.int .i64 (ln xs 0)) else .top,
      bif L.getD 3 false then .own 9 28 [[.int .i64 0, .int .i64 0, .str [], .bool false, .list [], .list [], .list [], .list [], .list []]] else .top,
      bif L.getD 4 false then .sl 3 28 xs 1 else .top,
      bif L.getD 5 false then .ptr 3 0 else .top, .top, .top, .top, .top, .top, .top, .top, .top, .top, .top, .top],
    [(25, [bif L.getD 7 false then .sl 3 28 xs 1 else bif L.getD 4 false then .dat (.list xs) else .own 0 28 xs]), (81, [.fn 58 [.ptr 0 0, .ptr 1 0]]), (28, [.dat (.int .i64 k1), .dat (.int .i64 p1), .dat (.str n1), .dat (.bool a1), .dat (.list G1), .dat (.list W1), .dat (.list R1), .dat (.list D1), .dat (.list I1)])] ++
      (bif L.getD 4 false then [(28, bif L.getD 6 false then [.dat (.int .i64 k1), .dat (.int .i64 p1), .dat (.str n1), .dat (.bool a1), .dat (.list G1), .dat (.list W1), .dat (.list R1), .dat (.list D1), .dat (.list I1)] else [.dat (.int .i64 0), .dat (.int .i64 0), .dat (.str []), .dat (.bool false), .dat (.list []), .dat (.list []), .dat (.list []), .dat (.list []), .dat (.list [])])] else [])⟩) [3] (by kernel_rfl) (by cbv) ?_
  cbv
  and_intros
  all_goals first | exact True.intro | exact LeV.eq rfl | exact hss0 | exact hbd0 | exact hoff | skip
  refine ⟨_, h43', ?_⟩
  rintro _ rfl
  cbv
  refine .mk {i : Nat // i ≤ kk0.length} (fun q => ⟨slotsOf 23 [(1, .ptr 0 0), (2, .ptr 1 0), (13, .dat (.list KC)), (14, .dat (.int .i64 (ln KC 0))), (15, .dat (.int .i64 q.1))], [(25, [.own 1000003 28 (F q.1)]), (81, [.fn 58 [.ptr 0 0, .ptr 1 0]])]⟩) (fun q => kk0.length - q.1) ⟨0, Nat.zero_le _⟩ ?_ ?_
  · cbv
    and_intros <;> first | exact True.intro | exact LeV.eq rfl | (exact LeV.ownE hap)
  · rintro ⟨i, hi⟩
    cbv
    generalize h2 : cm .lss _ _ = c2
    cases c2
    case false =>
      have hi2 : i = kk0.length := by
        cases hE
        simp [cmI, hLl] at h2
        omega
      subst hi2
      cbv
      refine .mk (.tup []) _ ⟨rfl, rfl⟩ rfl ?_ rfl (.eq (.eq rfl))
      cbv
      and_intros <;> first | exact True.intro | exact LeV.eq rfl | (exact LeV.ownE hFl)
    case true =>
      have hi2 : i < kk0.length := by
        cases hE
        simp [cmI, hLl] at h2
        omega
      clear h2
      obtain ⟨y, hy⟩ : ∃ x, kk0[i]? = some x := ⟨_, List.getElem?_eq_getElem hi2⟩
      have nx : nth KC (Int.ofNat i) y.cells 9 := by
        cases hE
        exact ⟨Int.natCast_nonneg i, by rw [← hKc]; exact NodeD.cellsL_get hy, y.cells_len⟩
      have hstep : F i ++ NodeD.cellsL y.walk = F (i + 1) := by
        rw [hF, hF]
        simp [List.take_add_one, hy, NodeD.cellsL_append]
      have cy := (kk y (List.mem_of_getElem? hy)).within 1000003 (F i) (fun q hq => by
        rw [hF] at hq
        rcases List.mem_append.1 hq with hq | hq
        · exact h9 q hq
        · rcases List.mem_cons.1 hq with rfl | hq
          · exact xx.cells_len
          · exact cells9 _ q hq) (by
        have h3 := szBy_mem (f := NodeD.sz) hy
        have h4 : ∀ (l : List NodeD) (i : Nat) (y : NodeD), l[i]? = some y → ((l.take i).flatMap NodeD.walk).length + y.sz ≤ szBy NodeD.sz l := fun l => by
          induction l with
          | nil => intro i y h; simp at h
          | cons z l ih =>
            intro i y h
            cases i with
            | zero => simp at h; subst h; simp [szBy]
            | succ i =>
              have := ih i y (by simpa using h)
              have h5 := z.walk_len
              simp only [List.take_succ_cons, List.flatMap_cons, List.length_append, szBy]
              omega
        have h5 := h4 kk0 i y hy
        rw [hF, List.length_append, List.length_cons, NodeD.cellsL_len]
        omega) [(28, y.cells.map .dat)] (fun b hb => by
        simp at hb
        subst hb
        cases y
        rfl)
      rw [hstep] at cy
      obtain ⟨k2, p2, n2, a2, g2, w2, r2, d2, i2⟩ := y
      simp only [NodeD.cells, NodeD.av, List.map_cons, List.map_nil] at nx cy
      generalize hg2 : g2.map AssignD.cells = G2 at nx cy
      generalize hw2 : w2.map WordD.cells = W2 at nx cy
      generalize hr2 : r2.map RedirD.cells = R2 at nx cy
      generalize hd2 : NodeD.cellsL d2 = D2 at nx cy
      generalize hi2' : ItemD.cellsL i2 = I2 at nx cy
      have cy' : callF 58 [.agg [.dat (.int .i64 k2), .dat (.int .i64 p2), .dat (.str n2), .dat (.bool a2), .dat (.list G2), .dat (.list W2), .dat (.list R2), .dat (.list D2), .dat (.list I2)], .ptr 0 0, .ptr 1 0] [(25, [.own 1000003 28 (F i)]), (81, [.fn 58 [.ptr 0 0, .ptr 1 0]]), (28, [.dat (.int .i64 k2), .dat (.int .i64 p2), .dat (.str n2), .dat (.bool a2), .dat (.list G2), .dat (.list W2), .dat (.list R2), .dat (.list D2), .dat (.list I2)])] (.tup []) [(25, [.own 1000003 28 (F (i + 1))]), (81, [.fn 58 [.ptr 0 0, .ptr 1 0]]), (28, [.dat (.int .i64 k2), .dat (.int .i64 p2), .dat (.str n2), .dat (.bool a2), .dat (.list G2), .dat (.list W2), .dat (.list R2), .dat (.list D2), .dat (.list I2)])] := by
        cases hE
        exact cy
      cbv
      refine ⟨_, nx, ?_⟩
      cbv
      refine ⟨_, _, cy', ?_⟩
      cbv
      refine ⟨⟨i + 1, hi2⟩, ?_, ?_⟩
      · show kk0.length - (i + 1) < kk0.length - i
        omega
      · cbv
        and_intros <;> first | exact True.intro | exact LeV.eq rfl | (exact LeV.intE (by cases hE; exact inc_id hi2 mk'))
theorem c58 (x : NodeD) : C58 x := by
  have key : ∀ n (x : NodeD), x.sz ≤ n → C58 x := fun n => by
    induction n with
    | zero => intro x h; have := x.sz_pos; omega
    | succ n ih => exact c58s n ih
  exact key _ x (Nat.le_refl _)
end Go.Proofs.YtdfcjodkmjofgaaGreat
/-
  Nodes held against each other with all positions; the program's walk.
-/
namespace Go.Proofs.YtdfcjodkmjofgaaGreat
open Go.RowKit

def tab27 : List (List Bool × List Nat) := [
  ([false, false, false, false, false, false, false, false, false, false, false], [0, 1]),
  ([false, true, false, false, false, false, false, false, false, false, false], [0]),
  ([true, false, false, false, false, false, false, false, false, false, false], [1]),
  ([true, true, false, false, false, false, false, false, false, false, false], [2]),
  ([true, true, true, false, false, false, false, false, false, false, false], [3]),
  ([true, true, true, true, false, false, false, false, false, false, false], [4, 6]),
  ([true, true, true, true, false, false, true, false, false, false, false], [4]),
  ([true, true, true, true, true, false, false, false, false, false, false], [5, 6]),
  ([true, true, true, true, true, true, false, false, false, false, false], [6]),
  ([true, true, true, true, true, false, true, false, false, false, false], [5]),
  ([true, true, true, true, true, true, true, false, false, false, false], [7]),
  ([true, true, true, true, true, true, true, true, false, false, false], [8]),
  ([true, true, true, true, true, true, true, true, true, false, false], [9]),
  ([true, true, true, true, true, true, true, true, true, true, false], [10]),
  ([true, true, true, true, true, true, true, true, true, true, true], [])]
def C27 (x y : NodeD) : Prop := CRet Tryz.prog 27 [x.av, y.av] (· = .dat (.bool (x.exact y)))
set_option maxRecDepth 100000 in
set_option maxHeartbeats 4000000 in
theorem c27 (x y : NodeD) (hx : x.sz ≤ 2097152) (hy : y.sz ≤ 2097152) : C27 x y := by
  have h21 := c21 x y
  have h61x := c61 x hx
  have h61y := c61 y hy
  have h31 := c31 x.poss y.poss
  have hr : x.exact y = (x.same y && sameBy IntD.same x.poss y.poss) := rfl
  unfold C27
  unfold C21 at h21
  unfold C61 at h61x h61y
  unfold C31 at h31
  generalize x.exact y = r at hr
  generalize x.same y = q at hr h21
  generalize sameBy IntD.same x.poss y.poss = e at hr h31
  generalize x.poss.map IntD.cells = PX at h61x h31
  generalize y.poss.map IntD.cells = PY at h61y h31
  obtain ⟨k1, p1, n1, a1, g1, w1, r1, d1, i1⟩ := x
  obtain ⟨k2, p2, n2, a2, g2, w2, r2, d2, i2⟩ := y
  refine cret_of_swp mixedOrders VT_ok Tryz.func27 (code := Tryz.f27.body.get (by kernel_rfl)) (by kernel_rfl) (by kernel_rfl) rfl fun E hE hreal => ?_
  obtain ⟨ar, cm, sc, eb, wr, ln, sl, ct, ap, sb, ss, u8, mx, nth, off, sat, sok, stok, cat, bd, szs, ne, nil, call, callF⟩ := E
  clear hreal
  simp only [NodeD.av, NodeD.cells, List.map_cons, List.map_nil] at h21 h61x h61y ⊢
  generalize hg1 : g1.map AssignD.cells = G1 at h21 h61x
  generalize hw1 : w1.map WordD.cells = W1 at h21 h61x
  generalize hr1 : r1.map RedirD.cells = R1 at h21 h61x
  generalize hd1 : NodeD.cellsL d1 = D1 at h21 h61x
  generalize hi1 : ItemD.cellsL i1 = I1 at h21 h61x
  generalize hg2 : g2.map AssignD.cells = G2 at h21 h61y
  generalize hw2 : w2.map WordD.cells = W2 at h21 h61y
  generalize hr2 : r2.map RedirD.cells = R2 at h21 h61y
  generalize hd2 : NodeD.cellsL d2 = D2 at h21 h61y
  generalize hi2 : ItemD.cellsL i2 = I2 at h21 h61y
  replace h21 : call 21 [.agg [.dat (.int .i64 k1), .dat (.int .i64 p1), .dat (.str n1), .dat (.bool a1), .dat (.list G1), .dat (.list W1), .dat (.list R1), .dat (.list D1), .dat (.list I1)], .agg [.dat (.int .i64 k2), .dat (.int .i64 p2), .dat (.str n2), .dat (.bool a2), .dat (.list G2), .dat (.list W2), .dat (.list R2), .dat (.list D2), .dat (.list I2)]] (· = .dat (.bool q)) := by
    cases hE
    exact h21
  replace h61x : call 61 [.agg [.dat (.int .i64 k1), .dat (.int .i64 p1), .dat (.str n1), .dat (.bool a1), .dat (.list G1), .dat (.list W1), .dat (.list R1), .dat (.list D1), .dat (.list I1)]] (· = .dat (.list PX)) := by
    cases hE
    exact h61x
  replace h61y : call 61 [.agg [.dat (.int .i64 k2), .dat (.int .i64 p2), .dat (.str n2), .dat (.bool a2), .dat (.list G2), .dat (.list W2), .dat (.list R2), .dat (.list D2), .dat (.list I2)]] (· = .dat (.list PY)) := by
    cases hE
    exact h61y
  replace h31 : call 31 [.dat (.list PX), .dat (.list PY)] (· = .dat (.bool e)) := by
    cases hE
    exact h31
  cases q
  case false =>
    have hr : false = r := hr.symm
    cbv
    refine .any tab27 (fun L => ⟨[.agg [.dat (.int .i64 k1), .dat (.int .i64 p1), .dat (.str n1), .dat (.bool a1), .dat (.list G1), .dat (.list W1), .dat (.list R1), .dat (.list D1), .dat (.list I1)], .agg [.dat (.int .i64 k2), .dat (.int .i64 p2), .dat (.str n2), .dat (.bool a2), .dat (.list G2), .dat (.list W2), .dat (.list R2), .dat (.list D2), .dat (.list I2)], .ptr 0 0, .ptr 1 0, bif L.getD 10 false then .dat (.bool false) else .dat (.bool false), bif L.getD 0 false then .agg [.dat (.int .i64 k1), .dat (.int .i64 p1), .dat (.str n1), .dat (.bool a1), .dat (.list G1), .dat (.list W1), .dat (.list R1), .dat (.list D1), .dat (.list I1)] else .top, bif L.getD 1 false then .agg [.dat (.int .i64 k2), .dat (.int .i64 p2), .dat (.str n2), .dat (.bool a2), .dat (.list G2), .dat (.list W2), .dat (.list R2), .dat (.list D2), .dat (.list I2)] else .top, bif L.getD 2 false then .dat (.bool false) else .top, bif L.getD 3 false then .dat (.bool false) else .top, .top, .top, .top, .top, .top, bif L.getD 9 false then .dat (.bool false) else .top], [(28, [.dat (.int .i64 k1), .dat (.int .i64 p1), .dat (.str n1), .dat (.bool a1), .dat (.list G1), .dat (.list W1), .dat (.list R1), .dat (.list D1), .dat (.list I1)]), (28, [.dat (.int .i64 k2), .dat (.int .i64 p2), .dat (.str n2), .dat (.bool a2), .dat (.list G2), .dat (.list W2), .dat (.list R2), .dat (.list D2), .dat (.list I2)])]⟩) [] (by kernel_rfl) (by cbv) ?_
    cbv
    and_intros
    all_goals first | exact True.intro | exact LeV.eq rfl | (refine ⟨_, h21, ?_⟩; rintro _ rfl; cbv; and_intros <;> first | exact True.intro | exact LeV.eq rfl) | exact .eq (.boolE hr)
  case true =>
    have hr : e = r := hr.symm
    cbv
    refine .any tab27 (fun L => ⟨[.agg [.dat (.int .i64 k1), .dat (.int .i64 p1), .dat (.str n1), .dat (.bool a1), .dat (.list G1), .dat (.list W1), .dat (.list R1), .dat (.list D1), .dat (.list I1)], .agg [.dat (.int .i64 k2), .dat (.int .i64 p2), .dat (.str n2), .dat (.bool a2), .dat (.list G2), .dat (.list W2), .dat (.list R2), .dat (.list D2), .dat (.list I2)], .ptr 0 0, .ptr 1 0, bif L.getD 10 false then .dat (.bool e) else .dat (.bool false), bif L.getD 0 false then .agg [.dat (.int .i64 k1), .dat (.int .i64 p1), .dat (.str n1), .dat (.bool a1), .dat (.list G1), .dat (.list W1), .dat (.list R1), .dat (.list D1), .dat (.list I1)] else .top, bif L.getD 1 false then .agg [.dat (.int .i64 k2), .dat (.int .i64 p2), .dat (.str n2), .dat (.bool a2), .dat (.list G2), .dat (.list W2), .dat (.list R2), .dat (.list D2), .dat (.list I2)] else .top, bif L.getD 2 false then .dat (.bool true) else .top, bif L.getD 3 false then .dat (.bool true) else .top, bif L.getD 4 false then .agg [.dat (.int .i64 k1), .dat (.int .i64 p1), .dat (.str n1), .dat (.bool a1), .dat (.list G1), .dat (.list W1), .dat (.list R1), .dat (.list D1), .dat (.list I1)] else .top, bif L.getD 5 false then .dat (.list PX) else .top, bif L.getD 6 false then .agg [.dat (.int .i64 k2), .dat (.int .i64 p2), .dat (.str n2), .dat (.bool a2), .dat (.list G2), .dat (.list W2), .dat (.list R2), .dat (.list D2), .dat (.list I2)] else .top, bif L.getD 7 false then .dat (.list PY) else .top, bif L.getD 8 false then .dat (.bool e) else .top, bif L.getD 9 false then .dat (.bool e) else .top], [(28, [.dat (.int .i64 k1), .dat (.int .i64 p1), .dat (.str n1), .dat (.bool a1), .dat (.list G1), .dat (.list W1), .dat (.list R1), .dat (.list D1), .dat (.list I1)]), (28, [.dat (.int .i64 k2), .dat (.int .i64 p2), .dat (.str n2), .dat (.bool a2), .dat (.list G2), .dat (.list W2), .dat (.list R2), .dat (.list D2), .dat (.list I2)])]⟩) [] (by kernel_rfl) (by cbv) ?_
    cbv
    and_intros
    all_goals first | exact True.intro | exact LeV.eq rfl | (refine ⟨_, h21, ?_⟩; rintro _ rfl; cbv; and_intros <;> first | exact True.intro | exact LeV.eq rfl) | (refine ⟨_, h61x, ?_⟩; rintro _ rfl; cbv; and_intros <;> first | exact True.intro | exact LeV.eq rfl) | (refine ⟨_, h61y, ?_⟩; rintro _ rfl; cbv; and_intros <;> first | exact True.intro | exact LeV.eq rfl) | (refine ⟨_, h31, ?_⟩; rintro _ rfl; cbv; and_intros <;> first | exact True.intro | exact LeV.eq rfl) | exact .eq (.boolE hr)
def C22 (a b : List NodeD) : Prop := CRet Tryz.prog 22 [.dat (.list (NodeD.cellsL a)), .dat (.list (NodeD.cellsL b))] (· = .dat (.bool (sameBy NodeD.exact a b)))
set_option maxRecDepth 100000 in
set_option maxHeartbeats 4000000 in
theorem c22  (a b : List NodeD) (ha : ∀ x ∈ a, x.sz ≤ 2097152) (hb : ∀ x ∈ b, x.sz ≤ 2097152): C22 a b := by
  refine cret_of_swp mixedOrders VT_ok Tryz.func22 (code := Tryz.f22.body.get (by kernel_rfl)) (by kernel_rfl) (by kernel_rfl) rfl fun E hE hreal => ?_
  obtain ⟨ar, cm, sc, eb, wr, ln, sl, ct, ap, sb, ss, u8, mx, nth, off, sat, sok, stok, cat, bd, szs, ne, nil, call, callF⟩ := E
  have hmax : a.length ≤ maxLen := by have := real_list (hreal 0 _ rfl); rwa [NodeD.cellsL_len] at this
  clear hreal
  generalize hA : NodeD.cellsL a = A
  generalize hB : NodeD.cellsL b = B
  generalize hr : sameBy NodeD.exact a b = r
  cbv
  generalize h1 : cm .neq _ _ = c1
  cases c1
  case true =>
    cbv
    refine .eq (.boolE ?_)
    rw [← hr]
    cases hq : sameBy NodeD.exact a b with
    | false => rfl
    | true =>
      have := (sameBy_iff.1 hq).1
      cases hE
      simp [cmI] at h1
      rw [← hA, ← hB, NodeD.cellsL_len, NodeD.cellsL_len] at h1
      omega
  case false =>
    cbv
    have hAl : A.length = a.length := by rw [← hA, NodeD.cellsL_len]
    have hBl : B.length = b.length := by rw [← hB, NodeD.cellsL_len]
    have hlen : a.length = b.length := by
      cases hE
      simp [cmI] at h1
      omega
    refine .mk {i : Nat // i ≤ a.length ∧ ∀ (j : Nat) (x y : NodeD), j < i → a[j]? = some x → b[j]? = some y → NodeD.exact x y = true} (fun i => ⟨slotsOf 27 [(0, .dat (.list A)), (1, .dat (.list B)), (5, .dat (.int .i64 i.1))], []⟩) (fun i => a.length - i.1) ⟨0, Nat.zero_le _, fun j x y h => by omega⟩ ?_ ?_
    · cbv
      exact ⟨⟨.eq rfl, .eq rfl, .eq rfl, trivial⟩, trivial⟩
    · rintro ⟨i, hi, hs⟩
      cbv
      generalize h2 : cm .lss _ _ = c2
      cases c2
      case false =>
        cbv
        have hi2 : i = a.length := by
          cases hE
          simp [cmI, hAl] at h2
          omega
        refine .eq (.boolE ?_)
        rw [← hr]
        refine (sameBy_iff.2 ⟨hlen, fun j x y hx hy => hs j x y ?_ hx hy⟩).symm
        rw [hi2]
        exact (List.getElem?_eq_some_iff.1 hx).1
      case true =>
        have hi2 : i < a.length := by
          cases hE
          simp [cmI, hAl] at h2
          omega
        obtain ⟨x, hx⟩ : ∃ x, a[i]? = some x := ⟨_, List.getElem?_eq_getElem hi2⟩
        obtain ⟨y, hy⟩ : ∃ y, b[i]? = some y := ⟨_, List.getElem?_eq_getElem (hlen ▸ hi2)⟩
        obtain ⟨k1, p1, n1, a1, g1, w1, r1, d1, i1⟩ := x
        obtain ⟨k2, p2, n2, a2, g2, w2, r2, d2, i2⟩ := y
        have nx : nth A (Int.ofNat i) (NodeD.cells (.mk k1 p1 n1 a1 g1 w1 r1 d1 i1)) 9 := by
          cases hE
          exact ⟨Int.natCast_nonneg i, by rw [← hA]; exact NodeD.cellsL_get hx, rfl⟩
        have ny : nth B (Int.ofNat i) (NodeD.cells (.mk k2 p2 n2 a2 g2 w2 r2 d2 i2)) 9 := by
          cases hE
          exact ⟨Int.natCast_nonneg i, by rw [← hB]; exact NodeD.cellsL_get hy, rfl⟩
        simp only [NodeD.cells] at nx ny
        generalize hg1 : g1.map AssignD.cells = G1 at nx
        generalize hw1 : w1.map WordD.cells = W1 at nx
        generalize hr1 : r1.map RedirD.cells = R1 at nx
        generalize hd1 : NodeD.cellsL d1 = D1 at nx
        generalize hi1 : ItemD.cellsL i1 = I1 at nx
        generalize hg2 : g2.map AssignD.cells = G2 at ny
        generalize hw2 : w2.map WordD.cells = W2 at ny
        generalize hr2 : r2.map RedirD.cells = R2 at ny
        generalize hd2 : NodeD.cellsL d2 = D2 at ny
        generalize hi2' : ItemD.cellsL i2 = I2 at ny
        have bad : NodeD.exact (.mk k1 p1 n1 a1 g1 w1 r1 d1 i1) (.mk k2 p2 n2 a2 g2 w2 r2 d2 i2) = false → false = r := fun h => by
          rw [← hr]
          cases hq : sameBy NodeD.exact a b with
          | false => rfl
          | true =>
            have := (sameBy_iff.1 hq).2 i _ _ hx hy
            rw [h] at this
            cases this
        have next : NodeD.exact (.mk k1 p1 n1 a1 g1 w1 r1 d1 i1) (.mk k2 p2 n2 a2 g2 w2 r2 d2 i2) = true → ∀ (j : Nat) (x y : NodeD), j < i + 1 → a[j]? = some x → b[j]? = some y → NodeD.exact x y = true := fun hxy j x y hj hx' hy' => by
          rcases Nat.lt_succ_iff_lt_or_eq.1 hj with h | rfl
          · exact hs j x y h hx' hy'
          · rw [hx] at hx'
            rw [hy] at hy'
            injection hx' with hx'
            injection hy' with hy'
            subst hx' hy'
            exact hxy
        cbv
        refine .quiet (by kernel_rfl) ?_
        cbv
        refine ⟨_, nx, ?_⟩
        cbv
        refine ⟨_, ny, ?_⟩
        cbv
        have hcallq : call 27 [.agg [.dat (.int .i64 k1), .dat (.int .i64 p1), .dat (.str n1), .dat (.bool a1), .dat (.list G1), .dat (.list W1), .dat (.list R1), .dat (.list D1), .dat (.list I1)], .agg [.dat (.int .i64 k2), .dat (.int .i64 p2), .dat (.str n2), .dat (.bool a2), .dat (.list G2), .dat (.list W2), .dat (.list R2), .dat (.list D2), .dat (.list I2)]] (· = .dat (.bool (NodeD.exact (.mk k1 p1 n1 a1 g1 w1 r1 d1 i1) (.mk k2 p2 n2 a2 g2 w2 r2 d2 i2)))) := by
          cases hE
          rw [← hg1, ← hw1, ← hr1, ← hd1, ← hi1, ← hg2, ← hw2, ← hr2, ← hd2, ← hi2']
          exact c27 (.mk k1 p1 n1 a1 g1 w1 r1 d1 i1) (.mk k2 p2 n2 a2 g2 w2 r2 d2 i2) (ha _ (List.mem_of_getElem? hx)) (hb _ (List.mem_of_getElem? hy))
        generalize hq : NodeD.exact (.mk k1 p1 n1 a1 g1 w1 r1 d1 i1) (.mk k2 p2 n2 a2 g2 w2 r2 d2 i2) = q at hcallq
        refine ⟨_, hcallq, rfl, ?_⟩
        cbv
        cases q
        case false =>
          cbv
          refine .eq (.boolE (bad ?_))
          exact hq
        cbv
        have hxy := next (by
          cases hE
          skip
          exact hq)
        refine ⟨⟨i + 1, hi2, hxy⟩, ?_, ?_⟩
        · show a.length - (i + 1) < a.length - i
          omega
        · cbv
          exact ⟨⟨.eq rfl, .eq rfl, .intE (by cases hE; exact inc_id hi2 hmax), trivial⟩, trivial⟩


def C23 (x : NodeD) : Prop := CRet Tryz.prog 23 [x.av] (· = .dat (.list (NodeD.cellsL x.walk)))
theorem C58.start {x : NodeD} (h : C58 x) (hb : x.sz ≤ 2097152) : CR Tryz.prog 58 [x.av, .ptr 1 0, .ptr 2 0] [(28, x.cells.map .dat), (25, [.nils]), (81, [.fn 58 [.ptr 1 0, .ptr 2 0]])]
    fun r H' => r = .tup [] ∧ H' = [(28, x.cells.map .dat), (25, [.own 1000003 28 (NodeD.cellsL x.walk)]), (81, [.fn 58 [.ptr 1 0, .ptr 2 0]])] := by
  have h1 := h [] (by simp) (by simpa using hb)
  have h2 := CR.frame (G := [(28, x.cells.map .dat), (25, [.own 0 28 []]), (81, [.fn 58 [.ptr 1 0, .ptr 2 0]])]) [1, 2] h1 ⟨by decide, rfl, by simp only [AV.bndL, NodeD.av_bnd]; rfl, fun i T cs hi => ?_, fun o T cs ho => ?_⟩ (fun r H' hk => by rw [hk.2]; rfl)
  · simp only [AV.renL, NodeD.av_ren] at h2
    refine (h2.mono fun r G' ⟨r0, H', ⟨k1, k2⟩, k3, k4⟩ => ?_).weak ?_ ?_ rfl
    · cases x
      exact ⟨.eq rfl, .eq rfl, .eq rfl, trivial⟩
    · cases x
      exact ⟨rfl, ⟨.eq rfl, .eq rfl, .eq rfl, .eq rfl, .eq rfl, .eq rfl, .eq rfl, .eq rfl, .eq rfl, trivial⟩, rfl, ⟨.nils _ _, trivial⟩, rfl, ⟨.eq rfl, trivial⟩, trivial⟩
    · subst k1 k2
      exact ⟨k3, k4⟩
  · match i, hi with
    | 0, hi => cases hi; exact ⟨by simp, rfl, rfl⟩
    | 1, hi => cases hi; exact ⟨by simp, rfl, rfl⟩
  · match o, ho with
    | 0, ho => cases ho; exact .inr (by cases x; rfl)
    | 1, ho => exact .inl (by simp)
    | 2, ho => exact .inl (by simp)
set_option maxRecDepth 100000 in
set_option maxHeartbeats 4000000 in
theorem c23 (x : NodeD) (hsz : x.sz ≤ 2097152) : C23 x := by
  have h58 := (c58 x).start hsz
  unfold C23
  generalize NodeD.cellsL x.walk = res at h58
  obtain ⟨k1, p1, n1, a1, g1, w1, r1, d1, i1⟩ := x
  refine cret_of_swp mixedOrders VT_ok Tryz.func23 (code := Tryz.f23.body.get (by kernel_rfl)) (by kernel_rfl) (by kernel_rfl) rfl fun E hE hreal => ?_
  obtain ⟨ar, cm, sc, eb, wr, ln, sl, ct, ap, sb, ss, u8, mx, nth, off, sat, sok, stok, cat, bd, szs, ne, nil, call, callF⟩ := E
  clear hreal
  simp only [NodeD.av, NodeD.cells, List.map_cons, List.map_nil] at h58 ⊢
  generalize hg1 : g1.map AssignD.cells = G1 at h58
  generalize hw1 : w1.map WordD.cells = W1 at h58
  generalize hr1 : r1.map RedirD.cells = R1 at h58
  generalize hd1 : NodeD.cellsL d1 = D1 at h58
  generalize hi1 : ItemD.cellsL i1 = I1 at h58
  replace h58 : callF 58 [.agg [.dat (.int .i64 k1), .dat (.int .i64 p1), .dat (.str n1), .dat (.bool a1), .dat (.list G1), .dat (.list W1), .dat (.list R1), .dat (.list D1), .dat (.list I1)], .ptr 1 0, .ptr 2 0] [(28, [.dat (.int .i64 k1), .dat (.int .i64 p1), .dat (.str n1), .dat (.bool a1), .dat (.list G1), .dat (.list W1), .dat (.list R1), .dat (.list D1), .dat (.list I1)]), (25, [.nils]), (81, [.fn 58 [.ptr 1 0, .ptr 2 0]])] (.tup []) [(28, [.dat (.int .i64 k1), .dat (.int .i64 p1), .dat (.str n1), .dat (.bool a1), .dat (.list G1), .dat (.list W1), .dat (.list R1), .dat (.list D1), .dat (.list I1)]), (25, [.own 1000003 28 res]), (81, [.fn 58 [.ptr 1 0, .ptr 2 0]])] := by
    cases hE
    exact h58
  cbv
  refine ⟨_, _, h58, ?_⟩
  cbv
  exact .eq (.ownD _ _ rfl)
end Go.Proofs.YtdfcjodkmjofgaaGreat
/-
  Nodes as raw cells; the node of a path.
-/
namespace Go.Proofs.YtdfcjodkmjofgaaGreat
open Go.RowKit

/-- A node's cells, each by itself. -/
structure NR where
  k : Int
  p : Int
  n : List UInt8
  a : Bool
  G : List (List Dat)
  W : List (List Dat)
  R : List (List Dat)
  D : List (List Dat)
  I : List (List Dat)
def NR.dats (q : NR) : List Dat := [.int .i64 q.k, .int .i64 q.p, .str q.n, .bool q.a, .list q.G, .list q.W, .list q.R, .list q.D, .list q.I]
def NR.cells (q : NR) : List AV := [.dat (.int .i64 q.k), .dat (.int .i64 q.p), .dat (.str q.n), .dat (.bool q.a), .dat (.list q.G), .dat (.list q.W), .dat (.list q.R), .dat (.list q.D), .dat (.list q.I)]
def NR.av (q : NR) : AV := .agg q.cells
def NodeD.raw : NodeD → NR
  | .mk k p n a g w r d is => ⟨k, p, n, a, g.map AssignD.cells, w.map WordD.cells, r.map RedirD.cells, NodeD.cellsL d, ItemD.cellsL is⟩
theorem NodeD.av_raw (x : NodeD) : x.av = x.raw.av := by cases x; rfl
theorem NodeD.cells_raw (x : NodeD) : x.cells = x.raw.dats := by cases x; rfl
theorem NodeD.dat_raw (x : NodeD) : x.cells.map AV.dat = x.raw.cells := by cases x; rfl
def NodeD.pos : NodeD → Int
  | .mk _ p _ _ _ _ _ _ _ => p
theorem NodeD.pos_raw (x : NodeD) : x.raw.p = x.pos := by cases x; rfl
def zeroN : NodeD := .mk 0 0 [] false [] [] [] [] []
/-- The node of a path. -/
def kidAt : NodeD → List IntD → Option NodeD
  | x, [] => some x
  | x, i :: p => if 0 ≤ i.n then (match x.kidsL[i.n.toNat]? with
    | some y => kidAt y p
    | none => none) else none
def kidAV : Option NodeD → AV
  | some y => .tup [y.av, .dat (.bool true)]
  | none => .tup [zeroN.av, .dat (.bool false)]
theorem kidAt_append (x : NodeD) (p q : List IntD) : kidAt x (p ++ q) = (kidAt x p).bind fun y => kidAt y q := by
  induction p generalizing x with
  | nil => rfl
  | cons i p ih =>
    simp only [List.cons_append, kidAt]
    split
    · split
      · exact ih _
      · rfl
    · rfl
theorem kidAt_one (x : NodeD) (i : IntD) : kidAt x [i] = if 0 ≤ i.n then x.kidsL[i.n.toNat]? else none := by
  simp only [kidAt]
  split
  · split <;> simp_all
  · rfl
theorem kidAt_sz {x y : NodeD} {p : List IntD} (h : kidAt x p = some y) : y.sz ≤ x.sz := by
  induction p generalizing x with
  | nil => simp [kidAt] at h; subst h; exact Nat.le_refl _
  | cons i p ih =>
    simp only [kidAt] at h
    split at h
    · split at h
      · rename_i z hz
        have h1 := ih h
        have h2 := kids_sz (List.mem_of_getElem? hz)
        omega
      · cases h
    · cases h
theorem kidAt_none {x : NodeD} {p : List IntD} {i : Nat} (h : kidAt x (p.take i) = none) : kidAt x p = none := by
  rw [← List.take_append_drop i p, kidAt_append, h]
  rfl

def C28 (x : NodeD) (p : List IntD) : Prop := CRet Tryz.prog 28 [x.av, .dat (.list (p.map IntD.cells))] (· = kidAV (kidAt x p))
set_option maxRecDepth 100000 in
set_option maxHeartbeats 4000000 in
theorem c28 (x : NodeD) (hsz : x.sz ≤ 2097152) (p : List IntD) : C28 x p := by
  have h43 : ∀ y : NodeD, y.sz ≤ 2097152 → CRet Tryz.prog 43 [y.raw.av] (· = .dat (.list (NodeD.cellsL y.kidsL))) := fun y hy => by
    have := c43 y hy
    unfold C43 at this
    rwa [NodeD.av_raw] at this
  obtain ⟨V, hV⟩ : ∃ V, V = kidAV (kidAt x p) := ⟨_, rfl⟩
  have hbnd : V.bnd 0 = true := by
    rw [hV]
    cases kidAt x p with
    | none => rfl
    | some y => cases y; rfl
  unfold C28
  rw [← hV]
  have hx0 : ∃ y : NodeD, y.raw = x.raw ∧ kidAt x (p.take 0) = some y := ⟨x, rfl, rfl⟩
  have found : ∀ q : NR, (∃ y : NodeD, y.raw = q ∧ kidAt x (p.take p.length) = some y) → V = .tup [q.av, .dat (.bool true)] := by
    rintro q ⟨y, rfl, hy⟩
    rw [List.take_length] at hy
    rw [hV, hy, ← NodeD.av_raw]
    rfl
  have lost : kidAt x p = none → V = .tup [.agg [.dat (.int .i64 0), .dat (.int .i64 0), .dat (.str []), .dat (.bool false), .dat (.list []), .dat (.list []), .dat (.list []), .dat (.list []), .dat (.list [])], .dat (.bool false)] := fun h => by rw [hV, h]; rfl
  rw [NodeD.av_raw]
  generalize x.raw = q0 at hx0 ⊢
  refine CR.mono (K := fun r _ => r.bnd 0 = true ∧ r = V) (?_) fun _ _ h => h
  refine crH_of_swp mixedOrders VT_ok Tryz.func28 (code := Tryz.f28.body.get (by kernel_rfl)) (by kernel_rfl) (by kernel_rfl) fun E hE hreal => ?_
  obtain ⟨ar, cm, sc, eb, wr, ln, sl, ct, ap, sb, ss, u8, mx, nth, off, sat, sok, stok, cat, bd, szs, ne, nil, call, callF⟩ := E
  have hmax : p.length ≤ maxLen := by have := real_list (hreal 1 _ rfl); rwa [List.length_map] at this
  clear hreal
  obtain ⟨k0, p0, n0, a0, G0, W0, R0, D0, I0⟩ := q0
  generalize hPL : p.map IntD.cells = PL
  have hLl : PL.length = p.length := by rw [← hPL, List.length_map]
  simp only [NR.av, NR.cells]
  clear hV
  cbv
  refine .mk {q : Nat × NR // q.1 ≤ p.length ∧ ∃ y : NodeD, y.raw = q.2 ∧ kidAt x (p.take q.1) = some y} (fun q => ⟨slotsOf 32 [(2, .ptr 0 0), (4, .ptr 1 0), (9, .dat (.list PL)), (10, .dat (.int .i64 (ln PL 0))), (11, .dat (.int .i64 q.1.1))], [(28, q.1.2.cells), (28, [.dat (.int .i64 0), .dat (.int .i64 0), .dat (.str []), .dat (.bool false), .nils, .nils, .nils, .nils, .nils])]⟩) (fun q => p.length - q.1.1) ⟨(0, ⟨k0, p0, n0, a0, G0, W0, R0, D0, I0⟩), Nat.zero_le _, hx0⟩ ?_ ?_
  · cbv
    and_intros <;> first | exact True.intro | exact LeV.eq rfl
  rintro ⟨⟨i, k1, p1, n1, a1, G1, W1, R1, D1, I1⟩, hi, hy⟩
  cbv
  generalize h2 : cm .lss _ _ = c2
  cases c2
  case false =>
    have hi2 : i = p.length := by
      cases hE
      simp [cmI, hLl] at h2
      simp at hi
      omega
    subst hi2
    cbv
    refine .mk V [(28, []), (28, [.dat (.int .i64 k1), .dat (.int .i64 p1), .dat (.str n1), .dat (.bool a1), .dat (.list G1), .dat (.list W1), .dat (.list R1), .dat (.list D1), .dat (.list I1)])] ⟨hbnd, rfl⟩ rfl ?_ rfl ?_
    · cbv
      and_intros <;> first | exact True.intro | exact LeV.eq rfl
    · rw [found _ hy]
      exact .tup ⟨.eq rfl, .eq rfl, trivial⟩
  case true =>
    have hi2 : i < p.length := by
      cases hE
      simp [cmI, hLl] at h2
      omega
    clear h2 found
    obtain ⟨m, hm⟩ : ∃ m, p[i]? = some m := ⟨_, List.getElem?_eq_getElem hi2⟩
    obtain ⟨z⟩ := m
    obtain ⟨y, hyr, hyk⟩ := hy
    have hysz := Nat.le_trans (kidAt_sz hyk) hsz
    have hyc := h43 y hysz
    rw [hyr] at hyc
    have nx : nth PL (Int.ofNat i) [.int .i64 z] 1 := by
      cases hE
      exact ⟨Int.natCast_nonneg i, by rw [← hPL]; simp [hm, IntD.cells], rfl⟩
    have hstep : kidAt x (p.take (i + 1)) = if 0 ≤ z then y.kidsL[z.toNat]? else none := by
      rw [List.take_add_one, hm, kidAt_append, hyk]
      exact kidAt_one y ⟨z⟩
    generalize hKL : y.kidsL = kl at hstep hyc
    generalize hKC : NodeD.cellsL kl = KC at hyc
    have hkl : KC.length = kl.length := by rw [← hKC, NodeD.cellsL_len]
    have h43' : call 43 [.agg [.dat (.int .i64 k1), .dat (.int .i64 p1), .dat (.str n1), .dat (.bool a1), .dat (.list G1), .dat (.list W1), .dat (.list R1), .dat (.list D1), .dat (.list I1)]] (· = .dat (.list KC)) := by
      cases hE
      exact hyc
    cbv
    refine ⟨_, nx, ?_⟩
    cbv
    refine ⟨_, h43', ?_⟩
    rintro _ rfl
    cbv
    generalize h3 : cm .lss _ _ = c3
    cases c3
    case true =>
      have hz : ¬ 0 ≤ z := by
        cases hE
        simp [cmI] at h3
        omega
      rw [if_neg hz] at hstep
      cbv
      refine .mk V [(28, []), (28, [.dat (.int .i64 0), .dat (.int .i64 0), .dat (.str []), .dat (.bool false), .dat (.list []), .dat (.list []), .dat (.list []), .dat (.list []), .dat (.list [])])] ⟨hbnd, rfl⟩ rfl ?_ rfl ?_
      · cbv
        and_intros <;> first | exact True.intro | exact LeV.eq rfl | exact LeV.nilsD rfl
      · rw [lost (kidAt_none hstep)]
        exact .tup ⟨.eq rfl, .eq rfl, trivial⟩
    have hz : 0 ≤ z := by
      cases hE
      simp [cmI] at h3
      omega
    rw [if_pos hz] at hstep
    cbv
    generalize h4 : cm .geq _ _ = c4
    cases c4
    case true =>
      have hz2 : kl[z.toNat]? = none := by
        cases hE
        simp [cmI, hkl] at h4
        simp
        omega
      rw [hz2] at hstep
      cbv
      refine .mk V [(28, []), (28, [.dat (.int .i64 0), .dat (.int .i64 0), .dat (.str []), .dat (.bool false), .dat (.list []), .dat (.list []), .dat (.list []), .dat (.list []), .dat (.list [])])] ⟨hbnd, rfl⟩ rfl ?_ rfl ?_
      · cbv
        and_intros <;> first | exact True.intro | exact LeV.eq rfl | exact LeV.nilsD rfl
      · rw [lost (kidAt_none hstep)]
        exact .tup ⟨.eq rfl, .eq rfl, trivial⟩
    have hz2 : z.toNat < kl.length := by
      cases hE
      simp [cmI, hkl] at h4
      omega
    obtain ⟨u, hu⟩ : ∃ u, kl[z.toNat]? = some u := ⟨_, List.getElem?_eq_getElem hz2⟩
    rw [hu] at hstep
    have ny : nth KC z u.raw.dats 9 := by
      cases hE
      exact ⟨hz, by rw [← hKC, NodeD.cellsL_get hu, NodeD.cells_raw], rfl⟩
    have hu2 : ∃ y : NodeD, y.raw = u.raw ∧ kidAt x (p.take (i + 1)) = some y := ⟨u, rfl, hstep⟩
    generalize u.raw = q2 at ny hu2
    obtain ⟨k2, p2, n2, a2, G2, W2, R2, D2, I2⟩ := q2
    simp only [NR.dats] at ny
    cbv
    refine ⟨_, ny, ?_⟩
    cbv
    refine ⟨⟨(i + 1, ⟨k2, p2, n2, a2, G2, W2, R2, D2, I2⟩), hi2, hu2⟩, ?_, ?_⟩
    · show p.length - (i + 1) < p.length - i
      omega
    · cbv
      and_intros <;> first | exact True.intro | exact LeV.eq rfl | (exact LeV.intE (by cases hE; exact inc_id hi2 hmax))
def tab29 : List (List Bool × List Nat) := [
  ([false, false, false, false, false, false, false, false, false, false, false, false, false], [0, 1, 6]),
  ([false, false, false, false, false, false, true, false, false, false, false, false, false], [0, 1, 7]),
  ([false, true, false, false, false, false, false, false, false, false, false, false, false], [0, 2, 6]),
  ([true, false, false, false, false, false, false, false, false, false, false, false, false], [1, 6]),
  ([false, true, true, false, false, false, false, false, false, false, false, false, false], [0, 3, 6]),
  ([true, true, false, false, false, false, false, false, false, false, false, false, false], [2, 6]),
  ([false, false, false, false, false, false, true, true, false, false, false, false, false], [0, 1]),
  ([false, true, false, false, false, false, true, false, false, false, false, false, false], [0, 2, 7]),
  ([true, false, false, false, false, false, true, false, false, false, false, false, false], [1, 7]),
  ([false, true, false, false, false, false, true, true, false, false, false, false, false], [0, 2]),
  ([true, false, false, false, false, false, true, true, false, false, false, false, false], [1]),
  ([true, true, false, false, false, false, true, false, false, false, false, false, false], [2, 7]),
  ([false, true, true, false, false, false, true, false, false, false, false, false, false], [0, 3, 7]),
  ([false, true, true, true, false, false, false, false, false, false, false, false, false], [0, 6]),
  ([true, true, true, false, false, false, false, false, false, false, false, false, false], [3, 6]),
  ([true, true, true, true, false, false, false, false, false, false, false, false, false], [4, 6]),
  ([false, true, true, true, false, false, true, false, false, false, false, false, false], [0, 7]),
  ([true, true, true, false, false, false, true, false, false, false, false, false, false], [3, 7]),
  ([false, true, true, false, false, false, true, true, false, false, false, false, false], [0, 3]),
  ([true, true, false, false, false, false, true, true, false, false, false, false, false], [2]),
  ([true, true, true, false, false, false, true, true, false, false, false, false, false], [3]),
  ([false, true, true, true, false, false, true, true, false, false, false, false, false], [0]),
  ([true, true, true, true, false, false, true, false, false, false, false, false, false], [4, 7]),
  ([true, true, true, true, true, false, false, false, false, false, false, false, false], [5, 6]),
  ([true, true, true, true, true, true, false, false, false, false, false, false, false], [6]),
  ([true, true, true, true, true, false, true, false, false, false, false, false, false], [5, 7]),
  ([true, true, true, true, false, false, true, true, false, false, false, false, false], [4]),
  ([true, true, true, true, true, false, true, true, false, false, false, false, false], [5]),
  ([true, true, true, true, true, true, true, false, false, false, false, false, false], [7]),
  ([true, true, true, true, true, true, true, true, false, false, false, false, false], [8]),
  ([true, true, true, true, true, true, true, true, true, false, false, false, false], [9, 10]),
  ([true, true, true, true, true, true, true, true, true, false, true, false, false], [9]),
  ([true, true, true, true, true, true, true, true, true, true, false, false, false], [10]),
  ([true, true, true, true, true, true, true, true, true, true, true, false, false], [11]),
  ([true, true, true, true, true, true, true, true, true, true, true, true, false], [12]),
  ([true, true, true, true, true, true, true, true, true, true, true, true, true], [])]

def C29 (x : NodeD) (p : List IntD) : Prop := CRet Tryz.prog 29 [x.av, .dat (.list (p.map IntD.cells))] (· = kidAV (kidAt x p))
theorem kidAV_raw (o : Option NodeD) : ∃ (q : NR) (b : Bool), kidAV o = .tup [q.av, .dat (.bool b)] := by
  cases o with
  | none => exact ⟨zeroN.raw, false, rfl⟩
  | some y => exact ⟨y.raw, true, by rw [← NodeD.av_raw]; rfl⟩
set_option maxRecDepth 100000 in
set_option maxHeartbeats 4000000 in
theorem c29 (p : List IntD) : ∀ (x : NodeD), x.sz ≤ 2097152 → C29 x p := by
  induction p with
  | nil =>
    intro x hsz
    obtain ⟨V, hV⟩ : ∃ V, V = kidAV (kidAt x []) := ⟨_, rfl⟩
    have hbnd : V.bnd 0 = true := by rw [hV]; cases x; rfl
    unfold C29
    rw [← hV]
    have hV2 : V = .tup [x.raw.av, .dat (.bool true)] := by rw [hV, ← NodeD.av_raw]; rfl
    rw [NodeD.av_raw]
    generalize x.raw = q0 at hV2 ⊢
    clear hV
    refine CR.mono (K := fun r _ => r.bnd 0 = true ∧ r = V) (?_) fun _ _ h => h
    refine crH_of_swp mixedOrders VT_ok Tryz.func29 (code := Tryz.f29.body.get (by kernel_rfl)) (by kernel_rfl) (by kernel_rfl) fun E hE hreal => ?_
    obtain ⟨ar, cm, sc, eb, wr, ln, sl, ct, ap, sb, ss, u8, mx, nth, off, sat, sok, stok, cat, bd, szs, ne, nil, call, callF⟩ := E
    obtain ⟨k1, p1, n1, a1, G1, W1, R1, D1, I1⟩ := q0
    simp only [NR.av, NR.cells, List.map_nil] at hV2 ⊢
    cbv
    have h1 : cm .eql (ln [] 0) 0 = true := by cases hE; rfl
    rw [h1]
    cbv
    refine .mk V [(28, []), (28, [.dat (.int .i64 k1), .dat (.int .i64 p1), .dat (.str n1), .dat (.bool a1), .dat (.list G1), .dat (.list W1), .dat (.list R1), .dat (.list D1), .dat (.list I1)])] ⟨hbnd, rfl⟩ rfl ?_ rfl ?_
    · cbv
      and_intros <;> first | exact True.intro | exact LeV.eq rfl
    · rw [hV2]
      exact .tup ⟨.eq rfl, .eq rfl, trivial⟩
  | cons z0 p ih =>
    obtain ⟨z⟩ := z0
    intro x hsz
    obtain ⟨V, hV⟩ : ∃ V, V = kidAV (kidAt x (⟨z⟩ :: p)) := ⟨_, rfl⟩
    have hbnd : V.bnd 0 = true := by
      rw [hV]
      cases kidAt x (⟨z⟩ :: p) with
      | none => rfl
      | some y => cases y; rfl
    unfold C29
    rw [← hV]
    have h40 := c40 x hsz
    unfold C40 at h40
    have kk : ∀ y ∈ x.kidsL, C29 y p := fun y hy => ih y (by have := kids_sz hy; omega)
    have hk : kidAt x (⟨z⟩ :: p) = if 0 ≤ z then (match x.kidsL[z.toNat]? with
      | some y => kidAt y p
      | none => none) else none := rfl
    rw [hk] at hV
    clear hk
    have lost : kidAV none = .tup [.agg [.dat (.int .i64 0), .dat (.int .i64 0), .dat (.str []), .dat (.bool false), .dat (.list []), .dat (.list []), .dat (.list []), .dat (.list []), .dat (.list [])], .dat (.bool false)] := rfl
    generalize x.kidsL = kl at h40 kk hV
    rw [NodeD.av_raw] at h40 ⊢
    generalize x.raw = q0 at h40 ⊢
    refine CR.mono (K := fun r _ => r.bnd 0 = true ∧ r = V) (?_) fun _ _ h => h
    refine crH_of_swp mixedOrders VT_ok Tryz.func29 (code := Tryz.f29.body.get (by kernel_rfl)) (by kernel_rfl) (by kernel_rfl) fun E hE hreal => ?_
    obtain ⟨ar, cm, sc, eb, wr, ln, sl, ct, ap, sb, ss, u8, mx, nth, off, sat, sok, stok, cat, bd, szs, ne, nil, call, callF⟩ := E
    have hreal2 : (p.map IntD.cells).length < maxLen + 1 := by have := real_list (hreal 1 _ rfl); simp at this ⊢; omega
    clear hreal
    obtain ⟨k1, p1, n1, a1, G1, W1, R1, D1, I1⟩ := q0
    simp only [NR.av, NR.cells, List.map_cons, IntD.cells] at h40 ⊢
    generalize hKC : NodeD.cellsL kl = KC at h40
    have hkl : KC.length = kl.length := by rw [← hKC, NodeD.cellsL_len]
    obtain ⟨PL, hPL⟩ : ∃ PL : List (List Dat), PL = [.int .i64 z] :: p.map IntD.cells := ⟨_, rfl⟩
    rw [← hPL]
    replace h40 : call 40 [.agg [.dat (.int .i64 k1), .dat (.int .i64 p1), .dat (.str n1), .dat (.bool a1), .dat (.list G1), .dat (.list W1), .dat (.list R1), .dat (.list D1), .dat (.list I1)]] (· = .dat (.list KC)) := by
      cases hE
      exact h40
    have h1 : cm .eql (ln PL 0) 0 = false := by
      cases hE
      rw [hPL]
      simp [cmI]
      omega
    have nx : nth PL 0 [.int .i64 z] 1 := by
      cases hE
      exact ⟨Int.le_refl _, by rw [hPL]; rfl, rfl⟩
    cbv
    rw [h1]
    cbv
    refine ⟨_, h40, ?_⟩
    rintro _ rfl
    cbv
    refine ⟨_, nx, ?_⟩
    cbv
    generalize h3 : cm .lss _ _ = c3
    cases c3
    case true =>
      have hz : ¬ 0 ≤ z := by
        cases hE
        simp [cmI] at h3
        omega
      rw [if_neg hz] at hV
      cbv
      refine .mk V [(28, []), (28, [.dat (.int .i64 0), .dat (.int .i64 0), .dat (.str []), .dat (.bool false), .dat (.list []), .dat (.list []), .dat (.list []), .dat (.list []), .dat (.list [])])] ⟨hbnd, rfl⟩ rfl ?_ rfl ?_
      · cbv
        and_intros <;> first | exact True.intro | exact LeV.eq rfl | exact LeV.nilsD rfl
      · rw [hV, lost]
        exact .tup ⟨.eq rfl, .eq rfl, trivial⟩
    have hz : 0 ≤ z := by
      cases hE
      simp [cmI] at h3
      omega
    rw [if_pos hz] at hV
    cbv
    refine ⟨_, nx, ?_⟩
    cbv
    generalize h4 : cm .geq _ _ = c4
    cases c4
    case true =>
      have hz2 : kl[z.toNat]? = none := by
        cases hE
        simp [cmI, hkl] at h4
        simp
        omega
      rw [hz2] at hV
      cbv
      refine .mk V [(28, []), (28, [.dat (.int .i64 0), .dat (.int .i64 0), .dat (.str []), .dat (.bool false), .dat (.list []), .dat (.list []), .dat (.list []), .dat (.list []), .dat (.list [])])] ⟨hbnd, rfl⟩ rfl ?_ rfl ?_
      · cbv
        and_intros <;> first | exact True.intro | exact LeV.eq rfl | exact LeV.nilsD rfl
      · rw [hV]
        exact .tup ⟨.eq rfl, .eq rfl, trivial⟩
    have hz2 : z.toNat < kl.length := by
      cases hE
      simp [cmI, hkl] at h4
      omega
    obtain ⟨u, hu⟩ : ∃ u, kl[z.toNat]? = some u := ⟨_, List.getElem?_eq_getElem hz2⟩
    rw [hu] at hV
    have cu := kk u (List.mem_of_getElem? hu)
    unfold C29 at cu
    obtain ⟨q3, b, h5⟩ := kidAV_raw (kidAt u p)
    simp only at hV
    rw [h5] at cu hV
    have ny : nth KC z u.raw.dats 9 := by
      cases hE
      exact ⟨hz, by rw [← hKC, NodeD.cellsL_get hu, NodeD.cells_raw], rfl⟩
    rw [NodeD.av_raw] at cu
    generalize u.raw = q2 at ny cu
    obtain ⟨k2, p2, n2, a2, G2, W2, R2, D2, I2⟩ := q2
    obtain ⟨k3, p3, n3, a3, G3, W3, R3, D3, I3⟩ := q3
    simp only [NR.dats, NR.av, NR.cells] at ny cu hV
    have hsok : sok PL 1 (ln PL 0) 1 := by
      cases hE
      refine ⟨by omega, ?_, Int.le_refl _, fun c hc => ?_⟩
      · rw [hPL]
        simp
        omega
      · rw [hPL] at hc
        simp only [Int.toNat_one, List.getElem?_cons_succ, List.getElem?_map] at hc
        rw [Option.map_eq_some_iff] at hc
        obtain ⟨m, _, rfl⟩ := hc
        rfl
    have hsb : sb PL 1 (ln PL 0) = p.map IntD.cells := by
      cases hE
      rw [hPL]
      simp
      exact List.take_of_length_le (by simp)
    have h29 : call 29 [.agg [.dat (.int .i64 k2), .dat (.int .i64 p2), .dat (.str n2), .dat (.bool a2), .dat (.list G2), .dat (.list W2), .dat (.list R2), .dat (.list D2), .dat (.list I2)], .dat (.list (sb PL 1 (ln PL 0)))] (· = .tup [.agg [.dat (.int .i64 k3), .dat (.int .i64 p3), .dat (.str n3), .dat (.bool a3), .dat (.list G3), .dat (.list W3), .dat (.list R3), .dat (.list D3), .dat (.list I3)], .dat (.bool b)]) := by
      rw [hsb]
      cases hE
      exact cu
    clear hsb hPL
    cbv
    refine .any tab29 (fun L => ⟨[.agg [.dat (.int .i64 k1), .dat (.int .i64 p1), .dat (.str n1), .dat (.bool a1), .dat (.list G1), .dat (.list W1), .dat (.list R1), .dat (.list D1), .dat (.list I1)], .dat (.list PL), .ptr 0 0, .top, .ptr 1 0, bif L.getD 12 false then .dat (.bool b) else .dat (.bool false), .dat (.list KC), .dat (.list PL), .dat (.int .i64 (ln PL 0)), .dat (.bool false), .top, .agg [.dat (.int .i64 k1), .dat (.int .i64 p1), .dat (.str n1), .dat (.bool a1), .dat (.list G1), .dat (.list W1), .dat (.list R1), .dat (.list D1), .dat (.list I1)], .dat (.list KC), .dat (.list PL), .rptr [.int .i64 z], .dat (.int .i64 z), .dat (.bool false), .dat (.bool false), .dat (.list PL), .rptr [.int .i64 z], .dat (.int .i64 z), .dat (.list KC), .dat (.int .i64 (ln KC 0)), .dat (.bool false), .dat (.bool false), .top, bif L.getD 0 false then .dat (.list KC) else .top, bif L.getD 1 false then .dat (.list PL) else .top, bif L.getD 2 false then .rptr [.int .i64 z] else .top, bif L.getD 3 false then .dat (.int .i64 z) else .top, bif L.getD 4 false then .rptr [.int .i64 k2, .int .i64 p2, .str n2, .bool a2, .list G2, .list W2, .list R2, .list D2, .list I2] else .top, bif L.getD 5 false then .agg [.dat (.int .i64 k2), .dat (.int .i64 p2), .dat (.str n2), .dat (.bool a2), .dat (.list G2), .dat (.list W2), .dat (.list R2), .dat (.list D2), .dat (.list I2)] else .top, bif L.getD 6 false then .dat (.list PL) else .top, bif L.getD 7 false then .dat (.list (sb PL 1 (ln PL 0))) else .top, bif L.getD 8 false then .tup [.agg [.dat (.int .i64 k3), .dat (.int .i64 p3), .dat (.str n3), .dat (.bool a3), .dat (.list G3), .dat (.list W3), .dat (.list R3), .dat (.list D3), .dat (.list I3)], .dat (.bool b)] else .top, bif L.getD 9 false then .agg [.dat (.int .i64 k3), .dat (.int .i64 p3), .dat (.str n3), .dat (.bool a3), .dat (.list G3), .dat (.list W3), .dat (.list R3), .dat (.list D3), .dat (.list I3)] else .top, bif L.getD 10 false then .dat (.bool b) else .top], [(28, [.dat (.int .i64 k1), .dat (.int .i64 p1), .dat (.str n1), .dat (.bool a1), .dat (.list G1), .dat (.list W1), .dat (.list R1), .dat (.list D1), .dat (.list I1)]), (28, bif L.getD 11 false then [.dat (.int .i64 k3), .dat (.int .i64 p3), .dat (.str n3), .dat (.bool a3), .dat (.list G3), .dat (.list W3), .dat (.list R3), .dat (.list D3), .dat (.list I3)] else [.dat (.int .i64 0), .dat (.int .i64 0), .dat (.str []), .dat (.bool false), .nils, .nils, .nils, .nils, .nils])]⟩) [] (by kernel_rfl) (by cbv) ?_
    cbv
    and_intros
    all_goals first | exact True.intro | exact LeV.eq rfl | exact hsok | (exact ⟨_, nx, by cbv; and_intros <;> first | exact True.intro | exact LeV.eq rfl⟩) | (exact ⟨_, ny, by cbv; and_intros <;> first | exact True.intro | exact LeV.eq rfl⟩) | (refine ⟨_, h29, ?_⟩; rintro _ rfl; cbv; and_intros <;> first | exact True.intro | exact LeV.eq rfl) | skip
    refine .mk V [(28, []), (28, [.dat (.int .i64 k3), .dat (.int .i64 p3), .dat (.str n3), .dat (.bool a3), .dat (.list G3), .dat (.list W3), .dat (.list R3), .dat (.list D3), .dat (.list I3)])] ⟨hbnd, rfl⟩ rfl ?_ rfl ?_
    · cbv
      and_intros <;> first | exact True.intro | exact LeV.eq rfl
    · rw [hV]
      exact .tup ⟨.eq rfl, .eq rfl, trivial⟩
end Go.Proofs.YtdfcjodkmjofgaaGreat
/-
  The path of the innermost node that begins at or before an offset.
-/
namespace Go.Proofs.YtdfcjodkmjofgaaGreat
open Go.RowKit

/-- The last of the first i nodes that begins at or before an offset; -1: none. -/
def lastP (ofs : Int) (l : List NodeD) : Nat → Int
  | 0 => -1
  | i + 1 => match l[i]? with
    | some y => if y.pos ≤ ofs then (i : Int) else lastP ofs l i
    | none => lastP ofs l i
theorem lastP_bd (ofs : Int) (l : List NodeD) : ∀ i, -1 ≤ lastP ofs l i ∧ lastP ofs l i < (i : Int)
  | 0 => by simp [lastP]
  | i + 1 => by
    have h := lastP_bd ofs l i
    simp only [lastP]
    split
    · split
      · omega
      · omega
    · omega
/-- The path; n bounds its length. -/
def atF (ofs : Int) : Nat → NodeD → List IntD
  | 0, _ => []
  | n + 1, x => if lastP ofs x.kidsL x.kidsL.length < 0 then [] else match x.kidsL[(lastP ofs x.kidsL x.kidsL.length).toNat]? with
    | some y => ⟨lastP ofs x.kidsL x.kidsL.length⟩ :: atF ofs n y
    | none => []
theorem atF_len (ofs : Int) : ∀ n x, (atF ofs n x).length ≤ n
  | 0, _ => by simp [atF]
  | n + 1, x => by
    simp only [atF]
    split
    · simp
    · split
      · rename_i y _
        have := atF_len ofs n y
        simp only [List.length_cons]
        omega
      · simp
theorem atF_found (ofs : Int) : ∀ n x, kidAt x (atF ofs n x) ≠ none
  | 0, x => by simp [atF, kidAt]
  | n + 1, x => by
    simp only [atF]
    split
    · simp [kidAt]
    · rename_i h
      split
      · rename_i y hy
        simp only [kidAt]
        rw [if_pos (by omega), hy]
        exact atF_found ofs n y
      · simp [kidAt]

def C32 (ofs : Int) (n : Nat) (x : NodeD) : Prop := CRet Tryz.prog 32 [x.av, .dat (.int .i64 ofs)] (· = .dat (.list ((atF ofs n x).map IntD.cells)))
set_option maxRecDepth 100000 in
set_option maxHeartbeats 4000000 in
theorem c32s (ofs : Int) (n : Nat) (ih : ∀ x : NodeD, x.sz ≤ 2097152 → x.sz ≤ n → C32 ofs n x) (hn : n + 1 ≤ 2097152) (x : NodeD) (hsz : x.sz ≤ n + 1) : C32 ofs (n + 1) x := by
  have kk : ∀ y ∈ x.kidsL, C32 ofs n y := fun y hy => ih y (by have := kids_sz hy; omega) (by have := kids_sz hy; omega)
  have kl := kids_len x
  have h40 := c40 x (by omega)
  unfold C40 at h40
  unfold C32
  have hA : atF ofs (n + 1) x = if lastP ofs x.kidsL x.kidsL.length < 0 then [] else match x.kidsL[(lastP ofs x.kidsL x.kidsL.length).toNat]? with
    | some y => ⟨lastP ofs x.kidsL x.kidsL.length⟩ :: atF ofs n y
    | none => [] := rfl
  have hAl := atF_len ofs (n + 1) x
  generalize atF ofs (n + 1) x = A at hA hAl ⊢
  have mk' : x.kidsL.length ≤ maxLen := by unfold maxLen; omega
  generalize x.kidsL = kk0 at kk kl h40 hA mk'
  rw [NodeD.av_raw] at h40 ⊢
  generalize x.raw = q0 at h40 ⊢
  refine cret_of_swp mixedOrders VT_ok Tryz.func32 (code := Tryz.f32.body.get (by kernel_rfl)) (by kernel_rfl) (by kernel_rfl) rfl fun E hE hreal => ?_
  obtain ⟨ar, cm, sc, eb, wr, ln, sl, ct, ap, sb, ss, u8, mx, nth, off, sat, sok, stok, cat, bd, szs, ne, nil, call, callF⟩ := E
  clear hreal kl
  obtain ⟨k1, p1, n1, a1, G1, W1, R1, D1, I1⟩ := q0
  simp only [NR.av, NR.cells] at h40 ⊢
  generalize hKC : NodeD.cellsL kk0 = KC at h40
  have hLl : KC.length = kk0.length := by rw [← hKC, NodeD.cellsL_len]
  replace h40 : call 40 [.agg [.dat (.int .i64 k1), .dat (.int .i64 p1), .dat (.str n1), .dat (.bool a1), .dat (.list G1), .dat (.list W1), .dat (.list R1), .dat (.list D1), .dat (.list I1)]] (· = .dat (.list KC)) := by
    cases hE
    exact h40
  generalize hr : A.map IntD.cells = r
  cbv
  refine ⟨_, h40, ?_⟩
  rintro _ rfl
  cbv
  refine .mk {q : Nat × Int // q.1 ≤ kk0.length ∧ q.2 = lastP ofs kk0 q.1} (fun q => ⟨slotsOf 35 [(1, .dat (.int .i64 ofs)), (2, .ptr 0 0), (5, .dat (.list KC)), (6, .dat (.int .i64 q.1.2)), (7, .dat (.int .i64 q.1.1))], [(28, [.dat (.int .i64 k1), .dat (.int .i64 p1), .dat (.str n1), .dat (.bool a1), .dat (.list G1), .dat (.list W1), .dat (.list R1), .dat (.list D1), .dat (.list I1)])]⟩) (fun q => kk0.length - q.1.1) ⟨(0, -1), Nat.zero_le _, rfl⟩ ?_ ?_
  · cbv
    and_intros <;> first | exact True.intro | exact LeV.eq rfl
  rintro ⟨⟨i, k⟩, hi, hk⟩
  cbv
  generalize h2 : cm .lss _ _ = c2
  cases c2
  case false =>
    have hi2 : i = kk0.length := by
      cases hE
      simp [cmI, hLl] at h2
      simp at hi
      omega
    subst hi2
    simp only at hk
    rw [← hk] at hA
    have hkb : ¬ k < 0 → k.toNat < kk0.length := fun h => by
      have h1 := lastP_bd ofs kk0 kk0.length
      rw [show lastP ofs kk0 kk0.length = k from hk.symm] at h1
      have h2 : k < (kk0.length : Int) := h1.2
      omega
    cbv
    generalize h3 : cm .lss _ _ = c3
    cases c3
    case true =>
      have h3' : k < 0 := by
        cases hE
        simp [cmI] at h3
        exact h3
      rw [if_pos h3'] at hA
      cbv
      refine .eq (.nilsD ?_)
      rw [← hr, hA]
      rfl
    have h3' : ¬ k < 0 := by
      cases hE
      simp [cmI] at h3
      omega
    rw [if_neg h3'] at hA
    obtain ⟨u, hu⟩ : ∃ u, kk0[k.toNat]? = some u := ⟨_, List.getElem?_eq_getElem (hkb h3')⟩
    rw [hu] at hA
    have cu := kk u (List.mem_of_getElem? hu)
    unfold C32 at cu
    have nx : nth KC k u.raw.dats 9 := by
      cases hE
      exact ⟨by omega, by rw [← hKC, NodeD.cellsL_get hu, NodeD.cells_raw], rfl⟩
    have hAc : A.map IntD.cells = [.int .i64 k] :: (atF ofs n u).map IntD.cells := by rw [hA]; rfl
    have hss : szs ((atF ofs n u).map IntD.cells) 1 := by
      cases hE
      intro q hq
      obtain ⟨z, _, rfl⟩ := List.mem_map.1 hq
      rfl
    have hbd : bd [[.int .i64 k]] ((atF ofs n u).map IntD.cells) 8 := by
      cases hE
      show (1 + ((atF ofs n u).map IntD.cells).length) * 8 ≤ 140737488355328
      rw [List.length_map]
      have := atF_len ofs n u
      omega
    rw [hr] at hAc
    generalize (atF ofs n u).map IntD.cells = U at cu hAc hss hbd
    have hap : ap [[.int .i64 k]] U = r := by
      cases hE
      exact hAc.symm
    rw [NodeD.av_raw] at cu
    generalize u.raw = q2 at nx cu
    obtain ⟨k2, p2, n2, a2, G2, W2, R2, D2, I2⟩ := q2
    simp only [NR.dats, NR.av, NR.cells] at nx cu
    have h32 : call 32 [.agg [.dat (.int .i64 k2), .dat (.int .i64 p2), .dat (.str n2), .dat (.bool a2), .dat (.list G2), .dat (.list W2), .dat (.list R2), .dat (.list D2), .dat (.list I2)], .dat (.int .i64 ofs)] (· = .dat (.list U)) := by
      cases hE
      exact cu
    clear hA hkb
    cbv
    refine ⟨_, nx, ?_⟩
    cbv
    refine ⟨_, h32, ?_⟩
    rintro _ rfl
    cbv
    refine ⟨hss, hbd, ?_⟩
    exact .eq (.ownD _ _ hap)
  case true =>
    have hi2 : i < kk0.length := by
      cases hE
      simp [cmI, hLl] at h2
      omega
    clear h2
    obtain ⟨u, hu⟩ : ∃ u, kk0[i]? = some u := ⟨_, List.getElem?_eq_getElem hi2⟩
    have nx : nth KC (Int.ofNat i) u.raw.dats 9 := by
      cases hE
      exact ⟨Int.natCast_nonneg i, by rw [← hKC]; show _ = _; rw [← NodeD.cells_raw]; exact NodeD.cellsL_get hu, rfl⟩
    have hstep : lastP ofs kk0 (i + 1) = if u.raw.p ≤ ofs then (i : Int) else lastP ofs kk0 i := by
      rw [NodeD.pos_raw]
      simp only [lastP, hu]
    simp only at hk
    rw [← hk] at hstep
    generalize u.raw = q2 at nx hstep
    obtain ⟨k2, p2, n2, a2, G2, W2, R2, D2, I2⟩ := q2
    simp only [NR.dats] at nx hstep
    cbv
    refine ⟨_, nx, ?_⟩
    cbv
    generalize h3 : cm .leq _ _ = c3
    cases c3
    case true =>
      have h3' : p2 ≤ ofs := by
        cases hE
        simpa [cmI] using h3
      rw [if_pos h3'] at hstep
      cbv
      refine ⟨⟨(i + 1, (i : Int)), hi2, hstep.symm⟩, ?_, ?_⟩
      · show kk0.length - (i + 1) < kk0.length - i
        omega
      · cbv
        and_intros <;> first | exact True.intro | exact LeV.eq rfl | (exact LeV.intE (by cases hE; exact inc_id hi2 mk'))
    case false =>
      have h3' : ¬ p2 ≤ ofs := by
        cases hE
        simpa [cmI] using h3
      rw [if_neg h3'] at hstep
      cbv
      refine ⟨⟨(i + 1, k), hi2, hstep.symm⟩, ?_, ?_⟩
      · show kk0.length - (i + 1) < kk0.length - i
        omega
      · cbv
        and_intros <;> first | exact True.intro | exact LeV.eq rfl | (exact LeV.intE (by cases hE; exact inc_id hi2 mk'))
theorem c32 (ofs : Int) (n : Nat) (hn : n ≤ 2097152) (x : NodeD) (hsz : x.sz ≤ n) : C32 ofs n x := by
  induction n generalizing x with
  | zero => have := x.sz_pos; omega
  | succ n ih => exact c32s ofs n (fun y _ hy => ih (by omega) y hy) hn x hsz

def C30 (ofs : Int) (n : Nat) (x : NodeD) : Prop := CRet Tryz.prog 30 [x.av, .dat (.int .i64 ofs)] (· = .dat (.list ((atF ofs n x).map IntD.cells)))
set_option maxRecDepth 100000 in
set_option maxHeartbeats 8000000 in
theorem c30 (ofs : Int) (n : Nat) (hn : n ≤ 2097152) (x : NodeD) (hsz : x.sz ≤ n) : C30 ofs n x := by
  have h43 : ∀ y : NodeD, y.sz ≤ 2097152 → CRet Tryz.prog 43 [y.raw.av] (· = .dat (.list (NodeD.cellsL y.kidsL))) := fun y hy => by
    have := c43 y hy
    unfold C43 at this
    rwa [NodeD.av_raw] at this
  unfold C30
  obtain ⟨A, hA⟩ : ∃ A, A = atF ofs n x := ⟨_, rfl⟩
  rw [← hA, NodeD.av_raw]
  have start : ∃ y : NodeD, y.raw = x.raw ∧ y.sz ≤ n ∧ [] ++ atF ofs n y = A ∧ ([] : List IntD).length + n ≤ 2097152 := ⟨x, rfl, hsz, by rw [hA]; rfl, by simpa using hn⟩
  generalize x.raw = q0 at start ⊢
  refine cret_of_swp mixedOrders VT_ok Tryz.func30 (code := Tryz.f30.body.get (by kernel_rfl)) (by kernel_rfl) (by kernel_rfl) rfl fun E hE hreal => ?_
  obtain ⟨ar, cm, sc, eb, wr, ln, sl, ct, ap, sb, ss, u8, mx, nth, off, sat, sok, stok, cat, bd, szs, ne, nil, call, callF⟩ := E
  clear hreal
  obtain ⟨k0, p0, n0, a0, G0, W0, R0, D0, I0⟩ := q0
  obtain ⟨J, hJ⟩ : ∃ J : Nat → Int, ∀ j, J j = (j : Int) - 1 := ⟨_, fun _ => rfl⟩
  obtain ⟨RW, hRW⟩ : ∃ F : List IntD → List (List Dat), ∀ p, F p = p.map IntD.cells := ⟨_, fun _ => rfl⟩
  have hRW0 : RW [] = [] := hRW []
  generalize hr : A.map IntD.cells = r
  simp only [NR.av, NR.cells]
  clear hA hsz hn
  cbv
  refine .mk {q : NR × List IntD × Nat // ∃ y : NodeD, y.raw = q.1 ∧ y.sz ≤ q.2.2 ∧ q.2.1 ++ atF ofs q.2.2 y = A ∧ q.2.1.length + q.2.2 ≤ 2097152} (fun q => ⟨slotsOf 37 [(1, .dat (.int .i64 ofs)), (2, .ptr 0 0), (5, .own 32 3 (RW q.1.2.1))], [(28, q.1.1.cells)]⟩) (fun q => q.1.2.2) ⟨(⟨k0, p0, n0, a0, G0, W0, R0, D0, I0⟩, [], n), start⟩ ?_ ?_
  · cbv
    and_intros <;> first | exact True.intro | exact LeV.eq rfl | exact LeV.nilsO hRW0
  rintro ⟨⟨⟨k1, p1, n1, a1, G1, W1, R1, D1, I1⟩, pt, m⟩, y, hyr, hym, hyA, hyb⟩
  simp only at hyr hym hyA hyb
  have hyc := h43 y (by omega)
  rw [hyr] at hyc
  have hyl := kids_len y
  have kks : ∀ u ∈ y.kidsL, u.sz < y.sz := fun u hu => kids_sz hu
  have hAm : ∀ k, m = k + 1 → atF ofs m y = if lastP ofs y.kidsL y.kidsL.length < 0 then [] else match y.kidsL[(lastP ofs y.kidsL y.kidsL.length).toNat]? with
    | some u => ⟨lastP ofs y.kidsL y.kidsL.length⟩ :: atF ofs k u
    | none => [] := fun k e => by subst e; rfl
  have hm0 : ∃ k, m = k + 1 := ⟨m - 1, by have := y.sz_pos; omega⟩
  obtain ⟨m, rfl⟩ := hm0
  rw [hAm m rfl] at hyA
  clear hAm
  generalize y.kidsL = kl at hyc hyA hyl kks
  generalize hKC : NodeD.cellsL kl = KC at hyc
  have hLl : KC.length = kl.length := by rw [← hKC, NodeD.cellsL_len]
  have hll : kl.length ≤ 2097152 := by omega
  have h43' : call 43 [.agg [.dat (.int .i64 k1), .dat (.int .i64 p1), .dat (.str n1), .dat (.bool a1), .dat (.list G1), .dat (.list W1), .dat (.list R1), .dat (.list D1), .dat (.list I1)]] (· = .dat (.list KC)) := by
    cases hE
    exact hyc
  have hsub : ar .sub .i64 (ln KC 0) 1 = J kl.length := by
    cases hE
    show IntKind.i64.wrap (((KC.length + 0 : Nat) : Int) - 1) = _
    rw [(show ∀ j : Nat, J j = (j : Int) - 1 from hJ), hLl, wrap_id (by omega) (by omega)]
    simp
  cbv
  refine ⟨_, h43', ?_⟩
  rintro _ rfl
  cbv
  refine .mk {j : Nat // j ≤ kl.length ∧ lastP ofs kl kl.length = lastP ofs kl j} (fun q => ⟨slotsOf 37 [(1, .dat (.int .i64 ofs)), (2, .ptr 0 0), (5, .own 32 3 (RW pt)), (6, .dat (.list KC)), (7, .dat (.int .i64 (J q.1)))], [(28, [.dat (.int .i64 k1), .dat (.int .i64 p1), .dat (.str n1), .dat (.bool a1), .dat (.list G1), .dat (.list W1), .dat (.list R1), .dat (.list D1), .dat (.list I1)])]⟩) (fun q => q.1) ⟨kl.length, Nat.le_refl _, rfl⟩ ?_ ?_
  · cbv
    and_intros <;> first | exact True.intro | exact LeV.eq rfl | exact LeV.intE hsub
  rintro ⟨j, hj, hjP⟩
  cbv
  generalize h2 : cm .geq _ _ = c2
  cases c2
  case false =>
    have hj0 : j = 0 := by
      cases hE
      simp [cmI, (show ∀ j : Nat, J j = (j : Int) - 1 from hJ)] at h2
      omega
    subst hj0
    have h3 : cm .lss (J 0) 0 = true := by
      cases hE
      simp [cmI, (show ∀ j : Nat, J j = (j : Int) - 1 from hJ)]
    have h4 : lastP ofs kl kl.length < 0 := by rw [hjP]; simp [lastP]
    rw [if_pos h4, List.append_nil] at hyA
    cbv
    rw [h3]
    cbv
    refine .eq (.ownD _ _ ?_)
    rw [← hr, ← hyA, hRW]
  case true =>
    have hj0 : 0 < j := by
      cases hE
      simp [cmI, (show ∀ j : Nat, J j = (j : Int) - 1 from hJ)] at h2
      omega
    obtain ⟨i, rfl⟩ : ∃ i, j = i + 1 := ⟨j - 1, by omega⟩
    have hJi : J (i + 1) = Int.ofNat i := by rw [(show ∀ j : Nat, J j = (j : Int) - 1 from hJ)]; simp
    obtain ⟨u, hu⟩ : ∃ u, kl[i]? = some u := ⟨_, List.getElem?_eq_getElem (by omega)⟩
    have nx : nth KC (J (i + 1)) u.raw.dats 9 := by
      cases hE
      rw [hJi]
      exact ⟨Int.natCast_nonneg i, by rw [← hKC]; show _ = _; rw [← NodeD.cells_raw]; exact NodeD.cellsL_get hu, rfl⟩
    have hstep : lastP ofs kl (i + 1) = if u.raw.p ≤ ofs then (i : Int) else lastP ofs kl i := by
      rw [NodeD.pos_raw]
      simp only [lastP, hu]
    have hus := kks u (List.mem_of_getElem? hu)
    have hu3 : ∀ v, v = u → v.raw = u.raw := fun v e => by rw [e]
    obtain ⟨q2, hq2⟩ : ∃ q2, u.raw = q2 := ⟨_, rfl⟩
    rw [hq2] at nx hstep
    obtain ⟨k2, p2, n2, a2, G2, W2, R2, D2, I2⟩ := q2
    simp only [NR.dats] at nx hstep
    cbv
    refine ⟨_, nx, ?_⟩
    cbv
    generalize h3 : cm .gtr _ _ = c3
    cases c3
    case true =>
      have h3' : ¬ p2 ≤ ofs := by
        cases hE
        simp [cmI] at h3
        omega
      rw [if_neg h3'] at hstep
      have hsub2 : ar .sub .i64 (J (i + 1)) 1 = J i := by
        cases hE
        show IntKind.i64.wrap (J (i + 1) - 1) = _
        rw [(show ∀ j : Nat, J j = (j : Int) - 1 from hJ), (show ∀ j : Nat, J j = (j : Int) - 1 from hJ), wrap_id (by omega) (by omega)]
        omega
      cbv
      refine ⟨⟨i, by omega, hjP.trans hstep⟩, Nat.lt_succ_self i, ?_⟩
      cbv
      and_intros <;> first | exact True.intro | exact LeV.eq rfl | exact LeV.intE hsub2
    case false =>
      have h3' : p2 ≤ ofs := by
        cases hE
        simp [cmI] at h3
        omega
      rw [if_pos h3'] at hstep
      have hlast : lastP ofs kl kl.length = (i : Int) := hjP.trans hstep
      have hneg : ¬ lastP ofs kl kl.length < 0 := by rw [hlast]; omega
      rw [if_neg hneg, hlast, Int.toNat_natCast, hu] at hyA
      have h4 : cm .lss (J (i + 1)) 0 = false := by
        cases hE
        simp [cmI, (show ∀ j : Nat, J j = (j : Int) - 1 from hJ)]
      have hss : szs [[.int .i64 (J (i + 1))]] 1 := by
        cases hE
        intro q hq
        simp at hq
        subst hq
        rfl
      have hbd : bd (RW pt) [[.int .i64 (J (i + 1))]] 8 := by
        cases hE
        show ((RW pt).length + 1) * 8 ≤ 140737488355328
        rw [hRW, List.length_map]
        omega
      have hap : ap (RW pt) [[.int .i64 (J (i + 1))]] = RW (pt ++ [⟨(i : Int)⟩]) := by
        cases hE
        rw [hRW, hRW, hJi]
        simp [Wd.std, IntD.cells]
      have hnext : ∃ z : NodeD, z.raw = ⟨k2, p2, n2, a2, G2, W2, R2, D2, I2⟩ ∧ z.sz ≤ m ∧ (pt ++ [⟨(i : Int)⟩]) ++ atF ofs m z = A ∧ (pt ++ [(⟨(i : Int)⟩ : IntD)]).length + m ≤ 2097152 :=
        ⟨u, hq2, by omega, by rw [← hyA]; simp, by simp; omega⟩
      generalize pt ++ [(⟨(i : Int)⟩ : IntD)] = pt2 at hap hnext
      cbv
      rw [h4]
      cbv
      refine ⟨hss, hbd, ?_⟩
      refine ⟨_, nx, ?_⟩
      cbv
      refine ⟨⟨(⟨k2, p2, n2, a2, G2, W2, R2, D2, I2⟩, pt2, m), hnext⟩, Nat.lt_succ_self m, ?_⟩
      cbv
      and_intros <;> first | exact True.intro | exact LeV.eq rfl | exact LeV.ownE hap
end Go.Proofs.YtdfcjodkmjofgaaGreat
