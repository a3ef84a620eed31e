/-
  The nodes in a node, as the program gathers them.
-/
import Derived.Test.YtdfcjodkmjofgaaGreatM1
import Derived.Test.YtdfcjodkmjofgaaGreatSym5
import Derived.Test.YtdfcjodkmjofgaaGreatAwake
namespace Go.Proofs.YtdfcjodkmjofgaaGreat
open Go.RowKit

/-- A copy of a list of nodes: the call's own, or of no capacity. -/
def K91 (D : List (List Dat)) (r : AV) : Prop := r = .own 7 28 D ∨ (r = .emp ∧ D = []) ∨ (r = .nils ∧ D = [])
set_option maxRecDepth 100000 in
set_option maxHeartbeats 4000000 in
theorem c91 (D : List (List Dat)) (hl : ∀ q ∈ D, q.length = 9) (hm : D.length ≤ 2097152) : CRet Tryz.prog 91 [.dat (.list D)] (K91 D) := by
  obtain ⟨K, hK⟩ : ∃ K, K = K91 D := ⟨_, rfl⟩
  rw [← hK]
  refine cretK_of_swp mixedOrders VT_ok Tryz.func91 (code := Tryz.f91.body.get (by kernel_rfl)) (by kernel_rfl) (by kernel_rfl) fun E hE hreal => ?_
  obtain ⟨ar, cm, sc, eb, wr, ln, sl, ct, ap, sb, ss, u8, mx, nth, off, sat, sok, stok, cat, bd, szs, ne, nil, call, callF⟩ := E
  clear hreal
  have hs : szs D 9 := by cases hE; exact hl
  have hb : bd [] D 160 := by
    cases hE
    show ([].length + D.length) * 160 ≤ 140737488355328
    simp
    omega
  have hn : nil D → D = [] := fun h => by cases hE; exact h
  have tail : (nil D → SFinK (some AV.emp) K) ∧ (ne D → SFinK (some (AV.own 7 28 D)) K) :=
    ⟨fun h => .mk .emp (.eq (.eq rfl)) (by rw [hK]; exact .inr (.inl ⟨rfl, hn h⟩)) rfl, fun _ => .mk (.own 7 28 D) (.eq (.eq rfl)) (by rw [hK]; exact .inl rfl) rfl⟩
  cbv
  refine ⟨fun _ => ⟨hs, hb, tail.1, tail.2⟩, fun h => ⟨?_, hs, hb, tail.1, tail.2⟩⟩
  exact .mk .nils (.eq (.eq rfl)) (by rw [hK]; exact .inr (.inr ⟨rfl, hn h⟩)) rfl

inductive T3 where
  | a
  | b
  | c
def T3.av (F : List (List Dat)) : T3 → AV
  | .a => .own 7 28 F
  | .b => .own 19 28 F
  | .c => .emp
def C43 (x : NodeD) : Prop := CRet Tryz.prog 43 [x.av] (· = .dat (.list (NodeD.cellsL x.kidsL)))
set_option maxRecDepth 100000 in
set_option maxHeartbeats 4000000 in
theorem c43 (x : NodeD) (hsz : x.sz ≤ 2097152) : C43 x := by
  obtain ⟨k1, p1, n1, a1, g1, w1, r1, d1, i1⟩ := x
  obtain ⟨K, hK⟩ : ∃ K, K = K91 (NodeD.cellsL d1) := ⟨_, rfl⟩
  refine cret_of_swp mixedOrders VT_ok Tryz.func43 (code := Tryz.f43.body.get (by kernel_rfl)) (by kernel_rfl) (by kernel_rfl) rfl fun E hE hreal => ?_
  obtain ⟨ar, cm, sc, eb, wr, ln, sl, ct, ap, sb, ss, u8, mx, nth, off, sat, sok, stok, cat, bd, szs, ne, nil, call, callF⟩ := E
  clear hreal
  have mi : i1.length ≤ maxLen := by unfold maxLen; have := szBy_len ItemD.sz_pos i1; rw [← ItemD.szL_by] at this; simp only [NodeD.sz] at hsz; omega
  have md : d1.length ≤ 2097152 := by have := szBy_len NodeD.sz_pos d1; rw [← NodeD.szL_by] at this; simp only [NodeD.sz] at hsz; omega
  have bnd : ∀ i, (d1.length + ((i1.take i).flatMap ItemD.body).length) ≤ 2097152 := fun i => by
    have h1 := take_flat ItemD.body ItemD.sz body_len i1 i
    have h2 := szBy_len NodeD.sz_pos d1
    rw [← NodeD.szL_by] at h2
    rw [← ItemD.szL_by] at h1
    simp only [NodeD.sz] at hsz
    omega
  simp only [NodeD.av, NodeD.cells, NodeD.kidsL, List.map_cons, List.map_nil]
  generalize hg1 : g1.map AssignD.cells = G1
  generalize hw1 : w1.map WordD.cells = W1
  generalize hr1 : r1.map RedirD.cells = R1
  generalize hd1 : NodeD.cellsL d1 = D1 at hK
  generalize hi1 : ItemD.cellsL i1 = I1
  generalize hr : NodeD.cellsL (d1 ++ i1.flatMap ItemD.body) = r
  obtain ⟨F, hF⟩ : ∃ F : Nat → List (List Dat), ∀ i, F i = NodeD.cellsL (d1 ++ (i1.take i).flatMap ItemD.body) := ⟨_, fun _ => rfl⟩
  have hF0 : F 0 = D1 := by rw [hF, ← hd1]; simp
  have h91 : call 91 [.dat (.list D1)] K := by
    cases hE
    rw [hK]
    refine c91 D1 (fun q hq => ?_) (by rw [← hd1, NodeD.cellsL_len]; exact md)
    rw [← hd1, NodeD.cellsL_map] at hq
    obtain ⟨x, _, rfl⟩ := List.mem_map.1 hq
    exact x.cells_len
  have hLl : I1.length = i1.length := by rw [← hi1, ItemD.cellsL_len]
  cbv
  refine ⟨_, h91, fun r0 hr0 => ?_⟩
  rw [hK] at hr0
  have start : ∃ t : T3, (t = .c → D1 = []) ∧ LeV r0 (t.av D1) := by
    rcases hr0 with rfl | ⟨rfl, h⟩ | ⟨rfl, h⟩
    · exact ⟨.a, (fun e => by cases e), .eq rfl⟩
    · exact ⟨.c, fun _ => h, .eq rfl⟩
    · exact ⟨.a, (fun e => by cases e), .nilsO h⟩
  clear hr0 hK
  obtain ⟨t0, ht0, hr0⟩ := start
  cbv
  refine .mk {q : Nat × T3 // q.1 ≤ i1.length ∧ (q.2 = .c → F q.1 = [])} (fun q => ⟨slotsOf 22 [(1, .ptr 0 0), (3, q.1.2.av (F q.1.1)), (10, .dat (.list I1)), (11, .dat (.int .i64 (ln I1 0))), (12, .dat (.int .i64 q.1.1))], [(28, [.dat (.int .i64 k1), .dat (.int .i64 p1), .dat (.str n1), .dat (.bool a1), .dat (.list G1), .dat (.list W1), .dat (.list R1), .dat (.list D1), .dat (.list I1)])]⟩) (fun q => i1.length - q.1.1) ⟨(0, t0), Nat.zero_le _, fun h => by rw [hF0]; exact ht0 h⟩ ?_ ?_
  · rw [← hF0] at hr0
    cases t0 <;>
    · simp only [T3.av] at hr0
      cbv
      and_intros <;> first | exact True.intro | exact LeV.eq rfl | exact hr0
  rintro ⟨⟨i, t⟩, hi, hc⟩
  cases t
  case a =>
    cbv
    generalize h2 : cm .lss _ _ = c2
    cases c2
    case false =>
      have hi2 : i = i1.length := by
        cases hE
        simp [cmI, hLl] at h2
        simp at hi
        omega
      subst hi2
      cbv
      refine .eq (.ownD _ _ ?_)
      rw [← hr, hF, List.take_length]
    case true =>
      have hi2 : i < i1.length := by
        cases hE
        simp [cmI, hLl] at h2
        omega
      clear h2
      obtain ⟨x, hx⟩ : ∃ x, i1[i]? = some x := ⟨_, List.getElem?_eq_getElem hi2⟩
      obtain ⟨p2, b2⟩ := x
      have nx : nth I1 (Int.ofNat i) (ItemD.cells (.mk p2 b2)) 2 := by
        cases hE
        exact ⟨Int.natCast_nonneg i, by rw [← hi1]; exact ItemD.cellsL_get hx, rfl⟩
      have hstep : F (i + 1) = F i ++ NodeD.cellsL b2 := by
        rw [hF, hF]
        simp [List.take_add_one, hx, ItemD.body, NodeD.cellsL_map]
      have hsz2 : szs (NodeD.cellsL b2) 9 := by
        cases hE
        intro q hq
        rw [NodeD.cellsL_map] at hq
        obtain ⟨x, _, rfl⟩ := List.mem_map.1 hq
        exact x.cells_len
      have hbd : ((F i).length + (NodeD.cellsL b2).length) * 160 ≤ 140737488355328 := by
        have := bnd (i + 1)
        rw [hF, NodeD.cellsL_len, NodeD.cellsL_len]
        simp [List.take_add_one, hx, ItemD.body] at this ⊢
        omega
      simp only [ItemD.cells] at nx
      generalize hp2 : p2.map WordD.cells = P2 at nx
      generalize hb2 : NodeD.cellsL b2 = B2 at nx hstep hsz2 hbd
      cbv
      refine ⟨_, nx, ?_⟩
      cbv
      refine ⟨hsz2, by cases hE; exact hbd, ?_⟩
      refine ⟨⟨(i + 1, .a), hi2, (fun e => by cases e)⟩, by show i1.length - (i + 1) < i1.length - i; omega, ?_⟩
      cbv
      and_intros <;> first | exact True.intro | exact LeV.eq rfl | (exact LeV.ownE (by cases hE; exact hstep.symm)) | (exact LeV.intE (by cases hE; exact inc_id hi2 mi))
  case b =>
    cbv
    generalize h2 : cm .lss _ _ = c2
    cases c2
    case false =>
      have hi2 : i = i1.length := by
        cases hE
        simp [cmI, hLl] at h2
        simp at hi
        omega
      subst hi2
      cbv
      refine .eq (.ownD _ _ ?_)
      rw [← hr, hF, List.take_length]
    case true =>
      have hi2 : i < i1.length := by
        cases hE
        simp [cmI, hLl] at h2
        omega
      clear h2
      obtain ⟨x, hx⟩ : ∃ x, i1[i]? = some x := ⟨_, List.getElem?_eq_getElem hi2⟩
      obtain ⟨p2, b2⟩ := x
      have nx : nth I1 (Int.ofNat i) (ItemD.cells (.mk p2 b2)) 2 := by
        cases hE
        exact ⟨Int.natCast_nonneg i, by rw [← hi1]; exact ItemD.cellsL_get hx, rfl⟩
      have hstep : F (i + 1) = F i ++ NodeD.cellsL b2 := by
        rw [hF, hF]
        simp [List.take_add_one, hx, ItemD.body, NodeD.cellsL_map]
      have hsz2 : szs (NodeD.cellsL b2) 9 := by
        cases hE
        intro q hq
        rw [NodeD.cellsL_map] at hq
        obtain ⟨x, _, rfl⟩ := List.mem_map.1 hq
        exact x.cells_len
      have hbd : ((F i).length + (NodeD.cellsL b2).length) * 160 ≤ 140737488355328 := by
        have := bnd (i + 1)
        rw [hF, NodeD.cellsL_len, NodeD.cellsL_len]
        simp [List.take_add_one, hx, ItemD.body] at this ⊢
        omega
      simp only [ItemD.cells] at nx
      generalize hp2 : p2.map WordD.cells = P2 at nx
      generalize hb2 : NodeD.cellsL b2 = B2 at nx hstep hsz2 hbd
      cbv
      refine ⟨_, nx, ?_⟩
      cbv
      refine ⟨hsz2, by cases hE; exact hbd, ?_⟩
      refine ⟨⟨(i + 1, .b), hi2, (fun e => by cases e)⟩, by show i1.length - (i + 1) < i1.length - i; omega, ?_⟩
      cbv
      and_intros <;> first | exact True.intro | exact LeV.eq rfl | (exact LeV.ownE (by cases hE; exact hstep.symm)) | (exact LeV.intE (by cases hE; exact inc_id hi2 mi))
  case c =>
    cbv
    generalize h2 : cm .lss _ _ = c2
    cases c2
    case false =>
      have hi2 : i = i1.length := by
        cases hE
        simp [cmI, hLl] at h2
        simp at hi
        omega
      subst hi2
      cbv
      refine .eq (.empD ?_)
      rw [← hr, ← List.take_length (l := i1), ← hF]
      exact hc rfl
    case true =>
      have hi2 : i < i1.length := by
        cases hE
        simp [cmI, hLl] at h2
        omega
      clear h2
      obtain ⟨x, hx⟩ : ∃ x, i1[i]? = some x := ⟨_, List.getElem?_eq_getElem hi2⟩
      obtain ⟨p2, b2⟩ := x
      have nx : nth I1 (Int.ofNat i) (ItemD.cells (.mk p2 b2)) 2 := by
        cases hE
        exact ⟨Int.natCast_nonneg i, by rw [← hi1]; exact ItemD.cellsL_get hx, rfl⟩
      have hstep : F (i + 1) = F i ++ NodeD.cellsL b2 := by
        rw [hF, hF]
        simp [List.take_add_one, hx, ItemD.body, NodeD.cellsL_map]
      have hsz2 : szs (NodeD.cellsL b2) 9 := by
        cases hE
        intro q hq
        rw [NodeD.cellsL_map] at hq
        obtain ⟨x, _, rfl⟩ := List.mem_map.1 hq
        exact x.cells_len
      have hbd : ((F i).length + (NodeD.cellsL b2).length) * 160 ≤ 140737488355328 := by
        have := bnd (i + 1)
        rw [hF, NodeD.cellsL_len, NodeD.cellsL_len]
        simp [List.take_add_one, hx, ItemD.body] at this ⊢
        omega
      simp only [ItemD.cells] at nx
      generalize hp2 : p2.map WordD.cells = P2 at nx
      generalize hb2 : NodeD.cellsL b2 = B2 at nx hstep hsz2 hbd
      cbv
      refine ⟨_, nx, ?_⟩
      cbv
      have hbd0 : bd [] B2 160 := by
        cases hE
        show ([].length + B2.length) * 160 ≤ _
        simp
        omega
      have hn0 : nil B2 → B2 = [] := fun h => by cases hE; exact h
      refine ⟨hsz2, hbd0, fun hn => ?_, fun hn => ?_⟩
      · refine ⟨⟨(i + 1, .c), hi2, fun _ => by rw [hstep, hc rfl, hn0 hn, List.nil_append]⟩, by show i1.length - (i + 1) < i1.length - i; omega, ?_⟩
        cbv
        and_intros <;> first | exact True.intro | exact LeV.eq rfl | (exact LeV.intE (by cases hE; exact inc_id hi2 mi))
      · refine ⟨⟨(i + 1, .b), hi2, (fun e => by cases e)⟩, by show i1.length - (i + 1) < i1.length - i; omega, ?_⟩
        cbv
        and_intros <;> first | exact True.intro | exact LeV.eq rfl | (exact LeV.ownE (by rw [hstep, hc rfl, List.nil_append])) | (exact LeV.intE (by cases hE; exact inc_id hi2 mi))
end Go.Proofs.YtdfcjodkmjofgaaGreat
/-
  The nodes of a node, in preorder: what the two walks return.
-/
namespace Go.Proofs.YtdfcjodkmjofgaaGreat
open Go.RowKit

mutual
def NodeD.walk : NodeD → List NodeD
  | .mk k p n a g w r d is => .mk k p n a g w r d is :: (NodeD.walkL d ++ ItemD.walkL is)
def NodeD.walkL : List NodeD → List NodeD
  | [] => []
  | x :: l => x.walk ++ NodeD.walkL l
def ItemD.walk : ItemD → List NodeD
  | .mk _ b => NodeD.walkL b
def ItemD.walkL : List ItemD → List NodeD
  | [] => []
  | x :: l => x.walk ++ ItemD.walkL l
end
theorem NodeD.walkL_map (l : List NodeD) : NodeD.walkL l = l.flatMap NodeD.walk := by
  induction l with
  | nil => rfl
  | cons x l ih => simp [NodeD.walkL, ih]
theorem ItemD.walkL_map (l : List ItemD) : ItemD.walkL l = (l.flatMap ItemD.body).flatMap NodeD.walk := by
  induction l with
  | nil => rfl
  | cons x l ih =>
    cases x with
    | mk p b => simp [ItemD.walkL, ih, ItemD.walk, ItemD.body, NodeD.walkL_map]
theorem NodeD.walk_eq (x : NodeD) : x.walk = x :: x.kidsL.flatMap NodeD.walk := by
  cases x with
  | mk k p n a g w r d is => simp [NodeD.walk, NodeD.kidsL, NodeD.walkL_map, ItemD.walkL_map]
theorem kids_szBy (x : NodeD) : szBy NodeD.sz x.kidsL + 1 ≤ x.sz := by
  have key : ∀ l m : List NodeD, szBy NodeD.sz (l ++ m) = szBy NodeD.sz l + szBy NodeD.sz m := fun l m => by
    induction l with
    | nil => simp [szBy]
    | cons x l ih => simp [szBy, ih]; omega
  have key2 : ∀ is : List ItemD, szBy NodeD.sz (is.flatMap ItemD.body) ≤ ItemD.szL is := fun is => by
    induction is with
    | nil => simp [szBy]
    | cons x l ih =>
      cases x with
      | mk p b =>
        rw [List.flatMap_cons, key]
        simp only [ItemD.body, ItemD.szL, ItemD.sz, NodeD.szL_by]
        omega
  cases x with
  | mk k p n a g w r d is =>
    have := key2 is
    simp only [NodeD.kidsL, key, NodeD.sz, NodeD.szL_by]
    omega
theorem NodeD.walk_len (x : NodeD) : x.walk.length ≤ x.sz := by
  have key : ∀ n (x : NodeD), x.sz ≤ n → x.walk.length ≤ x.sz := fun n => by
    induction n with
    | zero => intro x h; have := x.sz_pos; omega
    | succ n ih =>
      intro x h
      have h1 := kids_szBy x
      have h2 : ∀ l : List NodeD, (∀ y ∈ l, y.sz ≤ n) → (l.flatMap NodeD.walk).length ≤ szBy NodeD.sz l := fun l hl => by
        induction l with
        | nil => simp
        | cons y l ihl =>
          have h3 := ih y (hl y (by simp))
          have h4 := ihl fun z hz => hl z (by simp [hz])
          simp only [List.flatMap_cons, List.length_append, szBy]
          omega
      have h5 := h2 x.kidsL fun y hy => by have := kids_sz hy; omega
      rw [NodeD.walk_eq, List.length_cons]
      omega
  exact key _ x (Nat.le_refl _)
theorem walk_take (l : List NodeD) (i : Nat) : ((l.take i).flatMap NodeD.walk).length ≤ szBy NodeD.sz l := take_flat NodeD.walk NodeD.sz NodeD.walk_len l i
theorem cells9 (l : List NodeD) : ∀ q ∈ NodeD.cellsL l, q.length = 9 := fun q hq => by
  rw [NodeD.cellsL_map] at hq
  obtain ⟨x, _, rfl⟩ := List.mem_map.1 hq
  exact x.cells_len
theorem NodeD.cellsL_append (l m : List NodeD) : NodeD.cellsL (l ++ m) = NodeD.cellsL l ++ NodeD.cellsL m := by simp [NodeD.cellsL_map]

def C24 (x : NodeD) : Prop := CRet Tryz.prog 24 [x.av] (· = .dat (.list (NodeD.cellsL x.walk)))
set_option maxRecDepth 100000 in
set_option maxHeartbeats 4000000 in
theorem c24s (n : Nat) (ih : ∀ x : NodeD, x.sz ≤ 2097152 → x.sz ≤ n → C24 x) (x : NodeD) (hsz : x.sz ≤ 2097152) (hn : x.sz ≤ n + 1) : C24 x := by
  have kl := kids_len x
  have kk : ∀ y ∈ x.kidsL, C24 y := fun y hy => ih y (by have := kids_sz hy; omega) (by have := kids_sz hy; omega)
  have ks := kids_szBy x
  have hw := x.walk_eq
  have h40 := c40 x hsz
  unfold C40 at h40
  unfold C24
  obtain ⟨k1, p1, n1, a1, g1, w1, r1, d1, i1⟩ := x
  refine cret_of_swp mixedOrders VT_ok Tryz.func24 (code := Tryz.f24.body.get (by kernel_rfl)) (by kernel_rfl) (by kernel_rfl) rfl fun E hE hreal => ?_
  obtain ⟨ar, cm, sc, eb, wr, ln, sl, ct, ap, sb, ss, u8, mx, nth, off, sat, sok, stok, cat, bd, szs, ne, nil, call, callF⟩ := E
  clear hreal
  have mk' : (NodeD.kidsL (.mk k1 p1 n1 a1 g1 w1 r1 d1 i1)).length ≤ maxLen := by unfold maxLen; omega
  generalize hKK : NodeD.kidsL (.mk k1 p1 n1 a1 g1 w1 r1 d1 i1) = kk0 at mk' kk ks hw h40 kl
  generalize hWW : NodeD.walk (.mk k1 p1 n1 a1 g1 w1 r1 d1 i1) = ww at hw
  generalize hxx : NodeD.mk k1 p1 n1 a1 g1 w1 r1 d1 i1 = xx at hw ks hsz hn hKK hWW
  have hx9 : xx.cells = NodeD.cells (.mk k1 p1 n1 a1 g1 w1 r1 d1 i1) := by rw [hxx]
  simp only [NodeD.av, NodeD.cells, List.map_cons, List.map_nil] at h40 hx9
  rw [← hxx]
  simp only [NodeD.av, NodeD.cells, List.map_cons, List.map_nil]
  generalize hg1 : g1.map AssignD.cells = G1 at h40 hx9
  generalize hw1 : w1.map WordD.cells = W1 at h40 hx9
  generalize hr1 : r1.map RedirD.cells = R1 at h40 hx9
  generalize hd1 : NodeD.cellsL d1 = D1 at h40 hx9
  generalize hi1 : ItemD.cellsL i1 = I1 at h40 hx9
  generalize hKc : NodeD.cellsL kk0 = KC at h40
  generalize hr : NodeD.cellsL ww = r
  obtain ⟨F, hF⟩ : ∃ F : Nat → List (List Dat), ∀ i, F i = xx.cells :: NodeD.cellsL ((kk0.take i).flatMap NodeD.walk) := ⟨_, fun _ => rfl⟩
  have hF0 : F 0 = [[.int .i64 k1, .int .i64 p1, .str n1, .bool a1, .list G1, .list W1, .list R1, .list D1, .list I1]] := by rw [hF, hx9]; rfl
  have h40' : call 40 [.agg [.dat (.int .i64 k1), .dat (.int .i64 p1), .dat (.str n1), .dat (.bool a1), .dat (.list G1), .dat (.list W1), .dat (.list R1), .dat (.list D1), .dat (.list I1)]] (· = .dat (.list KC)) := by
    cases hE
    exact h40
  have hLl : KC.length = kk0.length := by rw [← hKc, NodeD.cellsL_len]
  have bnd : ∀ i, ((kk0.take i).flatMap NodeD.walk).length + 1 ≤ 2097152 := fun i => by
    have := walk_take kk0 i
    omega
  clear hn hKK h40
  cbv
  refine ⟨_, h40', ?_⟩
  rintro _ rfl
  cbv
  refine .mk {i : Nat // i ≤ kk0.length} (fun q => ⟨slotsOf 24 [(3, .own 7 28 (F q.1)), (4, .dat (.list KC)), (5, .dat (.int .i64 q.1))], []⟩) (fun q => kk0.length - q.1) ⟨0, Nat.zero_le _⟩ ?_ ?_
  · cbv
    and_intros <;> first | exact True.intro | exact LeV.eq rfl | (exact LeV.ownE hF0.symm)
  · rintro ⟨i, hi⟩
    cbv
    generalize h2 : cm .lss _ _ = c2
    cases c2
    case false =>
      have hi2 : i = kk0.length := by
        cases hE
        simp [cmI, hLl] at h2
        omega
      subst hi2
      cbv
      refine .eq (.ownD _ _ ?_)
      rw [← hr, hF, List.take_length, hw]
      rfl
    case true =>
      have hi2 : i < kk0.length := by
        cases hE
        simp [cmI, hLl] at h2
        omega
      clear h2
      obtain ⟨y, hy⟩ : ∃ x, kk0[i]? = some x := ⟨_, List.getElem?_eq_getElem hi2⟩
      have cy := kk y (List.mem_of_getElem? hy)
      unfold C24 at cy
      have nx : nth KC (Int.ofNat i) y.cells 9 := by
        cases hE
        exact ⟨Int.natCast_nonneg i, by rw [← hKc]; exact NodeD.cellsL_get hy, y.cells_len⟩
      have hstep : F (i + 1) = F i ++ NodeD.cellsL y.walk := by
        rw [hF, hF]
        simp [List.take_add_one, hy, NodeD.cellsL_append]
      have hbd : bd (F i) (NodeD.cellsL y.walk) 160 := by
        cases hE
        show ((F i).length + (NodeD.cellsL y.walk).length) * 160 ≤ 140737488355328
        have := bnd (i + 1)
        rw [hF]
        simp [List.take_add_one, hy, NodeD.cellsL_len] at this ⊢
        omega
      have hss : szs (NodeD.cellsL y.walk) 9 := by
        cases hE
        exact cells9 _
      generalize hyw : NodeD.cellsL y.walk = Y at cy hstep hbd hss
      obtain ⟨k2, p2, n2, a2, g2, w2, r2, d2, i2⟩ := y
      simp only [NodeD.cells, NodeD.av, List.map_cons, List.map_nil] at nx cy
      generalize hg2 : g2.map AssignD.cells = G2 at nx cy
      generalize hw2 : w2.map WordD.cells = W2 at nx cy
      generalize hr2 : r2.map RedirD.cells = R2 at nx cy
      generalize hd2 : NodeD.cellsL d2 = D2 at nx cy
      generalize hi2' : ItemD.cellsL i2 = I2 at nx cy
      have cy' : call 24 [.agg [.dat (.int .i64 k2), .dat (.int .i64 p2), .dat (.str n2), .dat (.bool a2), .dat (.list G2), .dat (.list W2), .dat (.list R2), .dat (.list D2), .dat (.list I2)]] (· = .dat (.list Y)) := by
        cases hE
        exact cy
      cbv
      refine ⟨_, nx, ?_⟩
      cbv
      refine ⟨_, cy', ?_⟩
      rintro _ rfl
      cbv
      refine ⟨hss, hbd, ?_⟩
      refine ⟨⟨i + 1, hi2⟩, ?_, ?_⟩
      · show kk0.length - (i + 1) < kk0.length - i
        omega
      · cbv
        and_intros <;> first | exact True.intro | exact LeV.eq rfl | (exact LeV.ownE (by cases hE; exact hstep.symm)) | (exact LeV.intE (by cases hE; exact inc_id hi2 mk'))
theorem c24 (x : NodeD) (hsz : x.sz ≤ 2097152) : C24 x := by
  have key : ∀ n (x : NodeD), x.sz ≤ 2097152 → x.sz ≤ n → C24 x := fun n => by
    induction n with
    | zero => intro x _ h; have := x.sz_pos; omega
    | succ n ih => exact c24s n ih
  exact key _ x hsz (Nat.le_refl _)
end Go.Proofs.YtdfcjodkmjofgaaGreat
/-
  The program's walk: a closure that appends to a captured slice.
-/
namespace Go.Proofs.YtdfcjodkmjofgaaGreat
open Go.RowKit

/-- What holds of the mark 0 holds of every mark. -/
theorem CR.of0 {P : Program} {f : FuncId} {args : List AV} {G : Boxes} {K : AV → Boxes → Prop} (h : CR P f (AV.mk0L args) (mk0B G) K) : CR P f args G K :=
  ⟨h.en, fun w X vs hp hc => (h.run w { X with lab := fun b => (X.lab b).map fun _ => 0 } vs hp.mk0 ⟨by rw [hc.1, AV.mk0L_length], fun i c v hi hv => by
    rw [AV.mk0L_get, Option.map_eq_some_iff] at hi
    obtain ⟨c0, h0, rfl⟩ := hi
    exact VRel.mk0 (hc.2 i c0 v h0 hv)⟩).mono fun _ _ ⟨v, r, H', X', h1, h2, h3, h4, h5⟩ => ⟨v, r, H', X', h1, h2, ⟨h3.B, h3.below, h3.gs, h3.keep, h3.mn, h3.mo, h3.pm0⟩, h4, h5⟩⟩
theorem NodeD.av_bnd (n : Nat) (x : NodeD) : x.av.bnd n = true := by cases x; rfl
theorem NodeD.av_ren (l : List Nat) (x : NodeD) : x.av.ren l = x.av := by cases x; rfl
theorem NodeD.av_mk0 (x : NodeD) : x.av.mk0 = x.av := by cases x; rfl
/-- The closure's boxes: what has been gathered, and the closure itself. -/
def boxW (m : Nat) (xs : List (List Dat)) : Boxes := [(25, [.own m 28 xs]), (81, [.fn 58 [.ptr 0 0, .ptr 1 0]])]
def C58 (x : NodeD) : Prop := ∀ xs : List (List Dat), (∀ q ∈ xs, q.length = 9) → xs.length + x.sz ≤ 2097152 →
  CR Tryz.prog 58 [x.av, .ptr 0 0, .ptr 1 0] (boxW 0 xs) fun r H' => r = .tup [] ∧ H' = boxW 1000003 (xs ++ NodeD.cellsL x.walk)
/-- The contract within more boxes. -/
theorem C58.within {x : NodeD} (h : C58 x) (m : Nat) (xs : List (List Dat)) (h9 : ∀ q ∈ xs, q.length = 9) (hb : xs.length + x.sz ≤ 2097152) (R : Boxes) (hR : ∀ b ∈ R, AV.calmL b.2 = true) :
    CR Tryz.prog 58 [x.av, .ptr 0 0, .ptr 1 0] (boxW m xs ++ R) fun r H' => r = .tup [] ∧ H' = boxW 1000003 (xs ++ NodeD.cellsL x.walk) ++ R := by
  have h1 : CR Tryz.prog 58 [x.av, .ptr 0 0, .ptr 1 0] (boxW m xs) _ := CR.of0 (by
    have := h xs h9 hb
    simp only [AV.mk0L, NodeD.av_mk0, AV.mk0]
    exact this)
  have h2 := CR.frame (G := boxW m xs ++ R) [0, 1] h1 ⟨by decide, rfl, by simp only [AV.bndL, NodeD.av_bnd]; rfl, fun i T cs hi => ?_, fun o T cs ho => ?_⟩ (fun r H' hk => by rw [hk.2]; rfl)
  · simp only [AV.renL, NodeD.av_ren] at h2
    refine h2.mono fun r G' ⟨r0, H', ⟨k1, k2⟩, k3, k4⟩ => ?_
    subst k1 k2
    exact ⟨k3, k4⟩
  · match i, hi with
    | 0, hi => cases hi; exact ⟨by simp, rfl, rfl⟩
    | 1, hi => cases hi; exact ⟨by simp, rfl, rfl⟩
  · match o, ho with
    | 0, ho => exact .inl (by simp)
    | 1, ho => exact .inl (by simp)
    | o + 2, ho => exact .inr (hR _ (List.mem_of_getElem? (show R[o]? = _ from ho)))
/-- The operations of the append that are done, and those that may come next. -/
def tab58 : List (List Bool × List Nat) := [
  ([false, false, false, false, false, false, false, false], [0, 1, 3]),
  ([true, false, false, false, false, false, false, false], [1, 2, 3]),
  ([false, true, false, false, false, false, false, false], [0, 3]),
  ([false, false, false, true, false, false, false, false], [0, 1]),
  ([true, true, false, false, false, false, false, false], [2, 3]),
  ([true, false, true, false, false, false, false, false], [1, 3]),
  ([true, false, false, true, false, false, false, false], [1, 2]),
  ([false, true, false, true, false, false, false, false], [0]),
  ([true, true, true, false, false, false, false, false], [3]),
  ([true, true, false, true, false, false, false, false], [2]),
  ([true, false, true, true, false, false, false, false], [1]),
  ([true, true, true, true, false, false, false, false], [4]),
  ([true, true, true, true, true, false, false, false], [5, 7]),
  ([true, true, true, true, true, true, false, false], [6, 7]),
  ([true, true, true, true, true, false, false, true], [5]),
  ([true, true, true, true, true, true, true, false], [7]),
  ([true, true, true, true, true, true, false, true], [6]),
  ([true, true, true, true, true, true, true, true], [])]
set_option maxRecDepth 100000 in
set_option maxHeartbeats 4000000 in
theorem c58s (n : Nat) (ih : ∀ x : NodeD, x.sz ≤ n → C58 x) (x : NodeD) (hn : x.sz ≤ n + 1) : C58 x := by
  intro xs h9 hb
  have hsz : x.sz ≤ 2097152 := by omega
  have kk : ∀ y ∈ x.kidsL, C58 y := fun y hy => ih y (by have := kids_sz hy; omega)
  have ks := kids_szBy x
  have hw := x.walk_eq
  have h43 := c43 x hsz
  unfold C43 at h43
  have kl := kids_len x
  obtain ⟨k1, p1, n1, a1, g1, w1, r1, d1, i1⟩ := x
  refine crH_of_swp mixedOrders VT_ok Tryz.func58 (code := Tryz.f58.body.get (by kernel_rfl)) (by kernel_rfl) (by kernel_rfl) fun E hE hreal => ?_
  obtain ⟨ar, cm, sc, eb, wr, ln, sl, ct, ap, sb, ss, u8, mx, nth, off, sat, sok, stok, cat, bd, szs, ne, nil, call, callF⟩ := E
  clear hreal
  have mk' : (NodeD.kidsL (.mk k1 p1 n1 a1 g1 w1 r1 d1 i1)).length ≤ maxLen := by unfold maxLen; omega
  generalize hKK : NodeD.kidsL (.mk k1 p1 n1 a1 g1 w1 r1 d1 i1) = kk0 at mk' kk ks hw h43 kl
  generalize hWW : NodeD.walk (.mk k1 p1 n1 a1 g1 w1 r1 d1 i1) = ww at hw
  generalize hxx : NodeD.mk k1 p1 n1 a1 g1 w1 r1 d1 i1 = xx at hw ks hsz hn hKK hWW hb
  have hx9 : xx.cells = NodeD.cells (.mk k1 p1 n1 a1 g1 w1 r1 d1 i1) := by rw [hxx]
  simp only [NodeD.av, NodeD.cells, List.map_cons, List.map_nil] at h43 hx9
  rw [← hxx]
  simp only [NodeD.av, NodeD.cells, List.map_cons, List.map_nil]
  generalize hg1 : g1.map AssignD.cells = G1 at h43 hx9
  generalize hw1 : w1.map WordD.cells = W1 at h43 hx9
  generalize hr1 : r1.map RedirD.cells = R1 at h43 hx9
  generalize hd1 : NodeD.cellsL d1 = D1 at h43 hx9
  generalize hi1 : ItemD.cellsL i1 = I1 at h43 hx9
  generalize hKc : NodeD.cellsL kk0 = KC at h43
  obtain ⟨F, hF⟩ : ∃ F : Nat → List (List Dat), ∀ i, F i = xs ++ xx.cells :: NodeD.cellsL ((kk0.take i).flatMap NodeD.walk) := ⟨_, fun _ => rfl⟩
  have hF0 : F 0 = xs ++ [[.int .i64 k1, .int .i64 p1, .str n1, .bool a1, .list G1, .list W1, .list R1, .list D1, .list I1]] := by rw [hF, hx9]; rfl
  have hFl : F kk0.length = xs ++ NodeD.cellsL ww := by rw [hF, List.take_length, hw]; rfl
  have hap : ap xs [[.int .i64 k1, .int .i64 p1, .str n1, .bool a1, .list G1, .list W1, .list R1, .list D1, .list I1]] = F 0 := by
    cases hE
    exact hF0.symm
  have h43' : call 43 [.agg [.dat (.int .i64 k1), .dat (.int .i64 p1), .dat (.str n1), .dat (.bool a1), .dat (.list G1), .dat (.list W1), .dat (.list R1), .dat (.list D1), .dat (.list I1)]] (· = .dat (.list KC)) := by
    cases hE
    exact h43
  have hLl : KC.length = kk0.length := by rw [← hKc, NodeD.cellsL_len]
  have bnd : ∀ i, xs.length + ((kk0.take i).flatMap NodeD.walk).length + 1 ≤ 2097152 := fun i => by
    have := walk_take kk0 i
    omega
  have hss0 : szs [[.int .i64 0, .int .i64 0, .str [], .bool false, .list [], .list [], .list [], .list [], .list []]] 9 := by
    cases hE
    intro q hq
    simp at hq
    subst hq
    rfl
  have hbd0 : bd xs [[.int .i64 0, .int .i64 0, .str [], .bool false, .list [], .list [], .list [], .list [], .list []]] 160 := by
    cases hE
    show (xs.length + 1) * 160 ≤ 140737488355328
    have := xx.sz_pos
    omega
  have hoff : off xs (ln xs 0) 0 := by
    cases hE
    rfl
  clear hn hKK h43 hF0
  generalize hres : xs ++ NodeD.cellsL ww = res at hFl
  unfold boxW
  cbv
  refine .any tab58 (fun L => ⟨[.agg [.dat (.int .i64 k1), .dat (.int .i64 p1), .dat (.str n1), .dat (.bool a1), .dat (.list G1), .dat (.list W1), .dat (.list R1), .dat (.list D1), .dat (.list I1)], .ptr 0 0, .ptr 1 0, .ptr 2 0, .top, .top,
      bif L.getD 0 false then (bif L.getD 4 false then .dat (.list xs) else .own 0 28 xs) else .top,
      bif L.getD 1 false then .agg [.dat (.int .i64 k1), .dat (.int .i64 p1), .dat (.str n1), .dat (.bool a1), .dat (.list G1), .dat (.list W1), .dat (.list R1), .dat (.list D1), .dat (.list I1)] else .top,
      bif L.getD 2 false then .dat (.int .i64 (ln xs 0)) else .top,
      bif L.getD 3 false then .own 9 28 [[.int .i64 0, .int .i64 0, .str [], .bool false, .list [], .list [], .list [], .list [], .list []]] else .top,
      bif L.getD 4 false then .sl 3 28 xs 1 else .top,
      bif L.getD 5 false then .ptr 3 0 else .top, .top, .top, .top, .top, .top, .top, .top, .top, .top, .top, .top],
    [(25, [bif L.getD 7 false then .sl 3 28 xs 1 else bif L.getD 4 false then .dat (.list xs) else .own 0 28 xs]), (81, [.fn 58 [.ptr 0 0, .ptr 1 0]]), (28, [.dat (.int .i64 k1), .dat (.int .i64 p1), .dat (.str n1), .dat (.bool a1), .dat (.list G1), .dat (.list W1), .dat (.list R1), .dat (.list D1), .dat (.list I1)])] ++
      (bif L.getD 4 false then [(28, bif L.getD 6 false then [.dat (.int .i64 k1), .dat (.int .i64 p1), .dat (.str n1), .dat (.bool a1), .dat (.list G1), .dat (.list W1), .dat (.list R1), .dat (.list D1), .dat (.list I1)] else [.dat (.int .i64 0), .dat (.int .i64 0), .dat (.str []), .dat (.bool false), .dat (.list []), .dat (.list []), .dat (.list []), .dat (.list []), .dat (.list [])])] else [])⟩) [3] (by kernel_rfl) (by cbv) ?_
  cbv
  and_intros
  all_goals first | exact True.intro | exact LeV.eq rfl | exact hss0 | exact hbd0 | exact hoff | skip
  refine ⟨_, h43', ?_⟩
  rintro _ rfl
  cbv
  refine .mk {i : Nat // i ≤ kk0.length} (fun q => ⟨slotsOf 23 [(1, .ptr 0 0), (2, .ptr 1 0), (13, .dat (.list KC)), (14, .dat (.int .i64 (ln KC 0))), (15, .dat (.int .i64 q.1))], [(25, [.own 1000003 28 (F q.1)]), (81, [.fn 58 [.ptr 0 0, .ptr 1 0]])]⟩) (fun q => kk0.length - q.1) ⟨0, Nat.zero_le _⟩ ?_ ?_
  · cbv
    and_intros <;> first | exact True.intro | exact LeV.eq rfl | (exact LeV.ownE hap)
  · rintro ⟨i, hi⟩
    cbv
    generalize h2 : cm .lss _ _ = c2
    cases c2
    case false =>
      have hi2 : i = kk0.length := by
        cases hE
        simp [cmI, hLl] at h2
        omega
      subst hi2
      cbv
      refine .mk (.tup []) _ ⟨rfl, rfl⟩ rfl ?_ rfl (.eq (.eq rfl))
      cbv
      and_intros <;> first | exact True.intro | exact LeV.eq rfl | (exact LeV.ownE hFl)
    case true =>
      have hi2 : i < kk0.length := by
        cases hE
        simp [cmI, hLl] at h2
        omega
      clear h2
      obtain ⟨y, hy⟩ : ∃ x, kk0[i]? = some x := ⟨_, List.getElem?_eq_getElem hi2⟩
      have nx : nth KC (Int.ofNat i) y.cells 9 := by
        cases hE
        exact ⟨Int.natCast_nonneg i, by rw [← hKc]; exact NodeD.cellsL_get hy, y.cells_len⟩
      have hstep : F i ++ NodeD.cellsL y.walk = F (i + 1) := by
        rw [hF, hF]
        simp [List.take_add_one, hy, NodeD.cellsL_append]
      have cy := (kk y (List.mem_of_getElem? hy)).within 1000003 (F i) (fun q hq => by
        rw [hF] at hq
        rcases List.mem_append.1 hq with hq | hq
        · exact h9 q hq
        · rcases List.mem_cons.1 hq with rfl | hq
          · exact xx.cells_len
          · exact cells9 _ q hq) (by
        have h3 := szBy_mem (f := NodeD.sz) hy
        have h4 : ∀ (l : List NodeD) (i : Nat) (y : NodeD), l[i]? = some y → ((l.take i).flatMap NodeD.walk).length + y.sz ≤ szBy NodeD.sz l := fun l => by
          induction l with
          | nil => intro i y h; simp at h
          | cons z l ih =>
            intro i y h
            cases i with
            | zero => simp at h; subst h; simp [szBy]
            | succ i =>
              have := ih i y (by simpa using h)
              have h5 := z.walk_len
              simp only [List.take_succ_cons, List.flatMap_cons, List.length_append, szBy]
              omega
        have h5 := h4 kk0 i y hy
        rw [hF, List.length_append, List.length_cons, NodeD.cellsL_len]
        omega) [(28, y.cells.map .dat)] (fun b hb => by
        simp at hb
        subst hb
        cases y
        rfl)
      rw [hstep] at cy
      obtain ⟨k2, p2, n2, a2, g2, w2, r2, d2, i2⟩ := y
      simp only [NodeD.cells, NodeD.av, List.map_cons, List.map_nil] at nx cy
      generalize hg2 : g2.map AssignD.cells = G2 at nx cy
      generalize hw2 : w2.map WordD.cells = W2 at nx cy
      generalize hr2 : r2.map RedirD.cells = R2 at nx cy
      generalize hd2 : NodeD.cellsL d2 = D2 at nx cy
      generalize hi2' : ItemD.cellsL i2 = I2 at nx cy
      have cy' : callF 58 [.agg [.dat (.int .i64 k2), .dat (.int .i64 p2), .dat (.str n2), .dat (.bool a2), .dat (.list G2), .dat (.list W2), .dat (.list R2), .dat (.list D2), .dat (.list I2)], .ptr 0 0, .ptr 1 0] [(25, [.own 1000003 28 (F i)]), (81, [.fn 58 [.ptr 0 0, .ptr 1 0]]), (28, [.dat (.int .i64 k2), .dat (.int .i64 p2), .dat (.str n2), .dat (.bool a2), .dat (.list G2), .dat (.list W2), .dat (.list R2), .dat (.list D2), .dat (.list I2)])] (.tup []) [(25, [.own 1000003 28 (F (i + 1))]), (81, [.fn 58 [.ptr 0 0, .ptr 1 0]]), (28, [.dat (.int .i64 k2), .dat (.int .i64 p2), .dat (.str n2), .dat (.bool a2), .dat (.list G2), .dat (.list W2), .dat (.list R2), .dat (.list D2), .dat (.list I2)])] := by
        cases hE
        exact cy
      cbv
      refine ⟨_, nx, ?_⟩
      cbv
      refine ⟨_, _, cy', ?_⟩
      cbv
      refine ⟨⟨i + 1, hi2⟩, ?_, ?_⟩
      · show kk0.length - (i + 1) < kk0.length - i
        omega
      · cbv
        and_intros <;> first | exact True.intro | exact LeV.eq rfl | (exact LeV.intE (by cases hE; exact inc_id hi2 mk'))
theorem c58 (x : NodeD) : C58 x := by
  have key : ∀ n (x : NodeD), x.sz ≤ n → C58 x := fun n => by
    induction n with
    | zero => intro x h; have := x.sz_pos; omega
    | succ n ih => exact c58s n ih
  exact key _ x (Nat.le_refl _)
end Go.Proofs.YtdfcjodkmjofgaaGreat
/-
  Positions; nodes held against each other with all positions.
-/
namespace Go.Proofs.YtdfcjodkmjofgaaGreat
open Go.RowKit

/-- A number among numbers. -/
structure IntD where
  n : Int
def IntD.cells (x : IntD) : List Dat := [.int .i64 x.n]
def IntD.same (a b : IntD) : Bool := a.n == b.n
def AssignD.posI (a : AssignD) : IntD := ⟨a.pos⟩
def RedirD.posI (a : RedirD) : IntD := ⟨a.pos⟩
def WordD.posI (a : WordD) : IntD := ⟨a.pos⟩
mutual
def NodeD.poss : NodeD → List IntD
  | .mk k p n a g w r d is => ⟨p⟩ :: (g.map AssignD.posI ++ r.map RedirD.posI ++ (NodeD.wordsL (.mk k p n a g w r d is)).map WordD.posI ++ (NodeD.possL d ++ ItemD.possL is))
def NodeD.possL : List NodeD → List IntD
  | [] => []
  | x :: l => x.poss ++ NodeD.possL l
def ItemD.poss : ItemD → List IntD
  | .mk _ b => NodeD.possL b
def ItemD.possL : List ItemD → List IntD
  | [] => []
  | x :: l => x.poss ++ ItemD.possL l
end
theorem NodeD.possL_map (l : List NodeD) : NodeD.possL l = l.flatMap NodeD.poss := by
  induction l with
  | nil => rfl
  | cons x l ih => simp [NodeD.possL, ih]
theorem ItemD.possL_map (l : List ItemD) : ItemD.possL l = (l.flatMap ItemD.body).flatMap NodeD.poss := by
  induction l with
  | nil => rfl
  | cons x l ih =>
    cases x with
    | mk p b => simp [ItemD.possL, ih, ItemD.poss, ItemD.body, NodeD.possL_map]
theorem NodeD.poss_eq (k p : Int) (n : List UInt8) (a : Bool) (g : List AssignD) (w : List WordD) (r : List RedirD) (d : List NodeD) (is : List ItemD) : NodeD.poss (.mk k p n a g w r d is) =
    [⟨p⟩] ++ g.map AssignD.posI ++ r.map RedirD.posI ++ (NodeD.wordsL (.mk k p n a g w r d is)).map WordD.posI ++ (NodeD.kidsL (.mk k p n a g w r d is)).flatMap NodeD.poss := by
  simp [NodeD.poss, NodeD.kidsL, NodeD.possL_map, ItemD.possL_map]
theorem szBy_append {α : Type} (f : α → Nat) (l m : List α) : szBy f (l ++ m) = szBy f l + szBy f m := by
  induction l with
  | nil => simp [szBy]
  | cons x l ih => simp [szBy, ih]; omega
theorem szBy_two {α : Type} (f : α → Nat) (l : List α) : szBy (fun x => 2 * f x) l = 2 * szBy f l := by
  induction l with
  | nil => rfl
  | cons x l ih => simp [szBy, ih]; omega
theorem items_two (is : List ItemD) : (is.flatMap ItemD.pats).length + 2 * szBy NodeD.sz (is.flatMap ItemD.body) ≤ 2 * ItemD.szL is := by
  induction is with
  | nil => simp [szBy]
  | cons x l ih =>
    cases x with
    | mk p b =>
      have h1 := szBy_len WordD.sz_pos p
      simp only [List.flatMap_cons, List.length_append, szBy_append, ItemD.pats, ItemD.body, ItemD.szL, ItemD.sz, NodeD.szL_by] at ih ⊢
      omega
theorem poss_room (k p : Int) (n : List UInt8) (a : Bool) (g : List AssignD) (w : List WordD) (r : List RedirD) (d : List NodeD) (is : List ItemD) :
    1 + g.length + r.length + (NodeD.wordsL (.mk k p n a g w r d is)).length + 2 * szBy NodeD.sz (NodeD.kidsL (.mk k p n a g w r d is)) ≤ 2 * (NodeD.mk k p n a g w r d is).sz := by
  have h1 := items_two is
  have h2 := szBy_len AssignD.sz_pos g
  have h3 := szBy_len WordD.sz_pos w
  have h4 := szBy_len RedirD.sz_pos r
  simp only [NodeD.sz, NodeD.wordsL, NodeD.kidsL, List.length_append, List.length_map, szBy_append, NodeD.szL_by]
  omega
theorem NodeD.poss_len (x : NodeD) : x.poss.length ≤ 2 * x.sz := by
  have key : ∀ n (x : NodeD), x.sz ≤ n → x.poss.length ≤ 2 * x.sz := fun n => by
    induction n with
    | zero => intro x h; have := x.sz_pos; omega
    | succ n ih =>
      intro x h
      have h2 : ∀ l : List NodeD, (∀ y ∈ l, y.sz ≤ n) → (l.flatMap NodeD.poss).length ≤ 2 * szBy NodeD.sz l := fun l hl => by
        induction l with
        | nil => simp
        | cons y l ihl =>
          have h3 := ih y (hl y (by simp))
          have h4 := ihl fun z hz => hl z (by simp [hz])
          simp only [List.flatMap_cons, List.length_append, szBy]
          omega
      have h5 := h2 x.kidsL fun y hy => by have := kids_sz hy; omega
      obtain ⟨k, p, n, a, g, w, r, d, is⟩ := x
      have h6 := poss_room k p n a g w r d is
      rw [NodeD.poss_eq]
      simp only [List.length_append, List.length_map, List.length_cons, List.length_nil]
      omega
  exact key _ x (Nat.le_refl _)
theorem poss_take (l : List NodeD) (i : Nat) : ((l.take i).flatMap NodeD.poss).length ≤ 2 * szBy NodeD.sz l := by
  rw [← szBy_two]
  exact take_flat NodeD.poss (fun x => 2 * x.sz) NodeD.poss_len l i
def NodeD.exact (x y : NodeD) : Bool := x.same y && sameBy IntD.same x.poss y.poss
def C31 (a b : List IntD) : Prop := CRet Tryz.prog 31 [.dat (.list (a.map IntD.cells)), .dat (.list (b.map IntD.cells))] (· = .dat (.bool (sameBy IntD.same a b)))
set_option maxRecDepth 100000 in
set_option maxHeartbeats 4000000 in
theorem c31  (a b : List IntD): C31 a b := by
  refine cret_of_swp mixedOrders VT_ok Tryz.func31 (code := Tryz.f31.body.get (by kernel_rfl)) (by kernel_rfl) (by kernel_rfl) rfl fun E hE hreal => ?_
  obtain ⟨ar, cm, sc, eb, wr, ln, sl, ct, ap, sb, ss, u8, mx, nth, off, sat, sok, stok, cat, bd, szs, ne, nil, call, callF⟩ := E
  have hmax : a.length ≤ maxLen := by have := real_list (hreal 0 _ rfl); rwa [List.length_map] at this
  clear hreal
  generalize hA : a.map IntD.cells = A
  generalize hB : b.map IntD.cells = B
  generalize hr : sameBy IntD.same a b = r
  cbv
  generalize h1 : cm .neq _ _ = c1
  cases c1
  case true =>
    cbv
    refine .eq (.boolE ?_)
    rw [← hr]
    cases hq : sameBy IntD.same a b with
    | false => rfl
    | true =>
      have := (sameBy_iff.1 hq).1
      cases hE
      simp [cmI] at h1
      rw [← hA, ← hB, List.length_map, List.length_map] at h1
      omega
  case false =>
    cbv
    have hAl : A.length = a.length := by rw [← hA, List.length_map]
    have hBl : B.length = b.length := by rw [← hB, List.length_map]
    have hlen : a.length = b.length := by
      cases hE
      simp [cmI] at h1
      omega
    refine .mk {i : Nat // i ≤ a.length ∧ ∀ (j : Nat) (x y : IntD), j < i → a[j]? = some x → b[j]? = some y → IntD.same x y = true} (fun i => ⟨slotsOf 26 [(0, .dat (.list A)), (1, .dat (.list B)), (5, .dat (.int .i64 i.1))], []⟩) (fun i => a.length - i.1) ⟨0, Nat.zero_le _, fun j x y h => by omega⟩ ?_ ?_
    · cbv
      exact ⟨⟨.eq rfl, .eq rfl, .eq rfl, trivial⟩, trivial⟩
    · rintro ⟨i, hi, hs⟩
      cbv
      generalize h2 : cm .lss _ _ = c2
      cases c2
      case false =>
        cbv
        have hi2 : i = a.length := by
          cases hE
          simp [cmI, hAl] at h2
          omega
        refine .eq (.boolE ?_)
        rw [← hr]
        refine (sameBy_iff.2 ⟨hlen, fun j x y hx hy => hs j x y ?_ hx hy⟩).symm
        rw [hi2]
        exact (List.getElem?_eq_some_iff.1 hx).1
      case true =>
        have hi2 : i < a.length := by
          cases hE
          simp [cmI, hAl] at h2
          omega
        obtain ⟨x, hx⟩ : ∃ x, a[i]? = some x := ⟨_, List.getElem?_eq_getElem hi2⟩
        obtain ⟨y, hy⟩ : ∃ y, b[i]? = some y := ⟨_, List.getElem?_eq_getElem (hlen ▸ hi2)⟩
        obtain ⟨k1⟩ := x
        obtain ⟨k2⟩ := y
        have nx : nth A (Int.ofNat i) (IntD.cells ⟨k1⟩) 1 := by
          cases hE
          exact ⟨Int.natCast_nonneg i, by rw [← hA]; simp [hx], rfl⟩
        have ny : nth B (Int.ofNat i) (IntD.cells ⟨k2⟩) 1 := by
          cases hE
          exact ⟨Int.natCast_nonneg i, by rw [← hB]; simp [hy], rfl⟩
        simp only [IntD.cells] at nx ny

        have bad : IntD.same ⟨k1⟩ ⟨k2⟩ = false → false = r := fun h => by
          rw [← hr]
          cases hq : sameBy IntD.same a b with
          | false => rfl
          | true =>
            have := (sameBy_iff.1 hq).2 i _ _ hx hy
            rw [h] at this
            cases this
        have next : IntD.same ⟨k1⟩ ⟨k2⟩ = true → ∀ (j : Nat) (x y : IntD), j < i + 1 → a[j]? = some x → b[j]? = some y → IntD.same x y = true := fun hxy j x y hj hx' hy' => by
          rcases Nat.lt_succ_iff_lt_or_eq.1 hj with h | rfl
          · exact hs j x y h hx' hy'
          · rw [hx] at hx'
            rw [hy] at hy'
            injection hx' with hx'
            injection hy' with hy'
            subst hx' hy'
            exact hxy
        cbv
        refine .quiet (by kernel_rfl) ?_
        cbv
        refine ⟨_, nx, ?_⟩
        cbv
        refine ⟨_, ny, ?_⟩
        cbv
        generalize h3 : cm .neq _ _ = c3
        cases c3
        case true =>
          cbv
          refine .eq (.boolE (bad ?_))
          cases hE
          simp [cmI] at h3
          simp [IntD.same, h3]
        cbv
        have hxy := next (by
          cases hE
          simp [cmI] at h3
          simp [IntD.same, h3])
        refine ⟨⟨i + 1, hi2, hxy⟩, ?_, ?_⟩
        · show a.length - (i + 1) < a.length - i
          omega
        · cbv
          exact ⟨⟨.eq rfl, .eq rfl, .intE (by cases hE; exact inc_id hi2 hmax), trivial⟩, trivial⟩


def C61 (x : NodeD) : Prop := CRet Tryz.prog 61 [x.av] (· = .dat (.list (x.poss.map IntD.cells)))
set_option maxRecDepth 100000 in
set_option maxHeartbeats 4000000 in
theorem c61s (n : Nat) (ih : ∀ x : NodeD, x.sz ≤ 2097152 → x.sz ≤ n → C61 x) (x : NodeD) (hsz : x.sz ≤ 2097152) (hn : x.sz ≤ n + 1) : C61 x := by
  have kk : ∀ y ∈ x.kidsL, C61 y := fun y hy => ih y (by have := kids_sz hy; omega) (by have := kids_sz hy; omega)
  have kl := kids_len x
  have wl := words_len x
  obtain ⟨k1, p1, n1, a1, g1, w1, r1, d1, i1⟩ := x
  have room := poss_room k1 p1 n1 a1 g1 w1 r1 d1 i1
  have hpe := NodeD.poss_eq k1 p1 n1 a1 g1 w1 r1 d1 i1
  unfold C61
  refine cret_of_swp mixedOrders VT_ok Tryz.func61 (code := Tryz.f61.body.get (by kernel_rfl)) (by kernel_rfl) (by kernel_rfl) rfl fun E hE hreal => ?_
  obtain ⟨ar, cm, sc, eb, wr, ln, sl, ct, ap, sb, ss, u8, mx, nth, off, sat, sok, stok, cat, bd, szs, ne, nil, call, callF⟩ := E
  clear hreal
  have mg : g1.length ≤ maxLen := by unfold maxLen; have := szBy_len AssignD.sz_pos g1; simp only [NodeD.sz] at hsz; omega
  have mr : r1.length ≤ maxLen := by unfold maxLen; have := szBy_len RedirD.sz_pos r1; simp only [NodeD.sz] at hsz; omega
  have mw : (NodeD.wordsL (.mk k1 p1 n1 a1 g1 w1 r1 d1 i1)).length ≤ maxLen := by unfold maxLen; omega
  have mk' : (NodeD.kidsL (.mk k1 p1 n1 a1 g1 w1 r1 d1 i1)).length ≤ maxLen := by unfold maxLen; omega
  have h38 := c38 (.mk k1 p1 n1 a1 g1 w1 r1 d1 i1) hsz
  have h40 := c40 (.mk k1 p1 n1 a1 g1 w1 r1 d1 i1) hsz
  unfold C38 at h38
  unfold C40 at h40
  simp only [NodeD.av, NodeD.cells, List.map_cons, List.map_nil] at h38 h40 ⊢
  generalize hWW : NodeD.wordsL (.mk k1 p1 n1 a1 g1 w1 r1 d1 i1) = ww at mw hpe room h38
  generalize hKK : NodeD.kidsL (.mk k1 p1 n1 a1 g1 w1 r1 d1 i1) = kk0 at mk' kk hpe room h40
  generalize hPP : NodeD.poss (.mk k1 p1 n1 a1 g1 w1 r1 d1 i1) = pp at hpe
  generalize hg1 : g1.map AssignD.cells = G1 at h38 h40
  generalize hw1 : w1.map WordD.cells = W1 at h38 h40
  generalize hr1 : r1.map RedirD.cells = R1 at h38 h40
  generalize hd1 : NodeD.cellsL d1 = D1 at h38 h40
  generalize hi1 : ItemD.cellsL i1 = I1 at h38 h40
  generalize hWc : ww.map WordD.cells = WC at h38
  generalize hKc : NodeD.cellsL kk0 = KC at h40
  replace h38 : call 38 [.agg [.dat (.int .i64 k1), .dat (.int .i64 p1), .dat (.str n1), .dat (.bool a1), .dat (.list G1), .dat (.list W1), .dat (.list R1), .dat (.list D1), .dat (.list I1)]] (· = .dat (.list WC)) := by
    cases hE
    exact h38
  replace h40 : call 40 [.agg [.dat (.int .i64 k1), .dat (.int .i64 p1), .dat (.str n1), .dat (.bool a1), .dat (.list G1), .dat (.list W1), .dat (.list R1), .dat (.list D1), .dat (.list I1)]] (· = .dat (.list KC)) := by
    cases hE
    exact h40
  generalize hr : pp.map IntD.cells = r
  rw [hpe] at hr
  obtain ⟨F1, hF1⟩ : ∃ F : Nat → List (List Dat), ∀ i, F i = ([(⟨p1⟩ : IntD)] ++ (g1.take i).map AssignD.posI).map IntD.cells := ⟨_, fun _ => rfl⟩
  obtain ⟨F2, hF2⟩ : ∃ F : Nat → List (List Dat), ∀ i, F i = ([(⟨p1⟩ : IntD)] ++ g1.map AssignD.posI ++ (r1.take i).map RedirD.posI).map IntD.cells := ⟨_, fun _ => rfl⟩
  obtain ⟨F3, hF3⟩ : ∃ F : Nat → List (List Dat), ∀ i, F i = ([(⟨p1⟩ : IntD)] ++ g1.map AssignD.posI ++ r1.map RedirD.posI ++ (ww.take i).map WordD.posI).map IntD.cells := ⟨_, fun _ => rfl⟩
  obtain ⟨F4, hF4⟩ : ∃ F : Nat → List (List Dat), ∀ i, F i = ([(⟨p1⟩ : IntD)] ++ g1.map AssignD.posI ++ r1.map RedirD.posI ++ ww.map WordD.posI ++ (kk0.take i).flatMap NodeD.poss).map IntD.cells := ⟨_, fun _ => rfl⟩
  have hs1 : [[Dat.int .i64 p1]] = F1 0 := by
    rw [hF1]
    simp [IntD.cells]
  generalize hNN : (NodeD.mk k1 p1 n1 a1 g1 w1 r1 d1 i1).sz = nn at hsz room
  clear kl wl hn hWW hKK hPP
  cbv
  have hLl1 : G1.length = g1.length := by rw [← hg1, List.length_map]
  refine .mk {i : Nat // i ≤ g1.length} (fun q => ⟨slotsOf 77 [(1, .ptr 0 0), (3, .own 12 3 (F1 q.1)), (4, .dat (.int .i64 q.1))], [(28, [.dat (.int .i64 k1), .dat (.int .i64 p1), .dat (.str n1), .dat (.bool a1), .dat (.list G1), .dat (.list W1), .dat (.list R1), .dat (.list D1), .dat (.list I1)])]⟩) (fun q => g1.length - q.1) ⟨0, Nat.zero_le _⟩ ?_ ?_
  · cbv
    and_intros <;> first | exact True.intro | exact LeV.eq rfl | (exact LeV.ownE hs1)
  · rintro ⟨i, hi⟩
    cbv
    generalize h2 : cm .lss _ _ = c2
    cases c2
    case false =>
      have hi2 : i = g1.length := by
        cases hE
        simp [cmI, hLl1] at h2
        omega
      subst hi2
      cbv
      have hs2 : F1 g1.length = F2 0 := by
        rw [hF1, hF2]
        simp
      have hLl2 : R1.length = r1.length := by rw [← hr1, List.length_map]
      refine .mk {i : Nat // i ≤ r1.length} (fun q => ⟨slotsOf 77 [(1, .ptr 0 0), (3, .own 12 3 (F2 q.1)), (5, .dat (.int .i64 q.1))], [(28, [.dat (.int .i64 k1), .dat (.int .i64 p1), .dat (.str n1), .dat (.bool a1), .dat (.list G1), .dat (.list W1), .dat (.list R1), .dat (.list D1), .dat (.list I1)])]⟩) (fun q => r1.length - q.1) ⟨0, Nat.zero_le _⟩ ?_ ?_
      · cbv
        and_intros <;> first | exact True.intro | exact LeV.eq rfl | (exact LeV.ownE hs2)
      · rintro ⟨i, hi⟩
        cbv
        generalize h2 : cm .lss _ _ = c2
        cases c2
        case false =>
          have hi2 : i = r1.length := by
            cases hE
            simp [cmI, hLl2] at h2
            omega
          subst hi2
          cbv
          refine ⟨_, h38, ?_⟩
          rintro _ rfl
          cbv
          have hs3 : F2 r1.length = F3 0 := by
            rw [hF2, hF3]
            simp
          have hLl3 : WC.length = ww.length := by rw [← hWc, List.length_map]
          refine .mk {i : Nat // i ≤ ww.length} (fun q => ⟨slotsOf 77 [(1, .ptr 0 0), (3, .own 12 3 (F3 q.1)), (6, .dat (.list WC)), (7, .dat (.int .i64 q.1))], [(28, [.dat (.int .i64 k1), .dat (.int .i64 p1), .dat (.str n1), .dat (.bool a1), .dat (.list G1), .dat (.list W1), .dat (.list R1), .dat (.list D1), .dat (.list I1)])]⟩) (fun q => ww.length - q.1) ⟨0, Nat.zero_le _⟩ ?_ ?_
          · cbv
            and_intros <;> first | exact True.intro | exact LeV.eq rfl | (exact LeV.ownE hs3)
          · rintro ⟨i, hi⟩
            cbv
            generalize h2 : cm .lss _ _ = c2
            cases c2
            case false =>
              have hi2 : i = ww.length := by
                cases hE
                simp [cmI, hLl3] at h2
                omega
              subst hi2
              cbv
              refine ⟨_, h40, ?_⟩
              rintro _ rfl
              cbv
              have hs4 : F3 ww.length = F4 0 := by
                rw [hF3, hF4]
                simp
              have hLl4 : KC.length = kk0.length := by rw [← hKc, NodeD.cellsL_len]
              refine .mk {i : Nat // i ≤ kk0.length} (fun q => ⟨slotsOf 77 [(1, .ptr 0 0), (3, .own 12 3 (F4 q.1)), (8, .dat (.list KC)), (9, .dat (.int .i64 q.1))], [(28, [.dat (.int .i64 k1), .dat (.int .i64 p1), .dat (.str n1), .dat (.bool a1), .dat (.list G1), .dat (.list W1), .dat (.list R1), .dat (.list D1), .dat (.list I1)])]⟩) (fun q => kk0.length - q.1) ⟨0, Nat.zero_le _⟩ ?_ ?_
              · cbv
                and_intros <;> first | exact True.intro | exact LeV.eq rfl | (exact LeV.ownE hs4)
              · rintro ⟨i, hi⟩
                cbv
                generalize h2 : cm .lss _ _ = c2
                cases c2
                case false =>
                  have hi2 : i = kk0.length := by
                    cases hE
                    simp [cmI, hLl4] at h2
                    omega
                  subst hi2
                  cbv
                  refine .eq (.ownD _ _ ?_)
                  rw [← hr, hF4, List.take_length]
                case true =>
                  have hi2 : i < kk0.length := by
                    cases hE
                    simp [cmI, hLl4] at h2
                    omega
                  clear h2
                  obtain ⟨x, hx⟩ : ∃ x, kk0[i]? = some x := ⟨_, List.getElem?_eq_getElem hi2⟩
                  have cy := kk x (List.mem_of_getElem? hx)
                  unfold C61 at cy
                  have hstep : F4 i ++ x.poss.map IntD.cells = F4 (i + 1) := by
                    rw [hF4, hF4]
                    simp [List.take_add_one, hx]
                  have hss : szs (x.poss.map IntD.cells) 1 := by
                    cases hE
                    intro q hq
                    obtain ⟨z, _, rfl⟩ := List.mem_map.1 hq
                    rfl
                  have hbd : bd (F4 i) (x.poss.map IntD.cells) 8 := by
                    cases hE
                    show ((F4 i).length + (x.poss.map IntD.cells).length) * 8 ≤ 140737488355328
                    have h5 := poss_take kk0 (i + 1)
                    rw [hF4]
                    simp [List.take_add_one, hx] at h5 ⊢
                    omega
                  have nx : nth KC (Int.ofNat i) x.cells 9 := by
                    cases hE
                    exact ⟨Int.natCast_nonneg i, by rw [← hKc]; exact NodeD.cellsL_get hx, x.cells_len⟩
                  generalize hyw : x.poss.map IntD.cells = Y at cy hstep hbd hss
                  obtain ⟨k2, p2, n2, a2, g2, w2, r2, d2, i2⟩ := x
                  simp only [NodeD.cells, NodeD.av, List.map_cons, List.map_nil] at nx cy
                  generalize hg2 : g2.map AssignD.cells = G2 at nx cy
                  generalize hw2 : w2.map WordD.cells = W2 at nx cy
                  generalize hr2 : r2.map RedirD.cells = R2 at nx cy
                  generalize hd2 : NodeD.cellsL d2 = D2 at nx cy
                  generalize hi2' : ItemD.cellsL i2 = I2 at nx cy
                  have cy' : call 61 [.agg [.dat (.int .i64 k2), .dat (.int .i64 p2), .dat (.str n2), .dat (.bool a2), .dat (.list G2), .dat (.list W2), .dat (.list R2), .dat (.list D2), .dat (.list I2)]] (· = .dat (.list Y)) := by
                    cases hE
                    exact cy
                  cbv
                  refine ⟨_, nx, ?_⟩
                  cbv
                  refine ⟨_, cy', ?_⟩
                  rintro _ rfl
                  cbv
                  refine ⟨hss, hbd, ?_⟩
                  refine ⟨⟨i + 1, hi2⟩, ?_, ?_⟩
                  · show kk0.length - (i + 1) < kk0.length - i
                    omega
                  · cbv
                    and_intros <;> first | exact True.intro | exact LeV.eq rfl | (exact LeV.ownE (by cases hE; exact hstep)) | (exact LeV.intE (by cases hE; exact inc_id hi2 mk'))
            case true =>
              have hi2 : i < ww.length := by
                cases hE
                simp [cmI, hLl3] at h2
                omega
              clear h2
              obtain ⟨x, hx⟩ : ∃ x, ww[i]? = some x := ⟨_, List.getElem?_eq_getElem hi2⟩
              obtain ⟨v2, q2⟩ := x
              have nx : nth WC (Int.ofNat i) (WordD.cells ⟨v2, q2⟩) 2 := by
                cases hE
                exact ⟨Int.natCast_nonneg i, by rw [← hWc]; simp [hx], rfl⟩
              have hstep : F3 i ++ [[.int .i64 v2]] = F3 (i + 1) := by
                rw [hF3, hF3]
                simp [List.take_add_one, hx, WordD.posI, IntD.cells]
              have hss : szs [[.int .i64 v2]] 1 := by
                cases hE
                intro q hq
                simp at hq
                subst hq
                rfl
              have hbd : bd (F3 i) [[.int .i64 v2]] 8 := by
                cases hE
                show ((F3 i).length + 1) * 8 ≤ 140737488355328
                rw [hF3]
                simp
                omega
              simp only [WordD.cells] at nx
              generalize hq2 : PartD.cellsL q2 = Q2 at nx
              cbv
              refine ⟨_, nx, ?_⟩
              cbv
              refine ⟨hss, hbd, ?_⟩
              refine ⟨⟨i + 1, hi2⟩, ?_, ?_⟩
              · show ww.length - (i + 1) < ww.length - i
                omega
              · cbv
                and_intros <;> first | exact True.intro | exact LeV.eq rfl | (exact LeV.ownE (by cases hE; exact hstep)) | (exact LeV.intE (by cases hE; exact inc_id hi2 mw))
        case true =>
          have hi2 : i < r1.length := by
            cases hE
            simp [cmI, hLl2] at h2
            omega
          clear h2
          obtain ⟨x, hx⟩ : ∃ x, r1[i]? = some x := ⟨_, List.getElem?_eq_getElem hi2⟩
          obtain ⟨v2, f2, o2, t2, q2⟩ := x
          have nx : nth R1 (Int.ofNat i) (RedirD.cells ⟨v2, f2, o2, t2, q2⟩) 5 := by
            cases hE
            exact ⟨Int.natCast_nonneg i, by rw [← hr1]; simp [hx], rfl⟩
          have hstep : F2 i ++ [[.int .i64 v2]] = F2 (i + 1) := by
            rw [hF2, hF2]
            simp [List.take_add_one, hx, RedirD.posI, IntD.cells]
          have hss : szs [[.int .i64 v2]] 1 := by
            cases hE
            intro q hq
            simp at hq
            subst hq
            rfl
          have hbd : bd (F2 i) [[.int .i64 v2]] 8 := by
            cases hE
            show ((F2 i).length + 1) * 8 ≤ 140737488355328
            rw [hF2]
            simp
            omega
          simp only [RedirD.cells] at nx
          generalize hq2 : PartD.cellsL q2 = Q2 at nx
          cbv
          refine ⟨_, nx, ?_⟩
          cbv
          refine ⟨hss, hbd, ?_⟩
          refine ⟨⟨i + 1, hi2⟩, ?_, ?_⟩
          · show r1.length - (i + 1) < r1.length - i
            omega
          · cbv
            and_intros <;> first | exact True.intro | exact LeV.eq rfl | (exact LeV.ownE (by cases hE; exact hstep)) | (exact LeV.intE (by cases hE; exact inc_id hi2 mr))
    case true =>
      have hi2 : i < g1.length := by
        cases hE
        simp [cmI, hLl1] at h2
        omega
      clear h2
      obtain ⟨x, hx⟩ : ∃ x, g1[i]? = some x := ⟨_, List.getElem?_eq_getElem hi2⟩
      obtain ⟨v2, t2, u2, q2⟩ := x
      have nx : nth G1 (Int.ofNat i) (AssignD.cells ⟨v2, t2, u2, q2⟩) 4 := by
        cases hE
        exact ⟨Int.natCast_nonneg i, by rw [← hg1]; simp [hx], rfl⟩
      have hstep : F1 i ++ [[.int .i64 v2]] = F1 (i + 1) := by
        rw [hF1, hF1]
        simp [List.take_add_one, hx, AssignD.posI, IntD.cells]
      have hss : szs [[.int .i64 v2]] 1 := by
        cases hE
        intro q hq
        simp at hq
        subst hq
        rfl
      have hbd : bd (F1 i) [[.int .i64 v2]] 8 := by
        cases hE
        show ((F1 i).length + 1) * 8 ≤ 140737488355328
        rw [hF1]
        simp
        omega
      simp only [AssignD.cells] at nx
      generalize hq2 : PartD.cellsL q2 = Q2 at nx
      cbv
      refine ⟨_, nx, ?_⟩
      cbv
      refine ⟨hss, hbd, ?_⟩
      refine ⟨⟨i + 1, hi2⟩, ?_, ?_⟩
      · show g1.length - (i + 1) < g1.length - i
        omega
      · cbv
        and_intros <;> first | exact True.intro | exact LeV.eq rfl | (exact LeV.ownE (by cases hE; exact hstep)) | (exact LeV.intE (by cases hE; exact inc_id hi2 mg))
theorem c61 (x : NodeD) (hsz : x.sz ≤ 2097152) : C61 x := by
  have key : ∀ n (x : NodeD), x.sz ≤ 2097152 → x.sz ≤ n → C61 x := fun n => by
    induction n with
    | zero => intro x _ h; have := x.sz_pos; omega
    | succ n ih => exact c61s n ih
  exact key _ x hsz (Nat.le_refl _)
end Go.Proofs.YtdfcjodkmjofgaaGreat
/-
  Nodes held against each other with all positions; the program's walk.
-/
namespace Go.Proofs.YtdfcjodkmjofgaaGreat
open Go.RowKit

def tab27 : List (List Bool × List Nat) := [
  ([false, false, false, false, false, false, false, false, false, false, false], [0, 1]),
  ([false, true, false, false, false, false, false, false, false, false, false], [0]),
  ([true, false, false, false, false, false, false, false, false, false, false], [1]),
  ([true, true, false, false, false, false, false, false, false, false, false], [2]),
  ([true, true, true, false, false, false, false, false, false, false, false], [3]),
  ([true, true, true, true, false, false, false, false, false, false, false], [4, 6]),
  ([true, true, true, true, false, false, true, false, false, false, false], [4]),
  ([true, true, true, true, true, false, false, false, false, false, false], [5, 6]),
  ([true, true, true, true, true, true, false, false, false, false, false], [6]),
  ([true, true, true, true, true, false, true, false, false, false, false], [5]),
  ([true, true, true, true, true, true, true, false, false, false, false], [7]),
  ([true, true, true, true, true, true, true, true, false, false, false], [8]),
  ([true, true, true, true, true, true, true, true, true, false, false], [9]),
  ([true, true, true, true, true, true, true, true, true, true, false], [10]),
  ([true, true, true, true, true, true, true, true, true, true, true], [])]
def C27 (x y : NodeD) : Prop := CRet Tryz.prog 27 [x.av, y.av] (· = .dat (.bool (x.exact y)))
set_option maxRecDepth 100000 in
set_option maxHeartbeats 4000000 in
theorem c27 (x y : NodeD) (hx : x.sz ≤ 2097152) (hy : y.sz ≤ 2097152) : C27 x y := by
  have h21 := c21 x y
  have h61x := c61 x hx
  have h61y := c61 y hy
  have h31 := c31 x.poss y.poss
  have hr : x.exact y = (x.same y && sameBy IntD.same x.poss y.poss) := rfl
  unfold C27
  unfold C21 at h21
  unfold C61 at h61x h61y
  unfold C31 at h31
  generalize x.exact y = r at hr
  generalize x.same y = q at hr h21
  generalize sameBy IntD.same x.poss y.poss = e at hr h31
  generalize x.poss.map IntD.cells = PX at h61x h31
  generalize y.poss.map IntD.cells = PY at h61y h31
  obtain ⟨k1, p1, n1, a1, g1, w1, r1, d1, i1⟩ := x
  obtain ⟨k2, p2, n2, a2, g2, w2, r2, d2, i2⟩ := y
  refine cret_of_swp mixedOrders VT_ok Tryz.func27 (code := Tryz.f27.body.get (by kernel_rfl)) (by kernel_rfl) (by kernel_rfl) rfl fun E hE hreal => ?_
  obtain ⟨ar, cm, sc, eb, wr, ln, sl, ct, ap, sb, ss, u8, mx, nth, off, sat, sok, stok, cat, bd, szs, ne, nil, call, callF⟩ := E
  clear hreal
  simp only [NodeD.av, NodeD.cells, List.map_cons, List.map_nil] at h21 h61x h61y ⊢
  generalize hg1 : g1.map AssignD.cells = G1 at h21 h61x
  generalize hw1 : w1.map WordD.cells = W1 at h21 h61x
  generalize hr1 : r1.map RedirD.cells = R1 at h21 h61x
  generalize hd1 : NodeD.cellsL d1 = D1 at h21 h61x
  generalize hi1 : ItemD.cellsL i1 = I1 at h21 h61x
  generalize hg2 : g2.map AssignD.cells = G2 at h21 h61y
  generalize hw2 : w2.map WordD.cells = W2 at h21 h61y
  generalize hr2 : r2.map RedirD.cells = R2 at h21 h61y
  generalize hd2 : NodeD.cellsL d2 = D2 at h21 h61y
  generalize hi2 : ItemD.cellsL i2 = I2 at h21 h61y
  replace h21 : call 21 [.agg [.dat (.int .i64 k1), .dat (.int .i64 p1), .dat (.str n1), .dat (.bool a1), .dat (.list G1), .dat (.list W1), .dat (.list R1), .dat (.list D1), .dat (.list I1)], .agg [.dat (.int .i64 k2), .dat (.int .i64 p2), .dat (.str n2), .dat (.bool a2), .dat (.list G2), .dat (.list W2), .dat (.list R2), .dat (.list D2), .dat (.list I2)]] (· = .dat (.bool q)) := by
    cases hE
    exact h21
  replace h61x : call 61 [.agg [.dat (.int .i64 k1), .dat (.int .i64 p1), .dat (.str n1), .dat (.bool a1), .dat (.list G1), .dat (.list W1), .dat (.list R1), .dat (.list D1), .dat (.list I1)]] (· = .dat (.list PX)) := by
    cases hE
    exact h61x
  replace h61y : call 61 [.agg [.dat (.int .i64 k2), .dat (.int .i64 p2), .dat (.str n2), .dat (.bool a2), .dat (.list G2), .dat (.list W2), .dat (.list R2), .dat (.list D2), .dat (.list I2)]] (· = .dat (.list PY)) := by
    cases hE
    exact h61y
  replace h31 : call 31 [.dat (.list PX), .dat (.list PY)] (· = .dat (.bool e)) := by
    cases hE
    exact h31
  cases q
  case false =>
    have hr : false = r := hr.symm
    cbv
    refine .any tab27 (fun L => ⟨[.agg [.dat (.int .i64 k1), .dat (.int .i64 p1), .dat (.str n1), .dat (.bool a1), .dat (.list G1), .dat (.list W1), .dat (.list R1), .dat (.list D1), .dat (.list I1)], .agg [.dat (.int .i64 k2), .dat (.int .i64 p2), .dat (.str n2), .dat (.bool a2), .dat (.list G2), .dat (.list W2), .dat (.list R2), .dat (.list D2), .dat (.list I2)], .ptr 0 0, .ptr 1 0, bif L.getD 10 false then .dat (.bool false) else .dat (.bool false), bif L.getD 0 false then .agg [.dat (.int .i64 k1), .dat (.int .i64 p1), .dat (.str n1), .dat (.bool a1), .dat (.list G1), .dat (.list W1), .dat (.list R1), .dat (.list D1), .dat (.list I1)] else .top, bif L.getD 1 false then .agg [.dat (.int .i64 k2), .dat (.int .i64 p2), .dat (.str n2), .dat (.bool a2), .dat (.list G2), .dat (.list W2), .dat (.list R2), .dat (.list D2), .dat (.list I2)] else .top, bif L.getD 2 false then .dat (.bool false) else .top, bif L.getD 3 false then .dat (.bool false) else .top, .top, .top, .top, .top, .top, bif L.getD 9 false then .dat (.bool false) else .top], [(28, [.dat (.int .i64 k1), .dat (.int .i64 p1), .dat (.str n1), .dat (.bool a1), .dat (.list G1), .dat (.list W1), .dat (.list R1), .dat (.list D1), .dat (.list I1)]), (28, [.dat (.int .i64 k2), .dat (.int .i64 p2), .dat (.str n2), .dat (.bool a2), .dat (.list G2), .dat (.list W2), .dat (.list R2), .dat (.list D2), .dat (.list I2)])]⟩) [] (by kernel_rfl) (by cbv) ?_
    cbv
    and_intros
    all_goals first | exact True.intro | exact LeV.eq rfl | (refine ⟨_, h21, ?_⟩; rintro _ rfl; cbv; and_intros <;> first | exact True.intro | exact LeV.eq rfl) | exact .eq (.boolE hr)
  case true =>
    have hr : e = r := hr.symm
    cbv
    refine .any tab27 (fun L => ⟨[.agg [.dat (.int .i64 k1), .dat (.int .i64 p1), .dat (.str n1), .dat (.bool a1), .dat (.list G1), .dat (.list W1), .dat (.list R1), .dat (.list D1), .dat (.list I1)], .agg [.dat (.int .i64 k2), .dat (.int .i64 p2), .dat (.str n2), .dat (.bool a2), .dat (.list G2), .dat (.list W2), .dat (.list R2), .dat (.list D2), .dat (.list I2)], .ptr 0 0, .ptr 1 0, bif L.getD 10 false then .dat (.bool e) else .dat (.bool false), bif L.getD 0 false then .agg [.dat (.int .i64 k1), .dat (.int .i64 p1), .dat (.str n1), .dat (.bool a1), .dat (.list G1), .dat (.list W1), .dat (.list R1), .dat (.list D1), .dat (.list I1)] else .top, bif L.getD 1 false then .agg [.dat (.int .i64 k2), .dat (.int .i64 p2), .dat (.str n2), .dat (.bool a2), .dat (.list G2), .dat (.list W2), .dat (.list R2), .dat (.list D2), .dat (.list I2)] else .top, bif L.getD 2 false then .dat (.bool true) else .top, bif L.getD 3 false then .dat (.bool true) else .top, bif L.getD 4 false then .agg [.dat (.int .i64 k1), .dat (.int .i64 p1), .dat (.str n1), .dat (.bool a1), .dat (.list G1), .dat (.list W1), .dat (.list R1), .dat (.list D1), .dat (.list I1)] else .top, bif L.getD 5 false then .dat (.list PX) else .top, bif L.getD 6 false then .agg [.dat (.int .i64 k2), .dat (.int .i64 p2), .dat (.str n2), .dat (.bool a2), .dat (.list G2), .dat (.list W2), .dat (.list R2), .dat (.list D2), .dat (.list I2)] else .top, bif L.getD 7 false then .dat (.list PY) else .top, bif L.getD 8 false then .dat (.bool e) else .top, bif L.getD 9 false then .dat (.bool e) else .top], [(28, [.dat (.int .i64 k1), .dat (.int .i64 p1), .dat (.str n1), .dat (.bool a1), .dat (.list G1), .dat (.list W1), .dat (.list R1), .dat (.list D1), .dat (.list I1)]), (28, [.dat (.int .i64 k2), .dat (.int .i64 p2), .dat (.str n2), .dat (.bool a2), .dat (.list G2), .dat (.list W2), .dat (.list R2), .dat (.list D2), .dat (.list I2)])]⟩) [] (by kernel_rfl) (by cbv) ?_
    cbv
    and_intros
    all_goals first | exact True.intro | exact LeV.eq rfl | (refine ⟨_, h21, ?_⟩; rintro _ rfl; cbv; and_intros <;> first | exact True.intro | exact LeV.eq rfl) | (refine ⟨_, h61x, ?_⟩; rintro _ rfl; cbv; and_intros <;> first | exact True.intro | exact LeV.eq rfl) | (refine ⟨_, h61y, ?_⟩; rintro _ rfl; cbv; and_intros <;> first | exact True.intro | exact LeV.eq rfl) | (refine ⟨_, h31, ?_⟩; rintro _ rfl; cbv; and_intros <;> first | exact True.intro | exact LeV.eq rfl) | exact .eq (.boolE hr)
def C22 (a b : List NodeD) : Prop := CRet Tryz.prog 22 [.dat (.list (NodeD.cellsL a)), .dat (.list (NodeD.cellsL b))] (· = .dat (.bool (sameBy NodeD.exact a b)))
set_option maxRecDepth 100000 in
set_option maxHeartbeats 4000000 in
theorem c22  (a b : List NodeD) (ha : ∀ x ∈ a, x.sz ≤ 2097152) (hb : ∀ x ∈ b, x.sz ≤ 2097152): C22 a b := by
  refine cret_of_swp mixedOrders VT_ok Tryz.func22 (code := Tryz.f22.body.get (by kernel_rfl)) (by kernel_rfl) (by kernel_rfl) rfl fun E hE hreal => ?_
  obtain ⟨ar, cm, sc, eb, wr, ln, sl, ct, ap, sb, ss, u8, mx, nth, off, sat, sok, stok, cat, bd, szs, ne, nil, call, callF⟩ := E
  have hmax : a.length ≤ maxLen := by have := real_list (hreal 0 _ rfl); rwa [NodeD.cellsL_len] at this
  clear hreal
  generalize hA : NodeD.cellsL a = A
  generalize hB : NodeD.cellsL b = B
  generalize hr : sameBy NodeD.exact a b = r
  cbv
  generalize h1 : cm .neq _ _ = c1
  cases c1
  case true =>
    cbv
    refine .eq (.boolE ?_)
    rw [← hr]
    cases hq : sameBy NodeD.exact a b with
    | false => rfl
    | true =>
      have := (sameBy_iff.1 hq).1
      cases hE
      simp [cmI] at h1
      rw [← hA, ← hB, NodeD.cellsL_len, NodeD.cellsL_len] at h1
      omega
  case false =>
    cbv
    have hAl : A.length = a.length := by rw [← hA, NodeD.cellsL_len]
    have hBl : B.length = b.length := by rw [← hB, NodeD.cellsL_len]
    have hlen : a.length = b.length := by
      cases hE
      simp [cmI] at h1
      omega
    refine .mk {i : Nat // i ≤ a.length ∧ ∀ (j : Nat) (x y : NodeD), j < i → a[j]? = some x → b[j]? = some y → NodeD.exact x y = true} (fun i => ⟨slotsOf 27 [(0, .dat (.list A)), (1, .dat (.list B)), (5, .dat (.int .i64 i.1))], []⟩) (fun i => a.length - i.1) ⟨0, Nat.zero_le _, fun j x y h => by omega⟩ ?_ ?_
    · cbv
      exact ⟨⟨.eq rfl, .eq rfl, .eq rfl, trivial⟩, trivial⟩
    · rintro ⟨i, hi, hs⟩
      cbv
      generalize h2 : cm .lss _ _ = c2
      cases c2
      case false =>
        cbv
        have hi2 : i = a.length := by
          cases hE
          simp [cmI, hAl] at h2
          omega
        refine .eq (.boolE ?_)
        rw [← hr]
        refine (sameBy_iff.2 ⟨hlen, fun j x y hx hy => hs j x y ?_ hx hy⟩).symm
        rw [hi2]
        exact (List.getElem?_eq_some_iff.1 hx).1
      case true =>
        have hi2 : i < a.length := by
          cases hE
          simp [cmI, hAl] at h2
          omega
        obtain ⟨x, hx⟩ : ∃ x, a[i]? = some x := ⟨_, List.getElem?_eq_getElem hi2⟩
        obtain ⟨y, hy⟩ : ∃ y, b[i]? = some y := ⟨_, List.getElem?_eq_getElem (hlen ▸ hi2)⟩
        obtain ⟨k1, p1, n1, a1, g1, w1, r1, d1, i1⟩ := x
        obtain ⟨k2, p2, n2, a2, g2, w2, r2, d2, i2⟩ := y
        have nx : nth A (Int.ofNat i) (NodeD.cells (.mk k1 p1 n1 a1 g1 w1 r1 d1 i1)) 9 := by
          cases hE
          exact ⟨Int.natCast_nonneg i, by rw [← hA]; exact NodeD.cellsL_get hx, rfl⟩
        have ny : nth B (Int.ofNat i) (NodeD.cells (.mk k2 p2 n2 a2 g2 w2 r2 d2 i2)) 9 := by
          cases hE
          exact ⟨Int.natCast_nonneg i, by rw [← hB]; exact NodeD.cellsL_get hy, rfl⟩
        simp only [NodeD.cells] at nx ny
        generalize hg1 : g1.map AssignD.cells = G1 at nx
        generalize hw1 : w1.map WordD.cells = W1 at nx
        generalize hr1 : r1.map RedirD.cells = R1 at nx
        generalize hd1 : NodeD.cellsL d1 = D1 at nx
        generalize hi1 : ItemD.cellsL i1 = I1 at nx
        generalize hg2 : g2.map AssignD.cells = G2 at ny
        generalize hw2 : w2.map WordD.cells = W2 at ny
        generalize hr2 : r2.map RedirD.cells = R2 at ny
        generalize hd2 : NodeD.cellsL d2 = D2 at ny
        generalize hi2' : ItemD.cellsL i2 = I2 at ny
        have bad : NodeD.exact (.mk k1 p1 n1 a1 g1 w1 r1 d1 i1) (.mk k2 p2 n2 a2 g2 w2 r2 d2 i2) = false → false = r := fun h => by
          rw [← hr]
          cases hq : sameBy NodeD.exact a b with
          | false => rfl
          | true =>
            have := (sameBy_iff.1 hq).2 i _ _ hx hy
            rw [h] at this
            cases this
        have next : NodeD.exact (.mk k1 p1 n1 a1 g1 w1 r1 d1 i1) (.mk k2 p2 n2 a2 g2 w2 r2 d2 i2) = true → ∀ (j : Nat) (x y : NodeD), j < i + 1 → a[j]? = some x → b[j]? = some y → NodeD.exact x y = true := fun hxy j x y hj hx' hy' => by
          rcases Nat.lt_succ_iff_lt_or_eq.1 hj with h | rfl
          · exact hs j x y h hx' hy'
          · rw [hx] at hx'
            rw [hy] at hy'
            injection hx' with hx'
            injection hy' with hy'
            subst hx' hy'
            exact hxy
        cbv
        refine .quiet (by kernel_rfl) ?_
        cbv
        refine ⟨_, nx, ?_⟩
        cbv
        refine ⟨_, ny, ?_⟩
        cbv
        have hcallq : call 27 [.agg [.dat (.int .i64 k1), .dat (.int .i64 p1), .dat (.str n1), .dat (.bool a1), .dat (.list G1), .dat (.list W1), .dat (.list R1), .dat (.list D1), .dat (.list I1)], .agg [.dat (.int .i64 k2), .dat (.int .i64 p2), .dat (.str n2), .dat (.bool a2), .dat (.list G2), .dat (.list W2), .dat (.list R2), .dat (.list D2), .dat (.list I2)]] (· = .dat (.bool (NodeD.exact (.mk k1 p1 n1 a1 g1 w1 r1 d1 i1) (.mk k2 p2 n2 a2 g2 w2 r2 d2 i2)))) := by
          cases hE
          rw [← hg1, ← hw1, ← hr1, ← hd1, ← hi1, ← hg2, ← hw2, ← hr2, ← hd2, ← hi2']
          exact c27 (.mk k1 p1 n1 a1 g1 w1 r1 d1 i1) (.mk k2 p2 n2 a2 g2 w2 r2 d2 i2) (ha _ (List.mem_of_getElem? hx)) (hb _ (List.mem_of_getElem? hy))
        generalize hq : NodeD.exact (.mk k1 p1 n1 a1 g1 w1 r1 d1 i1) (.mk k2 p2 n2 a2 g2 w2 r2 d2 i2) = q at hcallq
        refine ⟨_, hcallq, rfl, ?_⟩
        cbv
        cases q
        case false =>
          cbv
          refine .eq (.boolE (bad ?_))
          exact hq
        cbv
        have hxy := next (by
          cases hE
          skip
          exact hq)
        refine ⟨⟨i + 1, hi2, hxy⟩, ?_, ?_⟩
        · show a.length - (i + 1) < a.length - i
          omega
        · cbv
          exact ⟨⟨.eq rfl, .eq rfl, .intE (by cases hE; exact inc_id hi2 hmax), trivial⟩, trivial⟩


def C23 (x : NodeD) : Prop := CRet Tryz.prog 23 [x.av] (· = .dat (.list (NodeD.cellsL x.walk)))
theorem C58.start {x : NodeD} (h : C58 x) (hb : x.sz ≤ 2097152) : CR Tryz.prog 58 [x.av, .ptr 1 0, .ptr 2 0] [(28, x.cells.map .dat), (25, [.nils]), (81, [.fn 58 [.ptr 1 0, .ptr 2 0]])]
    fun r H' => r = .tup [] ∧ H' = [(28, x.cells.map .dat), (25, [.own 1000003 28 (NodeD.cellsL x.walk)]), (81, [.fn 58 [.ptr 1 0, .ptr 2 0]])] := by
  have h1 := h [] (by simp) (by simpa using hb)
  have h2 := CR.frame (G := [(28, x.cells.map .dat), (25, [.own 0 28 []]), (81, [.fn 58 [.ptr 1 0, .ptr 2 0]])]) [1, 2] h1 ⟨by decide, rfl, by simp only [AV.bndL, NodeD.av_bnd]; rfl, fun i T cs hi => ?_, fun o T cs ho => ?_⟩ (fun r H' hk => by rw [hk.2]; rfl)
  · simp only [AV.renL, NodeD.av_ren] at h2
    refine (h2.mono fun r G' ⟨r0, H', ⟨k1, k2⟩, k3, k4⟩ => ?_).weak ?_ ?_ rfl
    · cases x
      exact ⟨.eq rfl, .eq rfl, .eq rfl, trivial⟩
    · cases x
      exact ⟨rfl, ⟨.eq rfl, .eq rfl, .eq rfl, .eq rfl, .eq rfl, .eq rfl, .eq rfl, .eq rfl, .eq rfl, trivial⟩, rfl, ⟨.nils _ _, trivial⟩, rfl, ⟨.eq rfl, trivial⟩, trivial⟩
    · subst k1 k2
      exact ⟨k3, k4⟩
  · match i, hi with
    | 0, hi => cases hi; exact ⟨by simp, rfl, rfl⟩
    | 1, hi => cases hi; exact ⟨by simp, rfl, rfl⟩
  · match o, ho with
    | 0, ho => cases ho; exact .inr (by cases x; rfl)
    | 1, ho => exact .inl (by simp)
    | 2, ho => exact .inl (by simp)
set_option maxRecDepth 100000 in
set_option maxHeartbeats 4000000 in
theorem c23 (x : NodeD) (hsz : x.sz ≤ 2097152) : C23 x := by
  have h58 := (c58 x).start hsz
  unfold C23
  generalize NodeD.cellsL x.walk = res at h58
  obtain ⟨k1, p1, n1, a1, g1, w1, r1, d1, i1⟩ := x
  refine cret_of_swp mixedOrders VT_ok Tryz.func23 (code := Tryz.f23.body.get (by kernel_rfl)) (by kernel_rfl) (by kernel_rfl) rfl fun E hE hreal => ?_
  obtain ⟨ar, cm, sc, eb, wr, ln, sl, ct, ap, sb, ss, u8, mx, nth, off, sat, sok, stok, cat, bd, szs, ne, nil, call, callF⟩ := E
  clear hreal
  simp only [NodeD.av, NodeD.cells, List.map_cons, List.map_nil] at h58 ⊢
  generalize hg1 : g1.map AssignD.cells = G1 at h58
  generalize hw1 : w1.map WordD.cells = W1 at h58
  generalize hr1 : r1.map RedirD.cells = R1 at h58
  generalize hd1 : NodeD.cellsL d1 = D1 at h58
  generalize hi1 : ItemD.cellsL i1 = I1 at h58
  replace h58 : callF 58 [.agg [.dat (.int .i64 k1), .dat (.int .i64 p1), .dat (.str n1), .dat (.bool a1), .dat (.list G1), .dat (.list W1), .dat (.list R1), .dat (.list D1), .dat (.list I1)], .ptr 1 0, .ptr 2 0] [(28, [.dat (.int .i64 k1), .dat (.int .i64 p1), .dat (.str n1), .dat (.bool a1), .dat (.list G1), .dat (.list W1), .dat (.list R1), .dat (.list D1), .dat (.list I1)]), (25, [.nils]), (81, [.fn 58 [.ptr 1 0, .ptr 2 0]])] (.tup []) [(28, [.dat (.int .i64 k1), .dat (.int .i64 p1), .dat (.str n1), .dat (.bool a1), .dat (.list G1), .dat (.list W1), .dat (.list R1), .dat (.list D1), .dat (.list I1)]), (25, [.own 1000003 28 res]), (81, [.fn 58 [.ptr 1 0, .ptr 2 0]])] := by
    cases hE
    exact h58
  cbv
  refine ⟨_, _, h58, ?_⟩
  cbv
  exact .eq (.ownD _ _ rfl)
end Go.Proofs.YtdfcjodkmjofgaaGreat
/-
  The law on Same: what its call gives.
-/
namespace Go.Proofs.YtdfcjodkmjofgaaGreat
open Go.RowKit

theorem PartD.same_refl (x : PartD) : x.same x = true := by
  have key : ∀ n (x : PartD), x.sz ≤ n → x.same x = true := fun n => by
    induction n with
    | zero => intro x h; have := PartD.sz_parts x; omega
    | succ n ih =>
      intro x h
      obtain ⟨k, t, o, c, p⟩ := x
      have h1 : PartD.sameL p p = true := PartD.sameL_iff.2 ⟨rfl, fun i a b ha hb => by
        rw [ha] at hb
        injection hb with hb
        subst hb
        refine ih a ?_
        have := PartD.sz_mem ha
        simp only [PartD.sz] at h
        omega⟩
      simp [PartD.same, h1]
  exact key _ x (Nat.le_refl _)
theorem PartD.sameL_refl (p : List PartD) : PartD.sameL p p = true := PartD.sameL_iff.2 ⟨rfl, fun i a b ha hb => by
  rw [ha] at hb
  injection hb with hb
  subst hb
  exact a.same_refl⟩
theorem sameBy_refl {α : Type} {f : α → α → Bool} (h : ∀ x, f x x = true) (l : List α) : sameBy f l l = true := sameBy_iff.2 ⟨rfl, fun i a b ha hb => by
  rw [ha] at hb
  injection hb with hb
  subst hb
  exact h a⟩
theorem WordD.same_refl (x : WordD) : x.same x = true := PartD.sameL_refl _
theorem AssignD.same_refl (x : AssignD) : x.same x = true := by simp [AssignD.same, PartD.sameL_refl]
theorem RedirD.same_refl (x : RedirD) : x.same x = true := by simp [RedirD.same, PartD.sameL_refl]
theorem NodeD.same_refl (x : NodeD) : x.same x = true := by
  have key : ∀ n (x : NodeD), x.sz ≤ n → x.same x = true := fun n => by
    induction n with
    | zero => intro x h; have := x.sz_pos; omega
    | succ n ih =>
      intro x h
      obtain ⟨k, p, t, a, g, w, r, d, is⟩ := x
      have h1 : ∀ d : List NodeD, NodeD.szL d ≤ n → NodeD.sameL d d = true := fun d hd => NodeD.sameL_iff.2 ⟨rfl, fun i a b ha hb => by
        rw [ha] at hb
        injection hb with hb
        subst hb
        refine ih a ?_
        have := szBy_mem (f := NodeD.sz) ha
        rw [← NodeD.szL_by] at this
        omega⟩
      have h2 : ItemD.sameL is is = true := ItemD.sameL_iff.2 ⟨rfl, fun i a b ha hb => by
        rw [ha] at hb
        injection hb with hb
        subst hb
        have h3 := szBy_mem (f := ItemD.sz) ha
        rw [← ItemD.szL_by] at h3
        cases a with
        | mk ps b =>
          simp only [NodeD.sz, ItemD.sz] at h h3
          simp [ItemD.same, sameBy_refl WordD.same_refl, h1 b (by omega)]⟩
      have h4 : NodeD.sameL d d = true := h1 d (by simp only [NodeD.sz] at h; omega)
      simp [NodeD.same, sameBy_refl WordD.same_refl, sameBy_refl AssignD.same_refl, sameBy_refl RedirD.same_refl, h2, h4]
  exact key _ x (Nat.le_refl _)
set_option maxRecDepth 100000 in
set_option maxHeartbeats 4000000 in
theorem c5 (x y : NodeD) (hx : x.sz ≤ 2097152) (hy : y.sz ≤ 2097152) : CRet Tryz.prog 5 [x.av, y.av] (· = .dat (.bool true)) := by
  obtain ⟨K, hK⟩ : ∃ K, K = isInt := ⟨_, rfl⟩
  obtain ⟨k1, p1, n1, a1, g1, w1, r1, d1, i1⟩ := x
  obtain ⟨k2, p2, n2, a2, g2, w2, r2, d2, i2⟩ := y
  refine cret_of_swp mixedOrders VT_ok Tryz.func5 (code := Tryz.f5.body.get (by kernel_rfl)) (by kernel_rfl) (by kernel_rfl) rfl fun E hE hreal => ?_
  obtain ⟨ar, cm, sc, eb, wr, ln, sl, ct, ap, sb, ss, u8, mx, nth, off, sat, sok, stok, cat, bd, szs, ne, nil, call, callF⟩ := E
  clear hreal
  simp only [NodeD.av, NodeD.cells, List.map_cons, List.map_nil]
  generalize hg1 : g1.map AssignD.cells = G1
  generalize hw1 : w1.map WordD.cells = W1
  generalize hr1 : r1.map RedirD.cells = R1
  generalize hd1 : NodeD.cellsL d1 = D1
  generalize hi1 : ItemD.cellsL i1 = I1
  generalize hg2 : g2.map AssignD.cells = G2
  generalize hw2 : w2.map WordD.cells = W2
  generalize hr2 : r2.map RedirD.cells = R2
  generalize hd2 : NodeD.cellsL d2 = D2
  generalize hi2 : ItemD.cellsL i2 = I2
  have h11 : call 11 [.agg [.dat (.int .i64 k1), .dat (.int .i64 p1), .dat (.str n1), .dat (.bool a1), .dat (.list G1), .dat (.list W1), .dat (.list R1), .dat (.list D1), .dat (.list I1)]] K := by
    cases hE
    rw [← hg1, ← hw1, ← hr1, ← hd1, ← hi1]
    rw [hK]
    exact c11 (.mk k1 p1 n1 a1 g1 w1 r1 d1 i1) hx
  have h11' : call 11 [.agg [.dat (.int .i64 k2), .dat (.int .i64 p2), .dat (.str n2), .dat (.bool a2), .dat (.list G2), .dat (.list W2), .dat (.list R2), .dat (.list D2), .dat (.list I2)]] K := by
    cases hE
    rw [← hg2, ← hw2, ← hr2, ← hd2, ← hi2]
    rw [hK]
    exact c11 (.mk k2 p2 n2 a2 g2 w2 r2 d2 i2) hy
  have h12 : call 12 [] (· = .dat (.bool true)) := by cases hE; exact awake_cret
  have h20 : call 20 [.agg [.dat (.int .i64 k1), .dat (.int .i64 p1), .dat (.str n1), .dat (.bool a1), .dat (.list G1), .dat (.list W1), .dat (.list R1), .dat (.list D1), .dat (.list I1)], .agg [.dat (.int .i64 k2), .dat (.int .i64 p2), .dat (.str n2), .dat (.bool a2), .dat (.list G2), .dat (.list W2), .dat (.list R2), .dat (.list D2), .dat (.list I2)]] (· = .dat (.bool (NodeD.same (.mk k1 p1 n1 a1 g1 w1 r1 d1 i1) (.mk k2 p2 n2 a2 g2 w2 r2 d2 i2)))) := by
    cases hE
    rw [← hg1, ← hw1, ← hr1, ← hd1, ← hi1]
    rw [← hg2, ← hw2, ← hr2, ← hd2, ← hi2]
    exact c20 (.mk k1 p1 n1 a1 g1 w1 r1 d1 i1) (.mk k2 p2 n2 a2 g2 w2 r2 d2 i2)
  have h21 : call 21 [.agg [.dat (.int .i64 k1), .dat (.int .i64 p1), .dat (.str n1), .dat (.bool a1), .dat (.list G1), .dat (.list W1), .dat (.list R1), .dat (.list D1), .dat (.list I1)], .agg [.dat (.int .i64 k2), .dat (.int .i64 p2), .dat (.str n2), .dat (.bool a2), .dat (.list G2), .dat (.list W2), .dat (.list R2), .dat (.list D2), .dat (.list I2)]] (· = .dat (.bool (NodeD.same (.mk k1 p1 n1 a1 g1 w1 r1 d1 i1) (.mk k2 p2 n2 a2 g2 w2 r2 d2 i2)))) := by
    cases hE
    rw [← hg1, ← hw1, ← hr1, ← hd1, ← hi1]
    rw [← hg2, ← hw2, ← hr2, ← hd2, ← hi2]
    exact c21 (.mk k1 p1 n1 a1 g1 w1 r1 d1 i1) (.mk k2 p2 n2 a2 g2 w2 r2 d2 i2)
  have h20' : call 20 [.agg [.dat (.int .i64 k1), .dat (.int .i64 p1), .dat (.str n1), .dat (.bool a1), .dat (.list G1), .dat (.list W1), .dat (.list R1), .dat (.list D1), .dat (.list I1)], .agg [.dat (.int .i64 k1), .dat (.int .i64 p1), .dat (.str n1), .dat (.bool a1), .dat (.list G1), .dat (.list W1), .dat (.list R1), .dat (.list D1), .dat (.list I1)]] (· = .dat (.bool true)) := by
    cases hE
    rw [← hg1, ← hw1, ← hr1, ← hd1, ← hi1]
    have := c20 (.mk k1 p1 n1 a1 g1 w1 r1 d1 i1) (.mk k1 p1 n1 a1 g1 w1 r1 d1 i1)
    unfold C20 at this
    rw [NodeD.same_refl] at this
    exact this
  generalize hq : NodeD.same (.mk k1 p1 n1 a1 g1 w1 r1 d1 i1) (.mk k2 p2 n2 a2 g2 w2 r2 d2 i2) = q at h20 h21
  have heb : eb q q = true := by cases hE; simp
  clear hx hy
  cbv
  refine ⟨_, h11, ?_⟩
  intro r hr
  rw [hK] at hr
  obtain ⟨u, rfl⟩ := hr
  cbv
  generalize cm .gtr _ _ = c1
  cases c1
  case true =>
    cbv
    refine ⟨_, h12, ?_⟩
    rintro _ rfl
    cbv
    exact .eq (.boolE rfl)
  cbv
  refine ⟨_, h11', ?_⟩
  intro r hr
  rw [hK] at hr
  obtain ⟨u2, rfl⟩ := hr
  cbv
  generalize cm .gtr _ _ = c2
  cases c2
  case true =>
    cbv
    refine ⟨_, h12, ?_⟩
    rintro _ rfl
    cbv
    exact .eq (.boolE rfl)
  cbv
  refine .quiet (by kernel_rfl) ?_
  cbv
  refine ⟨_, h20, rfl, ?_⟩
  cbv
  refine ⟨_, h21, rfl, ?_⟩
  cbv
  rw [heb]
  cbv
  refine ⟨_, h20', rfl, ?_⟩
  cbv
  refine ⟨_, h12, rfl, ?_⟩
  cbv
  exact .eq (.boolE rfl)
end Go.Proofs.YtdfcjodkmjofgaaGreat
/-
  The law on Walk: what its call gives.
-/
namespace Go.Proofs.YtdfcjodkmjofgaaGreat
open Go.RowKit

def tab6 : List (List Bool × List Nat) := [
  ([false, false, false, false, false, false, false, false, false], [0, 2]),
  ([false, false, true, false, false, false, false, false, false], [0]),
  ([true, false, false, false, false, false, false, false, false], [1, 2]),
  ([true, true, false, false, false, false, false, false, false], [2]),
  ([true, false, true, false, false, false, false, false, false], [1]),
  ([true, true, true, false, false, false, false, false, false], [3]),
  ([true, true, true, true, false, false, false, false, false], [4]),
  ([true, true, true, true, true, false, false, false, false], [5]),
  ([true, true, true, true, true, true, false, false, false], [6]),
  ([true, true, true, true, true, true, true, false, false], [7]),
  ([true, true, true, true, true, true, true, true, false], [8]),
  ([true, true, true, true, true, true, true, true, true], [])]
theorem IntD.same_refl (x : IntD) : x.same x = true := by simp [IntD.same]
theorem NodeD.exact_refl (x : NodeD) : x.exact x = true := by
  unfold NodeD.exact
  rw [x.same_refl, sameBy_refl IntD.same_refl]
  rfl
theorem walk_sz {x y : NodeD} (h : y ∈ x.walk) : y.sz ≤ x.sz := by
  have key : ∀ n (x y : NodeD), x.sz ≤ n → y ∈ x.walk → y.sz ≤ x.sz := fun n => by
    induction n with
    | zero => intro x y h; have := x.sz_pos; omega
    | succ n ih =>
      intro x y h hy
      rw [NodeD.walk_eq] at hy
      rcases List.mem_cons.1 hy with rfl | hy
      · exact Nat.le_refl _
      · obtain ⟨z, hz, hy⟩ := List.mem_flatMap.1 hy
        have h1 := kids_sz hz
        have := ih z y (by omega) hy
        omega
  exact key _ x y (Nat.le_refl _) h
set_option maxRecDepth 100000 in
set_option maxHeartbeats 4000000 in
theorem c6 (x : NodeD) (hx : x.sz ≤ 2097152) : CRet Tryz.prog 6 [x.av] (· = .dat (.bool true)) := by
  obtain ⟨K, hK⟩ : ∃ K, K = isInt := ⟨_, rfl⟩
  have h11 := c11 x hx
  have h23 := c23 x hx
  have h24 := c24 x hx
  have h22 := c22 x.walk x.walk (fun y hy => Nat.le_trans (walk_sz hy) hx) (fun y hy => Nat.le_trans (walk_sz hy) hx)
  unfold C11 at h11
  unfold C23 at h23
  unfold C24 at h24
  unfold C22 at h22
  rw [sameBy_refl NodeD.exact_refl] at h22
  rw [← hK] at h11
  generalize NodeD.cellsL x.walk = WL at h22 h23 h24
  obtain ⟨k1, p1, n1, a1, g1, w1, r1, d1, i1⟩ := x
  refine cret_of_swp mixedOrders VT_ok Tryz.func6 (code := Tryz.f6.body.get (by kernel_rfl)) (by kernel_rfl) (by kernel_rfl) rfl fun E hE hreal => ?_
  obtain ⟨ar, cm, sc, eb, wr, ln, sl, ct, ap, sb, ss, u8, mx, nth, off, sat, sok, stok, cat, bd, szs, ne, nil, call, callF⟩ := E
  clear hreal
  simp only [NodeD.av, NodeD.cells, List.map_cons, List.map_nil] at h11 h23 h24 ⊢
  generalize hg1 : g1.map AssignD.cells = G1 at h11 h23 h24
  generalize hw1 : w1.map WordD.cells = W1 at h11 h23 h24
  generalize hr1 : r1.map RedirD.cells = R1 at h11 h23 h24
  generalize hd1 : NodeD.cellsL d1 = D1 at h11 h23 h24
  generalize hi1 : ItemD.cellsL i1 = I1 at h11 h23 h24
  replace h11 : call 11 [.agg [.dat (.int .i64 k1), .dat (.int .i64 p1), .dat (.str n1), .dat (.bool a1), .dat (.list G1), .dat (.list W1), .dat (.list R1), .dat (.list D1), .dat (.list I1)]] K := by
    cases hE
    exact h11
  replace h23 : call 23 [.agg [.dat (.int .i64 k1), .dat (.int .i64 p1), .dat (.str n1), .dat (.bool a1), .dat (.list G1), .dat (.list W1), .dat (.list R1), .dat (.list D1), .dat (.list I1)]] (· = .dat (.list WL)) := by
    cases hE
    exact h23
  replace h24 : call 24 [.agg [.dat (.int .i64 k1), .dat (.int .i64 p1), .dat (.str n1), .dat (.bool a1), .dat (.list G1), .dat (.list W1), .dat (.list R1), .dat (.list D1), .dat (.list I1)]] (· = .dat (.list WL)) := by
    cases hE
    exact h24
  replace h22 : call 22 [.dat (.list WL), .dat (.list WL)] (· = .dat (.bool true)) := by
    cases hE
    exact h22
  have h12 : call 12 [] (· = .dat (.bool true)) := by cases hE; exact awake_cret
  clear hx
  cbv
  refine ⟨_, h11, ?_⟩
  intro r hr
  rw [hK] at hr
  obtain ⟨u, rfl⟩ := hr
  cbv
  generalize cm .gtr _ _ = c1
  cases c1
  case true =>
    cbv
    refine ⟨_, h12, ?_⟩
    rintro _ rfl
    cbv
    exact .eq (.boolE rfl)
  cbv
  refine .any tab6 (fun L => ⟨[.agg [.dat (.int .i64 k1), .dat (.int .i64 p1), .dat (.str n1), .dat (.bool a1), .dat (.list G1), .dat (.list W1), .dat (.list R1), .dat (.list D1), .dat (.list I1)], .ptr 0 0, bif L.getD 8 false then .dat (.bool true) else .dat (.bool false), .agg [.dat (.int .i64 k1), .dat (.int .i64 p1), .dat (.str n1), .dat (.bool a1), .dat (.list G1), .dat (.list W1), .dat (.list R1), .dat (.list D1), .dat (.list I1)], .dat (.int .i64 u), .dat (.bool false), .top, bif L.getD 0 false then .agg [.dat (.int .i64 k1), .dat (.int .i64 p1), .dat (.str n1), .dat (.bool a1), .dat (.list G1), .dat (.list W1), .dat (.list R1), .dat (.list D1), .dat (.list I1)] else .top, bif L.getD 1 false then .dat (.list WL) else .top, bif L.getD 2 false then .agg [.dat (.int .i64 k1), .dat (.int .i64 p1), .dat (.str n1), .dat (.bool a1), .dat (.list G1), .dat (.list W1), .dat (.list R1), .dat (.list D1), .dat (.list I1)] else .top, bif L.getD 3 false then .dat (.list WL) else .top, bif L.getD 4 false then .dat (.bool true) else .top, bif L.getD 5 false then .dat (.bool true) else .top, bif L.getD 6 false then .dat (.bool true) else .top, bif L.getD 7 false then .dat (.bool true) else .top], [(28, [.dat (.int .i64 k1), .dat (.int .i64 p1), .dat (.str n1), .dat (.bool a1), .dat (.list G1), .dat (.list W1), .dat (.list R1), .dat (.list D1), .dat (.list I1)])]⟩) [] (by kernel_rfl) (by cbv) ?_
  cbv
  and_intros
  all_goals first | exact True.intro | exact LeV.eq rfl | (refine ⟨_, h23, ?_⟩; rintro _ rfl; cbv; and_intros <;> first | exact True.intro | exact LeV.eq rfl) | (refine ⟨_, h24, ?_⟩; rintro _ rfl; cbv; and_intros <;> first | exact True.intro | exact LeV.eq rfl) | (refine ⟨_, h22, ?_⟩; rintro _ rfl; cbv; and_intros <;> first | exact True.intro | exact LeV.eq rfl) | (refine ⟨_, h12, ?_⟩; rintro _ rfl; cbv; and_intros <;> first | exact True.intro | exact LeV.eq rfl) | exact .eq (.boolE rfl)
end Go.Proofs.YtdfcjodkmjofgaaGreat
