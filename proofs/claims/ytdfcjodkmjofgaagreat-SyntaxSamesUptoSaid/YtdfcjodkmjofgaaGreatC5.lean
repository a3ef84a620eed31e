/-
  The nodes and the words in a node; the weight.
-/
import Derived.Test.YtdfcjodkmjofgaaGreatC4
namespace Go.Proofs.YtdfcjodkmjofgaaGreat
open Go.RowKit

def C40 (x : NodeD) : Prop := CRet Tryz.prog 40 [x.av] (· = .dat (.list (NodeD.cellsL x.kidsL)))
set_option maxRecDepth 100000 in
set_option maxHeartbeats 4000000 in
theorem c40 (x : NodeD) (hsz : x.sz ≤ 2097152) : C40 x := by
  obtain ⟨k1, p1, n1, a1, g1, w1, r1, d1, i1⟩ := x
  refine cret_of_swp mixedOrders VT_ok Tryz.func40 (code := Tryz.f40.body.get (by kernel_rfl)) (by kernel_rfl) (by kernel_rfl) rfl fun E hE hreal => ?_
  obtain ⟨ar, cm, sc, eb, wr, ln, sl, ct, ap, sb, ss, u8, mx, nth, off, sat, sok, stok, cat, bd, szs, ne, nil, call, callF⟩ := E
  clear hreal
  have mg : g1.length ≤ maxLen := by unfold maxLen; have := szBy_len AssignD.sz_pos g1; simp only [NodeD.sz] at hsz; omega
  have mr : r1.length ≤ maxLen := by unfold maxLen; have := szBy_len RedirD.sz_pos r1; simp only [NodeD.sz] at hsz; omega
  have mi : i1.length ≤ maxLen := by unfold maxLen; have := szBy_len ItemD.sz_pos i1; rw [← ItemD.szL_by] at this; simp only [NodeD.sz] at hsz; omega
  have bnd : ∀ i, (d1.length + ((i1.take i).flatMap ItemD.body).length) ≤ 2097152 := fun i => by
    have h1 := take_flat ItemD.body ItemD.sz body_len i1 i
    have h2 := szBy_len NodeD.sz_pos d1
    rw [← NodeD.szL_by] at h2
    rw [← ItemD.szL_by] at h1
    simp only [NodeD.sz] at hsz
    omega
  simp only [NodeD.av, NodeD.cells, NodeD.kidsL, List.map_cons, List.map_nil]
  generalize hg1 : g1.map AssignD.cells = G1
  generalize hw1 : w1.map WordD.cells = W1
  generalize hr1 : r1.map RedirD.cells = R1
  generalize hd1 : NodeD.cellsL d1 = D1
  generalize hi1 : ItemD.cellsL i1 = I1
  generalize hr : NodeD.cellsL (d1 ++ i1.flatMap ItemD.body) = r
  obtain ⟨F, hF⟩ : ∃ F : Nat → List (List Dat), ∀ i, F i = NodeD.cellsL (d1 ++ (i1.take i).flatMap ItemD.body) := ⟨_, fun _ => rfl⟩
  cbv
  refine ⟨?_, ?_, ?_⟩
  · cases hE
    intro q hq
    rw [← hd1, NodeD.cellsL_map] at hq
    obtain ⟨x, _, rfl⟩ := List.mem_map.1 hq
    exact x.cells_len
  · cases hE
    show ([].length + D1.length) * 160 ≤ 140737488355328
    have := bnd 0
    rw [← hd1, NodeD.cellsL_len]
    simp at this ⊢
    omega
  cbv
  have hLl : I1.length = i1.length := by rw [← hi1, ItemD.cellsL_len]
  refine .mk ({i : Nat // i ≤ i1.length} × Unit) (fun q => ⟨slotsOf 25 [(1, .ptr 0 0), (3, .own 8 28 (F q.1.1)), (4, .dat (.int .i64 q.1.1))], [(28, [.dat (.int .i64 k1), .dat (.int .i64 p1), .dat (.str n1), .dat (.bool a1), .dat (.list G1), .dat (.list W1), .dat (.list R1), .dat (.list D1), .dat (.list I1)])]⟩) (fun q => i1.length - q.1.1) (⟨0, Nat.zero_le _⟩, ()) ?_ ?_
  · cbv
    and_intros <;> first | exact True.intro | exact LeV.eq rfl | (exact LeV.ownE (by cases hE; rw [hF, ← hd1]; simp))
  · rintro ⟨⟨i, hi⟩, _⟩
    cbv
    generalize h2 : cm .lss _ _ = c2
    cases c2
    case false =>
      have hi2 : i = i1.length := by
        cases hE
        simp [cmI, hLl] at h2
        omega
      subst hi2
      cbv
      refine .eq (.ownD _ _ ?_)
      rw [← hr, hF, List.take_length]
    case true =>
      have hi2 : i < i1.length := by
        cases hE
        simp [cmI, hLl] at h2
        omega
      clear h2
      obtain ⟨x, hx⟩ : ∃ x, i1[i]? = some x := ⟨_, List.getElem?_eq_getElem hi2⟩
      obtain ⟨p2, b2⟩ := x
      have nx : nth I1 (Int.ofNat i) (ItemD.cells (.mk p2 b2)) 2 := by
        cases hE
        exact ⟨Int.natCast_nonneg i, by rw [← hi1]; exact ItemD.cellsL_get hx, rfl⟩
      simp only [ItemD.cells] at nx
      generalize hp2 : p2.map WordD.cells = P2 at nx
      generalize hb2 : NodeD.cellsL b2 = B2 at nx
      cbv
      refine ⟨_, nx, ?_⟩
      cbv
      refine ⟨?_, ?_, ?_⟩
      · cases hE
        intro q hq
        rw [← hb2, NodeD.cellsL_map] at hq
        obtain ⟨x, _, rfl⟩ := List.mem_map.1 hq
        exact x.cells_len
      · cases hE
        show ((F i).length + B2.length) * 160 ≤ 140737488355328
        have := bnd (i + 1)
        rw [hF, ← hb2, NodeD.cellsL_len, NodeD.cellsL_len]
        simp [List.take_add_one, hx, ItemD.body] at this ⊢
        omega
      cbv
      refine ⟨(⟨i + 1, hi2⟩, ()), ?_, ?_⟩
      · show i1.length - (i + 1) < i1.length - i
        omega
      · cbv
        and_intros <;> first | exact True.intro | exact LeV.eq rfl | (exact LeV.ownE (by cases hE; rw [hF, hF, ← hb2]; simp [List.take_add_one, hx, ItemD.body, NodeD.cellsL_map])) | (exact LeV.intE (by cases hE; exact inc_id hi2 mi))

end Go.Proofs.YtdfcjodkmjofgaaGreat
