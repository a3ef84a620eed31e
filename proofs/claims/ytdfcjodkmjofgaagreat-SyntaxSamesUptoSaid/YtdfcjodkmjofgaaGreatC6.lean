/-
  The words in a node; the weight.
-/
import Derived.Test.YtdfcjodkmjofgaaGreatC5
namespace Go.Proofs.YtdfcjodkmjofgaaGreat
open Go.RowKit

def C38 (x : NodeD) : Prop := CRet Tryz.prog 38 [x.av] (· = .dat (.list (x.wordsL.map WordD.cells)))
set_option maxRecDepth 100000 in
set_option maxHeartbeats 4000000 in
theorem c38 (x : NodeD) (hsz : x.sz ≤ 2097152) : C38 x := by
  obtain ⟨k1, p1, n1, a1, g1, w1, r1, d1, i1⟩ := x
  refine cret_of_swp mixedOrders VT_ok Tryz.func38 (code := Tryz.f38.body.get (by kernel_rfl)) (by kernel_rfl) (by kernel_rfl) rfl fun E hE hreal => ?_
  obtain ⟨ar, cm, sc, eb, wr, ln, sl, ct, ap, sb, ss, u8, mx, nth, off, sat, sok, stok, cat, bd, szs, ne, nil, call, callF⟩ := E
  clear hreal
  have mg : g1.length ≤ maxLen := by unfold maxLen; have := szBy_len AssignD.sz_pos g1; simp only [NodeD.sz] at hsz; omega
  have mr : r1.length ≤ maxLen := by unfold maxLen; have := szBy_len RedirD.sz_pos r1; simp only [NodeD.sz] at hsz; omega
  have mi : i1.length ≤ maxLen := by unfold maxLen; have := szBy_len ItemD.sz_pos i1; rw [← ItemD.szL_by] at this; simp only [NodeD.sz] at hsz; omega
  have bnd : ∀ i, g1.length + w1.length + r1.length + ((i1.take i).flatMap ItemD.pats).length ≤ 2097152 := fun i => by
    have h1 := take_flat ItemD.pats ItemD.sz pats_len i1 i
    have h2 := szBy_len AssignD.sz_pos g1
    have h3 := szBy_len WordD.sz_pos w1
    have h4 := szBy_len RedirD.sz_pos r1
    rw [← ItemD.szL_by] at h1
    simp only [NodeD.sz] at hsz
    omega
  simp only [NodeD.av, NodeD.cells, NodeD.wordsL, List.map_cons, List.map_nil]
  generalize hg1 : g1.map AssignD.cells = G1
  generalize hw1 : w1.map WordD.cells = W1
  generalize hr1 : r1.map RedirD.cells = R1
  generalize hd1 : NodeD.cellsL d1 = D1
  generalize hi1 : ItemD.cellsL i1 = I1
  generalize hr : List.map WordD.cells (g1.map AssignD.value ++ w1 ++ r1.map RedirD.target ++ i1.flatMap ItemD.pats) = r
  obtain ⟨F1, hF1⟩ : ∃ F : Nat → List (List Dat), ∀ i, F i = ((g1.take i).map AssignD.value).map WordD.cells := ⟨_, fun _ => rfl⟩
  obtain ⟨F2, hF2⟩ : ∃ F : Nat → List (List Dat), ∀ i, F i = (g1.map AssignD.value ++ w1 ++ (r1.take i).map RedirD.target).map WordD.cells := ⟨_, fun _ => rfl⟩
  obtain ⟨F3, hF3⟩ : ∃ F : Nat → List (List Dat), ∀ i, F i = (g1.map AssignD.value ++ w1 ++ r1.map RedirD.target ++ (i1.take i).flatMap ItemD.pats).map WordD.cells := ⟨_, fun _ => rfl⟩
  cbv
  have hLl : G1.length = g1.length := by rw [← hg1, List.length_map]
  refine .mk ({i : Nat // i ≤ g1.length} × Unit) (fun q => ⟨slotsOf 59 [(1, .ptr 0 0), (3, .own 22 56 (F1 q.1.1)), (4, .dat (.int .i64 q.1.1))], [(28, [.dat (.int .i64 k1), .dat (.int .i64 p1), .dat (.str n1), .dat (.bool a1), .dat (.list G1), .dat (.list W1), .dat (.list R1), .dat (.list D1), .dat (.list I1)])]⟩) (fun q => g1.length - q.1.1) (⟨0, Nat.zero_le _⟩, ()) ?_ ?_
  · cbv
    and_intros <;> first | exact True.intro | exact LeV.eq rfl | (exact LeV.nilsO (by rw [hF1]; simp))
  · rintro ⟨⟨i, hi⟩, _⟩
    cbv
    generalize h2 : cm .lss _ _ = c2
    cases c2
    case false =>
      have hi2 : i = g1.length := by
        cases hE
        simp [cmI, hLl] at h2
        omega
      subst hi2
      cbv
      refine ⟨?_, ?_, ?_⟩
      · cases hE
        intro q hq
        rw [← hw1] at hq
        obtain ⟨x, _, rfl⟩ := List.mem_map.1 hq
        rfl
      · cases hE
        show ((F1 g1.length).length + W1.length) * 32 ≤ 140737488355328
        have := bnd 0
        rw [hF1, ← hw1]
        simp at this ⊢
        omega
      cbv
      have hLl : R1.length = r1.length := by rw [← hr1, List.length_map]
      refine .mk ({i : Nat // i ≤ r1.length} × Unit) (fun q => ⟨slotsOf 59 [(1, .ptr 0 0), (3, .own 22 56 (F2 q.1.1)), (5, .dat (.int .i64 q.1.1))], [(28, [.dat (.int .i64 k1), .dat (.int .i64 p1), .dat (.str n1), .dat (.bool a1), .dat (.list G1), .dat (.list W1), .dat (.list R1), .dat (.list D1), .dat (.list I1)])]⟩) (fun q => r1.length - q.1.1) (⟨0, Nat.zero_le _⟩, ()) ?_ ?_
      · cbv
        and_intros <;> first | exact True.intro | exact LeV.eq rfl | (exact LeV.ownE (by cases hE; rw [hF1, hF2, ← hw1]; simp))
      · rintro ⟨⟨i, hi⟩, _⟩
        cbv
        generalize h2 : cm .lss _ _ = c2
        cases c2
        case false =>
          have hi2 : i = r1.length := by
            cases hE
            simp [cmI, hLl] at h2
            omega
          subst hi2
          cbv
          have hLl : I1.length = i1.length := by rw [← hi1, ItemD.cellsL_len]
          refine .mk ({i : Nat // i ≤ i1.length} × Unit) (fun q => ⟨slotsOf 59 [(1, .ptr 0 0), (3, .own 22 56 (F3 q.1.1)), (6, .dat (.int .i64 q.1.1))], [(28, [.dat (.int .i64 k1), .dat (.int .i64 p1), .dat (.str n1), .dat (.bool a1), .dat (.list G1), .dat (.list W1), .dat (.list R1), .dat (.list D1), .dat (.list I1)])]⟩) (fun q => i1.length - q.1.1) (⟨0, Nat.zero_le _⟩, ()) ?_ ?_
          · cbv
            and_intros <;> first | exact True.intro | exact LeV.eq rfl | (exact LeV.ownE (by cases hE; rw [hF2, hF3]; simp))
          · rintro ⟨⟨i, hi⟩, _⟩
            cbv
            generalize h2 : cm .lss _ _ = c2
            cases c2
            case false =>
              have hi2 : i = i1.length := by
                cases hE
                simp [cmI, hLl] at h2
                omega
              subst hi2
              cbv
              refine .eq (.ownD _ _ ?_)
              rw [← hr, hF3, List.take_length]
            case true =>
              have hi2 : i < i1.length := by
                cases hE
                simp [cmI, hLl] at h2
                omega
              clear h2
              obtain ⟨x, hx⟩ : ∃ x, i1[i]? = some x := ⟨_, List.getElem?_eq_getElem hi2⟩
              obtain ⟨p2, b2⟩ := x
              have nx : nth I1 (Int.ofNat i) (ItemD.cells (.mk p2 b2)) 2 := by
                cases hE
                exact ⟨Int.natCast_nonneg i, by rw [← hi1]; exact ItemD.cellsL_get hx, rfl⟩
              simp only [ItemD.cells] at nx
              generalize hp2 : p2.map WordD.cells = P2 at nx
              generalize hb2 : NodeD.cellsL b2 = B2 at nx
              cbv
              refine ⟨_, nx, ?_⟩
              cbv
              refine ⟨?_, ?_, ?_⟩
              · cases hE
                intro q hq
                rw [← hp2] at hq
                obtain ⟨x, _, rfl⟩ := List.mem_map.1 hq
                rfl
              · cases hE
                show ((F3 i).length + P2.length) * 32 ≤ 140737488355328
                have := bnd (i + 1)
                rw [hF3, ← hp2]
                simp [List.take_add_one, hx, ItemD.pats] at this ⊢
                omega
              cbv
              refine ⟨(⟨i + 1, hi2⟩, ()), ?_, ?_⟩
              · show i1.length - (i + 1) < i1.length - i
                omega
              · cbv
                and_intros <;> first | exact True.intro | exact LeV.eq rfl | (exact LeV.ownE (by cases hE; rw [hF3, hF3, ← hp2]; simp [List.take_add_one, hx, ItemD.pats])) | (exact LeV.intE (by cases hE; exact inc_id hi2 mi))
        case true =>
          have hi2 : i < r1.length := by
            cases hE
            simp [cmI, hLl] at h2
            omega
          clear h2
          obtain ⟨x, hx⟩ : ∃ x, r1[i]? = some x := ⟨_, List.getElem?_eq_getElem hi2⟩
          obtain ⟨k2, f2, o2, v2, p2⟩ := x
          have nx : nth R1 (Int.ofNat i) (RedirD.cells ⟨k2, f2, o2, v2, p2⟩) 5 := by
            cases hE
            exact ⟨Int.natCast_nonneg i, by rw [← hr1]; simp [hx], rfl⟩
          simp only [RedirD.cells] at nx
          generalize hp2 : PartD.cellsL p2 = P2 at nx
          cbv
          refine ⟨_, nx, ?_⟩
          cbv
          refine ⟨?_, ?_, ?_⟩
          · cases hE
            intro q hq
            simp at hq
            subst hq
            rfl
          · cases hE
            show ((F2 i).length + ([_] : List (List Dat)).length) * 32 ≤ 140737488355328
            have := bnd 0
            rw [hF2]
            simp at this ⊢
            omega
          cbv
          refine ⟨(⟨i + 1, hi2⟩, ()), ?_, ?_⟩
          · show r1.length - (i + 1) < r1.length - i
            omega
          · cbv
            and_intros <;> first | exact True.intro | exact LeV.eq rfl | (exact LeV.ownE (by cases hE; rw [hF2, hF2, ← hp2]; simp [List.take_add_one, hx, RedirD.target, WordD.cells])) | (exact LeV.intE (by cases hE; exact inc_id hi2 mr))
    case true =>
      have hi2 : i < g1.length := by
        cases hE
        simp [cmI, hLl] at h2
        omega
      clear h2
      obtain ⟨x, hx⟩ : ∃ x, g1[i]? = some x := ⟨_, List.getElem?_eq_getElem hi2⟩
      obtain ⟨k2, t2, v2, p2⟩ := x
      have nx : nth G1 (Int.ofNat i) (AssignD.cells ⟨k2, t2, v2, p2⟩) 4 := by
        cases hE
        exact ⟨Int.natCast_nonneg i, by rw [← hg1]; simp [hx], rfl⟩
      simp only [AssignD.cells] at nx
      generalize hp2 : PartD.cellsL p2 = P2 at nx
      cbv
      refine ⟨_, nx, ?_⟩
      cbv
      refine ⟨?_, ?_, ?_⟩
      · cases hE
        intro q hq
        simp at hq
        subst hq
        rfl
      · cases hE
        show ((F1 i).length + ([_] : List (List Dat)).length) * 32 ≤ 140737488355328
        have := bnd 0
        rw [hF1]
        simp at this ⊢
        omega
      cbv
      refine ⟨(⟨i + 1, hi2⟩, ()), ?_, ?_⟩
      · show g1.length - (i + 1) < g1.length - i
        omega
      · cbv
        and_intros <;> first | exact True.intro | exact LeV.eq rfl | (exact LeV.ownE (by cases hE; rw [hF1, hF1, ← hp2]; simp [List.take_add_one, hx, AssignD.value, WordD.cells])) | (exact LeV.intE (by cases hE; exact inc_id hi2 mg))

end Go.Proofs.YtdfcjodkmjofgaaGreat
