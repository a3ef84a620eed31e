/-
  The text of a list of one plain part: its contract.
-/
import Derived.Test.YtdfcjodkmjofgaaGreatText
import Derived.Test.YtdfcjodkmjofgaaGreatParse3
namespace Go.Proofs.YtdfcjodkmjofgaaGreat
open Go.RowKit

def letterA (s : List UInt8) : List AV := [.agg [.dat (.int .i64 1), .dat (.str s), .dat (.int .i64 0), .dat (.bool false), .dat (.list [])], .dat (.int .i64 0), .dat (.bool false), .dat (.str [])]
noncomputable def partRun (s : List UInt8) : Option (AV × Boxes) := efun Tryz.prog noFull fnsP (primB Tryz.prog) 40 172 (letterA s) []
def isStrOf (s : List UInt8) : Option (AV × Boxes) → Bool
  | some (.dat (.str t), _) => t == s
  | _ => false
theorem part_a : isStrOf [97] (partRun [97]) = true := by kernel_rfl
theorem part_b : isStrOf [98] (partRun [98]) = true := by kernel_rfl
theorem part_c : isStrOf [99] (partRun [99]) = true := by kernel_rfl
theorem part_if : isStrOf [105, 102] (partRun [105, 102]) = true := by kernel_rfl
theorem part_cret {s : List UInt8} (h : isStrOf s (partRun s) = true) : CRet Tryz.prog 172 (letterA s) (· = .dat (.str s)) := by
  unfold isStrOf at h
  split at h
  · rename_i t H hr
    have e : t = s := by simpa using h
    subst e
    exact (efun_sure mixedOrders (full := noFull) fnsP_ok primB_sure 40).pure hr rfl
  · cases h
theorem part_calls {s : List UInt8} (h : isStrOf s (partRun s) = true) (pa : Option Addr) (pc : Nat) (hp : pc ≤ maxLen ∧ (pa = none → pc = 0)) (W : World) :
    Calls Tryz.prog 172 #[.agg #[.int .i64 1, .string ⟨s.toArray⟩, .int .i64 0, .bool false, .slice pa 0 pc], .int .i64 0, .bool false, .string ⟨#[]⟩] W fun e W' => e = .returned (.string ⟨s.toArray⟩) ∧ Below W.heap.size W W' := by
  refine ((part_cret h).run W (fun _ => False) _ (fun _ ha => ha.elim) ⟨rfl, fun i c v hi hv => ?_⟩).mono ?_
  · match i, hi with
    | 0, hi =>
      simp [letterA] at hi hv
      subst hi hv
      refine .agg _ _ rfl fun j c v hj hv => ?_
      match j, hj with
      | 0, hj => simp at hj hv; subst hj hv; exact rel_int _ _
      | 1, hj => simp at hj hv; subst hj hv; exact .dat _ _ (.str _)
      | 2, hj => simp at hj hv; subst hj hv; exact rel_int _ _
      | 3, hj => simp at hj hv; subst hj hv; exact rel_bool _
      | 4, hj => simp at hj hv; subst hj hv; exact .dat _ _ (.list [] pa pc 0 (fun _ _ => undef) (Nat.zero_le _) hp (fun j x h => by simp at h) (fun j x i d h => by simp at h) (fun h => by simp at h))
    | 1, hi => simp [letterA] at hi hv; subst hi hv; exact rel_int _ _
    | 2, hi => simp [letterA] at hi hv; subst hi hv; exact rel_bool _
    | 3, hi => simp [letterA] at hi hv; subst hi hv; exact .dat _ _ (.str [])
  · rintro e w' ⟨v, r, X', rfl, rfl, hb, _, hv, _⟩
    exact ⟨by rw [str_rel hv], hb⟩
/-- The text of a list of one plain part. -/
theorem text_cr {s : List UInt8} (h : isStrOf s (partRun s) = true) (hl : s.length ≤ 1000) (H : Boxes) : CR Tryz.prog 142 [.dat (.list [[.int .i64 1, .str s, .int .i64 0, .bool false, .list []]]), .dat (.int .i64 0), .dat (.bool false)] H fun r H' => r = .dat (.str s) ∧ H' = H := by
  refine ⟨⟨_, Tryz.func142, by kernel_rfl, by kernel_rfl⟩, fun w X vs hh hc => ?_⟩
  obtain ⟨u, v, t, rfl, hu, hv, ht⟩ := hc.three
  rw [int_rel hv, bool_rel ht]
  cases hu with
  | dat _ _ hd =>
  cases hd with
  | list _ A c sz cells hcap hm hlen hR hA =>
  have h5 : 5 = sz := hlen 0 _ rfl
  subst h5
  obtain ⟨ad, rfl, hcell⟩ := hA (by simp)
  have q : ∀ i, i < 5 → w.cell? (ad.add i) = some (cells 0 i) := fun i hi => by simpa using (hcell 0 i (by simp) hi).2
  have hsp : ad.spot = none := by
    have h0 := q 0 (by omega)
    have e0 : ad.add 0 = ad := by unfold Addr.add; simp
    rw [e0] at h0
    unfold World.cell? at h0
    split at h0
    · by_cases hq : ad.spot.isSome
      · rw [if_pos hq] at h0; cases h0
      · simpa using hq
    · cases h0
  obtain ⟨b, off, sp⟩ := ad
  simp only at hsp
  subst hsp
  have ea : ∀ i, (⟨b, off, none⟩ : Addr).add i = ⟨b, off + i, none⟩ := fun i => by unfold Addr.add; split <;> simp_all
  have r0 := hR 0 _ 0 _ rfl rfl
  have r1 := hR 0 _ 1 _ rfl rfl
  have r2 := hR 0 _ 2 _ rfl rfl
  have r3 := hR 0 _ 3 _ rfl rfl
  have r4 := hR 0 _ 4 _ rfl rfl
  have q0 := q 0 (by omega)
  have q1 := q 1 (by omega)
  have q2 := q 2 (by omega)
  have q3 := q 3 (by omega)
  have q4 := q 4 (by omega)
  rw [ea] at q0 q1 q2 q3 q4
  generalize cells 0 0 = v0 at r0 q0
  generalize cells 0 1 = v1 at r1 q1
  generalize cells 0 2 = v2 at r2 q2
  generalize cells 0 3 = v3 at r3 q3
  generalize cells 0 4 = v4 at r4 q4
  cases r0
  cases r1
  cases r2
  cases r3
  cases r4 with
  | list _ pa pc _ _ _ hpm _ _ _ =>
  have hb : b < w.heap.size := World.block_lt_of_cell? w _ q0
  have key := callsIn_wide.1 (text_in 6 (Nat.le_refl _) b off c ⟨s.toArray⟩ pa pc w hb q0 q1 q2 q3 q4 (by simpa [ByteArray.size] using hl) fun W hW => part_calls h pa pc hpm W)
  refine key.mono ?_
  rintro e w' ⟨rfl, hbl⟩
  have hs := (hh.bare (P := Tryz.prog)).world hbl
  exact ⟨_, _, H, X, rfl, ⟨rfl, rfl⟩, hs.po, hs.hp, .dat _ _ (.str s)⟩
end Go.Proofs.YtdfcjodkmjofgaaGreat
