/-
  FamilySteps, FamilyOrphans, the plain law, part 4: members that may be stay so when one is over.
-/
import Derived.Test.YtddedmdgfakfjaaDoorPure3
namespace Go.Proofs.YtddedmdgfakfjaaDoor.FA
open Go.RowKit Go.Proofs.YtddedmdgfakfjaaDoorW.PrintWords

theorem valid_iff (x : List S39) : valid x = true ↔ 1 ≤ x.length ∧ x.length ≤ 16 ∧ ∀ i, i < x.length → okAt x i = true := by
  unfold valid
  rw [Bool.and_eq_true, Bool.and_eq_true, decide_eq_true_eq, decide_eq_true_eq, allF_iff]
  constructor
  · rintro ⟨⟨h1, h2⟩, h3⟩
    exact ⟨h1, h2, fun i hi => h3 i (by omega) (by omega)⟩
  · rintro ⟨h1, h2, h3⟩
    exact ⟨⟨h1, h2⟩, fun i _ hi => h3 i (by omega)⟩
/-- No one is its own parent. -/
theorem leads_self {x : List S39} {p : Int} {j : Nat} (hj : ix x p = some j) (hp : (rd_T39 x j).f1 = p) : ∀ n, leads x n p = true → p = 1
  | 0, h => by simpa [leads] using h
  | n + 1, h => by
    unfold leads at h
    split at h
    · assumption
    · rw [hj] at h
      simp only [hp] at h
      exact leads_self hj hp n h
section
variable {x : List S39} (hv : valid x = true)
include hv
theorem v_len : 1 ≤ x.length ∧ x.length ≤ 16 := ⟨((valid_iff x).1 hv).1, ((valid_iff x).1 hv).2.1⟩
theorem v_at {i : Nat} (hi : i < x.length) : 1 ≤ (rd_T39 x i).f0 ∧ (rd_T39 x i).f0 ≤ 99 ∧ (i ≠ 0 → (rd_T39 x ((i - 1 : Nat) : Int)).f0 < (rd_T39 x i).f0) ∧ ((rd_T39 x i).f2 = false → (rd_T39 x i).f3 = 0) ∧ tailB x i = true := by
  have h := ((valid_iff x).1 hv).2.2 i hi
  unfold okAt headB rangeB at h
  simp only [Bool.and_eq_true, Bool.or_eq_true, decide_eq_true_eq] at h
  obtain ⟨⟨⟨⟨h1, h2⟩, h3⟩, h4⟩, h5⟩ := h
  refine ⟨h1, h2, fun h0 => ?_, fun hf => ?_, h5⟩
  · rcases h3 with h3 | h3
    · exact absurd h3 h0
    · exact h3
  · rcases h4 with h4 | h4
    · rw [hf] at h4; cases h4
    · exact h4
theorem v_incr {i : Nat} : ∀ {j : Nat}, i < j → j < x.length → (rd_T39 x i).f0 < (rd_T39 x j).f0
  | 0, h, _ => absurd h (Nat.not_lt_zero _)
  | j + 1, h, hj => by
    have h1 := (v_at hv hj).2.2.1 (by omega)
    rw [Nat.add_sub_cancel] at h1
    rcases Nat.lt_or_ge i j with h2 | h2
    · exact Int.lt_trans (v_incr h2 (by omega)) h1
    · obtain rfl : i = j := by omega
      exact h1
theorem v_ix {i : Nat} (hi : i < x.length) : ix x (rd_T39 x i).f0 = some i := by
  unfold ix
  rw [List.findIdx?_eq_some_iff_getElem]
  refine ⟨hi, by rw [rd39_at x i hi]; simp, fun j hj => ?_⟩
  have := v_incr hv hj hi
  rw [rd39_at x j (by omega)] at this
  simp only [beq_iff_eq]
  omega
theorem v_first : (rd_T39 x ((0 : Nat) : Int)).f0 = 1 ∧ (rd_T39 x ((0 : Nat) : Int)).f1 = 0 ∧ (rd_T39 x ((0 : Nat) : Int)).f2 = false := by
  have h := (v_at hv (i := 0) (v_len hv).1).2.2.2.2
  unfold tailB at h
  rw [if_pos rfl] at h
  simpa [and_assoc] using h
theorem v_tail {i : Nat} (hi : i < x.length) (h0 : i ≠ 0) : live x (rd_T39 x i).f1 = true ∧ leads x x.length (rd_T39 x i).f0 = true := by
  have h := (v_at hv hi).2.2.2.2
  unfold tailB at h
  rw [if_neg h0] at h
  simpa using h
theorem v_self {i : Nat} (hi : i < x.length) : (rd_T39 x i).f1 ≠ (rd_T39 x i).f0 := by
  intro h
  rcases Nat.eq_zero_or_pos i with h0 | h0
  · subst h0
    have := v_first hv
    omega
  · have h1 := leads_self (v_ix hv hi) h _ (v_tail hv hi (by omega)).2
    have h2 := v_incr hv (i := 0) h0 hi
    have := v_first hv
    omega
end

end Go.Proofs.YtddedmdgfakfjaaDoor.FA
