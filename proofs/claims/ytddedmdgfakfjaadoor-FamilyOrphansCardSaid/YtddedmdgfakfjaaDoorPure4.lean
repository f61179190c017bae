/-
  FamilySteps, FamilyOrphans, the plain law, part 4: members that may be stay so when one is over.
-/
import Derived.Test.YtddedmdgfakfjaaDoorPure3
namespace Go.Proofs.YtddedmdgfakfjaaDoor.FA
open Go.RowKit Go.Proofs.YtddedmdgfakfjaaDoorW.PrintWords

theorem valid_iff (x : List S39) : valid x = true ↔ 1 ≤ x.length ∧ x.length ≤ 16 ∧ ∀ i, i < x.length → okAt x i = true := by
  unfold valid
  rw [Bool.and_eq_true, Bool.and_eq_true, decide_eq_true_eq, decide_eq_true_eq, allF_iff]
  constructor
  · rintro ⟨⟨h1, h2⟩, h3⟩
    exact ⟨h1, h2, fun i hi => h3 i (by omega) (by omega)⟩
  · rintro ⟨h1, h2, h3⟩
    exact ⟨⟨h1, h2⟩, fun i _ hi => h3 i (by omega)⟩
/-- No one is its own parent. -/
theorem leads_self {x : List S39} {p : Int} {j : Nat} (hj : ix x p = some j) (hp : (rd_T39 x j).f1 = p) : ∀ n, leads x n p = true → p = 1
  | 0, h => by simpa [leads] using h
  | n + 1, h => by
    unfold leads at h
    split at h
    · assumption
    · rw [hj] at h
      simp only [hp] at h
      exact leads_self hj hp n h
section
variable {x : List S39} (hv : valid x = true)
include hv
theorem v_len : 1 ≤ x.length ∧ x.length ≤ 16 := ⟨((valid_iff x).1 hv).1, ((valid_iff x).1 hv).2.1⟩
theorem v_at {i : Nat} (hi : i < x.length) : 1 ≤ (rd_T39 x i).f0 ∧ (rd_T39 x i).f0 ≤ 99 ∧ (i ≠ 0 → (rd_T39 x ((i - 1 : Nat) : Int)).f0 < (rd_T39 x i).f0) ∧ ((rd_T39 x i).f2 = false → (rd_T39 x i).f3 = 0) ∧ tailB x i = true := by
  have h := ((valid_iff x).1 hv).2.2 i hi
  unfold okAt headB rangeB at h
  simp only [Bool.and_eq_true, Bool.or_eq_true, decide_eq_true_eq] at h
  obtain ⟨⟨⟨⟨h1, h2⟩, h3⟩, h4⟩, h5⟩ := h
  refine ⟨h1, h2, fun h0 => ?_, fun hf => ?_, h5⟩
  · rcases h3 with h3 | h3
    · exact absurd h3 h0
    · exact h3
  · rcases h4 with h4 | h4
    · rw [hf] at h4; cases h4
    · exact h4
theorem v_incr {i : Nat} : ∀ {j : Nat}, i < j → j < x.length → (rd_T39 x i).f0 < (rd_T39 x j).f0
  | 0, h, _ => absurd h (Nat.not_lt_zero _)
  | j + 1, h, hj => by
    have h1 := (v_at hv hj).2.2.1 (by omega)
    rw [Nat.add_sub_cancel] at h1
    rcases Nat.lt_or_ge i j with h2 | h2
    · exact Int.lt_trans (v_incr h2 (by omega)) h1
    · obtain rfl : i = j := by omega
      exact h1
theorem v_ix {i : Nat} (hi : i < x.length) : ix x (rd_T39 x i).f0 = some i := by
  unfold ix
  rw [List.findIdx?_eq_some_iff_getElem]
  refine ⟨hi, by rw [rd39_at x i hi]; simp, fun j hj => ?_⟩
  have := v_incr hv hj hi
  rw [rd39_at x j (by omega)] at this
  simp only [beq_iff_eq]
  omega
theorem v_first : (rd_T39 x ((0 : Nat) : Int)).f0 = 1 ∧ (rd_T39 x ((0 : Nat) : Int)).f1 = 0 ∧ (rd_T39 x ((0 : Nat) : Int)).f2 = false := by
  have h := (v_at hv (i := 0) (v_len hv).1).2.2.2.2
  unfold tailB at h
  rw [if_pos rfl] at h
  simpa [and_assoc] using h
theorem v_tail {i : Nat} (hi : i < x.length) (h0 : i ≠ 0) : live x (rd_T39 x i).f1 = true ∧ leads x x.length (rd_T39 x i).f0 = true := by
  have h := (v_at hv hi).2.2.2.2
  unfold tailB at h
  rw [if_neg h0] at h
  simpa using h
theorem v_self {i : Nat} (hi : i < x.length) : (rd_T39 x i).f1 ≠ (rd_T39 x i).f0 := by
  intro h
  rcases Nat.eq_zero_or_pos i with h0 | h0
  · subst h0
    have := v_first hv
    omega
  · have h1 := leads_self (v_ix hv hi) h _ (v_tail hv hi (by omega)).2
    have h2 := v_incr hv (i := 0) h0 hi
    have := v_first hv
    omega
end

theorem rd_upd (x : List S39) (p st : Int) {i : Nat} (hi : i < x.length) : rd_T39 (x.map (upd p st)) i = upd p st (rd_T39 x i) := by
  rw [rd39_at _ i (by simpa using hi), rd39_at x i hi]
  simp
theorem upd_f0 (p st : Int) (m : S39) : (upd p st m).f0 = m.f0 := by
  unfold upd
  split
  · rfl
  · split <;> rfl
theorem upd_f1 (p st : Int) (m : S39) : (upd p st m).f1 = if m.f0 = p then m.f1 else if m.f1 = p then 1 else m.f1 := by
  unfold upd
  split
  · rfl
  · split <;> rfl
theorem ix_upd (x : List S39) (p st q : Int) : ix (x.map (upd p st)) q = ix x q := by
  unfold ix
  rw [List.findIdx?_map]
  congr 1
  funext m
  simp [upd_f0]
theorem live_upd (x : List S39) (p st q : Int) (hq : q ≠ p) : live (x.map (upd p st)) q = live x q := by
  unfold live
  rw [ix_upd]
  cases h : ix x q with
  | none => rfl
  | some j =>
    obtain ⟨hj, he⟩ := ix_some h
    simp only [rd_upd x p st hj]
    rw [rd39_at x j hj]
    unfold upd
    rw [if_neg (by omega)]
    split <;> rfl
theorem live_gone (x : List S39) (p st : Int) : live (x.map (upd p st)) p = false := by
  unfold live
  rw [ix_upd]
  cases h : ix x p with
  | none => rfl
  | some j =>
    obtain ⟨hj, he⟩ := ix_some h
    simp only [rd_upd x p st hj]
    rw [rd39_at x j hj]
    unfold upd
    rw [if_pos he]
    rfl
theorem leads_one (x : List S39) : ∀ n, leads x n 1 = true
  | 0 => rfl
  | n + 1 => by unfold leads; rw [if_pos rfl]
theorem leads_upd (x : List S39) (p st : Int) : ∀ (n : Nat) (q : Int), leads x n q = true → leads (x.map (upd p st)) n q = true
  | 0, q, h => h
  | n + 1, q, h => by
    unfold leads at h ⊢
    split at h
    · rw [if_pos (by assumption)]
    · rw [if_neg (by assumption), ix_upd]
      cases hx : ix x q with
      | none => rw [hx] at h; exact h
      | some j =>
        rw [hx] at h
        obtain ⟨hj, he⟩ := ix_some hx
        simp only [rd_upd x p st hj]
        simp only at h
        unfold upd
        split
        · exact leads_upd x p st n _ h
        · split
          · exact leads_one _ _
          · exact leads_upd x p st n _ h
theorem valid_upd {x : List S39} (hv : valid x = true) (p st : Int) (hl : live x p = true) (h1 : p ≠ 1) : valid (x.map (upd p st)) = true := by
  rw [valid_iff]
  have hlen := v_len hv
  have hf := v_first hv
  refine ⟨by simpa using hlen.1, by simpa using hlen.2, fun i hi => ?_⟩
  have hi' : i < x.length := by simpa using hi
  obtain ⟨a1, a2, a3, a4, a5⟩ := v_at hv hi'
  unfold okAt headB tailB rangeB
  rw [rd_upd x p st hi', upd_f0]
  have hp0 : p ≠ 0 := by
    rintro rfl
    unfold live at hl
    cases hx : ix x 0 with
    | none => rw [hx] at hl; cases hl
    | some j =>
      obtain ⟨hj, he⟩ := ix_some hx
      have := (v_at hv hj).1
      rw [rd39_at x j hj] at this
      omega
  rw [Bool.and_eq_true]
  constructor
  · simp only [Bool.and_eq_true, Bool.or_eq_true, decide_eq_true_eq]
    refine ⟨⟨⟨a1, a2⟩, ?_⟩, ?_⟩
    · rcases Nat.eq_zero_or_pos i with h0 | h0
      · exact .inl h0
      · refine .inr ?_
        rw [rd_upd x p st (by omega), upd_f0]
        exact a3 (by omega)
    · unfold upd
      split
      · exact .inl rfl
      · split
        · cases hz : (rd_T39 x i).f2 with
          | true => exact .inl rfl
          | false => exact .inr (a4 hz)
        · cases hz : (rd_T39 x i).f2 with
          | true => exact .inl rfl
          | false => exact .inr (a4 hz)
  · by_cases h0 : i = 0
    · subst h0
      rw [if_pos rfl]
      unfold upd
      rw [if_neg (by omega), if_neg (by omega)]
      rw [decide_eq_true hf.1, decide_eq_true hf.2.1, hf.2.2]
      rfl
    · rw [if_neg h0, List.length_map, Bool.and_eq_true]
      obtain ⟨b1, b2⟩ := v_tail hv hi' h0
      refine ⟨?_, leads_upd x p st _ _ b2⟩
      have hs := v_self hv hi'
      have hone : live (x.map (upd p st)) 1 = true := by
        rw [live_upd x p st 1 (fun e => h1 e.symm)]
        unfold live
        rw [← hf.1, v_ix hv (i := 0) hlen.1]
        simp only [hf.2.2, Bool.not_false]
      rw [upd_f1]
      split
      · rename_i he
        rw [live_upd x p st _ (by omega)]
        exact b1
      · split
        · exact hone
        · rename_i h2 h3
          rw [live_upd x p st _ h3]
          exact b1
end Go.Proofs.YtddedmdgfakfjaaDoor.FA
