/-
  FamilyOrphans, the plain law, part 7: the whole, of at most 5,864,062,014,805 members (what a machine can hold).
-/
import Derived.Test.YtddedmdgfakfjaaDoorPure6
namespace Go.Proofs.YtddedmdgfakfjaaDoor.FA
open Go.RowKit Go.Proofs.YtddedmdgfakfjaaDoorW.PrintWords

theorem kids_gone {x : List S39} (hv : valid x = true) (p st : Int) (h1 : p ≠ 1) : kids (x.map (upd p st)) p = [] := by
  unfold kids
  rw [List.map_eq_nil_iff, List.filter_eq_nil_iff]
  intro m hm
  obtain ⟨a, ha, rfl⟩ := List.mem_map.1 hm
  obtain ⟨j, hj, rfl⟩ := List.getElem_of_mem ha
  have hs := v_self hv hj
  rw [rd39_at x j hj] at hs
  rw [upd_f1]
  simp only [Bool.and_eq_true, decide_eq_true_eq, not_and]
  intro h
  exfalso
  split at h
  · omega
  · split at h <;> omega
theorem found_upd {x : List S39} (hv : valid x = true) (p st : Int) (hl : live x p = true) (h1 : p ≠ 1) {i : Nat} (hi : i < x.length) :
    found (x.map (upd p st)) (rd_T39 x i).f0 = ((upd p st (rd_T39 x i)).f0, (upd p st (rd_T39 x i)).f1, (upd p st (rd_T39 x i)).f2, (upd p st (rd_T39 x i)).f3, none) := by
  unfold found
  rw [valid_upd hv p st hl h1, if_pos rfl, ix_upd, v_ix hv hi]
  simp only [rd_upd x p st hi]
theorem l0_ok {x : List S39} (hv : valid x = true) (p : Int) (hl : live x p = true) (h1 : p ≠ 1) (c : Nat) (hc : c = (kids x p).length) (d : Nat) : ∀ (i k : Nat), i + d = x.length → 2 * x.length + 200 + d * (c + 2) < k →
    halterlaw24_FamilyOrphans.l0 k p x (kids x p) (x.map (upd p 9)) (i : Int) = some true := by
  have hlen := v_len hv
  have hvy := valid_upd hv p 9 hl h1
  have hyl : (x.map (upd p 9)).length = x.length := List.length_map _
  have hcl : c ≤ x.length := by
    rw [hc]
    unfold kids
    rw [List.length_map]
    exact List.length_filter_le _ _
  induction d with
  | zero =>
    intro i k hi hk
    obtain ⟨k, rfl, hk'⟩ := fuel hk
    simp only [halterlaw24_FamilyOrphans.l0]
    rw [if_neg (by omega), exit_f _ (by omega) p 9 k (by omega)]
    simp only [hvy, live_gone, if_true, Bool.false_eq_true, if_false, Option.bind_some]
    rw [if_pos (by omega), kids_f _ (by omega) p k (by omega)]
    simp only [hvy, if_true, kids_gone hv p 9 h1, Option.bind_some, List.length_nil, halterlaw24_num.f, Option.getD_some, sure_f k (by omega)]
    rfl
  | succ d ih =>
    intro i k hi hk
    obtain ⟨k, rfl, hk'⟩ := fuel hk
    have hil : i < x.length := by omega
    have hmul : (d + 1) * (c + 2) = d * (c + 2) + (c + 2) := Nat.succ_mul _ _
    have hwr : wrap64 ((i : Int) + 1) = ((i + 1 : Nat) : Int) := by rw [w64 (by omega) (by omega)]; omega
    simp only [halterlaw24_FamilyOrphans.l0]
    rw [if_pos (by omega), if_pos (by omega), find_f _ (by omega) _ k (by omega), Option.bind_some, found_upd hv p 9 hl h1 hil]
    have hk0 := mem_kids hv p hil
    have hs := v_self hv hil
    refine l1_ok p x _ (kids x p) (by omega) i hil _ _ _ _ (2 * x.length + 201 + d * (c + 2)) (fun k2 h2 => ?_) ?_ c 0 k _ (by omega) (by omega) ?_
    · rw [hwr]
      exact ih (i + 1) k2 (by omega) (by omega)
    · rw [upd_f0]
      unfold upd
      split
      · exact ⟨rfl, rfl⟩
      · split <;> exact ⟨rfl, rfl⟩
    · rw [upd_f0, upd_f1, List.drop_zero]
      have hf := v_first hv
      by_cases ha : (rd_T39 x i).f0 = p
      · rw [if_pos ha, if_neg (fun h => by have := hk0.1 h; omega)]
      · rw [if_neg ha]
        by_cases hb : (rd_T39 x i).f1 = p
        · rw [if_pos hb]
          by_cases h0 : (rd_T39 x i).f0 = 1
          · rw [if_neg (fun h => (hk0.1 h).2 h0)]
            rcases Nat.eq_zero_or_pos i with hz | hz
            · subst hz
              exfalso
              have hp : 1 ≤ p := by
                unfold live at hl
                cases hx : ix x p with
                | none => rw [hx] at hl; cases hl
                | some j =>
                  obtain ⟨hj, he⟩ := ix_some hx
                  have := (v_at hv hj).1
                  rw [rd39_at x j hj] at this
                  omega
              omega
            · have := v_incr hv hz hil
              omega
          · rw [if_pos (hk0.2 ⟨hb, h0⟩)]
        · rw [if_neg hb, if_neg (fun h => hb (hk0.1 h).1)]
theorem law_orphans (l : List S51) (hn : l.length ≤ 5864062014805) (p : Int) : ∃ k, halterlaw24_FamilyOrphans.f k l p = some true := by
  refine ⟨2 * l.length + 1000 + l.length * (l.length + 2), ?_⟩
  unfold halterlaw24_FamilyOrphans.f
  rw [give_f l hn _ (by omega), Option.bind_some]
  generalize hk : 2 * l.length + 1000 + l.length * (l.length + 2) = k
  have hno : ∀ k, 200 < k → halterlaw24_FamilyOrphans.j0 k p (l.map conv) true = some true := fun k hk => by
    obtain ⟨k, rfl, _⟩ := fuel hk
    simp only [halterlaw24_FamilyOrphans.j0, if_true, sure_f k (by omega), Option.bind_some]
  by_cases h16 : (l.length : Int) > 16
  · rw [if_pos h16]
    exact hno k (by omega)
  · rw [if_neg h16, check_f (l.map conv) (by simp; omega) k (by simp; omega), Option.bind_some]
    cases hv : valid (l.map conv) with
    | false => rw [if_neg (by simp [errB])]; exact hno k (by omega)
    | true =>
      rw [if_pos (by rfl)]
      obtain ⟨k, rfl⟩ : ∃ m, k = m + 1 := ⟨k - 1, by omega⟩
      have hxl : (l.map conv).length = l.length := List.length_map _
      simp only [halterlaw24_FamilyOrphans.j0]
      rw [if_neg (by decide), kids_f _ (by omega) p k (by omega), Option.bind_some, hv, if_pos rfl, exit_f _ (by omega) p 9 k (by omega), Option.bind_some, hv, if_pos rfl]
      cases hl : live (l.map conv) p with
      | false => simp [sure_f k (by omega)]
      | true =>
        rw [if_pos rfl]
        by_cases h1 : p = 1
        · rw [if_pos h1]; simp [sure_f k (by omega)]
        · rw [if_neg h1, if_pos (by rfl)]
          refine l0_ok hv p hl h1 _ rfl (l.map conv).length 0 k (by omega) ?_
          have hcl : (kids (l.map conv) p).length ≤ l.length := by
            unfold kids
            rw [List.length_map]
            exact Nat.le_trans (List.length_filter_le _ _) (by omega)
          have := Nat.mul_le_mul_left l.length (Nat.add_le_add_right hcl 2)
          rw [hxl]
          omega
end Go.Proofs.YtddedmdgfakfjaaDoor.FA
