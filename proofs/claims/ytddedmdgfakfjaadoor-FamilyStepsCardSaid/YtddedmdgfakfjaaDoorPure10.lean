/-
  FamilySteps, the plain law, part 10: the whole, of whatever members.
-/
import Derived.Test.YtddedmdgfakfjaaDoorPure9
import Derived.Test.YtddedmdgfakfjaaDoorFAx9
namespace Go.Proofs.YtddedmdgfakfjaaDoor.FA
open Go.RowKit Go.Proofs.YtddedmdgfakfjaaDoorW.PrintWords

theorem num_f (e : Option Int) : halterlaw24_num.f e = some (errI e) := rfl
theorem give_f9 (l : List S51) (hn : l.length ≤ 5864062014805) (k : Nat) (hk : l.length < k) : halterlaw24_give.f k l = some (l.map conv) := by
  unfold halterlaw24_give.f
  have := give_l0 l hn l.length 0 k [] (by omega) hk rfl
  simpa using this
theorem len_conv {z : List S51} {x : List S39} (h : z.map conv = x) : z.length = x.length := by rw [← h, List.length_map]
theorem steps_end (l : List S51) (hn : l.length ≤ 40) (p q : Int) (k : Nat) (hk : 10000 < k) (f : Int × Int × Bool × Int × Option Int) (hf : f = found (l.map conv) p) :
    halterlaw24_FamilySteps.j0 k l f.2.2.2.2 false p q f.1 f.2.1 f.2.2.1 f.2.2.2.1 = some true := by
  obtain ⟨k, rfl, hk'⟩ := fuel hk
  simp only [halterlaw24_FamilySteps.j0]
  rw [if_neg (by decide), ref_may l (by omega) k (by omega), Option.bind_some]
  subst hf
  unfold found
  cases hv : valid (l.map conv) with
  | false => rw [if_neg (by decide), if_neg (by decide), num_f, Option.bind_some, if_pos (by rfl), if_pos (by rfl), sure_f k (by omega)]; rfl
  | true =>
    rw [if_pos rfl, if_pos rfl, ref_at l (by omega) p k (by omega), Option.bind_some]
    cases hi : ix (l.map conv) p with
    | none => rw [show ixI (l.map conv) p = -1 by unfold ixI; rw [hi], if_pos (by decide), num_f, Option.bind_some, if_pos (by rfl), if_pos (by rfl), sure_f k (by omega)]; rfl
    | some j =>
      obtain ⟨hj, _⟩ := ix_some hi
      rw [List.length_map] at hj
      rw [show ixI (l.map conv) p = (j : Int) by unfold ixI; rw [hi], if_neg (by omega)]
      dsimp only
      rw [if_pos (by rfl), if_pos (by omega), if_pos (by omega), if_pos (by rw [rd39_map]; simp [conv]), sure_f k (by omega)]
      rfl
theorem law_steps (l : List S51) (p q st : Int) : ∃ k, halterlaw24_FamilySteps.f k l p q st = some true := by
  refine ⟨20000, ?_⟩
  unfold halterlaw24_FamilySteps.f
  by_cases h40 : (l.length : Int) > 40
  · rw [if_pos h40, sure_f _ (by omega)]; rfl
  · have hlm : (l.map conv).length = l.length := List.length_map _
    rw [if_neg h40, give_f9 l (by omega) _ (by omega), Option.bind_some, add_f _ (by omega) p q _ (by omega), Option.bind_some]
    obtain ⟨za, ea, ha⟩ := ref_add l (by omega) p q 20000 (by omega)
    obtain ⟨ze, ee, e1, he⟩ := ref_exit l (by omega) p st 20000 (by omega)
    obtain ⟨zr, er, hr⟩ := ref_reap l (by omega) p 20000 (by omega)
    rw [ea, Option.bind_some, exit_f _ (by omega) p st _ (by omega), Option.bind_some, e1, Option.bind_some, reap_f _ (by omega) p _ (by omega), Option.bind_some, er, Option.bind_some, find_f _ (by omega) p _ (by omega), Option.bind_some, he]
    have hal : (addV (l.map conv) p q).1.length ≤ l.length + 1 := by
      unfold addV
      split
      · split
        · simp
        · split
          · split
            · simp
            · unfold ins
              dsimp only
              rw [List.length_append, List.length_cons]
              have h1 := List.length_filter_le (fun a : S39 => decide (a.f0 ≤ p)) (l.map conv)
              have h2 := List.length_eq_countP_add_countP (fun a : S39 => decide (a.f0 ≤ p)) (l := l.map conv)
              rw [List.countP_eq_length_filter, List.countP_eq_length_filter] at h2
              have h3 : ((l.map conv).filter fun a => decide (p < a.f0)) = (l.map conv).filter fun a => decide ¬ (decide (a.f0 ≤ p) = true) := by
                apply List.filter_congr
                intro a _
                simp
              rw [h3]
              omega
          · simp
      · simp
    have hel : ze.length ≤ l.length := by
      have h1 : (if valid (l.map conv) then (if live (l.map conv) p then (if p = 1 then ([], some 1) else ((l.map conv).map (upd p st), none)) else ([], some 3)) else (([], some 22) : List S39 × Option Int)).1.length ≤ l.length := by
        split
        · split
          · split
            · simp
            · simp
          · simp
        · simp
      rw [he] at h1
      simpa using h1
    have hrl : (reapV (l.map conv) p).1.length ≤ l.length := by
      unfold reapV
      split
      · split
        · split
          · rw [List.length_append, List.length_take, List.length_drop]; omega
          · simp
        · simp
      · simp
    have la := len_conv ha
    have lr := len_conv hr
    have hkids : (kids (l.map conv) p).length ≤ l.length := by
      unfold kids
      rw [List.length_map]
      exact Nat.le_trans (List.length_filter_le _ _) (by omega)
    have hk1 : (if valid (l.map conv) = true then kids (l.map conv) p else []).length < 100000 := by
      split
      · omega
      · simp
    have hk2 : (if valid (l.map conv) = true then kids (l.map conv) p else []).length < 20000 := by
      split
      · omega
      · simp
    dsimp only
    rw [same_f _ _ ha.symm (by omega) _ (by omega), Option.bind_some, if_pos rfl, num_f, Option.bind_some, if_pos rfl, same_f _ _ rfl (by omega) _ (by omega), Option.bind_some, if_pos rfl, num_f, Option.bind_some, if_pos rfl,
      same_f _ _ hr.symm (by omega) _ (by omega), Option.bind_some, if_pos rfl, num_f, Option.bind_some, if_pos rfl, kids_f _ (by omega) p _ (by omega), Option.bind_some, ref_kids l (by omega) p _ (by omega), Option.bind_some,
      ints_f _ hk1 _ hk2, Option.bind_some, if_pos rfl, same_f _ l rfl (by omega) _ (by omega), Option.bind_some, if_pos rfl, check_f _ (by omega) _ (by omega), Option.bind_some, ref_may l (by omega) _ (by omega), Option.bind_some, Option.bind_some]
    have he := steps_end l (by omega) p q 20000 (by omega) _ rfl
    cases hv : valid (l.map conv) with
    | true => rw [if_pos (by rfl)]; exact he
    | false => rw [if_neg (by simp [errB])]; exact he
end Go.Proofs.YtddedmdgfakfjaaDoor.FA
