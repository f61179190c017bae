/-
  FamilyOrphans, the plain law, part 6: each member behind Exit, and the whole.
-/
import Derived.Test.YtddedmdgfakfjaaDoorPure5
import Derived.Test.YtddedmdgfakfjaaDoorFAx10
namespace Go.Proofs.YtddedmdgfakfjaaDoor.FA
open Go.RowKit Go.Proofs.YtddedmdgfakfjaaDoorW.PrintWords

theorem give_f (l : List S51) (hn : l.length ≤ 5864062014805) (k : Nat) (hk : l.length < k) : halterlaw24_give.f k l = some (l.map conv) := by
  unfold halterlaw24_give.f
  have := give_l0 l hn l.length 0 k [] (by omega) hk rfl
  simpa using this
theorem mem_kids {x : List S39} (hv : valid x = true) (p : Int) {i : Nat} (hi : i < x.length) : (rd_T39 x i).f0 ∈ kids x p ↔ (rd_T39 x i).f1 = p ∧ (rd_T39 x i).f0 ≠ 1 := by
  unfold kids
  simp only [List.mem_map, List.mem_filter, Bool.and_eq_true, decide_eq_true_eq]
  constructor
  · rintro ⟨m, ⟨hm, h1, h2⟩, he⟩
    obtain ⟨j, hj, rfl⟩ := List.getElem_of_mem hm
    have hij : j = i := by
      rcases Nat.lt_trichotomy i j with h | h | h
      · have := v_incr hv h hj
        rw [rd39_at x j hj] at this
        omega
      · exact h.symm
      · have := v_incr hv h hi
        rw [rd39_at x j hj] at this
        omega
    subst hij
    rw [rd39_at x j hj]
    exact ⟨h1, h2⟩
  · rintro ⟨h1, h2⟩
    rw [rd39_at x i hi] at *
    exact ⟨x[i], ⟨List.getElem_mem hi, h1, h2⟩, rfl⟩
theorem rd_int (ks : List Int) (i : Nat) (h : i < ks.length) : rd ks (i : Int) = ks[i] := by
  unfold rd
  rw [Int.toNat_natCast, List.getD_eq_getElem?_getD, List.getElem?_eq_getElem h]; rfl
theorem l1_ok (p : Int) (x y : List S39) (ks : List Int) (hks : ks.length < 1000000) (i0 : Nat) (hi0 : i0 < x.length) (m0 m1 m3 : Int) (m2 : Bool) (K : Nat)
    (hrest : ∀ k, K ≤ k → halterlaw24_FamilyOrphans.l0 k p x ks y (wrap64 ((i0 : Int) + 1)) = some true)
    (hm : if m0 = p then m2 = true ∧ m3 = 9 else m2 = (rd_T39 x i0).f2 ∧ m3 = (rd_T39 x i0).f3) (d : Nat) : ∀ (i k : Nat) (want : Int), i + d = ks.length → K + d < k → (m1 = if m0 ∈ ks.drop i then 1 else want) →
    halterlaw24_FamilyOrphans.l1 k p x ks y (i0 : Int) none want (i : Int) m0 m1 m2 m3 = some true := by
  induction d with
  | zero =>
    intro i k want hi hk hw
    obtain ⟨k, rfl, hk'⟩ := fuel hk
    rw [List.drop_eq_nil_of_le (by omega), if_neg List.not_mem_nil] at hw
    simp only [halterlaw24_FamilyOrphans.l1]
    rw [if_neg (by omega), if_pos (by rfl), if_pos hw]
    by_cases h : m0 = p
    · rw [if_pos h] at hm
      rw [if_pos h, if_pos hm.1, if_pos hm.2]
      exact hrest k (by omega)
    · rw [if_neg h] at hm
      rw [if_neg h, if_pos (by omega), if_pos (by omega), if_neg (by rw [hm.1]; simp), if_pos hm.2]
      exact hrest k (by omega)
  | succ d ih =>
    intro i k want hi hk hw
    obtain ⟨k, rfl, hk'⟩ := fuel hk
    have hil : i < ks.length := by omega
    have hwr : wrap64 ((i : Int) + 1) = ((i + 1 : Nat) : Int) := by rw [w64 (by omega) (by omega)]; omega
    rw [List.drop_eq_getElem_cons hil] at hw
    simp only [halterlaw24_FamilyOrphans.l1]
    rw [if_pos (by omega), if_pos (by omega), rd_int ks i hil, hwr]
    by_cases h : ks[i] = m0
    · rw [if_pos h]
      refine ih (i + 1) k 1 (by omega) (by omega) ?_
      rw [if_pos (List.mem_cons.2 (.inl h.symm))] at hw
      rw [hw]
      split <;> rfl
    · rw [if_neg h]
      refine ih (i + 1) k want (by omega) (by omega) ?_
      rw [hw]
      by_cases h2 : m0 ∈ ks.drop (i + 1)
      · rw [if_pos (List.mem_cons_of_mem _ h2), if_pos h2]
      · rw [if_neg (fun e => (List.mem_cons.1 e).elim (fun e => h e.symm) h2), if_neg h2]
end Go.Proofs.YtddedmdgfakfjaaDoor.FA
