/-
  FamilySteps, FamilyOrphans, the plain law, part 5: what must come whatever the input is (sure), and the members as the program's.
-/
import Derived.Test.YtddedmdgfakfjaaDoorPure4
namespace Go.Proofs.YtddedmdgfakfjaaDoor.FA
open Go.RowKit Go.Proofs.YtddedmdgfakfjaaDoorW.PrintWords

theorem add_ok (x z : List S39) (p q : Int) (hn : x.length < 1000000) (hv : valid x = true) (hr : rangeB p = true) (hi : ix x p = none) (hl : live x q = true) (h16 : x.length < 16)
    (hs : slices_SortFunc.f (x ++ [⟨p, q, false, 0⟩]) = some z) (k : Nat) (hk : 2 * x.length + 4 < k) : family_Add.f k x p q = some (z, none) := by
  unfold family_Add.f
  rw [check_f x hn k hk, Option.bind_some, hv, if_pos (by rfl), pids_f, Option.bind_some, hr, if_pos (by rfl)]
  obtain ⟨k, rfl, _⟩ := fuel hk
  simp only [family_Add.j0]
  rw [if_neg (by decide), at_f, Option.bind_some, hi, if_neg (by simp), alive_f, Option.bind_some, hl, if_pos rfl, if_neg (by omega)]
  unfold slices_Clone.f
  rw [if_pos hn, Option.bind_some, if_pos (by omega), Option.bind_some, hs]
  rfl
theorem merge2 (a b : S39) : [a, b].mergeSort leR = if leR a b = true then [a, b] else [b, a] := by
  simp [List.mergeSort, List.MergeSort.Internal.splitInTwo, List.merge]
theorem sort2 : slices_SortFunc.f ([(⟨1, 0, false, 0⟩ : S39)] ++ [⟨2, 1, false, 0⟩]) = some [⟨1, 0, false, 0⟩, ⟨2, 1, false, 0⟩] := by
  unfold slices_SortFunc.f
  rw [if_pos (by refine ⟨rfl, by decide, ?_, by decide⟩; intro x hx; simp at hx; rcases hx with rfl | rfl <;> decide)]
  change some ([_, _].mergeSort leR) = _
  rw [merge2, if_pos (by decide)]
theorem sort3 : slices_SortFunc.f ([(⟨1, 0, false, 0⟩ : S39), ⟨2, 1, false, 0⟩] ++ [⟨3, 2, false, 0⟩]) = some [⟨1, 0, false, 0⟩, ⟨2, 1, false, 0⟩, ⟨3, 2, false, 0⟩] := by
  unfold slices_SortFunc.f
  rw [if_pos (by refine ⟨rfl, by decide, ?_, by decide⟩; intro x hx; simp at hx; rcases hx with rfl | rfl | rfl <;> decide)]
  rw [List.mergeSort_of_pairwise (by decide)]
  rfl
theorem ints_one (k : Nat) (hk : 5 < k) : halterlaw24_ints.f k [3] [3] = some true := by
  obtain ⟨k, rfl⟩ : ∃ m, k = m + 2 := ⟨k - 2, by omega⟩
  simp [halterlaw24_ints.f, halterlaw24_ints.l0, wrap64]
theorem sure_f (k : Nat) (hk : 100 < k) : halterlaw24_sure.f k = some true := by
  unfold halterlaw24_sure.f
  rw [add_ok [⟨1, 0, false, 0⟩] _ 2 1 (by decide) (by decide) (by decide) (by decide) (by decide) (by decide) sort2 k (by simp; omega), Option.bind_some]
  rw [add_ok [⟨1, 0, false, 0⟩, ⟨2, 1, false, 0⟩] _ 3 2 (by decide) (by decide) (by decide) (by decide) (by decide) (by decide) sort3 k (by simp; omega), Option.bind_some]
  rw [exit_f _ (by decide) 2 256 k (by simp; omega), Option.bind_some]
  rw [show (if valid [(⟨1, 0, false, 0⟩ : S39), ⟨2, 1, false, 0⟩, ⟨3, 2, false, 0⟩] = true then (if live [(⟨1, 0, false, 0⟩ : S39), ⟨2, 1, false, 0⟩, ⟨3, 2, false, 0⟩] 2 = true then (if (2 : Int) = 1 then (([] : List S39), some (1 : Int)) else ([(⟨1, 0, false, 0⟩ : S39), ⟨2, 1, false, 0⟩, ⟨3, 2, false, 0⟩].map (upd 2 256), none)) else ([], some 3)) else ([], some 22)) = ([⟨1, 0, false, 0⟩, ⟨2, 1, true, 256⟩, ⟨3, 1, false, 0⟩], none) from rfl]
  unfold family_Reap.f
  rw [find_f _ (by decide) 2 k (by simp; omega), Option.bind_some]
  rw [show found [(⟨1, 0, false, 0⟩ : S39), ⟨2, 1, true, 256⟩, ⟨3, 1, false, 0⟩] 2 = (2, 1, true, 256, none) from rfl]
  rw [show slices_Clone.f [(⟨1, 0, false, 0⟩ : S39), ⟨2, 1, true, 256⟩, ⟨3, 1, false, 0⟩] = some [⟨1, 0, false, 0⟩, ⟨2, 1, true, 256⟩, ⟨3, 1, false, 0⟩] from rfl]
  rw [if_pos (by rfl), if_pos (by rfl), Option.bind_some]
  rw [show slices_DeleteFunc.f [(⟨1, 0, false, 0⟩ : S39), ⟨2, 1, true, 256⟩, ⟨3, 1, false, 0⟩] 2 = some [⟨1, 0, false, 0⟩, ⟨3, 1, false, 0⟩] from rfl, Option.bind_some, Option.bind_some]
  rw [find_f _ (by decide) 3 k (by simp; omega), Option.bind_some]
  rw [show found [(⟨1, 0, false, 0⟩ : S39), ⟨3, 1, false, 0⟩] 3 = (3, 1, false, 0, none) from rfl]
  rw [kids_f _ (by decide) 1 k (by simp; omega)]
  rw [show (if valid [(⟨1, 0, false, 0⟩ : S39), ⟨3, 1, false, 0⟩] = true then kids [(⟨1, 0, false, 0⟩ : S39), ⟨3, 1, false, 0⟩] 1 else []) = [3] from rfl]
  rw [if_pos (by rfl), if_pos (by rfl), if_pos (by rfl), if_pos (by rfl), if_pos (by rfl), if_pos (by rfl), if_pos (by rfl), Option.bind_some, ints_one k (by omega)]
  rfl

theorem give_l0 (l : List S51) (hn : l.length ≤ 5864062014805) (d : Nat) : ∀ (i k : Nat) (out : List S39), i + d = l.length → d < k → out.length = i →
    halterlaw24_give.l0 k l out (i : Int) = some (out ++ (l.drop i).map conv) := by
  induction d with
  | zero =>
    intro i k out hi hk _
    obtain ⟨k, rfl, _⟩ := fuel hk
    simp only [halterlaw24_give.l0]
    rw [if_neg (by omega), List.drop_eq_nil_of_le (by omega)]
    simp
  | succ d ih =>
    intro i k out hi hk ho
    obtain ⟨k, rfl, hk'⟩ := fuel hk
    have hil : i < l.length := by omega
    have hr : rd_T51 l (i : Int) = l[i] := by
      unfold rd_T51
      rw [Int.toNat_natCast, List.getD_eq_getElem?_getD, List.getElem?_eq_getElem hil]; rfl
    have hw : wrap64 ((i : Int) + 1) = ((i + 1 : Nat) : Int) := by rw [w64 (by omega) (by omega)]; omega
    simp only [halterlaw24_give.l0]
    rw [if_pos (by omega), if_pos (by omega), if_pos (by omega), hr, hw, ih (i + 1) k _ (by omega) (by omega) (by simp; omega), List.drop_eq_getElem_cons hil, List.append_assoc]
    rfl
end Go.Proofs.YtddedmdgfakfjaaDoor.FA
