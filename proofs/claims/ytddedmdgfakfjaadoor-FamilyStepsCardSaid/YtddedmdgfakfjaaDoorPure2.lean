/-
  FamilySteps, FamilyOrphans, the plain law, part 2: which members may be (the program's Check).
-/
import Derived.Test.YtddedmdgfakfjaaDoorPure1
namespace Go.Proofs.YtddedmdgfakfjaaDoor.FA
open Go.RowKit Go.Proofs.YtddedmdgfakfjaaDoorW.PrintWords

def rangeB (p : Int) : Bool := decide (1 ≤ p) && decide (p ≤ 99)
theorem pids_f (p : Int) : pids_Check.f p = some (match rangeB p with | true => none | false => some 22) := by
  unfold pids_Check.f rangeB
  by_cases h1 : p < 1
  · rw [if_pos h1, decide_eq_false (by omega : ¬ 1 ≤ p)]; rfl
  · rw [if_neg h1, decide_eq_true (by omega : 1 ≤ p)]
    by_cases h2 : p > 99
    · rw [if_pos h2, decide_eq_false (by omega : ¬ p ≤ 99)]; rfl
    · rw [if_neg h2, decide_eq_true (by omega : p ≤ 99)]; rfl
/-- What a member's place asks. -/
def headB (x : List S39) (i : Nat) : Bool := rangeB (rd_T39 x i).f0 && (decide (i = 0) || decide ((rd_T39 x ((i - 1 : Nat) : Int)).f0 < (rd_T39 x i).f0)) && ((rd_T39 x i).f2 || decide ((rd_T39 x i).f3 = 0))
def tailB (x : List S39) (i : Nat) : Bool := if i = 0 then decide ((rd_T39 x i).f0 = 1) && decide ((rd_T39 x i).f1 = 0) && !(rd_T39 x i).f2 else live x (rd_T39 x i).f1 && leads x x.length (rd_T39 x i).f0
def okAt (x : List S39) (i : Nat) : Bool := headB x i && tailB x i
theorem may_j0 (x : List S39) (hn : x.length < 1000000) (i : Nat) (b : Bool) (k : Nat) (hk : x.length + 1 < k) :
    family_may.j0 k x i b (rd_T39 x i).f0 (rd_T39 x i).f1 (rd_T39 x i).f2 (rd_T39 x i).f3 = some (!b && tailB x i) := by
  obtain ⟨k, rfl, hk'⟩ := fuel hk
  simp only [family_may.j0, tailB]
  cases b with
  | true => simp
  | false =>
    by_cases hi : i = 0
    · subst hi
      generalize rd_T39 x ((0 : Nat) : Int) = m
      by_cases h1 : m.f0 = 1
      · by_cases h2 : m.f1 = 0
        · simp [h1, h2]
        · simp [h1, h2]
      · simp [h1]
    · have hi' : ¬ ((i : Int) = 0) := by omega
      rw [if_neg (by decide), if_neg hi', if_neg hi, alive_f, Option.bind_some]
      cases hl : live x (rd_T39 x i).f1 with
      | false => rfl
      | true => rw [if_pos rfl, leads_f x hn _ k (by omega)]; rfl
theorem may_f (x : List S39) (hn : x.length < 1000000) (i : Nat) (hi : i < x.length) (k : Nat) (hk : x.length + 1 < k) : family_may.f k x i = some (okAt x i) := by
  unfold family_may.f okAt
  have hj := fun b => may_j0 x hn i b k hk
  rw [if_pos (by omega), if_pos (by omega), pids_f, Option.bind_some]
  unfold headB
  cases hr : rangeB (rd_T39 x i).f0 with
  | false =>
    rw [if_neg (by simp), hj]
    simp
  | true =>
    rw [if_pos (by rfl)]
    by_cases h0 : i = 0
    · subst h0
      rw [if_neg (by omega)]
      cases h2 : (rd_T39 x ((0 : Nat) : Int)).f2 with
      | true =>
        have := hj false
        rw [h2] at this
        rw [if_pos rfl, this]
        simp
      | false =>
        have := hj ((rd_T39 x ((0 : Nat) : Int)).f3 != 0)
        rw [h2] at this
        rw [if_neg (by decide), this]
        generalize (rd_T39 x ((0 : Nat) : Int)).f3 = c
        by_cases h3 : c = 0
        · simp [h3]
        · simp [h3]
    · have hw : wrap64 ((i : Int) - 1) = ((i - 1 : Nat) : Int) := by rw [w64 (by omega) (by omega)]; omega
      rw [if_pos (by omega), hw, if_pos (by omega), if_pos (by omega)]
      by_cases h4 : (rd_T39 x ((i - 1 : Nat) : Int)).f0 ≥ (rd_T39 x i).f0
      · rw [if_pos h4, hj]
        have : ¬ ((rd_T39 x ((i - 1 : Nat) : Int)).f0 < (rd_T39 x i).f0) := by omega
        simp [h0, this]
      · rw [if_neg h4]
        have : (rd_T39 x ((i - 1 : Nat) : Int)).f0 < (rd_T39 x i).f0 := by omega
        cases h2 : (rd_T39 x i).f2 with
        | true =>
          have h5 := hj false
          rw [h2] at h5
          rw [if_pos rfl, h5]
          simp [this]
        | false =>
          have h5 := hj ((rd_T39 x i).f3 != 0)
          rw [h2] at h5
          rw [if_neg (by decide), h5]
          by_cases h3 : (rd_T39 x i).f3 = 0
          · simp [h3, this]
          · simp [h3]
def allF (p : Nat → Bool) : Nat → Nat → Bool
  | _, 0 => true
  | i, d + 1 => p i && allF p (i + 1) d
theorem allF_iff (p : Nat → Bool) : ∀ d i, allF p i d = true ↔ ∀ j, i ≤ j → j < i + d → p j = true
  | 0, i => by simp [allF]; omega
  | d + 1, i => by
    unfold allF
    rw [Bool.and_eq_true, allF_iff p d (i + 1)]
    constructor
    · rintro ⟨h1, h2⟩ j hj hj2
      rcases Nat.lt_or_ge i j with h | h
      · exact h2 j (by omega) (by omega)
      · obtain rfl : i = j := by omega
        exact h1
    · intro h
      exact ⟨h i (by omega) (by omega), fun j hj hj2 => h j (by omega) (by omega)⟩
/-- Members that may be. -/
def valid (x : List S39) : Bool := decide (1 ≤ x.length) && decide (x.length ≤ 16) && allF (okAt x) 0 x.length
def errB (b : Bool) : Option Int := match b with | true => none | false => some 22
theorem check_l0 (x : List S39) (hn : x.length < 1000000) (d : Nat) : ∀ (i k : Nat), i + d = x.length → d + x.length + 2 < k → family_Check.l0 k x (x.length : Int) i = some (errB (allF (okAt x) i d)) := by
  induction d with
  | zero =>
    intro i k hi hk
    obtain ⟨k, rfl, _⟩ := fuel hk
    simp only [family_Check.l0]
    rw [if_neg (by omega)]
    rfl
  | succ d ih =>
    intro i k hi hk
    obtain ⟨k, rfl, hk'⟩ := fuel hk
    have hw : wrap64 ((i : Int) + 1) = ((i + 1 : Nat) : Int) := by rw [w64 (by omega) (by omega)]; omega
    simp only [family_Check.l0, allF]
    rw [if_pos (by omega), may_f x hn i (by omega) k (by omega), Option.bind_some, hw]
    cases h : okAt x i with
    | false => rfl
    | true => rw [if_pos rfl, ih (i + 1) k (by omega) (by omega)]; rfl
theorem check_f (x : List S39) (hn : x.length < 1000000) (k : Nat) (hk : 2 * x.length + 4 < k) : family_Check.f k x = some (errB (valid x)) := by
  unfold family_Check.f valid
  obtain ⟨k, rfl, hk'⟩ := fuel hk
  by_cases h1 : (x.length : Int) < 1
  · rw [if_pos h1, decide_eq_false (by omega : ¬ 1 ≤ x.length)]
    simp only [family_Check.j0]
    rfl
  · rw [if_neg h1, decide_eq_true (by omega : 1 ≤ x.length)]
    simp only [family_Check.j0]
    by_cases h2 : (x.length : Int) > 16
    · rw [decide_eq_true h2, decide_eq_false (by omega : ¬ x.length ≤ 16)]
      rfl
    · rw [decide_eq_false h2, decide_eq_true (by omega : x.length ≤ 16), if_neg (by decide)]
      exact check_l0 x hn x.length 0 k (by omega) (by omega)
end Go.Proofs.YtddedmdgfakfjaaDoor.FA
