/-
  RegionAdds, the plain law, part 1: lists of regions, Check and May, the map of pages, its list.
-/
import Derived.Test.YtogbojhkkbddfaaDoorRAx10
namespace Go.Proofs.YtogbojhkkbddfaaDoor.RA
open Go.RowKit Go.Proofs.YtogbojhkkbddfaaDoorW.PrintWords

theorem w64 {x : Int} (h1 : -9223372036854775808 ≤ x) (h2 : x ≤ 9223372036854775807) : wrap64 x = x := by
  unfold wrap64; omega
theorem fuel {k d : Nat} (h : d < k) : ∃ m, k = m + 1 ∧ d ≤ m := ⟨k - 1, by omega, by omega⟩

def conv (x : S24) : S33 := ⟨x.f0, x.f1, x.f2⟩
theorem rd33_map (l : List S24) (i : Int) : rd_T33 (l.map conv) i = conv (rd_T24 l i) := by
  unfold rd_T33 rd_T24
  rw [List.getD_eq_getElem?_getD, List.getD_eq_getElem?_getD, List.getElem?_map]
  cases l[i.toNat]? <;> rfl
theorem rd33_at (x : List S33) (i : Nat) (h : i < x.length) : rd_T33 x (i : Int) = x[i] := by
  unfold rd_T33
  rw [Int.toNat_natCast, List.getD_eq_getElem?_getD, List.getElem?_eq_getElem h]; rfl

/-- One that may be; one ahead of another. -/
def one (r : S33) : Bool := decide (0 ≤ r.f0) && decide (r.f0 < r.f1) && decide (r.f1 ≤ 4096) && decide (r.f2 ≤ 7)
def sep (a b : S33) : Bool := !(decide (b.f0 < a.f1)) && !(decide (a.f1 = b.f0) && decide (a.f2 = b.f2))
def okAt (x : List S33) (i : Nat) : Bool := one (rd_T33 x i) && (decide (i = 0) || sep (rd_T33 x ((i : Int) - 1)) (rd_T33 x i))
def allF (p : Nat → Bool) : Nat → Nat → Bool
  | _, 0 => true
  | i, d + 1 => p i && allF p (i + 1) d
def valid (x : List S33) : Bool := allF (okAt x) 0 x.length
theorem allF_iff (p : Nat → Bool) : ∀ d i, allF p i d = true ↔ ∀ j, i ≤ j → j < i + d → p j = true
  | 0, i => by simp [allF]; omega
  | d + 1, i => by
    unfold allF
    rw [Bool.and_eq_true, allF_iff p d (i + 1)]
    constructor
    · rintro ⟨h1, h2⟩ j hj hj2
      rcases Nat.lt_or_ge i j with h | h
      · exact h2 j (by omega) (by omega)
      · obtain rfl : i = j := by omega
        exact h1
    · intro h
      exact ⟨h i (by omega) (by omega), fun j hj hj2 => h j (by omega) (by omega)⟩

theorem may_f (a b c : Int) : region_may.f a b c = some (one ⟨a, b, c⟩) := by
  unfold region_may.f region_ranged.f one
  by_cases h1 : a ≥ 0
  · by_cases h2 : a < b
    · by_cases h3 : b ≤ 4096
      · simp [h1, h2, h3]
      · simp [h1, h2, h3]
    · simp [h1, h2]
  · simp [h1]
theorem ref_one (a b c : Int) : halterref13_One.f a b c = some (one ⟨a, b, c⟩) := by
  unfold halterref13_One.f halterref13_Range.f one
  by_cases h1 : a ≥ 0
  · by_cases h2 : a < b
    · by_cases h3 : b ≤ 4096
      · simp [h1, h2, h3]
      · simp [h1, h2, h3]
    · simp [h1, h2]
  · simp [h1]

def errB (b : Bool) : Option Int := match b with | true => none | false => some 22
theorem check_l0 (x : List S33) (hn : x.length < 1000000) (d : Nat) : ∀ (i k : Nat), i + d = x.length → d < k →
    region_Check.l0 k x x (x.length : Int) i = some (errB (allF (okAt x) i d)) := by
  induction d with
  | zero =>
    intro i k hi hk
    obtain ⟨k, rfl, _⟩ := fuel hk
    simp only [region_Check.l0]
    rw [if_neg (by omega)]
    rfl
  | succ d ih =>
    intro i k hi hk
    obtain ⟨k, rfl, hk'⟩ := fuel hk
    have ih' := ih (i + 1) k (by omega) (by omega)
    have hw : wrap64 ((i : Int) + 1) = ((i + 1 : Nat) : Int) := by rw [w64 (by omega) (by omega)]; omega
    simp only [region_Check.l0]
    rw [if_pos (by omega), if_pos (by omega), if_pos (by omega), may_f, hw, ih']
    simp only [Option.bind_some, allF, okAt]
    by_cases h1 : one (rd_T33 x i) = true
    · rw [if_pos h1, h1]
      by_cases h0 : i = 0
      · subst h0
        simp
      · have hw2 : wrap64 ((i : Int) - 1) = (i : Int) - 1 := w64 (by omega) (by omega)
        rw [if_pos (by omega), hw2, if_pos (by omega), if_pos (by omega)]
        simp only [h0, decide_false, Bool.false_or, Bool.true_and]
        by_cases h2 : (rd_T33 x (i : Int)).f0 < (rd_T33 x ((i : Int) - 1)).f1
        · rw [if_pos h2]; simp [sep, h2, errB]
        · rw [if_neg h2]
          by_cases h3 : (rd_T33 x ((i : Int) - 1)).f1 = (rd_T33 x (i : Int)).f0
          · rw [if_pos h3]
            by_cases h4 : (rd_T33 x ((i : Int) - 1)).f2 = (rd_T33 x (i : Int)).f2
            · rw [if_pos h4]; simp [sep, h3, h4, errB]
            · rw [if_neg h4]; simp [sep, h3, h4]
          · rw [if_neg h3]; simp [sep, h2, h3]
    · rw [if_neg h1]
      simp [h1, errB]
theorem check_f (x : List S33) (hn : x.length < 1000000) {k : Nat} (hk : x.length < k) : region_Check.f k x = some (errB (valid x)) :=
  check_l0 x hn x.length 0 k (by omega) hk

theorem refmay_l0 (l : List S24) (hn : l.length < 1000000) (d : Nat) : ∀ (i k : Nat), i + d = l.length → d < k →
    halterref13_May.l0 k l i = some (allF (okAt (l.map conv)) i d) := by
  induction d with
  | zero =>
    intro i k hi hk
    obtain ⟨k, rfl, _⟩ := fuel hk
    simp only [halterref13_May.l0]
    rw [if_neg (by omega)]
    rfl
  | succ d ih =>
    intro i k hi hk
    obtain ⟨k, rfl, hk'⟩ := fuel hk
    have ih' := ih (i + 1) k (by omega) (by omega)
    have hw : wrap64 ((i : Int) + 1) = ((i + 1 : Nat) : Int) := by rw [w64 (by omega) (by omega)]; omega
    simp only [halterref13_May.l0]
    rw [if_pos (by omega), if_pos (by omega), ref_one, hw, ih']
    simp only [Option.bind_some, allF, okAt, rd33_map]
    have e1 : one ⟨(rd_T24 l i).f0, (rd_T24 l i).f1, (rd_T24 l i).f2⟩ = one (conv (rd_T24 l i)) := rfl
    rw [e1]
    by_cases h1 : one (conv (rd_T24 l i)) = true
    · rw [if_pos h1, h1]
      by_cases h0 : i = 0
      · subst h0
        simp
      · have hw2 : wrap64 ((i : Int) - 1) = (i : Int) - 1 := w64 (by omega) (by omega)
        rw [if_pos (by omega), hw2, if_pos (by omega), if_pos (by omega)]
        simp only [h0, decide_false, Bool.false_or, Bool.true_and]
        by_cases h2 : (rd_T24 l (i : Int)).f0 < (rd_T24 l ((i : Int) - 1)).f1
        · rw [if_pos h2]; simp [sep, conv, h2]
        · rw [if_neg h2]
          by_cases h3 : (rd_T24 l ((i : Int) - 1)).f1 = (rd_T24 l (i : Int)).f0
          · rw [if_pos h3]
            by_cases h4 : (rd_T24 l ((i : Int) - 1)).f2 = (rd_T24 l (i : Int)).f2
            · rw [if_pos h4]; simp [sep, conv, h3, h4]
            · rw [if_neg h4]; simp [sep, conv, h3, h4]
          · rw [if_neg h3]; simp [sep, conv, h2, h3]
    · rw [if_neg h1]
      simp [h1]
theorem refmay_f (l : List S24) (hn : l.length < 1000000) {k : Nat} (hk : l.length < k) : halterref13_May.f k l = some (valid (l.map conv)) := by
  have h := refmay_l0 l hn l.length 0 k (by omega) hk
  unfold valid
  rw [List.length_map]
  exact h

theorem give_l0 (l : List S24) (hn : l.length < 1000000) (d : Nat) : ∀ (i k : Nat), i + d = l.length → d < k →
    halterlaw13_giveRegions.l0 k l ((l.take i).map conv) i = some (l.map conv) := by
  induction d with
  | zero =>
    intro i k hi hk
    obtain ⟨k, rfl, _⟩ := fuel hk
    simp only [halterlaw13_giveRegions.l0]
    rw [if_neg (by omega), List.take_of_length_le (by omega)]
  | succ d ih =>
    intro i k hi hk
    obtain ⟨k, rfl, hk'⟩ := fuel hk
    have ih' := ih (i + 1) k (by omega) (by omega)
    have hw : wrap64 ((i : Int) + 1) = ((i + 1 : Nat) : Int) := by rw [w64 (by omega) (by omega)]; omega
    have hrd : rd_T24 l (i : Int) = l[i] := by
      unfold rd_T24
      rw [Int.toNat_natCast, List.getD_eq_getElem?_getD, List.getElem?_eq_getElem (by omega)]; rfl
    simp only [halterlaw13_giveRegions.l0]
    rw [if_pos (by omega), if_pos (by omega), if_pos (by simp; omega), hw, hrd]
    rw [List.take_succ_eq_append_getElem (by omega), List.map_append] at ih'
    exact ih'
theorem give_f (l : List S24) (hn : l.length < 1000000) {k : Nat} (hk : l.length < k) : halterlaw13_giveRegions.f k l = some (l.map conv) :=
  give_l0 l hn l.length 0 k (by omega) hk

theorem are_l0 (l : List S24) (hn : l.length < 1000000) (d : Nat) : ∀ (i k : Nat), i + d = l.length → d < k →
    halterlaw13_areRegions.l0 k (l.map conv) l i = some true := by
  induction d with
  | zero =>
    intro i k hi hk
    obtain ⟨k, rfl, _⟩ := fuel hk
    simp only [halterlaw13_areRegions.l0]
    rw [if_neg (by simp; omega)]
  | succ d ih =>
    intro i k hi hk
    obtain ⟨k, rfl, hk'⟩ := fuel hk
    have ih' := ih (i + 1) k (by omega) (by omega)
    have hw : wrap64 ((i : Int) + 1) = ((i + 1 : Nat) : Int) := by rw [w64 (by omega) (by omega)]; omega
    simp only [halterlaw13_areRegions.l0]
    rw [if_pos (by simp; omega), if_pos (by omega), if_pos (by omega), hw, ih', rd33_map]
    simp [conv]
theorem are_f (l : List S24) (hn : l.length < 1000000) {k : Nat} (hk : l.length < k) : halterlaw13_areRegions.f k (l.map conv) l = some true := by
  unfold halterlaw13_areRegions.f
  rw [if_pos (by simp)]
  exact are_l0 l hn l.length 0 k (by omega) hk
end Go.Proofs.YtogbojhkkbddfaaDoor.RA
