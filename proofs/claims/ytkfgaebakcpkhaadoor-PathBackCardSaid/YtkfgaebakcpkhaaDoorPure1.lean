/-
  The plain law of paths, part 1: the tokens of a text between slashes, with their places; which names may be.
-/
import Derived.Test.YtkfgaebakcpkhaaDoorPAx3
namespace Go.Proofs.YtkfgaebakcpkhaaDoor.PA
open Go.RowKit Go.Proofs.YtkfgaebakcpkhaaDoorW.PrintWords Go.Proofs.YtkfgaebakcpkhaaDoor.Sq

theorem w64 {x : Int} (h1 : -9223372036854775808 ≤ x) (h2 : x ≤ 9223372036854775807) : wrap64 x = x := by
  unfold wrap64; omega
theorem fuel {k d : Nat} (h : d < k) : ∃ m, k = m + 1 ∧ d ≤ m := ⟨k - 1, by omega, by omega⟩
theorem lenS (s : ByteArray) : s.data.toList.length = s.size := Array.length_toList
theorem bt_list (s : ByteArray) (i : Nat) (h : i < s.size) : bt s (i : Int) = ((s.data.toList[i]'(by rw [lenS]; exact h)).toNat : Int) := by
  unfold bt
  rw [dif_pos (by simpa using h)]
  rfl
theorem toList_eq (s : ByteArray) : s.toList = s.data.toList := Lib.toList_data s
theorem ext_list {s t : ByteArray} (h : s.data.toList = t.data.toList) : s = t := by
  rw [← mk_toList s, ← mk_toList t, h]
theorem rdOf_at (l : List ByteArray) (i : Nat) (h : i < l.length) : rdOf ByteArray.empty l (i : Int) = l[i] := by
  unfold rdOf
  rw [Int.toNat_natCast, List.getD_eq_getElem?_getD, List.getElem?_eq_getElem h]; rfl

/-! ### a name -/
def fine : List UInt8 := [97, 98, 99, 100, 101, 102, 103, 104, 105, 106, 107, 108, 109, 110, 111, 112, 113, 114, 115, 116, 117, 118, 119, 120, 121, 122, 48, 49, 50, 51, 52, 53, 54, 55, 56, 57, 46, 95, 45]
def chk (s : ByteArray) : Option Int := if s.data.toList = [] then some 2 else if s.size > 16 then some 36 else if s.data.toList.all (fine.contains ·) then none else some 22
theorem dropWhile_nil (p : UInt8 → Bool) : ∀ l : List UInt8, l.dropWhile p = [] ↔ l.all p = true
  | [] => by simp
  | b :: l => by
    rw [List.dropWhile_cons, List.all_cons]
    cases h : p b with
    | true => simp only [if_true, Bool.true_and]; exact dropWhile_nil p l
    | false => simp
theorem check_f (s : ByteArray) : path_Check.f s = some (chk s) := by
  unfold path_Check.f chk
  rw [toList_eq]
  by_cases h1 : s.data.toList = []
  · rw [if_pos h1, if_pos h1]
  · rw [if_neg h1, if_neg h1]
    by_cases h2 : s.size > 16
    · rw [if_pos (by omega), if_pos h2]
    · rw [if_neg (by omega), if_neg h2]
      unfold strings_TrimLeft.f
      rw [if_pos (by decide), Option.bind_some, toList_eq]
      have e : (⟨(Lib.trimLeftS s.data.toList fine).toArray⟩ : ByteArray).data.toList = s.data.toList.dropWhile (fine.contains ·) := rfl
      show (if (⟨(Lib.trimLeftS s.data.toList fine).toArray⟩ : ByteArray).data.toList = [] then _ else _) = _
      rw [e]
      by_cases h3 : s.data.toList.all (fine.contains ·) = true
      · rw [if_pos ((dropWhile_nil _ _).2 h3), if_pos h3]
      · rw [if_neg (fun h => h3 ((dropWhile_nil _ _).1 h)), if_neg h3]
theorem fine_iff (b : UInt8) : fine.contains b = (decide (97 ≤ (b.toNat : Int)) && decide ((b.toNat : Int) ≤ 122) || decide (48 ≤ (b.toNat : Int)) && decide ((b.toNat : Int) ≤ 57) || decide ((b.toNat : Int) = 46) || decide ((b.toNat : Int) = 95) || decide ((b.toNat : Int) = 45)) := by
  have h : ∀ n : Fin 256, fine.contains (UInt8.ofNat n.val) = (decide (97 ≤ (n.val : Int)) && decide ((n.val : Int) ≤ 122) || decide (48 ≤ (n.val : Int)) && decide ((n.val : Int) ≤ 57) || decide ((n.val : Int) = 46) || decide ((n.val : Int) = 95) || decide ((n.val : Int) = 45)) := by decide +kernel
  have := h ⟨b.toNat, b.toNat_lt⟩
  simpa using this
def errI (o : Option Int) : Int := o.getD 0
theorem ref_check_l0 (s : ByteArray) (hs : s.size ≤ 16) (d : Nat) : ∀ (i k : Nat), i + d = s.size → d < k →
    halterref16_Check.l0 k s (i : Int) = some (if (s.data.toList.drop i).all (fine.contains ·) then 0 else 22) := by
  induction d with
  | zero =>
    intro i k hi hk
    obtain ⟨k, rfl, _⟩ := fuel hk
    simp only [halterref16_Check.l0]
    rw [if_neg (by omega), List.drop_eq_nil_of_le (by rw [lenS]; omega)]
    rfl
  | succ d ih =>
    intro i k hi hk
    obtain ⟨k, rfl, hk'⟩ := fuel hk
    have hil : i < s.size := by omega
    have hw : wrap64 ((i : Int) + 1) = ((i + 1 : Nat) : Int) := by rw [w64 (by omega) (by omega)]; omega
    have hd : s.data.toList.drop i = s.data.toList[i]'(by rw [lenS]; exact hil) :: s.data.toList.drop (i + 1) := List.drop_eq_getElem_cons _
    have ih1 := ih (i + 1) k (by omega) (by omega)
    simp only [halterref16_Check.l0]
    rw [if_pos (by omega), if_pos (by omega), bt_list s i hil, hw, hd, List.all_cons, fine_iff]
    generalize (s.data.toList[i]'(by rw [lenS]; exact hil)).toNat = n
    rw [ih1]
    generalize (List.drop (i + 1) s.data.toList).all (fine.contains ·) = b
    by_cases h1 : (n : Int) ≥ 97 <;> by_cases h2 : (n : Int) ≤ 122 <;> by_cases h3 : (n : Int) ≥ 48 <;> by_cases h4 : (n : Int) ≤ 57 <;> by_cases h5 : (n : Int) = 46 <;> by_cases h6 : (n : Int) = 95 <;> by_cases h7 : (n : Int) = 45 <;>
      first
      | (exfalso; omega)
      | simp [h1, h2, h3, h4, h5, h6, h7]
theorem ref_check_f (s : ByteArray) (k : Nat) (hk : 20 < k) : halterref16_Check.f k s = some (errI (chk s)) := by
  unfold halterref16_Check.f chk
  rw [toList_eq]
  by_cases h1 : s.data.toList = []
  · rw [if_pos h1, if_pos h1]; rfl
  · rw [if_neg h1, if_neg h1]
    by_cases h2 : s.size > 16
    · rw [if_pos (by omega), if_pos h2]; rfl
    · rw [if_neg (by omega), if_neg h2]
      have := ref_check_l0 s (by omega) s.size 0 k (by omega) (by omega)
      rw [List.drop_zero] at this
      refine this.trans ?_
      split <;> rfl

/-! ### names -/
def chkAll (l : List ByteArray) : Option Int := if l.length > 8 then some 90 else l.findSome? chk
theorem chk_pos {s : ByteArray} {e : Int} (h : chk s = some e) : e = 2 ∨ e = 36 ∨ e = 22 := by
  unfold chk at h
  split at h
  · cases h; exact .inl rfl
  · split at h
    · cases h; exact .inr (.inl rfl)
    · split at h
      · cases h
      · cases h; exact .inr (.inr rfl)
theorem path_check_l0 (l : List ByteArray) (hl : l.length ≤ 8) (d : Nat) : ∀ (i k : Nat), i + d = l.length → d < k →
    path_check.l0 k l (l.length : Int) (i : Int) = some ((l.drop i).findSome? chk) := by
  induction d with
  | zero =>
    intro i k hi hk
    obtain ⟨k, rfl, _⟩ := fuel hk
    simp only [path_check.l0]
    rw [if_neg (by omega), List.drop_eq_nil_of_le (by omega)]
    rfl
  | succ d ih =>
    intro i k hi hk
    obtain ⟨k, rfl, hk'⟩ := fuel hk
    have hil : i < l.length := by omega
    have hw : wrap64 ((i : Int) + 1) = ((i + 1 : Nat) : Int) := by rw [w64 (by omega) (by omega)]; omega
    simp only [path_check.l0]
    rw [if_pos (by omega), if_pos (by omega), if_pos (by omega), rdOf_at l i hil, check_f, Option.bind_some, hw, ih (i + 1) k (by omega) (by omega), List.drop_eq_getElem_cons hil, List.findSome?_cons]
    cases h : chk l[i] with
    | none => rfl
    | some e => rfl
theorem path_check_f (l : List ByteArray) (k : Nat) (hk : 10 < k) : path_check.f k l = some (chkAll l) := by
  unfold path_check.f chkAll
  by_cases h : l.length > 8
  · rw [if_pos (by omega), if_pos h]
  · rw [if_neg (by omega), if_neg h]
    have := path_check_l0 l (by omega) l.length 0 k (by omega) (by omega)
    rwa [List.drop_zero] at this
theorem ref_checked_l0 (l : List ByteArray) (hl : l.length ≤ 8) (d : Nat) : ∀ (i k : Nat), i + d = l.length → d + 30 < k →
    halterref16_checked.l0 k l (i : Int) = some (errI ((l.drop i).findSome? chk)) := by
  induction d with
  | zero =>
    intro i k hi hk
    obtain ⟨k, rfl, _⟩ := fuel hk
    simp only [halterref16_checked.l0]
    rw [if_neg (by omega), List.drop_eq_nil_of_le (by omega)]
    rfl
  | succ d ih =>
    intro i k hi hk
    obtain ⟨k, rfl, hk'⟩ := fuel hk
    have hil : i < l.length := by omega
    have hw : wrap64 ((i : Int) + 1) = ((i + 1 : Nat) : Int) := by rw [w64 (by omega) (by omega)]; omega
    simp only [halterref16_checked.l0]
    rw [if_pos (by omega), if_pos (by omega), rdOf_at l i hil, ref_check_f _ k (by omega), Option.bind_some, hw, ih (i + 1) k (by omega) (by omega), List.drop_eq_getElem_cons hil, List.findSome?_cons]
    cases h : chk l[i] with
    | none => rfl
    | some e =>
      have := chk_pos h
      rw [if_neg (by simp only [errI, Option.getD_some]; omega)]
theorem ref_checked_f (l : List ByteArray) (k : Nat) (hk : 50 < k) : halterref16_checked.f k l = some (errI (chkAll l)) := by
  unfold halterref16_checked.f chkAll
  by_cases h : l.length > 8
  · rw [if_pos (by omega), if_pos h]; rfl
  · rw [if_neg (by omega), if_neg h]
    have := ref_checked_l0 l (by omega) l.length 0 k (by omega) (by omega)
    rwa [List.drop_zero] at this
theorem chkAll_pos {l : List ByteArray} {e : Int} (h : chkAll l = some e) : e = 90 ∨ e = 2 ∨ e = 36 ∨ e = 22 := by
  unfold chkAll at h
  split at h
  · cases h; exact .inl rfl
  · obtain ⟨s, _, hs⟩ := List.exists_of_findSome?_eq_some h
    exact .inr (chk_pos hs)
theorem chkAll_none {l : List ByteArray} (h : chkAll l = none) : l.length ≤ 8 ∧ ∀ s ∈ l, chk s = none := by
  unfold chkAll at h
  split at h
  · cases h
  · exact ⟨by omega, fun s hs => List.findSome?_eq_none_iff.1 h s hs⟩
theorem chk_none {s : ByteArray} (h : chk s = none) : s.data.toList ≠ [] ∧ s.size ≤ 16 ∧ ∀ b ∈ s.data.toList, b ≠ 47 := by
  unfold chk at h
  split at h
  · cases h
  · rename_i h0
    split at h
    · cases h
    · split at h
      · rename_i h2
        refine ⟨h0, by omega, fun b hb e => ?_⟩
        subst e
        have := List.all_eq_true.1 h2 _ hb
        revert this
        decide
      · cases h
end Go.Proofs.YtkfgaebakcpkhaaDoor.PA
