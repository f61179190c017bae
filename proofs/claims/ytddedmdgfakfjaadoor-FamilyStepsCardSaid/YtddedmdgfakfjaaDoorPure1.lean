/-
  FamilySteps, FamilyOrphans, the plain law, part 1: the place of a number, who is alive, the way to the first one.
-/
import Derived.Test.YtddedmdgfakfjaaDoorFAx5
namespace Go.Proofs.YtddedmdgfakfjaaDoor.FA
open Go.RowKit Go.Proofs.YtddedmdgfakfjaaDoorW.PrintWords

theorem w64 {x : Int} (h1 : -9223372036854775808 ≤ x) (h2 : x ≤ 9223372036854775807) : wrap64 x = x := by
  unfold wrap64; omega
theorem fuel {k d : Nat} (h : d < k) : ∃ m, k = m + 1 ∧ d ≤ m := ⟨k - 1, by omega, by omega⟩

def conv (x : S51) : S39 := ⟨x.f0, x.f1, x.f2, x.f3⟩
theorem rd39_map (l : List S51) (i : Int) : rd_T39 (l.map conv) i = conv (rd_T51 l i) := by
  unfold rd_T39 rd_T51
  rw [List.getD_eq_getElem?_getD, List.getD_eq_getElem?_getD, List.getElem?_map]
  cases l[i.toNat]? <;> rfl
theorem rd39_at (x : List S39) (i : Nat) (h : i < x.length) : rd_T39 x (i : Int) = x[i] := by
  unfold rd_T39
  rw [Int.toNat_natCast, List.getD_eq_getElem?_getD, List.getElem?_eq_getElem h]; rfl

/-- The place of a number. -/
def ix (x : List S39) (p : Int) : Option Nat := x.findIdx? fun o => o.f0 == p
theorem ix_some {x : List S39} {p : Int} {i : Nat} (h : ix x p = some i) : ∃ hi : i < x.length, x[i].f0 = p := by
  unfold ix at h
  rw [List.findIdx?_eq_some_iff_getElem] at h
  obtain ⟨hi, h1, _⟩ := h
  exact ⟨hi, by simpa using h1⟩
theorem idxFrom (p : Int) (z : S39) : ∀ (x : List S39) (i : Nat), Lib.idxByFrom (fun _ y => isP p y) z x i = match x.findIdx? (fun o => o.f0 == p) with | some j => ((i + j : Nat) : Int) | none => -1
  | [], i => rfl
  | a :: x, i => by
    unfold Lib.idxByFrom
    rw [List.findIdx?_cons]
    by_cases h : (a.f0 == p) = true
    · rw [if_pos (show isP p a = true from h), if_pos h]; rfl
    · rw [if_neg (show ¬ isP p a = true from h), if_neg h, idxFrom p z x (i + 1)]
      cases x.findIdx? (fun o => o.f0 == p) with
      | none => rfl
      | some j => simp only [Option.map_some]; congr 1; omega
def ixI (x : List S39) (p : Int) : Int := match ix x p with | some j => (j : Int) | none => -1
theorem at_f (x : List S39) (p : Int) : family_at.f x p = some (ixI x p, (ix x p).isSome) := by
  unfold family_at.f slices_IndexFunc.f Lib.idxBy
  rw [Option.bind_some, idxFrom]
  unfold ixI ix
  cases x.findIdx? (fun o => o.f0 == p) with
  | none => rfl
  | some j => simp
/-- Is it there, and not over? -/
def live (x : List S39) (p : Int) : Bool := match ix x p with | some j => !(rd_T39 x j).f2 | none => false
theorem alive_f (x : List S39) (p : Int) : family_alive.f x p = some (live x p) := by
  unfold family_alive.f live
  rw [at_f, Option.bind_some]
  cases h : ix x p with
  | none => rfl
  | some j =>
    obtain ⟨hj, _⟩ := ix_some h
    simp only [ixI, h, Option.isSome_some, if_true]
    rw [if_pos (by omega), if_pos (by omega)]
/-- Parent by parent, n steps at most. -/
def leads (x : List S39) : Nat → Int → Bool
  | 0, p => p == 1
  | n + 1, p => if p = 1 then true else match ix x p with | some j => leads x n (rd_T39 x j).f1 | none => false
theorem leads_l0 (x : List S39) (n : Nat) (hn : n < 1000000) : ∀ (d i : Nat) (p : Int) (k : Nat), i + d = n → d < k → family_leads.l0 k x p (n : Int) i = some (leads x d p) := by
  intro d
  induction d with
  | zero =>
    intro i p k hi hk
    obtain ⟨k, rfl, _⟩ := fuel hk
    simp only [family_leads.l0, leads]
    rw [if_neg (by omega)]
  | succ d ih =>
    intro i p k hi hk
    obtain ⟨k, rfl, hk'⟩ := fuel hk
    have hw : wrap64 ((i : Int) + 1) = ((i + 1 : Nat) : Int) := by rw [w64 (by omega) (by omega)]; omega
    simp only [family_leads.l0, leads]
    rw [if_pos (by omega)]
    by_cases h1 : p = 1
    · rw [if_pos h1, if_pos h1]
    · rw [if_neg h1, if_neg h1, at_f, Option.bind_some]
      cases h : ix x p with
      | none => rfl
      | some j =>
        obtain ⟨hj, _⟩ := ix_some h
        simp only [ixI, h, Option.isSome_some, if_true]
        rw [if_pos (by omega), if_pos (by omega), hw]
        exact ih (i + 1) _ k (by omega) (by omega)
theorem leads_f (x : List S39) (hn : x.length < 1000000) (p : Int) (k : Nat) (hk : x.length < k) : family_leads.f k x p = some (leads x x.length p) :=
  leads_l0 x x.length hn x.length 0 p k (by omega) hk
theorem leads_succ (x : List S39) : ∀ (n : Nat) (p : Int), leads x n p = true → leads x (n + 1) p = true
  | 0, p, h => by
    simp [leads] at h ⊢
    simp [h]
  | n + 1, p, h => by
    unfold leads at h ⊢
    split at h
    · rw [if_pos (by assumption)]
    · rw [if_neg (by assumption)]
      cases hx : ix x p with
      | none => rw [hx] at h; exact h
      | some j => rw [hx] at h; exact leads_succ x n _ h
theorem leads_le (x : List S39) {m n : Nat} (h : m ≤ n) {p : Int} (hm : leads x m p = true) : leads x n p = true := by
  induction h with
  | refl => exact hm
  | step _ ih => exact leads_succ x _ p ih

/-! ### The document's -/
theorem ref_at_l0 (l : List S51) (hn : l.length < 1000000) (p : Int) (d : Nat) : ∀ (i k : Nat), i + d = l.length → d < k →
    halterref24_At.l0 k l p i = some (match ((l.drop i).map conv).findIdx? (fun o => o.f0 == p) with | some j => ((i + j : Nat) : Int) | none => -1) := by
  induction d with
  | zero =>
    intro i k hi hk
    obtain ⟨k, rfl, _⟩ := fuel hk
    simp only [halterref24_At.l0]
    rw [if_neg (by omega), List.drop_eq_nil_of_le (by omega)]
    rfl
  | succ d ih =>
    intro i k hi hk
    obtain ⟨k, rfl, hk'⟩ := fuel hk
    have hw : wrap64 ((i : Int) + 1) = ((i + 1 : Nat) : Int) := by rw [w64 (by omega) (by omega)]; omega
    have hil : i < l.length := by omega
    have hr : rd_T51 l (i : Int) = l[i] := by
      unfold rd_T51
      rw [Int.toNat_natCast, List.getD_eq_getElem?_getD, List.getElem?_eq_getElem hil]; rfl
    simp only [halterref24_At.l0]
    rw [if_pos (by omega), if_pos (by omega), hr, List.drop_eq_getElem_cons hil, List.map_cons, List.findIdx?_cons, hw]
    by_cases h : l[i].f0 = p
    · rw [if_pos h, if_pos (show ((conv l[i]).f0 == p) = true by simpa [conv] using h)]; rfl
    · rw [if_neg h, if_neg (show ¬ ((conv l[i]).f0 == p) = true by simpa [conv] using h), ih (i + 1) k (by omega) (by omega)]
      cases ((l.drop (i + 1)).map conv).findIdx? (fun o => o.f0 == p) with
      | none => rfl
      | some j => simp only [Option.map_some]; congr 2; omega
theorem ref_at (l : List S51) (hn : l.length < 1000000) (p : Int) (k : Nat) (hk : l.length < k) : halterref24_At.f k l p = some (ixI (l.map conv) p) := by
  unfold halterref24_At.f
  have := ref_at_l0 l hn p l.length 0 k (by omega) hk
  rw [show ((0 : Nat) : Int) = 0 from rfl] at this
  rw [this, List.drop_zero]
  unfold ixI ix
  cases (l.map conv).findIdx? (fun o => o.f0 == p) with
  | none => rfl
  | some j => simp
theorem ref_alive (l : List S51) (hn : l.length < 1000000) (p : Int) (k : Nat) (hk : l.length < k) : halterref24_Alive.f k l p = some (live (l.map conv) p) := by
  unfold halterref24_Alive.f live
  rw [ref_at l hn p k hk, Option.bind_some]
  cases h : ix (l.map conv) p with
  | none => simp [ixI, h]
  | some j =>
    obtain ⟨hj, _⟩ := ix_some h
    rw [List.length_map] at hj
    simp only [ixI, h]
    rw [if_pos (by omega), if_pos (by omega), if_pos (by omega), rd39_map]
    rfl
end Go.Proofs.YtddedmdgfakfjaaDoor.FA
