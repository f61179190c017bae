/-
  FamilySteps, FamilyOrphans, the plain law, part 3: one is over: what the program's Exit gives.
-/
import Derived.Test.YtddedmdgfakfjaaDoorPure2
namespace Go.Proofs.YtddedmdgfakfjaaDoor.FA
open Go.RowKit Go.Proofs.YtddedmdgfakfjaaDoorW.PrintWords

/-- A member behind it. -/
def upd (p st : Int) (m : S39) : S39 := if m.f0 = p then ⟨m.f0, m.f1, true, st⟩ else if m.f1 = p then ⟨m.f0, 1, m.f2, m.f3⟩ else m
theorem rd_mid (pre r : List S39) (a : S39) : rd_T39 (pre ++ a :: r) (pre.length : Int) = a := by
  rw [rd39_at _ _ (by simp)]
  simp
theorem set_mid (pre r : List S39) (a v : S39) : (pre ++ a :: r).set pre.length v = pre ++ v :: r := by
  simp
theorem exit_l0 (p st : Int) (n : Nat) (hn : n < 1000000) : ∀ (r pre : List S39) (k : Nat), pre.length + r.length = n → r.length < k →
    family_Exit.l0 k p st (pre ++ r) (n : Int) (pre.length : Int) = some (pre ++ r.map (upd p st), none)
  | [], pre, k, hp, hk => by
    obtain ⟨k, rfl, _⟩ := fuel hk
    simp only [family_Exit.l0]
    rw [if_neg (by simp at hp; omega)]
    rfl
  | a :: r, pre, k, hp, hk => by
    obtain ⟨k, rfl, hk'⟩ := fuel hk
    simp at hp hk'
    have hw : wrap64 ((pre.length : Int) + 1) = ((pre.length + 1 : Nat) : Int) := by rw [w64 (by omega) (by omega)]; omega
    have ih := fun v => exit_l0 p st n hn r (pre ++ [v]) k (by simp; omega) (by omega)
    simp only [List.length_append, List.length_singleton, List.append_assoc, List.singleton_append] at ih
    simp only [family_Exit.l0]
    rw [if_pos (by omega), if_pos (by omega), if_pos (by simp; omega), rd_mid, hw, Int.toNat_natCast]
    by_cases h1 : a.f0 = p
    · rw [if_pos h1, Option.bind_some, set_mid, rd_mid, set_mid, ih]
      simp [upd, h1]
    · rw [if_neg h1]
      by_cases h2 : a.f1 = p
      · rw [if_pos h2, set_mid, ih]
        simp [upd, h1, h2]
      · rw [if_neg h2, ih]
        simp [upd, h1, h2]
theorem exit_f (x : List S39) (hn : x.length < 1000000) (p st : Int) (k : Nat) (hk : 2 * x.length + 4 < k) :
    family_Exit.f k x p st = some (if valid x then (if live x p then (if p = 1 then ([], some 1) else (x.map (upd p st), none)) else ([], some 3)) else ([], some 22)) := by
  unfold family_Exit.f
  rw [check_f x hn k hk, Option.bind_some]
  cases hv : valid x with
  | false => rfl
  | true =>
    rw [if_pos (by rfl), alive_f, Option.bind_some]
    cases hl : live x p with
    | false => rfl
    | true =>
      by_cases h1 : p = 1
      · simp [h1]
      · have := exit_l0 p st x.length hn x [] k (by simp) (by omega)
        simp only [List.nil_append, List.length_nil] at this
        simp only [if_neg h1, if_true]
        unfold slices_Clone.f
        rw [if_pos hn, Option.bind_some]
        exact this

def found (x : List S39) (p : Int) : Int × Int × Bool × Int × Option Int :=
  if valid x then (match ix x p with | some j => ((rd_T39 x j).f0, (rd_T39 x j).f1, (rd_T39 x j).f2, (rd_T39 x j).f3, none) | none => (0, 0, false, 0, some 3)) else (0, 0, false, 0, some 22)
theorem find_f (x : List S39) (hn : x.length < 1000000) (p : Int) (k : Nat) (hk : 2 * x.length + 4 < k) :
    family_Find.f k x p = some (found x p) := by
  unfold family_Find.f found
  rw [check_f x hn k hk, Option.bind_some]
  cases hv : valid x with
  | false => rfl
  | true =>
    rw [if_pos (by rfl), at_f, Option.bind_some]
    cases h : ix x p with
    | none => simp
    | some j =>
      obtain ⟨hj, _⟩ := ix_some h
      simp only [ixI, h, Option.isSome_some, if_true]
      rw [if_pos (by omega), if_pos (by omega)]

/-- A member's children, by their numbers. -/
def kids (x : List S39) (p : Int) : List Int := (x.filter fun m => decide (m.f1 = p) && decide (m.f0 ≠ 1)).map (·.f0)
theorem kids_cons (a : S39) (r : List S39) (p : Int) : kids (a :: r) p = if a.f1 = p then (if a.f0 = 1 then kids r p else a.f0 :: kids r p) else kids r p := by
  unfold kids
  by_cases h1 : a.f1 = p
  · by_cases h2 : a.f0 = 1
    · simp [h1, h2]
    · simp [h1, h2]
  · simp [h1]
theorem kids_l0 (x : List S39) (hn : x.length < 1000000) (p : Int) (d : Nat) : ∀ (i k : Nat) (out : List Int), i + d = x.length → d < k → out.length + d < 1000000 →
    family_Children.l0 k p out x (x.length : Int) (i : Int) = some (out ++ kids (x.drop i) p) := by
  induction d with
  | zero =>
    intro i k out hi hk _
    obtain ⟨k, rfl, _⟩ := fuel hk
    simp only [family_Children.l0]
    rw [if_neg (by omega), List.drop_eq_nil_of_le (by omega)]
    simp [kids]
  | succ d ih =>
    intro i k out hi hk ho
    obtain ⟨k, rfl, hk'⟩ := fuel hk
    have hil : i < x.length := by omega
    have hw : wrap64 ((i : Int) + 1) = ((i + 1 : Nat) : Int) := by rw [w64 (by omega) (by omega)]; omega
    simp only [family_Children.l0]
    rw [if_pos (by omega), if_pos (by omega), if_pos (by omega), rd39_at x i hil, hw, List.drop_eq_getElem_cons hil, kids_cons]
    by_cases h1 : x[i].f1 = p
    · rw [if_pos h1, if_pos h1]
      by_cases h2 : x[i].f0 = 1
      · rw [if_pos h2, if_pos h2, ih (i + 1) k out (by omega) (by omega) (by omega)]
      · rw [if_neg h2, if_neg h2, if_pos (by omega), ih (i + 1) k _ (by omega) (by omega) (by simp; omega), List.append_assoc]
        rfl
    · rw [if_neg h1, if_neg h1, ih (i + 1) k out (by omega) (by omega) (by omega)]
theorem kids_f (x : List S39) (hn : x.length < 1000000) (p : Int) (k : Nat) (hk : 2 * x.length + 4 < k) :
    family_Children.f k x p = some (if valid x then kids x p else []) := by
  unfold family_Children.f
  rw [check_f x hn k hk, Option.bind_some]
  cases hv : valid x with
  | false => rfl
  | true =>
    rw [if_pos (by rfl)]
    have := kids_l0 x hn p x.length 0 k [] (by omega) (by omega) (by simp; omega)
    simpa using this
end Go.Proofs.YtddedmdgfakfjaaDoor.FA
