/-
  FamilySteps, the plain law, part 8: which members may be, by the document: the same as by the program.
-/
import Derived.Test.YtddedmdgfakfjaaDoorPure5
import Derived.Test.YtddedmdgfakfjaaDoorFAx6
namespace Go.Proofs.YtddedmdgfakfjaaDoor.FA
open Go.RowKit Go.Proofs.YtddedmdgfakfjaaDoorW.PrintWords

/-! ### a way to the first one is no longer than there are members -/
def cnt (x : List S39) (n : Nat) : Nat := x.countP fun m => leads x n m.f0
theorem leads_in {x : List S39} {n : Nat} {p : Int} (h : leads x (n + 1) p = true) (hn : ¬ leads x n p = true) : ∃ m ∈ x, m.f0 = p := by
  have hp : p ≠ 1 := by
    rintro rfl
    exact hn (by cases n with
      | zero => rfl
      | succ n => unfold leads; rw [if_pos rfl])
  unfold leads at h
  rw [if_neg hp] at h
  cases hx : ix x p with
  | none => rw [hx] at h; cases h
  | some j =>
    obtain ⟨hj, he⟩ := ix_some hx
    exact ⟨x[j], List.getElem_mem hj, he⟩
theorem countP_lt {α : Type} (p q : α → Bool) : ∀ (l : List α), (∀ a ∈ l, p a = true → q a = true) → (∃ a ∈ l, q a = true ∧ p a = false) → l.countP p < l.countP q
  | [], _, ⟨a, h, _⟩ => absurd h List.not_mem_nil
  | b :: l, hi, ⟨a, ha, hq, hp⟩ => by
    have hle : l.countP p ≤ l.countP q := List.countP_mono_left (fun a ha => hi a (List.mem_cons_of_mem _ ha))
    rw [List.countP_cons, List.countP_cons]
    rcases List.mem_cons.1 ha with rfl | ha
    · rw [hq, hp]
      simp
      omega
    · have ih := countP_lt p q l (fun a ha => hi a (List.mem_cons_of_mem _ ha)) ⟨a, ha, hq, hp⟩
      have hb := hi b List.mem_cons_self
      cases hpb : p b with
      | true => rw [hb hpb]; simp; omega
      | false => cases q b <;> simp <;> omega
theorem stable_next {x : List S39} {n : Nat} (h : ∀ p, leads x (n + 1) p = true → leads x n p = true) : ∀ p, leads x (n + 2) p = true → leads x (n + 1) p = true := by
  intro p hp
  unfold leads at hp ⊢
  split
  · rfl
  · rename_i h1
    rw [if_neg h1] at hp
    cases hx : ix x p with
    | none => rw [hx] at hp; exact hp
    | some j => rw [hx] at hp; exact h _ hp
theorem stable_all {x : List S39} {n : Nat} (h : ∀ p, leads x (n + 1) p = true → leads x n p = true) : ∀ (d : Nat) (p : Int), leads x (n + d) p = true → leads x n p = true
  | 0, p, hp => hp
  | d + 1, p, hp => by
    have hs : ∀ d, ∀ p, leads x (n + d + 1) p = true → leads x (n + d) p = true := by
      intro d
      induction d with
      | zero => exact h
      | succ d ih => exact stable_next ih
    exact stable_all h d p (hs d p hp)
theorem leads_cap {x : List S39} (h1 : ∃ m ∈ x, m.f0 = 1) (n : Nat) (p : Int) (h : leads x n p = true) : leads x x.length p = true := by
  have key : ∀ N : Nat, (∃ k, k < N ∧ ∀ p, leads x (k + 1) p = true → leads x k p = true) ∨ N < cnt x N := by
    intro N
    induction N with
    | zero =>
      refine .inr ?_
      obtain ⟨m, hm, he⟩ := h1
      unfold cnt
      rw [List.countP_pos_iff]
      exact ⟨m, hm, by rw [he]; rfl⟩
    | succ N ih =>
      rcases ih with ⟨k, hk, hs⟩ | hc
      · exact .inl ⟨k, by omega, hs⟩
      · by_cases hst : ∀ p, leads x (N + 1) p = true → leads x N p = true
        · exact .inl ⟨N, by omega, hst⟩
        · refine .inr ?_
          simp only [Classical.not_forall] at hst
          obtain ⟨p, hp, hn⟩ := hst
          obtain ⟨m, hm, he⟩ := leads_in hp hn
          have := countP_lt (fun m : S39 => leads x N m.f0) (fun m => leads x (N + 1) m.f0) x (fun a _ ha => leads_succ x N _ ha) ⟨m, hm, by rw [he]; exact hp, by rw [he]; exact Bool.eq_false_iff.2 hn⟩
          unfold cnt at hc ⊢
          omega
  rcases key x.length with ⟨k, hk, hs⟩ | hc
  · have : leads x k p = true := by
      rcases Nat.le_total n k with hnk | hnk
      · exact leads_le x hnk h
      · obtain ⟨d, rfl⟩ := Nat.exists_eq_add_of_le hnk
        exact stable_all hs d p h
    exact leads_le x (by omega) this
  · have := List.countP_le_length (p := fun m : S39 => leads x x.length m.f0) (l := x)
    unfold cnt at hc
    omega

/-! ### the document's May -/
def mayB (x : List S39) (i : Nat) : Bool := decide ((rd_T39 x i).f0 ≤ 99) && decide ((rd_T39 x ((i - 1 : Nat) : Int)).f0 < (rd_T39 x i).f0) && ((rd_T39 x i).f2 || decide ((rd_T39 x i).f3 = 0)) && live x (rd_T39 x i).f1 && leads x 20 (rd_T39 x i).f0
def headM (x : List S39) : Bool := decide ((rd_T39 x ((0 : Nat) : Int)).f0 = 1) && decide ((rd_T39 x ((0 : Nat) : Int)).f1 = 0) && !(rd_T39 x ((0 : Nat) : Int)).f2 && decide ((rd_T39 x ((0 : Nat) : Int)).f3 = 0)
def mayV (x : List S39) : Bool := decide (1 ≤ x.length) && decide (x.length ≤ 16) && headM x && allF (mayB x) 1 (x.length - 1)
theorem mayV_valid (x : List S39) : mayV x = valid x := by
  rw [Bool.eq_iff_iff, valid_iff]
  unfold mayV headM
  simp only [Bool.and_eq_true, decide_eq_true_eq, allF_iff, Bool.not_eq_true']
  constructor
  · rintro ⟨⟨⟨h1, h2⟩, ⟨⟨⟨a1, a2⟩, a3⟩, a4⟩⟩, h3⟩
    refine ⟨h1, h2, fun i hi => ?_⟩
    have hone : ∃ m ∈ x, m.f0 = 1 := ⟨x[0], List.getElem_mem (by omega), by rw [rd39_at x 0 (by omega)] at a1; exact a1⟩
    have hpos : ∀ j, j < x.length → 1 ≤ (rd_T39 x j).f0 := by
      intro j
      induction j with
      | zero => intro _; omega
      | succ j ih =>
        intro hj
        have h := h3 (j + 1) (by omega) (by omega)
        unfold mayB at h
        simp only [Bool.and_eq_true, decide_eq_true_eq, Nat.add_sub_cancel] at h
        have := ih (by omega)
        omega
    unfold okAt headB tailB rangeB
    rcases Nat.eq_zero_or_pos i with h0 | h0
    · subst h0
      have e : ((0 : Nat) : Int) = 0 := rfl
      rw [e] at a1 a2 a3 a4 ⊢
      simp [a1, a2, a3, a4]
    · have h := h3 i (by omega) (by omega)
      unfold mayB at h
      simp only [Bool.and_eq_true, decide_eq_true_eq] at h
      obtain ⟨⟨⟨⟨b1, b2⟩, b3⟩, b4⟩, b5⟩ := h
      have hp := hpos i hi
      rw [if_neg (by omega), b4, leads_cap hone 20 _ b5, b3]
      simp [hp, b1, b2]
  · rintro ⟨h1, h2, h3⟩
    have hv : valid x = true := (valid_iff x).2 ⟨h1, h2, h3⟩
    have hf := v_first hv
    have h0 := v_at hv (i := 0) (by omega)
    refine ⟨⟨⟨h1, h2⟩, ⟨⟨⟨hf.1, hf.2.1⟩, hf.2.2⟩, h0.2.2.2.1 hf.2.2⟩⟩, fun j hj hj2 => ?_⟩
    have ha := v_at hv (i := j) (by omega)
    have ht := v_tail hv (i := j) (by omega) (by omega)
    unfold mayB
    simp only [Bool.and_eq_true, Bool.or_eq_true, decide_eq_true_eq]
    refine ⟨⟨⟨⟨ha.2.1, ha.2.2.1 (by omega)⟩, ?_⟩, ht.1⟩, leads_le x (by omega) ht.2⟩
    cases hz : (rd_T39 x j).f2 with
    | true => exact .inl rfl
    | false => exact .inr (ha.2.2.2.1 hz)
section
variable (l : List S51) (hn : l.length < 1000000)
include hn
theorem may_l1 (i : Nat) (K : Nat) (hK : l.length < K) (r : Bool) (hcont : ∀ k, K ≤ k → halterref24_May.l0 k l (wrap64 ((i : Int) + 1)) = some r) (d : Nat) : ∀ (j : Nat) (p : Int) (k : Nat), j + d = 20 → K + 2 * d + 2 ≤ k →
    halterref24_May.l1 k l (i : Int) p (j : Int) = some (leads (l.map conv) d p && r) := by
  induction d with
  | zero =>
    intro j p k hj hk
    obtain ⟨k, rfl⟩ : ∃ m, k = m + 2 := ⟨k - 2, by omega⟩
    simp only [halterref24_May.l1, halterref24_May.j4, leads]
    rw [if_neg (by omega), if_neg (by decide), hcont k (by omega)]
    by_cases hp : p = 1
    · rw [if_pos hp, beq_iff_eq.2 hp]; rfl
    · rw [if_neg hp, beq_eq_false_iff_ne.2 hp]; rfl
  | succ d ih =>
    intro j p k hj hk
    obtain ⟨k, rfl⟩ : ∃ m, k = m + 2 := ⟨k - 2, by omega⟩
    have hw : wrap64 ((j : Int) + 1) = ((j + 1 : Nat) : Int) := by rw [w64 (by omega) (by omega)]; omega
    simp only [halterref24_May.l1, halterref24_May.j4, leads]
    rw [if_pos (by omega)]
    by_cases hp : p = 1
    · rw [if_neg (by simp [hp]), if_pos hp, if_pos hp, hcont k (by omega)]; rfl
    · rw [if_pos (by simpa using hp), if_neg hp, ref_at l hn p k (by omega), Option.bind_some]
      cases hx : ix (l.map conv) p with
      | none => simp [ixI, hx]
      | some q =>
        obtain ⟨hq, _⟩ := ix_some hx
        rw [List.length_map] at hq
        simp only [ixI, hx]
        rw [if_neg (by omega), if_pos (by omega), if_pos (by omega), hw, ih (j + 1) _ k (by omega) (by omega), rd39_map]
        rfl
theorem may_l0 (d : Nat) : ∀ (i k : Nat), i + d = l.length → 1 ≤ i → (d + 1) * (l.length + 100) < k → halterref24_May.l0 k l (i : Int) = some (allF (mayB (l.map conv)) i d) := by
  induction d with
  | zero =>
    intro i k hi h1 hk
    obtain ⟨k, rfl, _⟩ := fuel hk
    simp only [halterref24_May.l0, allF]
    rw [if_neg (by omega)]
  | succ d ih =>
    intro i k hi h1 hk
    have hmul : (d + 1 + 1) * (l.length + 100) = (d + 1) * (l.length + 100) + (l.length + 100) := Nat.succ_mul _ _
    have hge : l.length + 100 ≤ (d + 1) * (l.length + 100) := by rw [Nat.succ_mul]; exact Nat.le_add_left _ _
    rw [hmul] at hk
    clear hmul
    generalize (d + 1) * (l.length + 100) = M at ih hk hge
    obtain ⟨k, rfl⟩ : ∃ m, k = m + 2 := ⟨k - 2, by omega⟩
    have hw : wrap64 ((i : Int) + 1) = ((i + 1 : Nat) : Int) := by rw [w64 (by omega) (by omega)]; omega
    have hw2 : wrap64 ((i : Int) - 1) = ((i - 1 : Nat) : Int) := by rw [w64 (by omega) (by omega)]; omega
    have hj2 : ∀ b, halterref24_May.j2 (k + 1) l (i : Int) b = some (!b && (leads (l.map conv) 20 (rd_T51 l i).f0 && allF (mayB (l.map conv)) (i + 1) d)) := fun b => by
      simp only [halterref24_May.j2]
      cases b with
      | true => rfl
      | false =>
        rw [if_neg (by decide), if_pos (by omega), if_pos (by omega)]
        have := may_l1 l hn i (M + 1) (by omega) (allF (mayB (l.map conv)) (i + 1) d) (fun k2 hk2 => by rw [hw]; exact ih (i + 1) k2 (by omega) (by omega) (by omega)) 20 0 (rd_T51 l i).f0 k (by omega) (by omega)
        rw [show ((0 : Nat) : Int) = 0 from rfl] at this
        rw [this]
        rfl
    have hal := fun p => ref_alive l hn p (k + 1) (by omega)
    have e : mayB (l.map conv) i = (decide ((rd_T51 l i).f0 ≤ 99) && decide ((rd_T51 l ((i - 1 : Nat) : Int)).f0 < (rd_T51 l i).f0) && ((rd_T51 l i).f2 || decide ((rd_T51 l i).f3 = 0)) && live (l.map conv) (rd_T51 l i).f1 && leads (l.map conv) 20 (rd_T51 l i).f0) := by
      unfold mayB
      rw [rd39_map, rd39_map]
      rfl
    simp only [halterref24_May.l0, allF]
    rw [if_pos (by omega), if_pos (by omega), hw2, hj2, e]
    by_cases h1 : (rd_T51 l (i : Int)).f0 > 99
    · rw [if_pos h1, decide_eq_false (by omega : ¬ (rd_T51 l (i : Int)).f0 ≤ 99)]; rfl
    · rw [if_neg h1, if_pos (by omega), if_pos (by omega), hal, Option.bind_some, hj2, decide_eq_true (by omega : (rd_T51 l (i : Int)).f0 ≤ 99)]
      generalize rd_T51 l (i : Int) = m
      generalize (rd_T51 l ((i - 1 : Nat) : Int)).f0 = q
      by_cases h2 : m.f0 ≤ q
      · rw [if_pos h2, decide_eq_false (by omega : ¬ q < m.f0)]; rfl
      · rw [if_neg h2, decide_eq_true (by omega : q < m.f0)]
        cases hz : m.f2 with
        | true => rw [if_pos rfl]; cases live (l.map conv) m.f1 <;> simp
        | false =>
          rw [if_neg (by decide)]
          by_cases h3 : m.f3 = 0
          · rw [if_pos h3, decide_eq_true h3]; cases live (l.map conv) m.f1 <;> simp
          · rw [if_neg h3, decide_eq_false h3]; simp
end
theorem ref_may (l : List S51) (hn : l.length < 1000) (k : Nat) (hk : 2000 < k) : halterref24_May.f k l = some (valid (l.map conv)) := by
  rw [← mayV_valid]
  have no : ∀ k, 0 < k → halterref24_May.j0 k l true = some false := fun k hk => by
    obtain ⟨k, rfl, _⟩ := fuel hk
    simp only [halterref24_May.j0]
    rfl
  have hlm : (l.map conv).length = l.length := List.length_map _
  unfold halterref24_May.f mayV
  rw [hlm]
  by_cases h1 : (l.length : Int) < 1
  · rw [if_pos h1, no k (by omega), decide_eq_false (by omega : ¬ 1 ≤ l.length)]; rfl
  · rw [if_neg h1, decide_eq_true (by omega : 1 ≤ l.length)]
    by_cases h2 : (l.length : Int) > 16
    · rw [if_pos h2, no k (by omega), decide_eq_false (by omega : ¬ l.length ≤ 16)]; rfl
    · rw [if_neg h2, decide_eq_true (by omega : l.length ≤ 16), if_pos (by omega)]
      have e : headM (l.map conv) = (decide ((rd_T51 l 0).f0 = 1) && decide ((rd_T51 l 0).f1 = 0) && !(rd_T51 l 0).f2 && decide ((rd_T51 l 0).f3 = 0)) := by
        unfold headM
        rw [rd39_map]
        rfl
      have yes : halterref24_May.j0 k l false = some (allF (mayB (l.map conv)) 1 (l.length - 1)) := by
        obtain ⟨k, rfl, hk'⟩ := fuel hk
        simp only [halterref24_May.j0]
        rw [if_neg (by decide)]
        refine may_l0 l (by omega) (l.length - 1) 1 k (by omega) (by omega) ?_
        have : (l.length - 1 + 1) * (l.length + 100) ≤ 16 * 116 := Nat.mul_le_mul (by omega) (by omega)
        omega
      rw [e]
      generalize rd_T51 l 0 = m
      by_cases a1 : m.f0 = 1
      · rw [if_pos a1, decide_eq_true a1]
        by_cases a2 : m.f1 = 0
        · rw [if_pos a2, decide_eq_true a2]
          cases a3 : m.f2 with
          | true => rw [if_pos rfl, no k (by omega)]; rfl
          | false =>
            rw [if_neg (by decide)]
            by_cases a4 : m.f3 = 0
            · rw [show (m.f3 != 0) = false by simp [a4], yes, decide_eq_true a4]; simp
            · rw [show (m.f3 != 0) = true by simpa using a4, no k (by omega), decide_eq_false a4]; rfl
        · rw [if_neg a2, no k (by omega), decide_eq_false a2]; rfl
      · rw [if_neg a1, no k (by omega), decide_eq_false a1]; rfl
end Go.Proofs.YtddedmdgfakfjaaDoor.FA
