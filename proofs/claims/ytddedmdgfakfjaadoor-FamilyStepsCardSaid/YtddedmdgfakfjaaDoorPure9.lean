/-
  FamilySteps, the plain law, part 9: one more, one over, one reaped, the children, by the document: the same as by the program.
-/
import Derived.Test.YtddedmdgfakfjaaDoorPure8
import Derived.Test.YtddedmdgfakfjaaDoorFAx7
import Derived.Test.YtddedmdgfakfjaaDoorFAx8
namespace Go.Proofs.YtddedmdgfakfjaaDoor.FA
open Go.RowKit Go.Proofs.YtddedmdgfakfjaaDoorW.PrintWords

def errI (o : Option Int) : Int := o.getD 0
/-! ### sorted by their numbers -/
def Up (x : List S39) : Prop := x.Pairwise fun a b => a.f0 < b.f0
theorem up_of {x : List S39} (hv : valid x = true) : Up x := by
  unfold Up
  rw [List.pairwise_iff_getElem]
  intro i j hi hj hij
  have := v_incr hv hij hj
  rwa [rd39_at x i hi, rd39_at x j hj] at this
theorem up_eq : ∀ {a b : List S39}, Up a → Up b → (∀ y, y ∈ a ↔ y ∈ b) → a = b
  | [], [], _, _, _ => rfl
  | [], c :: b, _, _, h => absurd ((h c).2 List.mem_cons_self) List.not_mem_nil
  | c :: a, [], _, _, h => absurd ((h c).1 List.mem_cons_self) List.not_mem_nil
  | c :: a, d :: b, ha, hb, h => by
    have ha' := List.pairwise_cons.1 ha
    have hb' := List.pairwise_cons.1 hb
    have hcd : c = d := by
      rcases List.mem_cons.1 ((h c).1 List.mem_cons_self) with e | e
      · exact e
      · rcases List.mem_cons.1 ((h d).2 List.mem_cons_self) with e2 | e2
        · exact e2.symm
        · have h1 := hb'.1 c e
          have h2 := ha'.1 d e2
          omega
    subst hcd
    congr 1
    refine up_eq ha'.2 hb'.2 fun y => ?_
    constructor
    · intro hy
      rcases List.mem_cons.1 ((h y).1 (List.mem_cons_of_mem _ hy)) with e | e
      · subst e
        have := ha'.1 y hy
        omega
      · exact e
    · intro hy
      rcases List.mem_cons.1 ((h y).2 (List.mem_cons_of_mem _ hy)) with e | e
      · subst e
        have := hb'.1 y hy
        omega
      · exact e
/-- One more in its place. -/
def ins (m : S39) (x : List S39) : List S39 := x.filter (fun a => decide (a.f0 ≤ m.f0)) ++ m :: x.filter (fun a => decide (m.f0 < a.f0))
theorem ins_up {m : S39} {x : List S39} (hx : Up x) (hm : ∀ a ∈ x, a.f0 ≠ m.f0) : Up (ins m x) := by
  unfold Up ins
  rw [List.pairwise_append, List.pairwise_cons]
  refine ⟨List.Pairwise.filter _ hx, ⟨fun a ha => ?_, List.Pairwise.filter _ hx⟩, fun a ha b hb => ?_⟩
  · have := (List.mem_filter.1 ha).2
    simpa using this
  · obtain ⟨ha1, ha2⟩ := List.mem_filter.1 ha
    have ha2 : a.f0 ≤ m.f0 := by simpa using ha2
    have := hm a ha1
    rcases List.mem_cons.1 hb with rfl | hb
    · omega
    · have hb2 := (List.mem_filter.1 hb).2
      have : m.f0 < b.f0 := by simpa using hb2
      omega
theorem mem_ins {m : S39} {x : List S39} (y : S39) : y ∈ ins m x ↔ y ∈ x ++ [m] := by
  unfold ins
  simp only [List.mem_append, List.mem_filter, List.mem_cons, List.not_mem_nil, or_false, decide_eq_true_eq]
  constructor
  · rintro (⟨h, _⟩ | h | ⟨h, _⟩)
    · exact .inl h
    · exact .inr h
    · exact .inl h
  · rintro (h | h)
    · rcases Int.lt_or_le m.f0 y.f0 with h1 | h1
      · exact .inr (.inr ⟨h, h1⟩)
      · exact .inl ⟨h, h1⟩
    · exact .inr (.inl h)
theorem sort_f {x : List S39} {m : S39} (hx : Up x) (hm : ∀ a ∈ x, a.f0 ≠ m.f0) (hl : x.length < 999999) (hr : ∀ a ∈ x ++ [m], 0 ≤ a.f0 ∧ a.f0 ≤ 4096) : slices_SortFunc.f (x ++ [m]) = some (ins m x) := by
  have hne : (x ++ [m]).Pairwise fun a b => a.f0 ≠ b.f0 := by
    rw [List.pairwise_append]
    refine ⟨hx.imp (fun h => by omega), List.pairwise_singleton _ _, fun a ha b hb => ?_⟩
    rw [List.mem_singleton.1 hb]
    exact hm a ha
  unfold slices_SortFunc.f
  rw [if_pos ⟨by simp, by rw [List.length_append]; simp; omega, hr, by rw [List.Nodup, List.pairwise_map]; exact hne⟩]
  congr 1
  have hp := List.mergeSort_perm (x ++ [m]) leR
  refine up_eq ?_ (ins_up hx hm) (fun y => by rw [hp.mem_iff, mem_ins])
  have h1 : ((x ++ [m]).mergeSort leR).Pairwise fun a b => leR a b = true :=
    List.pairwise_mergeSort (fun a b c h1 h2 => by simp only [leR, decide_eq_true_eq] at *; omega) (fun a b => by simp only [leR, Bool.or_eq_true, decide_eq_true_eq]; omega) _
  have h2 : ((x ++ [m]).mergeSort leR).Pairwise fun a b => a.f0 ≠ b.f0 := (hp.pairwise_iff (fun h => Ne.symm h)).2 hne
  exact (h1.and h2).imp (fun ⟨h3, h4⟩ => by simp only [leR, decide_eq_true_eq] at h3; omega)
theorem ix_none_iff {x : List S39} {p : Int} : ix x p = none ↔ ∀ a ∈ x, a.f0 ≠ p := by
  unfold ix
  rw [List.findIdx?_eq_none_iff]
  constructor
  · intro h a ha e
    have := h a ha
    simp [e] at this
  · intro h a ha
    simpa using h a ha

/-! ### one more -/
def addV (x : List S39) (p q : Int) : List S39 × Option Int :=
  if valid x = true ∧ rangeB p = true then (if (ix x p).isSome = true then ([], some 17) else if live x q = true then (if 16 ≤ x.length then ([], some 11) else (ins ⟨p, q, false, 0⟩ x, none)) else ([], some 3)) else ([], some 22)
theorem range_iff (p : Int) : rangeB p = true ↔ 1 ≤ p ∧ p ≤ 99 := by unfold rangeB; simp
theorem add_f (x : List S39) (hn : x.length < 900000) (p q : Int) (k : Nat) (hk : 2 * x.length + 10 < k) : family_Add.f k x p q = some (addV x p q) := by
  by_cases hg : valid x = true ∧ rangeB p = true
  · obtain ⟨hv, hr⟩ := hg
    cases hi : ix x p with
    | some j =>
      unfold family_Add.f addV
      rw [check_f x (by omega) k (by omega), Option.bind_some, hv, if_pos (by rfl), pids_f, Option.bind_some, hr, if_pos (by rfl)]
      obtain ⟨k, rfl, _⟩ := fuel hk
      simp only [family_Add.j0]
      rw [if_neg (by decide), at_f, Option.bind_some, hi, if_pos (by rfl), if_pos ⟨trivial, trivial⟩, if_pos (by rfl)]
    | none =>
      cases hl : live x q with
      | false =>
        unfold family_Add.f addV
        rw [check_f x (by omega) k (by omega), Option.bind_some, hv, if_pos (by rfl), pids_f, Option.bind_some, hr, if_pos (by rfl)]
        obtain ⟨k, rfl, _⟩ := fuel hk
        simp only [family_Add.j0]
        rw [if_neg (by decide), at_f, Option.bind_some, hi, if_neg (by simp), alive_f, Option.bind_some, hl, if_neg (by decide), if_pos ⟨trivial, trivial⟩, if_neg (by simp), if_neg (by decide)]
      | true =>
        by_cases h16 : 16 ≤ x.length
        · unfold family_Add.f addV
          rw [check_f x (by omega) k (by omega), Option.bind_some, hv, if_pos (by rfl), pids_f, Option.bind_some, hr, if_pos (by rfl)]
          obtain ⟨k, rfl, _⟩ := fuel hk
          simp only [family_Add.j0]
          rw [if_neg (by decide), at_f, Option.bind_some, hi, if_neg (by simp), alive_f, Option.bind_some, hl, if_pos (by rfl), if_pos (by omega), if_pos ⟨trivial, trivial⟩, if_neg (by simp), if_pos (by rfl), if_pos h16]
        · have hx := up_of hv
          have hm := ix_none_iff.1 hi
          have hs := sort_f (m := ⟨p, q, false, 0⟩) hx hm (by omega) (fun a ha => by
            rcases List.mem_append.1 ha with ha | ha
            · obtain ⟨j, hj, rfl⟩ := List.getElem_of_mem ha
              have := v_at hv hj
              rw [rd39_at x j hj] at this
              omega
            · rw [List.mem_singleton.1 ha]
              have := (range_iff p).1 hr
              simp only
              omega)
          rw [add_ok x _ p q (by omega) hv hr hi hl (by omega) hs k (by omega)]
          unfold addV
          rw [if_pos ⟨hv, hr⟩, hi, if_neg (by simp), hl, if_pos rfl, if_neg h16]
  · unfold family_Add.f addV
    rw [if_neg hg, check_f x (by omega) k (by omega), Option.bind_some]
    have no : ∀ k, 0 < k → family_Add.j0 k x p q true = some ([], some 22) := fun k hk => by
      obtain ⟨k, rfl, _⟩ := fuel hk
      simp only [family_Add.j0]
      rfl
    cases hv : valid x with
    | false => rw [if_neg (by simp [errB]), no k (by omega)]
    | true =>
      rw [if_pos (by rfl), pids_f, Option.bind_some]
      cases hr : rangeB p with
      | true => exact absurd ⟨hv, hr⟩ hg
      | false => rw [if_neg (by simp), no k (by omega)]
theorem rd51_at (l : List S51) (i : Nat) (h : i < l.length) : rd_T51 l (i : Int) = l[i] := by
  unfold rd_T51
  rw [Int.toNat_natCast, List.getD_eq_getElem?_getD, List.getElem?_eq_getElem h]; rfl
/-- The document's one more: what is left, one to be put in or not. -/
def insR (m : S51) : Bool → List S51 → List S51
  | true, l => l
  | false, [] => [m]
  | false, a :: l => if a.f0 > m.f0 then m :: a :: l else a :: insR m false l
theorem insR_map (m : S51) : ∀ l : List S51, Up (l.map conv) → (∀ a ∈ l, a.f0 ≠ m.f0) → (insR m false l).map conv = ins (conv m) (l.map conv)
  | [], _, _ => rfl
  | a :: l, hu, hm => by
    rw [List.map_cons] at hu ⊢
    have hu' := List.pairwise_cons.1 hu
    have ha := hm a List.mem_cons_self
    unfold insR
    have hc : ∀ y : S51, (conv y).f0 = y.f0 := fun _ => rfl
    by_cases h : a.f0 > m.f0
    · rw [if_pos h]
      have hall : ∀ y ∈ l.map conv, (conv m).f0 < y.f0 := fun y hy => by
        have h1 := hu'.1 y hy
        rw [hc] at h1 ⊢
        omega
      unfold ins
      rw [List.filter_cons, if_neg (by simp only [hc, decide_eq_true_eq]; omega), List.filter_cons, if_pos (by simp only [hc, decide_eq_true_eq]; omega),
        List.filter_eq_nil_iff.2 (fun y hy => by have := hall y hy; simp only [decide_eq_true_eq]; omega), List.filter_eq_self.2 (fun y hy => by have := hall y hy; simpa using this)]
      rfl
    · rw [if_neg h, List.map_cons, insR_map m l hu'.2 (fun y hy => hm y (List.mem_cons_of_mem _ hy))]
      unfold ins
      rw [List.filter_cons, if_pos (by simp only [hc, decide_eq_true_eq]; omega), List.filter_cons, if_neg (by simp only [hc, decide_eq_true_eq]; omega)]
      rfl
theorem ref_add_l0 (l : List S51) (hn : l.length < 1000) (p q : Int) (d : Nat) : ∀ (i k : Nat) (out : List S51) (b : Bool), i + d = l.length → d < k → out.length + 2 * d < 100000 →
    halterref24_Add.l0 k l p q out b (i : Int) = some (out ++ insR ⟨p, q, false, 0⟩ b (l.drop i), 0) := by
  induction d with
  | zero =>
    intro i k out b hi hk ho
    obtain ⟨k, rfl, _⟩ := fuel hk
    simp only [halterref24_Add.l0]
    rw [if_neg (by omega), List.drop_eq_nil_of_le (by omega)]
    cases b with
    | true => rw [if_pos (by rfl)]; simp [insR]
    | false => rw [if_neg (by decide), if_pos (by omega)]; rfl
  | succ d ih =>
    intro i k out b hi hk ho
    obtain ⟨k, rfl, hk'⟩ := fuel hk
    have hil : i < l.length := by omega
    have hw : wrap64 ((i : Int) + 1) = ((i + 1 : Nat) : Int) := by rw [w64 (by omega) (by omega)]; omega
    simp only [halterref24_Add.l0]
    rw [if_pos (by omega), if_pos (by omega), rd51_at l i hil, hw, List.drop_eq_getElem_cons hil]
    have e : (⟨l[i].f0, l[i].f1, l[i].f2, l[i].f3⟩ : S51) = l[i] := rfl
    rw [e]
    have tr : ∀ l' : List S51, insR (⟨p, q, false, 0⟩ : S51) true l' = l' := fun l' => by cases l' <;> rfl
    by_cases h : l[i].f0 > p
    · rw [if_pos h]
      cases b with
      | true =>
        rw [if_pos (by rfl), if_pos (by omega), ih (i + 1) k _ true (by omega) (by omega) (by simp; omega), tr, tr]
        simp
      | false =>
        rw [if_neg (by decide), if_pos (by omega), Option.bind_some, if_pos (by simp; omega), ih (i + 1) k _ true (by omega) (by omega) (by simp; omega), tr]
        unfold insR
        rw [if_pos h]
        simp
    · rw [if_neg h, if_pos (by omega), ih (i + 1) k _ b (by omega) (by omega) (by simp; omega)]
      cases b with
      | true => rw [tr, tr]; simp
      | false =>
        conv => rhs; unfold insR
        rw [if_neg h]
        simp
theorem ref_add (l : List S51) (hn : l.length < 1000) (p q : Int) (k : Nat) (hk : 2100 < k) : ∃ z, halterref24_Add.f k l p q = some (z, errI (addV (l.map conv) p q).2) ∧ z.map conv = (addV (l.map conv) p q).1 := by
  have hlm : (l.map conv).length = l.length := List.length_map _
  have no : ∀ k, 0 < k → halterref24_Add.j0 k l p q true = some ([], 22) := fun k hk => by
    obtain ⟨k, rfl, _⟩ := fuel hk
    simp only [halterref24_Add.j0]
    rfl
  unfold halterref24_Add.f
  rw [ref_may l hn k (by omega), Option.bind_some]
  cases hv : valid (l.map conv) with
  | false =>
    refine ⟨[], ?_, ?_⟩
    · rw [if_neg (by decide), no k (by omega)]
      unfold addV
      rw [hv, if_neg (by simp)]
      rfl
    · unfold addV
      rw [hv, if_neg (by simp)]
      rfl
  | true =>
    rw [if_pos rfl]
    by_cases hr : rangeB p = true
    · obtain ⟨r1, r2⟩ := (range_iff p).1 hr
      rw [if_neg (by omega), decide_eq_false (by omega : ¬ p > 99)]
      obtain ⟨k, rfl, hk'⟩ := fuel hk
      simp only [halterref24_Add.j0]
      rw [if_neg (by decide), ref_at l (by omega) p k (by omega), Option.bind_some]
      have hA : addV (l.map conv) p q = (if (ix (l.map conv) p).isSome = true then ([], some 17) else if live (l.map conv) q = true then (if 16 ≤ (l.map conv).length then ([], some 11) else (ins ⟨p, q, false, 0⟩ (l.map conv), none)) else ([], some 3)) := by
        unfold addV
        rw [if_pos ⟨hv, hr⟩]
      rw [hA]
      clear hA
      cases hi : ix (l.map conv) p with
      | some j =>
        refine ⟨[], ?_, ?_⟩
        · rw [show ixI (l.map conv) p = (j : Int) by unfold ixI; rw [hi], if_pos (by omega)]
          rfl
        · rfl
      | none =>
        rw [show ixI (l.map conv) p = -1 by unfold ixI; rw [hi], if_neg (by decide : ¬ (-1 : Int) ≥ 0), ref_alive l (by omega) q k (by omega), Option.bind_some, if_neg (by simp : ¬ (none : Option Nat).isSome = true)]
        cases hl : live (l.map conv) q with
        | false => exact ⟨[], rfl, rfl⟩
        | true =>
          rw [if_pos (rfl : true = true), if_pos (rfl : true = true), hlm]
          have h16 := (v_len hv).2
          rw [hlm] at h16
          by_cases h : l.length = 16
          · exact ⟨[], by rw [if_pos (by omega : (l.length : Int) = 16), if_pos (by omega : 16 ≤ l.length)]; rfl, by rw [if_pos (by omega : 16 ≤ l.length)]; rfl⟩
          · rw [if_neg (by omega : ¬ (l.length : Int) = 16), if_neg (by omega : ¬ 16 ≤ l.length)]
            have := ref_add_l0 l hn p q l.length 0 k [] false (by omega) (by omega) (by simp; omega)
            rw [show ((0 : Nat) : Int) = 0 from rfl, List.drop_zero, List.nil_append] at this
            refine ⟨_, this, ?_⟩
            refine insR_map ⟨p, q, false, 0⟩ l (up_of hv) (fun a ha e => ?_)
            exact ix_none_iff.1 hi (conv a) (List.mem_map_of_mem ha) e
    · have hr2 : ¬ (1 ≤ p ∧ p ≤ 99) := fun h => hr ((range_iff p).2 h)
      have hA : addV (l.map conv) p q = ([], some 22) := by
        unfold addV
        rw [if_neg (fun h => hr h.2)]
      rw [hA]
      refine ⟨[], ?_, rfl⟩
      by_cases h1 : p < 1
      · rw [if_pos h1, no k (by omega)]; rfl
      · rw [if_neg h1, decide_eq_true (by omega : p > 99), no k (by omega)]; rfl

/-! ### one over -/
def updR (p st : Int) (m : S51) : S51 := ⟨m.f0, if m.f1 = p then 1 else m.f1, if m.f0 = p then true else m.f2, if m.f0 = p then st else m.f3⟩
theorem ref_exit_l0 (l : List S51) (hn : l.length < 1000) (p st : Int) (d : Nat) : ∀ (i k : Nat) (out : List S51), i + d = l.length → d < k → out.length + d < 100000 →
    halterref24_Exit.l0 k l p st out (i : Int) = some (out ++ (l.drop i).map (updR p st), 0) := by
  induction d with
  | zero =>
    intro i k out hi hk ho
    obtain ⟨k, rfl, _⟩ := fuel hk
    simp only [halterref24_Exit.l0]
    rw [if_neg (by omega), List.drop_eq_nil_of_le (by omega)]
    simp
  | succ d ih =>
    intro i k out hi hk ho
    obtain ⟨k, rfl, hk'⟩ := fuel hk
    have hil : i < l.length := by omega
    have hw : wrap64 ((i : Int) + 1) = ((i + 1 : Nat) : Int) := by rw [w64 (by omega) (by omega)]; omega
    have ih' := fun v => ih (i + 1) k (out ++ [v]) (by omega) (by omega) (by simp; omega)
    simp only [halterref24_Exit.l0]
    rw [if_pos (by omega), if_pos (by omega), rd51_at l i hil, hw, List.drop_eq_getElem_cons hil, List.map_cons]
    unfold updR at ih' ⊢
    by_cases h1 : l[i].f1 = p <;> by_cases h2 : l[i].f0 = p <;> simp only [h1, h2, if_true, if_false] <;> rw [if_pos (by omega), ih'] <;> simp
theorem ref_exit (l : List S51) (hn : l.length < 1000) (p st : Int) (k : Nat) (hk : 2100 < k) : ∃ z e, halterref24_Exit.f k l p st = some (z, errI e) ∧
    (if valid (l.map conv) then (if live (l.map conv) p then (if p = 1 then ([], some 1) else ((l.map conv).map (upd p st), none)) else ([], some 3)) else (([], some 22) : List S39 × Option Int)) = (z.map conv, e) := by
  unfold halterref24_Exit.f
  rw [ref_may l hn k (by omega), Option.bind_some]
  cases hv : valid (l.map conv) with
  | false => exact ⟨[], some 22, by rw [if_neg (by decide)]; rfl, by rw [if_neg (by decide)]; rfl⟩
  | true =>
    rw [if_pos rfl, if_pos rfl, ref_alive l (by omega) p k (by omega), Option.bind_some]
    cases hl : live (l.map conv) p with
    | false => exact ⟨[], some 3, by rw [if_neg (by decide)]; rfl, by rw [if_neg (by decide)]; rfl⟩
    | true =>
      rw [if_pos rfl, if_pos rfl]
      by_cases h1 : p = 1
      · exact ⟨[], some 1, by rw [if_pos h1]; rfl, by rw [if_pos h1]; rfl⟩
      · have := ref_exit_l0 l hn p st l.length 0 k [] (by omega) (by omega) (by simp; omega)
        rw [show ((0 : Nat) : Int) = 0 from rfl, List.drop_zero, List.nil_append] at this
        refine ⟨_, none, by rw [if_neg h1, this]; rfl, ?_⟩
        rw [if_neg h1, List.map_map, List.map_map]
        congr 1
        apply List.map_congr_left
        intro m hm
        obtain ⟨j, hj, rfl⟩ := List.getElem_of_mem hm
        have hs := v_self hv (i := j) (by rw [List.length_map]; exact hj)
        rw [rd39_map, rd51_at l j hj] at hs
        have hs : l[j].f1 ≠ l[j].f0 := hs
        simp only [Function.comp_apply, upd, updR, conv]
        by_cases h2 : l[j].f0 = p
        · have h3 : ¬ l[j].f1 = p := by omega
          simp [h2, h3]
        · by_cases h3 : l[j].f1 = p <;> simp [h2, h3]

/-! ### one reaped -/
theorem cut_one {x : List S39} (hx : Up x) {p : Int} {j : Nat} (h : ix x p = some j) : (x.filter fun y => !isP p y) = x.take j ++ x.drop (j + 1) := by
  obtain ⟨hj, he⟩ := ix_some h
  have hx' := hx
  unfold Up at hx'
  rw [List.pairwise_iff_getElem] at hx'
  have h1 : x = x.take j ++ x[j] :: x.drop (j + 1) := by rw [← List.drop_eq_getElem_cons hj, List.take_append_drop]
  have hl : ∀ y ∈ x.take j, (!isP p y) = true := fun y hy => by
    obtain ⟨i, hi, rfl⟩ := List.getElem_of_mem hy
    have hij : i < j := by rw [List.length_take] at hi; omega
    have := hx' i j (by omega) hj hij
    rw [List.getElem_take]
    unfold isP
    rw [beq_eq_false_iff_ne.2 (by omega)]
    rfl
  have hr : ∀ y ∈ x.drop (j + 1), (!isP p y) = true := fun y hy => by
    obtain ⟨i, hi, rfl⟩ := List.getElem_of_mem hy
    rw [List.length_drop] at hi
    have := hx' j (j + 1 + i) hj (by omega) (by omega)
    rw [List.getElem_drop]
    unfold isP
    rw [beq_eq_false_iff_ne.2 (by omega)]
    rfl
  conv => lhs; rw [h1]
  rw [List.filter_append, List.filter_eq_self.2 hl, List.filter_cons, if_neg (by unfold isP; rw [he]; simp), List.filter_eq_self.2 hr]
def reapV (x : List S39) (p : Int) : List S39 × Option Int :=
  if valid x then (match ix x p with | some j => (if (rd_T39 x j).f2 = true then (x.take j ++ x.drop (j + 1), none) else ([], some 22)) | none => ([], some 3)) else ([], some 22)
theorem reap_f (x : List S39) (hn : x.length < 900000) (p : Int) (k : Nat) (hk : 2 * x.length + 10 < k) : family_Reap.f k x p = some (reapV x p) := by
  unfold family_Reap.f reapV
  rw [find_f x (by omega) p k (by omega), Option.bind_some]
  unfold found
  cases hv : valid x with
  | false => rfl
  | true =>
    rw [if_pos rfl, if_pos rfl]
    cases hi : ix x p with
    | none => rfl
    | some j =>
      dsimp only
      rw [if_pos (by rfl)]
      by_cases hz : (rd_T39 x j).f2 = true
      case neg => rw [if_neg hz, if_neg hz]
      case pos =>
        rw [if_pos hz, if_pos hz]
        unfold slices_Clone.f
        rw [if_pos (by omega), Option.bind_some]
        unfold slices_DeleteFunc.f
        rw [if_pos (by omega), Option.bind_some, cut_one (up_of hv) hi]
theorem ref_reap (l : List S51) (hn : l.length < 1000) (p : Int) (k : Nat) (hk : 2100 < k) : ∃ z, halterref24_Reap.f k l p = some (z, errI (reapV (l.map conv) p).2) ∧ z.map conv = (reapV (l.map conv) p).1 := by
  unfold halterref24_Reap.f reapV
  rw [ref_may l hn k (by omega), Option.bind_some]
  cases hv : valid (l.map conv) with
  | false => exact ⟨[], by rw [if_neg (by decide), if_neg (by decide)]; rfl, by rw [if_neg (by decide)]; rfl⟩
  | true =>
    rw [if_pos rfl, if_pos rfl, ref_at l (by omega) p k (by omega), Option.bind_some]
    cases hi : ix (l.map conv) p with
    | none => exact ⟨[], by simp only [ixI, hi]; rw [if_pos (by decide)]; rfl, rfl⟩
    | some j =>
      obtain ⟨hj, _⟩ := ix_some hi
      rw [List.length_map] at hj
      have hw : wrap64 ((j : Int) + 1) = ((j + 1 : Nat) : Int) := by rw [w64 (by omega) (by omega)]; omega
      simp only [ixI, hi]
      rw [if_neg (by omega), if_pos (by omega), if_pos (by omega), rd39_map]
      have e : (conv (rd_T51 l j)).f2 = (rd_T51 l j).f2 := rfl
      rw [e]
      cases hz : (rd_T51 l j).f2 with
      | false => exact ⟨[], by rw [if_neg (by decide), if_neg (by decide)]; rfl, by rw [if_neg (by decide)]; rfl⟩
      | true =>
        refine ⟨l.take j ++ l.drop (j + 1), ?_, ?_⟩
        · rw [if_pos rfl, if_pos rfl, if_pos (by omega), Option.bind_some, if_pos (by rw [List.length_take]; simp; omega), Option.bind_some, hw, if_pos (by omega), if_pos (by omega), Option.bind_some, if_pos (by simp; omega), Int.toNat_natCast, Int.toNat_natCast]
          rfl
        · rw [if_pos rfl, List.map_append, List.map_take, List.map_drop]

/-! ### the children -/
theorem ref_kids_l0 (l : List S51) (hn : l.length < 1000) (p : Int) (hv : valid (l.map conv) = true) (d : Nat) : ∀ (i k : Nat) (out : List Int), i + d = l.length → 1 ≤ i → 2 * d + 2200 < k → out.length + d < 100000 →
    halterref24_Children.l0 k l p out (i : Int) = some (out ++ kids ((l.map conv).drop i) p) := by
  induction d with
  | zero =>
    intro i k out hi h1 hk ho
    obtain ⟨k, rfl⟩ : ∃ m, k = m + 2 := ⟨k - 2, by omega⟩
    simp only [halterref24_Children.l0, halterref24_Children.j1]
    rw [if_neg (by omega), if_neg (by decide), List.drop_eq_nil_of_le (by rw [List.length_map]; omega)]
    simp [kids]
  | succ d ih =>
    intro i k out hi h1 hk ho
    obtain ⟨k, rfl⟩ : ∃ m, k = m + 2 := ⟨k - 2, by omega⟩
    have hil : i < l.length := by omega
    have hw : wrap64 ((i : Int) + 1) = ((i + 1 : Nat) : Int) := by rw [w64 (by omega) (by omega)]; omega
    have hne : (conv l[i]).f0 ≠ 1 := by
      have h2 := v_incr hv (i := 0) (j := i) (by omega) (by rw [List.length_map]; exact hil)
      have h3 := v_first hv
      rw [rd39_map, rd39_map, rd51_at l i hil] at h2
      rw [rd39_map] at h3
      omega
    simp only [halterref24_Children.l0, halterref24_Children.j1]
    rw [if_pos (by omega), ref_may l hn _ (by omega), hv, Option.bind_some, if_pos rfl, if_pos (by omega), if_pos (by omega), rd51_at l i hil, hw, List.drop_eq_getElem_cons (by rw [List.length_map]; exact hil), List.getElem_map, kids_cons]
    have e : (conv l[i]).f1 = l[i].f1 := rfl
    rw [e]
    by_cases h2 : l[i].f1 = p
    · rw [if_pos h2, if_pos h2, if_neg hne, if_pos (by omega), ih (i + 1) k _ (by omega) (by omega) (by omega) (by simp; omega)]
      simp [conv]
    · rw [if_neg h2, if_neg h2, ih (i + 1) k _ (by omega) (by omega) (by omega) (by omega)]
theorem ref_kids (l : List S51) (hn : l.length < 1000) (p : Int) (k : Nat) (hk : 4300 < k) : halterref24_Children.f k l p = some (if valid (l.map conv) then kids (l.map conv) p else []) := by
  unfold halterref24_Children.f
  cases hv : valid (l.map conv) with
  | false =>
    rw [if_neg (by decide)]
    obtain ⟨k, rfl⟩ : ∃ m, k = m + 2 := ⟨k - 2, by omega⟩
    simp only [halterref24_Children.l0, halterref24_Children.j1]
    split
    · rw [ref_may l hn _ (by omega), hv, Option.bind_some, if_neg (by decide)]
    · rw [if_neg (by decide)]
  | true =>
    have hl := (v_len hv).1
    rw [List.length_map] at hl
    rw [if_pos rfl]
    have := ref_kids_l0 l hn p hv (l.length - 1) 1 k [] (by omega) (by omega) (by omega) (by simp; omega)
    rw [show ((1 : Nat) : Int) = 1 from rfl] at this
    rw [this, List.nil_append]
    have hf := v_first hv
    have h0 : (l.map conv) = (l.map conv)[0]'(by rw [List.length_map]; omega) :: (l.map conv).drop 1 := by
      have := List.drop_eq_getElem_cons (l := l.map conv) (i := 0) (by rw [List.length_map]; omega)
      rwa [List.drop_zero] at this
    rw [rd39_at _ 0 (by rw [List.length_map]; omega)] at hf
    conv => rhs; rw [h0]
    rw [kids_cons, if_pos hf.1, ite_self]

/-! ### the same -/
theorem same_l0 (x : List S39) (l : List S51) (h : x = l.map conv) (hn : l.length < 100000) (d : Nat) : ∀ (i k : Nat), i + d = l.length → d < k → halterlaw24_same.l0 k x l (i : Int) = some true := by
  subst h
  have hlm : (l.map conv).length = l.length := List.length_map _
  induction d with
  | zero =>
    intro i k hi hk
    obtain ⟨k, rfl, _⟩ := fuel hk
    simp only [halterlaw24_same.l0]
    rw [if_neg (by omega)]
  | succ d ih =>
    intro i k hi hk
    obtain ⟨k, rfl, hk'⟩ := fuel hk
    have hw : wrap64 ((i : Int) + 1) = ((i + 1 : Nat) : Int) := by rw [w64 (by omega) (by omega)]; omega
    simp only [halterlaw24_same.l0]
    rw [if_pos (by omega), if_pos (by omega), if_pos (by omega), hw, rd39_map, if_neg (by simp [conv])]
    exact ih (i + 1) k (by omega) (by omega)
theorem same_f (x : List S39) (l : List S51) (h : x = l.map conv) (hn : l.length < 100000) (k : Nat) (hk : l.length < k) : halterlaw24_same.f k x l = some true := by
  unfold halterlaw24_same.f
  rw [if_pos (by rw [h, List.length_map])]
  exact same_l0 x l h hn l.length 0 k (by omega) hk
theorem ints_l0 (l : List Int) (hn : l.length < 100000) (d : Nat) : ∀ (i k : Nat), i + d = l.length → d < k → halterlaw24_ints.l0 k l l (i : Int) = some true := by
  induction d with
  | zero =>
    intro i k hi hk
    obtain ⟨k, rfl, _⟩ := fuel hk
    simp only [halterlaw24_ints.l0]
    rw [if_neg (by omega)]
  | succ d ih =>
    intro i k hi hk
    obtain ⟨k, rfl, hk'⟩ := fuel hk
    have hw : wrap64 ((i : Int) + 1) = ((i + 1 : Nat) : Int) := by rw [w64 (by omega) (by omega)]; omega
    simp only [halterlaw24_ints.l0]
    rw [if_pos (by omega), if_pos (by omega), if_pos (by omega), if_pos (by first | rfl | trivial), hw]
    exact ih (i + 1) k (by omega) (by omega)
theorem ints_f (l : List Int) (hn : l.length < 100000) (k : Nat) (hk : l.length < k) : halterlaw24_ints.f k l l = some true := by
  unfold halterlaw24_ints.f
  rw [if_pos (by first | rfl | trivial)]
  exact ints_l0 l hn l.length 0 k (by omega) hk
end Go.Proofs.YtddedmdgfakfjaaDoor.FA
