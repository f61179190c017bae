/-
  RegionAdds, the plain law, part 7: Size, what must come whatever the input is, and the law.
-/
import Derived.Test.YtogbojhkkbddfaaDoorPure6
import Derived.KernelRfl
namespace Go.Proofs.YtogbojhkkbddfaaDoor.RA
open Go.RowKit Go.Proofs.YtogbojhkkbddfaaDoorW.PrintWords

/-! ### Size -/
def sumF : List S33 → Int
  | [] => 0
  | r :: x => (r.f1 - r.f0) + sumF x
theorem sumF_snoc (x : List S33) (r : S33) : sumF (x ++ [r]) = sumF x + (r.f1 - r.f0) := by
  induction x with
  | nil => simp [sumF]
  | cons a x ih => simp only [List.cons_append, sumF, ih]; omega
theorem sumF_bd (x : List S33) (hx : ∀ r ∈ x, One r) : 0 ≤ sumF x ∧ sumF x ≤ 4096 * x.length := by
  induction x with
  | nil => simp [sumF]
  | cons a x ih =>
    obtain ⟨h0, h1⟩ := ih (fun r hr => hx r (List.mem_cons_of_mem _ hr))
    obtain ⟨o0, o1, o2, _⟩ := hx a (by simp)
    simp only [sumF, List.length_cons]
    omega
theorem take_one {x : List S33} (hx : ∀ r ∈ x, One r) (i : Nat) : ∀ r ∈ x.take i, One r := fun r hr => hx r (List.mem_of_mem_take hr)
theorem sum_step {x : List S33} (hx : ∀ r ∈ x, One r) (hn : x.length < 1000000) {i : Nat} (hi : i < x.length) : 0 ≤ sumF (x.take i) ∧ sumF (x.take i) ≤ 4096 * 1000000 ∧ sumF (x.take (i + 1)) = sumF (x.take i) + (x[i].f1 - x[i].f0) := by
  have h := sumF_bd _ (take_one hx i)
  have hl : (x.take i).length ≤ 1000000 := by rw [List.length_take]; omega
  refine ⟨h.1, by omega, ?_⟩
  rw [List.take_succ_eq_append_getElem hi, sumF_snoc]
theorem size_l0 (x : List S33) (hx : ∀ r ∈ x, One r) (hn : x.length < 1000000) (d : Nat) : ∀ (i k : Nat), i + d = x.length → d < k → region_Size.l0 k (sumF (x.take i)) x (x.length : Int) i = some (sumF x) := by
  induction d with
  | zero =>
    intro i k hi hk
    obtain ⟨k, rfl, _⟩ := fuel hk
    simp only [region_Size.l0]
    rw [if_neg (by omega), List.take_of_length_le (by omega)]
  | succ d ih =>
    intro i k hi hk
    obtain ⟨k, rfl, _⟩ := fuel hk
    have hil : i < x.length := by omega
    obtain ⟨o0, o1, o2, _⟩ := hx _ (List.getElem_mem hil)
    obtain ⟨b0, b1, b2⟩ := sum_step hx hn hil
    have hw : wrap64 ((i : Int) + 1) = ((i + 1 : Nat) : Int) := by rw [w64 (by omega) (by omega)]; omega
    simp only [region_Size.l0]
    rw [if_pos (by omega), if_pos (by omega), if_pos (by omega), hw, rd33_at x i hil, w64 (x := x[i].f1 - x[i].f0) (by omega) (by omega), w64 (x := sumF (x.take i) + (x[i].f1 - x[i].f0)) (by omega) (by omega), ← b2]
    exact ih (i + 1) k (by omega) (by omega)
theorem size_ev (x : List S33) (hn : x.length < 1000000) : EvT (fun k => region_Size.f k x) (if valid x = true then sumF x else 0) := by
  have hC := check_ev x hn
  cases hv : valid x with
  | false =>
    rw [hv] at hC
    refine EvT.bind hC ?_
    simp only [errB, Option.isNone_some, Bool.false_eq_true, if_false]
    exact EvT.now _
  | true =>
    rw [hv] at hC
    refine EvT.bind hC ?_
    simp only [errB, Option.isNone_none, if_true]
    exact ⟨x.length, fun k hk => size_l0 x ((valid_iff _).1 hv).1 hn x.length 0 k (by omega) hk⟩

/-! ### sure -/
theorem sort1 : slices_SortFunc.f [(⟨2, 6, 3⟩ : S33)] = some [⟨2, 6, 3⟩] := by
  unfold slices_SortFunc.f
  rw [if_pos (by refine ⟨rfl, by decide, ?_, by decide⟩; intro x hx; simp at hx; subst hx; decide), List.mergeSort_singleton]
theorem merge2 (a b : S33) : [a, b].mergeSort leR = if leR a b = true then [a, b] else [b, a] := by
  simp [List.mergeSort, List.MergeSort.Internal.splitInTwo, List.merge]
theorem sort2 : slices_SortFunc.f [(⟨3, 6, 3⟩ : S33), ⟨2, 3, 1⟩] = some [⟨2, 3, 1⟩, ⟨3, 6, 3⟩] := by
  unfold slices_SortFunc.f
  rw [if_pos (by refine ⟨rfl, by decide, ?_, by decide⟩; intro x hx; simp at hx; rcases hx with rfl | rfl <;> decide), merge2, if_neg (by decide)]
theorem sure_ev : EvT (fun k => halterlaw13_sure.f k) true := by
  refine ⟨30, fun k hk => ?_⟩
  obtain ⟨k, rfl⟩ : ∃ m, k = m + 30 := ⟨k - 30, by omega⟩
  have j1 : ∀ m, region_joined.f (m + 5) [(⟨2, 6, 3⟩ : S33)] = some [⟨2, 6, 3⟩] := fun m => by
    unfold region_joined.f
    rw [sort1]
    kernel_rfl
  have j2 : ∀ m, region_joined.f (m + 5) [(⟨3, 6, 3⟩ : S33), ⟨2, 3, 1⟩] = some [⟨2, 3, 1⟩, ⟨3, 6, 3⟩] := fun m => by
    unfold region_joined.f
    rw [sort2]
    kernel_rfl
  have a1 : region_Add.f (k + 30) [] 2 6 3 = some ([⟨2, 6, 3⟩], none) := by
    have : region_Add.f (k + 30) [] 2 6 3 = (region_joined.f (k + 24 + 5) [(⟨2, 6, 3⟩ : S33)]).bind fun t => some (t, none) := by kernel_rfl
    rw [this, j1]
    rfl
  have c1 : region_Cut.f (k + 30) [⟨2, 6, 3⟩] 3 4 = some ([⟨2, 3, 3⟩, ⟨4, 6, 3⟩], none) := by kernel_rfl
  have p1 : region_Protect.f (k + 30) [⟨2, 6, 3⟩] 2 3 1 = some ([⟨2, 3, 1⟩, ⟨3, 6, 3⟩], none) := by
    have : region_Protect.f (k + 30) [⟨2, 6, 3⟩] 2 3 1 = (region_joined.f (k + 24 + 5) [(⟨3, 6, 3⟩ : S33), ⟨2, 3, 1⟩]).bind fun t => some (t, none) := by kernel_rfl
    rw [this, j2]
    rfl
  have h1 : region_Hole.f (k + 30) [⟨2, 3, 3⟩, ⟨4, 6, 3⟩] 1 2 9 = some (3, none) := by kernel_rfl
  have s1 : region_Size.f (k + 30) [⟨2, 3, 3⟩, ⟨4, 6, 3⟩] = some 3 := by kernel_rfl
  show halterlaw13_sure.f (k + 30) = some true
  unfold halterlaw13_sure.f
  rw [a1]
  simp only [Option.bind_some]
  rw [c1, p1]
  simp only [Option.bind_some]
  rw [h1]
  simp only [Option.bind_some]
  rw [s1]
  rfl

/-! ### The law -/
theorem are_ev (y : List S33) (hy : y.length < 1000000) : EvT (fun k => halterlaw13_areRegions.f k y (y.map cv)) true := by
  have e : (y.map cv).map conv = y := by
    rw [List.map_map]
    have : conv ∘ cv = id := by funext r; rfl
    rw [this, List.map_id]
  refine ⟨(y.map cv).length, fun k hk => ?_⟩
  have := are_f (y.map cv) (by simpa using hy) hk
  rwa [e] at this
theorem num_ev (e : Option Int) : EvT (fun _ => halterlaw13_num.f e) (e.getD 0) := EvT.now _

section
variable (l : List S24) (hn : l.length ≤ 40) (y : List S33) (hy : y.length < 1000000) (e : Option Int) (a : Int × Int × Int × Bool) (h : Int) (he : Option Int)
include hn hy
theorem law_j1 (n : Int) (hs : n = if valid (l.map conv) = true then sumF (l.map conv) else 0) :
    EvT (fun k => halterlaw13_RegionAdds.j1 k l (l.map conv) y e (y.map cv) (e.getD 0) a.2.2.2 a.2.2.2 h he h (he.getD 0) n a.1 a.2.1 a.2.2.1 a.1 a.2.1 a.2.2.1) true := by
  have hxl : (l.map conv).length < 1000000 := by simp; omega
  have hsz := size_ev (l.map conv) hxl
  rw [← hs] at hsz
  have hC := check_ev (l.map conv) hxl
  have hM := may_ev l (by omega)
  have hA : EvT (fun k => halterlaw13_areRegions.f k (l.map conv) l) true := ⟨l.length, fun k hk => are_f l (by omega) hk⟩
  refine EvT.step (fun k => by simp only [halterlaw13_RegionAdds.j1]; rfl) ?_
  refine EvT.bind (are_ev y hy) ?_
  simp only [if_true]
  refine EvT.bind (num_ev e) ?_
  simp only [if_true, beq_self_eq_true, Bool.and_self]
  refine EvT.bind (num_ev he) ?_
  simp only [if_true]
  refine EvT.bind hsz ?_
  simp only [if_true]
  refine EvT.bind hC ?_
  cases hv : valid (l.map conv) with
  | true =>
    rw [hv] at hM
    simp only [errB, Option.isNone_none, if_true]
    refine EvT.bind hM ?_
    simp only [beq_self_eq_true, if_true]
    refine EvT.bind hA ?_
    simp only [if_true]
    exact EvT.bind sure_ev (EvT.now _)
  | false =>
    rw [hv] at hM
    simp only [errB, Option.isNone_some, Bool.false_eq_true, if_false]
    refine EvT.bind hM ?_
    simp only [beq_self_eq_true, if_true]
    refine EvT.bind hA ?_
    simp only [if_true]
    exact EvT.bind sure_ev (EvT.now _)
theorem law_l0 (hv : valid (l.map conv) = true) (d : Nat) : ∀ i, i + d = l.length →
    EvT (fun k => halterlaw13_RegionAdds.l0 k l (l.map conv) y e (y.map cv) (e.getD 0) a.2.2.2 a.2.2.2 h he h (he.getD 0) (sumF ((l.map conv).take i)) i a.1 a.2.1 a.2.2.1 a.1 a.2.1 a.2.2.1) true := by
  have hxl : (l.map conv).length < 1000000 := by simp; omega
  have hM := may_ev l (by omega)
  rw [hv] at hM
  induction d with
  | zero =>
    intro i hi
    have hj := law_j1 l hn y hy e a h he (sumF (l.map conv)) (by rw [hv]; rfl)
    rw [List.take_of_length_le (by simp; omega)]
    refine EvT.step (fun k => ?_) hj
    simp only [halterlaw13_RegionAdds.l0]
    rw [if_neg (by omega)]
  | succ d ih =>
    intro i hi
    have hil : i < l.length := by omega
    have hil2 : i < (l.map conv).length := by simpa using hil
    have hx := ((valid_iff _).1 hv).1
    obtain ⟨o0, o1, o2, _⟩ := hx _ (List.getElem_mem hil2)
    obtain ⟨b0, b1, b2⟩ := sum_step hx hxl hil2
    have hw : wrap64 ((i : Int) + 1) = ((i + 1 : Nat) : Int) := by rw [w64 (by omega) (by omega)]; omega
    have hrd : conv (rd_T24 l (i : Int)) = (l.map conv)[i] := by rw [← rd33_map, rd33_at _ i hil2]
    have hf0 : (rd_T24 l (i : Int)).f0 = ((l.map conv)[i]).f0 := by rw [← hrd]; rfl
    have hf1 : (rd_T24 l (i : Int)).f1 = ((l.map conv)[i]).f1 := by rw [← hrd]; rfl
    have ih' := ih (i + 1) (by omega)
    obtain ⟨K1, hK1⟩ := hM
    obtain ⟨K2, hK2⟩ := ih'
    refine ⟨K1 + K2 + 1, fun k hk => ?_⟩
    obtain ⟨k, rfl⟩ : ∃ m, k = m + 1 := ⟨k - 1, by omega⟩
    have e1 : halterref13_May.f k l = some true := hK1 k (by omega)
    have e2 := hK2 k (by omega)
    have s1 : wrap64 (wrap64 (sumF ((l.map conv).take i) + (rd_T24 l (i : Int)).f1) - (rd_T24 l (i : Int)).f0) = sumF ((l.map conv).take (i + 1)) := by
      rw [hf0, hf1, w64 (x := sumF ((l.map conv).take i) + ((l.map conv)[i]).f1) (by omega) (by omega), w64 (by omega) (by omega), b2]
      omega
    simp only [halterlaw13_RegionAdds.l0]
    rw [if_pos (Int.ofNat_lt.2 hil), e1]
    simp only [Option.bind_some]
    rw [if_pos True.intro, if_pos (Int.natCast_nonneg i), s1, hw]
    exact e2
theorem law_l0_bad (hv : valid (l.map conv) = false) :
    EvT (fun k => halterlaw13_RegionAdds.l0 k l (l.map conv) y e (y.map cv) (e.getD 0) a.2.2.2 a.2.2.2 h he h (he.getD 0) 0 0 a.1 a.2.1 a.2.2.1 a.1 a.2.1 a.2.2.1) true := by
  have hM := may_ev l (by omega)
  rw [hv] at hM
  have hj := law_j1 l hn y hy e a h he 0 (by rw [hv]; rfl)
  by_cases h0 : (0 : Int) < (l.length : Int)
  · obtain ⟨K1, hK1⟩ := hM
    obtain ⟨K2, hK2⟩ := hj
    refine ⟨K1 + K2 + 1, fun k hk => ?_⟩
    obtain ⟨k, rfl⟩ : ∃ m, k = m + 1 := ⟨k - 1, by omega⟩
    have e1 : halterref13_May.f k l = some false := hK1 k (by omega)
    have e2 := hK2 k (by omega)
    simp only [halterlaw13_RegionAdds.l0]
    rw [if_pos h0, e1]
    exact e2
  · refine EvT.step (fun k => ?_) hj
    simp only [halterlaw13_RegionAdds.l0]
    rw [if_neg h0]
end

/-- The plain law. -/
theorem law (l : List S24) (hb : ∀ r ∈ l, 0 ≤ r.f2 ∧ r.f2 ≤ 255) (a b c : Int) (hc0 : 0 ≤ c) (hc : c ≤ 255) (q0 q1 q2 : Int) : ∃ k, halterlaw13_RegionAdds.f k l a b c q0 q1 q2 = some true := by
  suffices h : EvT (fun k => halterlaw13_RegionAdds.f k l a b c q0 q1 q2) true by
    obtain ⟨K, hK⟩ := h
    exact ⟨K + 1, hK _ (by omega)⟩
  by_cases hn : (l.length : Int) > 40
  · refine EvT.congr (f := fun k => (halterlaw13_sure.f k).bind fun t => some t) (fun k => ?_) (EvT.bind sure_ev (EvT.now _))
    unfold halterlaw13_RegionAdds.f
    rw [if_pos hn]
  · have hn' : l.length ≤ 40 := by omega
    obtain ⟨y, e, hy, h1, h2⟩ := add_both l hn' hb a b c hc0 hc
    obtain ⟨r, h3, h4⟩ := at_both l (by omega) q0
    obtain ⟨h, he, h5, h6⟩ := hole_both l hn' hb q0 q1 q2
    have hg : EvT (fun k => halterlaw13_giveRegions.f k l) (l.map conv) := ⟨l.length, fun k hk => give_f l (by omega) hk⟩
    refine EvT.congr (fun k => by unfold halterlaw13_RegionAdds.f; rw [if_neg hn]) ?_
    refine EvT.bind hg (EvT.bind h1 (EvT.bind h2 (EvT.bind h3 (EvT.bind h4 (EvT.bind h5 (EvT.bind h6 ?_))))))
    cases hv : valid (l.map conv) with
    | true => exact law_l0 l hn' y hy e r h he hv l.length 0 (by omega)
    | false => exact law_l0_bad l hn' y hy e r h he hv
end Go.Proofs.YtogbojhkkbddfaaDoor.RA
