/-
  RegionAdds, the plain law, part 2: what lies at a page; the document's map of pages and its list.
-/
import Derived.Test.YtogbojhkkbddfaaDoorPure1
namespace Go.Proofs.YtogbojhkkbddfaaDoor.RA
open Go.RowKit Go.Proofs.YtogbojhkkbddfaaDoorW.PrintWords

def One (r : S33) : Prop := 0 ≤ r.f0 ∧ r.f0 < r.f1 ∧ r.f1 ≤ 4096 ∧ r.f2 ≤ 7
def Sep (a b : S33) : Prop := a.f1 ≤ b.f0 ∧ ¬ (a.f1 = b.f0 ∧ a.f2 = b.f2)
def Valid (x : List S33) : Prop := (∀ r ∈ x, One r) ∧ x.Pairwise Sep
theorem one_iff (r : S33) : one r = true ↔ One r := by
  unfold one One
  simp [and_assoc]
theorem sep_iff (a b : S33) : sep a b = true ↔ Sep a b := by
  unfold sep Sep
  by_cases e : a.f1 = b.f0 <;> simp [e]
theorem valid_iff (x : List S33) : valid x = true ↔ Valid x := by
  unfold valid
  rw [allF_iff]
  constructor
  · intro h
    have hone : ∀ i, (hi : i < x.length) → One x[i] := by
      intro i hi
      have := h i (by omega) (by omega)
      unfold okAt at this
      rw [Bool.and_eq_true, rd33_at x i hi] at this
      exact (one_iff _).1 this.1
    have hadj : ∀ i, (hi : i + 1 < x.length) → Sep (x[i]'(by omega)) (x[i + 1]'hi) := by
      intro i hi
      have := h (i + 1) (by omega) (by omega)
      unfold okAt at this
      rw [Bool.and_eq_true, rd33_at x (i + 1) hi] at this
      have e : (((i + 1 : Nat) : Int) - 1) = (i : Int) := by omega
      rw [e, rd33_at x i (by omega)] at this
      have h2 := this.2
      simp at h2
      exact (sep_iff _ _).1 h2
    refine ⟨fun r hr => ?_, ?_⟩
    · obtain ⟨i, hi, rfl⟩ := List.getElem_of_mem hr
      exact hone i hi
    · rw [List.pairwise_iff_getElem]
      have key : ∀ d i (hj : i + d + 1 < x.length), Sep (x[i]'(by omega)) (x[i + d + 1]'hj) ∧ (0 < d → (x[i]'(by omega)).f1 < (x[i + d + 1]'hj).f0) := by
        intro d
        induction d with
        | zero => intro i hj; exact ⟨hadj i hj, by omega⟩
        | succ d ih =>
          intro i hj
          have h1 := ih i (by omega)
          have h2 := hadj (i + d + 1) (by omega)
          have h3 := hone (i + d + 1) (by omega)
          have e : i + (d + 1) + 1 = i + d + 1 + 1 := by omega
          have lt : (x[i]'(by omega)).f1 < (x[i + d + 1 + 1]'(by omega)).f0 := by
            have a := h1.1.1
            have b := h2.1
            have c := h3.2.1
            omega
          have e2 : x[i + (d + 1) + 1]'hj = x[i + d + 1 + 1]'(by omega) := by congr 1
          rw [e2]
          exact ⟨⟨by omega, fun hh => by omega⟩, fun _ => lt⟩
      intro i j hi hj hij
      have := (key (j - i - 1) i (by omega)).1
      have e2 : x[i + (j - i - 1) + 1]'(by omega) = x[j]'hj := by congr 1; omega
      rw [e2] at this
      exact this
  · rintro ⟨h1, h2⟩ j _ hj
    have hj' : j < x.length := by omega
    unfold okAt
    rw [Bool.and_eq_true, rd33_at x j hj']
    refine ⟨(one_iff _).2 (h1 _ (List.getElem_mem hj')), ?_⟩
    by_cases h0 : j = 0
    · simp [h0]
    · have e : ((j : Int) - 1) = ((j - 1 : Nat) : Int) := by omega
      rw [e, rd33_at x (j - 1) (by omega)]
      rw [List.pairwise_iff_getElem] at h2
      have := h2 (j - 1) j (by omega) hj' (by omega)
      simp [(sep_iff _ _).2 this]

/-- A page's use. -/
def In (z : List S33) (p v : Int) : Prop := ∃ r ∈ z, r.f0 ≤ p ∧ p < r.f1 ∧ r.f2 = v
/-- The map M tells what z says. -/
structure Agree (M : List Int) (z : List S33) : Prop where
  len : M.length = 4096
  yes : ∀ p v : Int, 0 ≤ p → p < 4096 → In z p v → rd M p = v
  no : ∀ p : Int, 0 ≤ p → p < 4096 → (∀ v, ¬ In z p v) → rd M p = -1

theorem rd_set (M : List Int) (p : Nat) (v : Int) (hp : p < M.length) (q : Int) (hq : 0 ≤ q) : rd (M.set p v) q = if q = p then v else rd M q := by
  unfold rd
  rw [List.getD_eq_getElem?_getD, List.getD_eq_getElem?_getD, List.getElem?_set]
  by_cases h : q = p
  · subst h
    simp [hp]
  · rw [if_neg (by omega), if_neg h]

theorem map_l2 (l : List S24) (i : Nat) (hi : i < l.length) (r1 : (rd_T24 l i).f1 ≤ 4096) (r2 : 0 ≤ (rd_T24 l i).f2) (r3 : (rd_T24 l i).f2 ≤ 255) (d : Nat) :
    ∀ (p : Int) (M : List Int), 0 ≤ p → (rd_T24 l i).f0 ≤ p → (rd_T24 l i).f1 - p ≤ d → M.length = 4096 →
    ∃ M', M'.length = 4096 ∧ (∀ q : Int, 0 ≤ q → rd M' q = if p ≤ q ∧ q < (rd_T24 l i).f1 then (rd_T24 l i).f2 else rd M q) ∧
      ∀ k, d < k → ∃ j, j ≤ d + 1 ∧ halterref13_Map.l2 k l M i p = halterref13_Map.l1 (k - j) l M' (wrap64 ((i : Int) + 1)) := by
  induction d with
  | zero =>
    intro p M hp hp2 hd hM
    refine ⟨M, hM, fun q hq => by rw [if_neg (by omega)], fun k hk => ⟨1, by omega, ?_⟩⟩
    obtain ⟨k, rfl, _⟩ := fuel hk
    simp only [halterref13_Map.l2]
    rw [if_pos (by omega), if_pos (by omega), if_neg (by omega)]
    rfl
  | succ d ih =>
    intro p M hp hp2 hd hM
    by_cases hlt : p < (rd_T24 l i).f1
    · obtain ⟨M', h1, h2, h3⟩ := ih (p + 1) (M.set p.toNat (rd_T24 l i).f2) (by omega) (by omega) (by omega) (by simp [hM])
      refine ⟨M', h1, fun q hq => ?_, fun k hk => ?_⟩
      · rw [h2 q hq, rd_set _ _ _ (by rw [hM]; omega) _ hq]
        by_cases e : q = p
        · subst e
          rw [if_neg (by omega), if_pos (by omega), if_pos (by omega)]
        · by_cases e2 : p + 1 ≤ q ∧ q < (rd_T24 l i).f1
          · rw [if_pos e2, if_pos (by omega)]
          · rw [if_neg e2, if_neg (by omega), if_neg (by omega)]
      · obtain ⟨k, rfl, hk'⟩ := fuel hk
        obtain ⟨j, hj, hh⟩ := h3 k (by omega)
        refine ⟨j + 1, by omega, ?_⟩
        simp only [halterref13_Map.l2]
        rw [if_pos (by omega), if_pos (by omega), if_pos hlt, if_pos hp, if_pos (by rw [hM]; omega), w64 (by omega) (by omega), w64 (x := p + 1) (by omega) (by omega), hh]
        congr 1
        omega
    · refine ⟨M, hM, fun q hq => by rw [if_neg (by omega)], fun k hk => ⟨1, by omega, ?_⟩⟩
      obtain ⟨k, rfl, _⟩ := fuel hk
      simp only [halterref13_Map.l2]
      rw [if_pos (by omega), if_pos (by omega), if_neg (by omega)]
      rfl

set_option maxRecDepth 100000 in
theorem map_l1 (l : List S24) (hn : l.length < 1000000) (hb : ∀ r ∈ l, 0 ≤ r.f2 ∧ r.f2 ≤ 255) (hv : Valid (l.map conv)) (d : Nat) : ∀ (i : Nat) (M : List Int), i + d = l.length → Agree M ((l.take i).map conv) →
    ∃ M', Agree M' (l.map conv) ∧ ∀ k, d * 5000 < k → halterref13_Map.l1 k l M i = some M' := by
  induction d with
  | zero =>
    intro i M hi hA
    rw [List.take_of_length_le (by omega)] at hA
    refine ⟨M, hA, fun k hk => ?_⟩
    obtain ⟨k, rfl, _⟩ := fuel hk
    simp only [halterref13_Map.l1]
    rw [if_neg (by omega)]
  | succ d ih =>
    intro i M hi hA
    have hil : i < l.length := by omega
    have hrd : rd_T24 l (i : Int) = l[i] := by
      unfold rd_T24
      rw [Int.toNat_natCast, List.getD_eq_getElem?_getD, List.getElem?_eq_getElem hil]; rfl
    have hmem : conv l[i] ∈ l.map conv := List.mem_map.2 ⟨_, List.getElem_mem hil, rfl⟩
    obtain ⟨o0, o1, o2, o3⟩ := hv.1 _ hmem
    obtain ⟨b0, b1⟩ := hb _ (List.getElem_mem hil)
    simp only [conv] at o0 o1 o2 o3
    obtain ⟨M1, h1, h2, h3⟩ := map_l2 l i hil (by rw [hrd]; exact o2) (by rw [hrd]; exact b0) (by rw [hrd]; exact b1) 4096 (rd_T24 l i).f0 M (by rw [hrd]; exact o0) (Int.le_refl _) (by rw [hrd]; omega) hA.len
    rw [hrd] at h2
    have hA1 : Agree M1 ((l.take (i + 1)).map conv) := by
      rw [List.take_succ_eq_append_getElem hil, List.map_append]
      refine ⟨h1, fun p v hp hp2 hin => ?_, fun p hp hp2 hin => ?_⟩
      · rw [h2 p hp]
        obtain ⟨r, hr, a, b, c⟩ := hin
        rcases List.mem_append.1 hr with hr | hr
        · have hdis : r.f1 ≤ l[i].f0 := by
            obtain ⟨s, hs, rfl⟩ := List.mem_map.1 hr
            obtain ⟨j, hj, rfl⟩ := List.getElem_of_mem hs
            rw [List.length_take] at hj
            have := List.pairwise_iff_getElem.1 hv.2 j i (by simp; omega) (by simpa using hil) (by omega)
            simp only [List.getElem_map, List.getElem_take] at this ⊢
            exact this.1
          rw [if_neg (by omega)]
          exact hA.yes p v hp hp2 ⟨r, hr, a, b, c⟩
        · simp at hr
          subst hr
          simp only [conv] at a b c
          rw [if_pos ⟨a, b⟩, c]
      · rw [h2 p hp, if_neg]
        · exact hA.no p hp hp2 (fun v ⟨r, hr, h⟩ => hin v ⟨r, List.mem_append_left _ hr, h⟩)
        · rintro ⟨a, b⟩
          exact hin _ ⟨conv l[i], List.mem_append_right _ (by simp), a, b, rfl⟩
    obtain ⟨M', hA', hk'⟩ := ih (i + 1) M1 (by omega) hA1
    refine ⟨M', hA', fun k hk => ?_⟩
    obtain ⟨k, rfl, hk1⟩ := fuel hk
    obtain ⟨j, hj, hh⟩ := h3 k (by omega)
    simp only [halterref13_Map.l1]
    rw [if_pos (by omega), if_pos (by omega), hh, show wrap64 ((i : Int) + 1) = ((i + 1 : Nat) : Int) by rw [w64 (by omega) (by omega)]; omega]
    have hj' : j ≤ 4097 := hj
    have hlt : d * 5000 < k - j := by clear hh hk' h2 h3; omega
    exact hk' (k - j) hlt

theorem map_l0 (l : List S24) (d : Nat) : ∀ (p : Nat) (M : List Int), p + d = 4096 → M.length = 4096 → (∀ q : Int, 0 ≤ q → q < p → rd M q = -1) →
    ∃ M', M'.length = 4096 ∧ (∀ q : Int, 0 ≤ q → q < 4096 → rd M' q = -1) ∧ ∀ k, d < k → halterref13_Map.l0 k l M p = halterref13_Map.l1 (k - (d + 1)) l M' 0 := by
  induction d with
  | zero =>
    intro p M hp hM h
    refine ⟨M, hM, fun q a b => h q a (by omega), fun k hk => ?_⟩
    obtain ⟨k, rfl, _⟩ := fuel hk
    simp only [halterref13_Map.l0]
    rw [if_neg (by omega)]
    rfl
  | succ d ih =>
    intro p M hp hM h
    obtain ⟨M', h1, h2, h3⟩ := ih (p + 1) (M.set p (-1)) (by omega) (by simp [hM]) (fun q a b => by
      rw [rd_set _ _ _ (by rw [hM]; omega) _ a]
      by_cases e : q = p
      · rw [if_pos e]
      · rw [if_neg e]; exact h q a (by omega))
    refine ⟨M', h1, h2, fun k hk => ?_⟩
    obtain ⟨k, rfl, hk'⟩ := fuel hk
    simp only [halterref13_Map.l0]
    rw [if_pos (by omega), if_pos (by omega), if_pos (by rw [hM]; omega), Int.toNat_natCast, show wrap64 ((p : Int) + 1) = ((p + 1 : Nat) : Int) by rw [w64 (by omega) (by omega)]; omega, h3 k (by omega)]
    congr 1
    omega
/-- The document's map of pages. -/
theorem map_f (l : List S24) (hn : l.length < 1000000) (hb : ∀ r ∈ l, 0 ≤ r.f2 ∧ r.f2 ≤ 255) (hv : Valid (l.map conv)) : ∃ M, Agree M (l.map conv) ∧ ∀ k, 5000 + l.length * 5000 < k → halterref13_Map.f k l = some M := by
  obtain ⟨M0, h1, h2, h3⟩ := map_l0 l 4096 0 (List.replicate 4096 0) (by omega) List.length_replicate (fun q a b => by omega)
  have hA0 : Agree M0 ((l.take 0).map conv) := ⟨h1, fun p v _ _ ⟨r, hr, _⟩ => by simp at hr, fun p a b _ => h2 p a b⟩
  obtain ⟨M, hA, hk⟩ := map_l1 l hn hb hv l.length 0 M0 (by omega) hA0
  refine ⟨M, hA, fun k hk2 => ?_⟩
  have h3' := h3 k (by omega)
  have hk' := hk (k - (4096 + 1)) (by omega)
  unfold halterref13_Map.f
  rw [if_pos (by decide)]
  exact h3'.trans hk'
end Go.Proofs.YtogbojhkkbddfaaDoor.RA
