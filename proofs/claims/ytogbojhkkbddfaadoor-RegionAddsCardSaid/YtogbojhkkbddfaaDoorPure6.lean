/-
  RegionAdds, the plain law, part 6: At, Hole, Size, and what must come whatever the input is.
-/
import Derived.Test.YtogbojhkkbddfaaDoorPure5
namespace Go.Proofs.YtogbojhkkbddfaaDoor.RA
open Go.RowKit Go.Proofs.YtogbojhkkbddfaaDoorW.PrintWords

/-! ### At -/
def atF (x : List S33) (q : Int) : Nat → Nat → Int × Int × Int × Bool
  | _, 0 => (0, 0, 0, false)
  | i, d + 1 => if q ≥ (rd_T33 x i).f0 ∧ q < (rd_T33 x i).f1 then ((rd_T33 x i).f0, (rd_T33 x i).f1, (rd_T33 x i).f2, true) else atF x q (i + 1) d
theorem at_l0 (x : List S33) (q : Int) (hn : x.length < 1000000) (d : Nat) : ∀ (i k : Nat), i + d = x.length → d < k → region_At.l0 k q x (x.length : Int) i = some (atF x q i d) := by
  induction d with
  | zero =>
    intro i k hi hk
    obtain ⟨k, rfl, _⟩ := fuel hk
    simp only [region_At.l0]
    rw [if_neg (by omega)]
    rfl
  | succ d ih =>
    intro i k hi hk
    obtain ⟨k, rfl, _⟩ := fuel hk
    have ih' := ih (i + 1) k (by omega) (by omega)
    have hw : wrap64 ((i : Int) + 1) = ((i + 1 : Nat) : Int) := by rw [w64 (by omega) (by omega)]; omega
    simp only [region_At.l0, atF]
    rw [if_pos (by omega), if_pos (by omega), if_pos (by omega), hw, ih']
    by_cases h1 : q ≥ (rd_T33 x i).f0
    · rw [if_pos h1]
      by_cases h2 : q < (rd_T33 x i).f1
      · rw [if_pos h2, if_pos ⟨h1, h2⟩]
      · rw [if_neg h2, if_neg (fun h => h2 h.2)]
    · rw [if_neg h1, if_neg (fun h => h1 h.1)]
theorem refat_l0 (l : List S24) (q : Int) (hn : l.length < 1000000) (hv : valid (l.map conv) = true) (d : Nat) : ∀ (i : Nat), i + d = l.length → ∀ k, l.length + 2 * d + 2 < k → halterref13_At.l0 k l q i = some (atF (l.map conv) q i d) := by
  induction d with
  | zero =>
    intro i hi k hk
    obtain ⟨k, rfl⟩ : ∃ m, k = m + 1 + 1 := ⟨k - 2, by omega⟩
    simp only [halterref13_At.l0]
    rw [if_neg (by omega)]
    simp only [halterref13_At.j1]
    rfl
  | succ d ih =>
    intro i hi k hk
    obtain ⟨k, rfl⟩ : ∃ m, k = m + 1 + 1 := ⟨k - 2, by omega⟩
    have ih' := ih (i + 1) (by omega) k (by omega)
    have hw : wrap64 ((i : Int) + 1) = ((i + 1 : Nat) : Int) := by rw [w64 (by omega) (by omega)]; omega
    simp only [halterref13_At.l0]
    rw [if_pos (by omega), refmay_f l hn (by omega), hv]
    simp only [Option.bind_some, halterref13_At.j1, atF, rd33_map]
    rw [if_pos True.intro, if_pos (by omega), if_pos (by omega), hw, ih']
    by_cases h1 : q ≥ (rd_T24 l i).f0
    · rw [if_pos h1]
      by_cases h2 : q < (rd_T24 l i).f1
      · rw [if_pos h2]; exact congrArg some (if_pos (show q ≥ (conv (rd_T24 l i)).f0 ∧ q < (conv (rd_T24 l i)).f1 from ⟨h1, h2⟩)).symm
      · rw [if_neg h2]; exact congrArg some (if_neg (fun h : q ≥ (conv (rd_T24 l i)).f0 ∧ q < (conv (rd_T24 l i)).f1 => h2 h.2)).symm
    · rw [if_neg h1]; exact congrArg some (if_neg (fun h : q ≥ (conv (rd_T24 l i)).f0 ∧ q < (conv (rd_T24 l i)).f1 => h1 h.1)).symm
theorem at_both (l : List S24) (hn : l.length < 1000000) (q : Int) : ∃ r, EvT (fun k => region_At.f k (l.map conv) q) r ∧ EvT (fun k => halterref13_At.f k l q) r := by
  have hxl : (l.map conv).length < 1000000 := by simpa using hn
  have hC := check_ev (l.map conv) hxl
  have hM := may_ev l hn
  cases hv : valid (l.map conv) with
  | false =>
    rw [hv] at hC hM
    refine ⟨(0, 0, 0, false), ?_, ?_⟩
    · refine EvT.bind hC ?_
      simp only [errB, Option.isNone_some, Bool.false_eq_true, if_false]
      exact EvT.now _
    · refine ⟨l.length + 2, fun k hk => ?_⟩
      obtain ⟨k, rfl⟩ : ∃ m, k = m + 1 + 1 := ⟨k - 2, by omega⟩
      show halterref13_At.l0 (k + 1 + 1) l q 0 = _
      simp only [halterref13_At.l0]
      by_cases h0 : (0 : Int) < (l.length : Int)
      · rw [if_pos h0, refmay_f l hn (by omega), hv]
        simp only [Option.bind_some, halterref13_At.j1]
        rfl
      · rw [if_neg h0]
        simp only [halterref13_At.j1]
        rfl
  | true =>
    rw [hv] at hC hM
    refine ⟨atF (l.map conv) q 0 (l.map conv).length, ?_, ?_⟩
    · refine EvT.bind hC ?_
      simp only [errB, Option.isNone_none, if_true]
      exact ⟨_, fun k hk => at_l0 (l.map conv) q hxl _ 0 k (by omega) hk⟩
    · have e : (l.map conv).length = l.length := by simp
      rw [e]
      exact ⟨_, fun k hk => refat_l0 l q hn hv l.length 0 (by omega) k hk⟩

/-! ### Hole -/
section
variable {M : List Int} (hM : M.length = 4096) (many tt : Int) (hm1 : 1 ≤ many) (hm2 : many ≤ 4096) (hto : tt ≤ 4096)
include hM hm1 hm2 hto
/-- The document's count over free pages, from a page on: it comes tt so many, or tt the end, or tt the next one that is taken. -/
theorem hole_count (d : Nat) : ∀ (p free b : Int), 0 ≤ p → 0 ≤ free → free < many → b - p = d → b ≤ 4096 → (∀ q, p ≤ q → q < b → rd M q = -1) → ∀ k, d + 1 < k →
    (many - free ≤ b - p → p + (many - free) ≤ tt → halterref13_Hole.l0 k many tt M free p = some (p - free, 0)) ∧
    (tt ≤ b → tt - p < many - free → halterref13_Hole.l0 k many tt M free p = some (0, 12)) ∧
    (b - p < many - free → b < tt → ∃ j, j ≤ d ∧ halterref13_Hole.l0 k many tt M free p = halterref13_Hole.l0 (k - j) many tt M (free + (b - p)) b) := by
  induction d with
  | zero =>
    intro p free b hp hf0 hf hd hb hq k hk
    obtain rfl : p = b := by omega
    refine ⟨fun h1 h2 => by omega, fun h1 h2 => ?_, fun h1 h2 => ⟨0, Nat.le_refl _, by congr 1; omega⟩⟩
    obtain ⟨k, rfl, _⟩ := fuel hk
    simp only [halterref13_Hole.l0]
    rw [if_neg (by omega)]
  | succ d ih =>
    intro p free b hp hf0 hf hd hb hq k hk
    obtain ⟨k, rfl, _⟩ := fuel hk
    by_cases hpt : p < tt
    · have e : halterref13_Hole.l0 (k + 1) many tt M free p = if free + 1 = many then some (p - free, 0) else halterref13_Hole.l0 k many tt M (free + 1) (p + 1) := by
        simp only [halterref13_Hole.l0]
        rw [if_pos hpt, if_pos hp, if_pos (by rw [hM]; omega), if_neg (by rw [hq p (by omega) (by omega)]; omega), w64 (x := free + 1) (by omega) (by omega), w64 (x := p + 1) (by omega) (by omega), w64 (x := p - many) (by omega) (by omega), w64 (x := p - many + 1) (by omega) (by omega)]
        by_cases h : free + 1 = many
        · rw [if_pos h, if_pos h, show p - many + 1 = p - free by omega]
        · rw [if_neg h, if_neg h]
      rw [e]
      by_cases h : free + 1 = many
      · rw [if_pos h]
        exact ⟨fun _ _ => rfl, fun h1 h2 => by omega, fun h1 h2 => by omega⟩
      · rw [if_neg h]
        obtain ⟨i1, i2, i3⟩ := ih (p + 1) (free + 1) b (by omega) (by omega) (by omega) (by omega) hb (fun q a c => hq q (by omega) c) k (by omega)
        refine ⟨fun h1 h2 => ?_, fun h1 h2 => i2 h1 (by omega), fun h1 h2 => ?_⟩
        · rw [i1 (by omega) (by omega)]
          congr 2
          omega
        · obtain ⟨j, hj, hh⟩ := i3 (by omega) h2
          refine ⟨j + 1, by omega, ?_⟩
          rw [hh, show k + 1 - (j + 1) = k - j by omega, show free + 1 + (b - (p + 1)) = free + (b - p) by omega]
    · refine ⟨fun h1 h2 => by omega, fun h1 h2 => ?_, fun h1 h2 => by omega⟩
      simp only [halterref13_Hole.l0]
      rw [if_neg hpt]
/-- Over pages that are taken. -/
theorem hole_taken (d : Nat) : ∀ (p free b : Int), 0 ≤ p → b - p = d → b ≤ 4096 → (∀ q, p ≤ q → q < b → 0 ≤ rd M q) → 0 < d → ∀ k, d + 1 < k →
    (tt ≤ b → halterref13_Hole.l0 k many tt M free p = some (0, 12)) ∧
    (b < tt → ∃ j, j ≤ d ∧ halterref13_Hole.l0 k many tt M free p = halterref13_Hole.l0 (k - j) many tt M 0 b) := by
  induction d with
  | zero => intro p free b _ _ _ _ h; omega
  | succ d ih =>
    intro p free b hp hd hb hq _ k hk
    obtain ⟨k, rfl, _⟩ := fuel hk
    by_cases hpt : p < tt
    · have e : halterref13_Hole.l0 (k + 1) many tt M free p = halterref13_Hole.l0 k many tt M 0 (p + 1) := by
        simp only [halterref13_Hole.l0]
        rw [if_pos hpt, if_pos hp, if_pos (by rw [hM]; omega), if_pos (hq p (by omega) (by omega)), if_neg (by omega), w64 (x := p + 1) (by omega) (by omega)]
      rw [e]
      rcases Nat.eq_zero_or_pos d with h0 | h0
      · subst h0
        obtain rfl : p + 1 = b := by omega
        refine ⟨fun h => ?_, fun h => ⟨1, by omega, rfl⟩⟩
        obtain ⟨k, rfl⟩ : ∃ m, k = m + 1 := ⟨k - 1, by omega⟩
        simp only [halterref13_Hole.l0]
        rw [if_neg (by omega)]
      · obtain ⟨i1, i2⟩ := ih (p + 1) 0 b (by omega) (by omega) hb (fun q a c => hq q (by omega) c) h0 k (by omega)
        refine ⟨i1, fun h => ?_⟩
        obtain ⟨j, hj, hh⟩ := i2 h
        exact ⟨j + 1, by omega, by rw [hh, show k + 1 - (j + 1) = k - j by omega]⟩
    · refine ⟨fun h => ?_, fun h => by omega⟩
      simp only [halterref13_Hole.l0]
      rw [if_neg hpt]
end

def holeR (many tt fr : Int) : Int × Option Int := if tt - fr < many then (0, some 12) else (fr, none)
def holeF (many tt : Int) : List S33 → Int → Int × Option Int
  | [], fr => holeR many tt fr
  | r :: x, fr => if r.f1 ≤ fr then holeF many tt x fr else if r.f0 - fr ≥ many then holeR many tt fr else holeF many tt x r.f1
theorem hole_l0 (x : List S33) (hx : ∀ r ∈ x, One r) (hn : x.length < 1000000) (many tt : Int) (hto : tt ≤ 4096) (hto0 : 0 ≤ tt) (d : Nat) : ∀ (i k : Nat) (fr : Int), 0 ≤ fr → fr ≤ 4096 → i + d = x.length → d < k →
    region_Hole.l0 k many fr tt x (x.length : Int) i = some (holeF many tt (x.drop i) fr) := by
  induction d with
  | zero =>
    intro i k fr h0 h1 hi hk
    obtain ⟨k, rfl, _⟩ := fuel hk
    rw [List.drop_of_length_le (by omega)]
    simp only [region_Hole.l0, holeF, holeR]
    rw [if_neg (by omega), w64 (x := tt - fr) (by omega) (by omega)]
    by_cases h : tt - fr < many
    · rw [if_pos h, if_pos h]
    · rw [if_neg h, if_neg h]
  | succ d ih =>
    intro i k fr h0 h1 hi hk
    obtain ⟨k, rfl, _⟩ := fuel hk
    have hil : i < x.length := by omega
    obtain ⟨o0, o1, o2, _⟩ := hx _ (List.getElem_mem hil)
    have hw : wrap64 ((i : Int) + 1) = ((i + 1 : Nat) : Int) := by rw [w64 (by omega) (by omega)]; omega
    rw [List.drop_eq_getElem_cons hil]
    simp only [region_Hole.l0, holeF]
    rw [if_pos (by omega), if_pos (by omega), if_pos (by omega), hw, rd33_at x i hil, ih (i + 1) k fr h0 h1 (by omega) (by omega), ih (i + 1) k x[i].f1 (by omega) o2 (by omega) (by omega), w64 (x := x[i].f0 - fr) (by omega) (by omega), w64 (x := tt - fr) (by omega) (by omega)]
    by_cases h : x[i].f1 ≤ fr
    · rw [if_pos h, if_pos h]
    · rw [if_neg h, if_neg h]
      by_cases h2 : x[i].f0 - fr ≥ many
      · rw [if_pos h2, if_pos h2]
        simp only [holeR]
        by_cases h : tt - fr < many
        · rw [if_pos h, if_pos h]
        · rw [if_neg h, if_neg h]
      · rw [if_neg h2, if_neg h2]
theorem holeF_late (many tt : Int) (hm : 1 ≤ many) : ∀ (x : List S33) (fr : Int), tt - fr < many → (∀ r ∈ x, One r) → holeF many tt x fr = (0, some 12)
  | [], fr, h, _ => by unfold holeF holeR; rw [if_pos h]
  | r :: x, fr, h, ho => by
    unfold holeF
    have hx : ∀ r ∈ x, One r := fun s hs => ho s (List.mem_cons_of_mem _ hs)
    by_cases h1 : r.f1 ≤ fr
    · rw [if_pos h1]; exact holeF_late many tt hm x fr h hx
    · rw [if_neg h1]
      by_cases h2 : r.f0 - fr ≥ many
      · rw [if_pos h2]; unfold holeR; rw [if_pos h]
      · rw [if_neg h2]; exact holeF_late many tt hm x r.f1 (by omega) hx
theorem hole_ref {M : List Int} {y : List S33} (hA : Agree M y) (hv : Valid y) (hnn : ∀ r ∈ y, 0 ≤ r.f2) (many tt : Int) (hm1 : 1 ≤ many) (hm2 : many ≤ 4096) (hto : tt ≤ 4096) :
    ∀ (ys pre : List S33) (fr : Int), y = pre ++ ys → 0 ≤ fr → fr ≤ tt → (∀ r ∈ pre, r.f1 ≤ fr) → EvT (fun k => halterref13_Hole.l0 k many tt M 0 fr) ((holeF many tt ys fr).1, (holeF many tt ys fr).2.getD 0)
  | [], pre, fr, hy, h0, h1, hpre => by
    have hfree : ∀ q, fr ≤ q → q < tt → rd M q = -1 := fun q a b => hA.no q (by omega) (by omega) (by
      rintro v ⟨r, hr, _, c, _⟩
      rw [hy] at hr
      have := hpre r (by simpa using hr)
      omega)
    refine ⟨(tt - fr).toNat + 1, fun k hk => ?_⟩
    obtain ⟨i1, i2, _⟩ := hole_count hA.len many tt hm1 hm2 hto (tt - fr).toNat fr 0 tt h0 (Int.le_refl _) (by omega) (by omega) hto hfree k hk
    unfold holeF holeR
    by_cases h : tt - fr < many
    · rw [if_pos h]; exact i2 (Int.le_refl _) (by omega)
    · rw [if_neg h]
      have := i1 (by omega) (by omega)
      simpa using this
  | r :: ys, pre, fr, hy, h0, h1, hpre => by
    have hr : r ∈ y := by rw [hy]; simp
    obtain ⟨o0, o1, o2, o3⟩ := hv.1 r hr
    have hsep2 : ∀ s ∈ ys, Sep r s := by
      intro s hs
      have := hv.2
      rw [hy, List.pairwise_append] at this
      exact (List.pairwise_cons.1 this.2.1).1 s hs
    have hys : ∀ s ∈ ys, One s := fun s hs => hv.1 s (by rw [hy]; simp [hs])
    have hpre2 : ∀ (fr' : Int), r.f1 ≤ fr' → fr ≤ fr' → ∀ s ∈ pre ++ [r], s.f1 ≤ fr' := by
      intro fr' a b s hs
      rcases List.mem_append.1 hs with hs | hs
      · have := hpre s hs; omega
      · simp at hs; subst hs; exact a
    unfold holeF
    by_cases hc : r.f1 ≤ fr
    · rw [if_pos hc]
      exact hole_ref hA hv hnn many tt hm1 hm2 hto ys (pre ++ [r]) fr (by rw [hy]; simp) h0 h1 (hpre2 fr hc (Int.le_refl _))
    · rw [if_neg hc]
      have hfree : ∀ q, fr ≤ q → q < r.f0 → rd M q = -1 := fun q a b => hA.no q (by omega) (by omega) (by
        rintro v ⟨s, hs, c, d, _⟩
        rw [hy] at hs
        rcases List.mem_append.1 hs with hs | hs
        · have := hpre s hs; omega
        · rcases List.mem_cons.1 hs with rfl | hs
          · omega
          · have := (hsep2 s hs).1; omega)
      have htk : ∀ q, r.f0 ≤ q → q < r.f1 → 0 ≤ rd M q := fun q a b => by rw [hA.yes q _ (by omega) (by omega) ⟨r, hr, a, b, rfl⟩]; exact hnn r hr
      by_cases h2 : r.f0 - fr ≥ many
      · rw [if_pos h2]
        unfold holeR
        refine ⟨(r.f0 - fr).toNat + 1, fun k hk => ?_⟩
        obtain ⟨i1, i2, _⟩ := hole_count hA.len many tt hm1 hm2 hto (r.f0 - fr).toNat fr 0 r.f0 h0 (Int.le_refl _) (by omega) (by omega) (by omega) hfree k hk
        by_cases h : tt - fr < many
        · rw [if_pos h]; exact i2 (by omega) (by omega)
        · rw [if_neg h]
          have := i1 (by omega) (by omega)
          simpa using this
      · rw [if_neg h2]
        by_cases h3 : tt ≤ r.f1
        · -- the end comes in this region, or ahead of it
          rw [holeF_late many tt hm1 ys r.f1 (by omega) hys]
          show EvT _ (0, 12)
          refine ⟨10000, fun k hk => ?_⟩
          by_cases h4 : fr ≤ r.f0
          · obtain ⟨_, i2, i3⟩ := hole_count hA.len many tt hm1 hm2 hto (r.f0 - fr).toNat fr 0 r.f0 h0 (Int.le_refl _) (by omega) (by omega) (by omega) hfree k (by omega)
            by_cases h5 : tt ≤ r.f0
            · exact i2 h5 (by omega)
            · obtain ⟨j, hj, hh⟩ := i3 (by omega) (by omega)
              exact hh.trans ((hole_taken hA.len many tt hm1 hm2 hto (r.f1 - r.f0).toNat r.f0 _ r.f1 o0 (by omega) o2 htk (by omega) (k - j) (by omega)).1 h3)
          · exact (hole_taken hA.len many tt hm1 hm2 hto (r.f1 - fr).toNat fr 0 r.f1 h0 (by omega) o2 (fun q a b => htk q (by omega) b) (by omega) k (by omega)).1 h3
        · obtain ⟨K, hK⟩ := hole_ref hA hv hnn many tt hm1 hm2 hto ys (pre ++ [r]) r.f1 (by rw [hy]; simp) (by omega) (by omega) (hpre2 r.f1 (Int.le_refl _) (by omega))
          refine ⟨K + 20000, fun k hk => ?_⟩
          by_cases h4 : fr ≤ r.f0
          · obtain ⟨_, _, i3⟩ := hole_count hA.len many tt hm1 hm2 hto (r.f0 - fr).toNat fr 0 r.f0 h0 (Int.le_refl _) (by omega) (by omega) (by omega) hfree k (by omega)
            obtain ⟨j, hj, hh⟩ := i3 (by omega) (by omega)
            obtain ⟨j2, hj2, hh2⟩ := (hole_taken hA.len many tt hm1 hm2 hto (r.f1 - r.f0).toNat r.f0 (0 + (r.f0 - fr)) r.f1 o0 (by omega) o2 htk (by omega) (k - j) (by omega)).2 (by omega)
            exact (hh.trans hh2).trans (hK _ (by omega))
          · obtain ⟨j, hj, hh⟩ := (hole_taken hA.len many tt hm1 hm2 hto (r.f1 - fr).toNat fr 0 r.f1 h0 (by omega) o2 (fun q a b => htk q (by omega) b) (by omega) k (by omega)).2 (by omega)
            exact hh.trans (hK _ (by omega))

theorem ranged_f (a b : Int) : region_ranged.f a b = some (decide (0 ≤ a) && decide (a < b) && decide (b ≤ 4096)) := by
  unfold region_ranged.f
  by_cases h1 : a ≥ 0
  · by_cases h2 : a < b
    · simp [h1, h2]
    · simp [h1, h2]
  · simp [h1]
theorem refrange_f (a b : Int) : halterref13_Range.f a b = some (decide (0 ≤ a) && decide (a < b) && decide (b ≤ 4096)) := ranged_f a b
theorem hole_both (l : List S24) (hn : l.length ≤ 40) (hb : ∀ r ∈ l, 0 ≤ r.f2 ∧ r.f2 ≤ 255) (many fr tt : Int) :
    ∃ (h : Int) (e : Option Int), EvT (fun k => region_Hole.f k (l.map conv) many fr tt) (h, e) ∧ EvT (fun k => halterref13_Hole.f k l many fr tt) (h, e.getD 0) := by
  have hxl : (l.map conv).length < 1000000 := by simp; omega
  have hC := check_ev (l.map conv) hxl
  have hM := may_ev l (by omega)
  have hbx : ∀ r ∈ l.map conv, 0 ≤ r.f2 := by
    intro r hr
    obtain ⟨s, hs, rfl⟩ := List.mem_map.1 hr
    exact (hb s hs).1
  have bad1 : EvT (fun k => region_Hole.j0 k (l.map conv) many fr tt true) (0, some 22) := EvT.step (f := fun _ => some (0, some 22)) (fun k => by simp only [region_Hole.j0]; rfl) (EvT.now _)
  have bad2 : EvT (fun k => halterref13_Hole.j0 k l many fr tt true) (0, 22) := EvT.step (f := fun _ => some (0, 22)) (fun k => by simp only [halterref13_Hole.j0]; rfl) (EvT.now _)
  cases hv : valid (l.map conv) with
  | false =>
    rw [hv] at hC hM
    refine ⟨0, some 22, EvT.bind hC ?_, EvT.bind hM ?_⟩
    · simp only [errB, Option.isNone_some, Bool.false_eq_true, if_false]; exact bad1
    · simp only [Bool.false_eq_true, if_false]; exact bad2
  | true =>
    rw [hv] at hC hM
    have hV := (valid_iff _).1 hv
    cases hr : (decide (0 ≤ fr) && decide (fr < tt) && decide (tt ≤ 4096)) with
    | false =>
      refine ⟨0, some 22, EvT.bind hC ?_, EvT.bind hM ?_⟩
      · simp only [errB, Option.isNone_none, if_true, ranged_f, hr, Option.bind_some, Bool.false_eq_true, if_false]; exact bad1
      · simp only [if_true, refrange_f, hr, Option.bind_some, Bool.false_eq_true, if_false]; exact bad2
    | true =>
      simp only [Bool.and_eq_true, decide_eq_true_eq] at hr
      obtain ⟨⟨r0, r1⟩, r2⟩ := hr
      have hr' : (decide (0 ≤ fr) && decide (fr < tt) && decide (tt ≤ 4096)) = true := by simp [r0, r1, r2]
      by_cases h1 : many < 1
      · refine ⟨0, some 22, EvT.bind hC ?_, EvT.bind hM ?_⟩
        · simp only [errB, Option.isNone_none, if_true, ranged_f, hr', Option.bind_some, h1]; exact bad1
        · simp only [if_true, refrange_f, hr', Option.bind_some, h1]; exact bad2
      · by_cases h2 : many > 4096
        · refine ⟨0, some 22, EvT.bind hC ?_, EvT.bind hM ?_⟩
          · simp only [errB, Option.isNone_none, if_true, ranged_f, hr', Option.bind_some, h1, if_false, h2, decide_true]; exact bad1
          · simp only [if_true, refrange_f, hr', Option.bind_some, h1, if_false, h2, decide_true]; exact bad2
        · obtain ⟨M, hA, hMf⟩ := map_f l (by omega) hb hV
          refine ⟨(holeF many tt (l.map conv) fr).1, (holeF many tt (l.map conv) fr).2, EvT.bind hC ?_, EvT.bind hM ?_⟩
          · simp only [errB, Option.isNone_none, if_true, ranged_f, hr', Option.bind_some, h1, if_false, h2, decide_false]
            refine EvT.step (f := fun k => region_Hole.l0 k many fr tt (l.map conv) ((l.map conv).length : Int) 0) (fun k => by simp only [region_Hole.j0]; rfl) ?_
            exact ⟨(l.map conv).length, fun k hk => hole_l0 (l.map conv) hV.1 hxl many tt r2 (by omega) (l.map conv).length 0 k fr r0 (by omega) (by omega) hk⟩
          · simp only [if_true, refrange_f, hr', Option.bind_some, h1, if_false, h2, decide_false]
            refine EvT.step (f := fun k => (halterref13_Map.f k l).bind fun t => halterref13_Hole.l0 k many tt t 0 fr) (fun k => by simp only [halterref13_Hole.j0]; rfl) ?_
            exact EvT.bind ⟨_, hMf⟩ (hole_ref hA hV hbx many tt (by omega) (by omega) r2 (l.map conv) [] fr rfl r0 (by omega) (fun r hr => absurd hr List.not_mem_nil))
end Go.Proofs.YtogbojhkkbddfaaDoor.RA
