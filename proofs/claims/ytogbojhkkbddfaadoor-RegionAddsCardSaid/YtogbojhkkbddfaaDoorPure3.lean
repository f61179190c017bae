/-
  RegionAdds, the plain law, part 3: the list of a map of pages is the one valid list that it tells.
-/
import Derived.Test.YtogbojhkkbddfaaDoorPure2
namespace Go.Proofs.YtogbojhkkbddfaaDoor.RA
open Go.RowKit Go.Proofs.YtogbojhkkbddfaaDoorW.PrintWords

def cv (r : S33) : S24 := ⟨r.f0, r.f1, r.f2⟩
def Done (M : List Int) (R : List S24) (p : Int) (out : List S24) : Prop := ∀ k : Nat, 4096 - p < k → halterref13_List.l0 k M out p = some R

section
variable {M : List Int} {R : List S24} (hM : M.length = 4096)
theorem done_end : Done M R 4096 R := by
  intro k hk
  cases k with
  | zero => omega
  | succ k =>
    simp only [halterref13_List.l0]
    rw [if_neg (by omega)]
include hM
theorem done_skip {p : Int} {out : List S24} (h0 : 0 ≤ p) (hp : p < 4096) (hv : rd M p < 0) (h : Done M R (p + 1) out) : Done M R p out := by
  intro k hk
  cases k with
  | zero => omega
  | succ k =>
    simp only [halterref13_List.l0]
    rw [if_pos hp, if_pos h0, if_pos (by rw [hM]; omega), if_pos hv, w64 (by omega) (by omega)]
    exact h k (by omega)
theorem done_new {p v : Int} {out : List S24} (h0 : 0 ≤ p) (hp : p < 4096) (hv : rd M p = v) (hv0 : 0 ≤ v) (hv7 : v ≤ 7) (hne : p = 0 ∨ rd M (p - 1) ≠ v) (hl : out.length < 1000000) (h : Done M R (p + 1) (out ++ [⟨p, p + 1, v⟩])) : Done M R p out := by
  intro k hk
  cases k with
  | zero => omega
  | succ k =>
    simp only [halterref13_List.l0]
    rw [if_pos hp, if_pos h0, if_pos (by rw [hM]; omega), if_neg (by omega), w64 (x := p + 1) (by omega) (by omega), hv, show v % 256 = v by omega, if_pos (show out.length < 5864062014805 by omega), h k (by omega)]
    by_cases hp0 : p > 0
    · rw [if_pos hp0, w64 (x := p - 1) (by omega) (by omega), if_pos (by omega), if_pos (by rw [hM]; omega), if_neg (by rcases hne with e | e; omega; exact e)]
    · rw [if_neg hp0]
theorem done_ext {p v a : Int} {o : List S24} (h0 : 0 < p) (hp : p < 4096) (hv : rd M p = v) (hv0 : 0 ≤ v) (heq : rd M (p - 1) = v) (hl : o.length < 1000000) (h : Done M R (p + 1) (o ++ [⟨a, p + 1, v⟩])) : Done M R p (o ++ [⟨a, p, v⟩]) := by
  intro k hk
  cases k with
  | zero => omega
  | succ k =>
    simp only [halterref13_List.l0]
    have hlen : ((o ++ [(⟨a, p, v⟩ : S24)]).length : Int) - 1 = (o.length : Int) := by simp
    rw [if_pos hp, if_pos (by omega), if_pos (by rw [hM]; omega), if_neg (by omega), if_pos h0, w64 (x := p + 1) (by omega) (by omega), w64 (x := p - 1) (by omega) (by omega), if_pos (by omega), if_pos (by rw [hM]; omega),
      if_pos (by rw [hv, heq]), hlen, w64 (x := (o.length : Int)) (by omega) (by omega), if_pos (by omega), if_pos (by simp; omega), Int.toNat_natCast]
    have hrd : rd_T24 (o ++ [(⟨a, p, v⟩ : S24)]) (o.length : Int) = ⟨a, p, v⟩ := by
      unfold rd_T24
      simp
    rw [hrd]
    have hset : (o ++ [(⟨a, p, v⟩ : S24)]).set o.length ⟨a, p + 1, v⟩ = o ++ [⟨a, p + 1, v⟩] := by simp
    rw [hset]
    exact h k (by omega)
theorem done_skips (d : Nat) : ∀ {p b : Int} {out : List S24}, 0 ≤ p → b ≤ 4096 → b - p = d → (∀ q, p ≤ q → q < b → rd M q = -1) → Done M R b out → Done M R p out := by
  induction d with
  | zero => intro p b out _ _ hd _ h; exact (show p = b by omega) ▸ h
  | succ d ih =>
    intro p b out h0 hb hd hq h
    refine done_skip hM h0 (by omega) (by rw [hq p (by omega) (by omega)]; omega) ?_
    exact ih (by omega) hb (by omega) (fun q a c => hq q (by omega) c) h
theorem done_exts (d : Nat) : ∀ {p a b v : Int} {o : List S24}, 0 ≤ a → a < p → b ≤ 4096 → b - p = d → 0 ≤ v → o.length < 1000000 → (∀ q, a ≤ q → q < b → rd M q = v) → Done M R b (o ++ [⟨a, b, v⟩]) → Done M R p (o ++ [⟨a, p, v⟩]) := by
  induction d with
  | zero => intro p a b v o _ _ _ hd _ _ _ h; exact (show p = b by omega) ▸ h
  | succ d ih =>
    intro p a b v o h0 hap hb hd hv hl hq h
    refine done_ext hM (by omega) (by omega) (hq p (by omega) (by omega)) hv (hq (p - 1) (by omega) (by omega)) hl ?_
    exact ih h0 (by omega) hb (by omega) hv hl hq h
end

theorem list_go {M : List Int} {y : List S33} (hA : Agree M y) (hv : Valid y) (hnn : ∀ r ∈ y, 0 ≤ r.f2) (hly : y.length < 1000000) : ∀ (ys pre : List S33) (p : Int), y = pre ++ ys → 0 ≤ p → p ≤ 4096 → (∀ r ∈ pre, r.f1 ≤ p) → (∀ r ∈ ys, p ≤ r.f0) → (p = 0 ∨ pre = [] ∨ ∃ s ∈ pre, s.f1 = p) → (pre = [] → p = 0) →
    Done M (y.map cv) p (pre.map cv)
  | [], pre, p, hy, h0, hp, hpre, _, _, _ => by
    have e : pre = y := by simpa using hy.symm
    subst e
    refine done_skips hA.len (4096 - p).toNat h0 (Int.le_refl _) (by omega) (fun q a b => hA.no q (by omega) b ?_) done_end
    rintro v ⟨r, hr, _, c, _⟩
    have := hpre r hr
    omega
  | r :: ys, pre, p, hy, h0, hp, hpre, hys, hlast, hemp => by
    have hr : r ∈ y := by rw [hy]; simp
    obtain ⟨o0, o1, o2, o3⟩ := hv.1 r hr
    have hpr : p ≤ r.f0 := hys r (by simp)
    have hsep : ∀ s ∈ pre, Sep s r := by
      intro s hs
      have := hv.2
      rw [hy, List.pairwise_append] at this
      exact this.2.2 s hs r (by simp)
    have hsep2 : ∀ s ∈ ys, Sep r s := by
      intro s hs
      have := hv.2
      rw [hy, List.pairwise_append] at this
      exact (List.pairwise_cons.1 this.2.1).1 s hs
    have hfree : ∀ q, p ≤ q → q < r.f0 → rd M q = -1 := by
      intro q a b
      refine hA.no q (by omega) (by omega) ?_
      rintro v ⟨s, hs, c, d, _⟩
      rw [hy] at hs
      rcases List.mem_append.1 hs with hs | hs
      · have := hpre s hs; omega
      · rcases List.mem_cons.1 hs with rfl | hs
        · omega
        · have := (hsep2 s hs).1; omega
    have hin : ∀ q, r.f0 ≤ q → q < r.f1 → rd M q = r.f2 := fun q a b => hA.yes q _ (by omega) (by omega) ⟨r, hr, a, b, rfl⟩
    have hlen : pre.length < 1000000 := by rw [hy] at hly; simp at hly; omega
    refine done_skips hA.len (r.f0 - p).toNat h0 (by omega) (by omega) hfree ?_
    refine done_new hA.len o0 (by omega) (hin _ (Int.le_refl _) o1) (hnn r hr) o3 ?_ (by simpa using hlen) ?_
    · by_cases e0 : r.f0 = 0
      · exact .inl e0
      · refine .inr fun e => ?_
        have hnn2 := hnn r hr
        have hIn : ∃ v, In y (r.f0 - 1) v := by
          refine Classical.byContradiction fun hno => ?_
          have := hA.no (r.f0 - 1) (by omega) (by omega) (fun v hv' => hno ⟨v, hv'⟩)
          omega
        obtain ⟨v, s, hs, c, d, hsv⟩ := hIn
        have hv2 := hA.yes (r.f0 - 1) v (by omega) (by omega) ⟨s, hs, c, d, hsv⟩
        rw [hy] at hs
        rcases List.mem_append.1 hs with hs | hs
        · obtain ⟨a1, a2⟩ := hsep s hs
          exact a2 ⟨by omega, by omega⟩
        · rcases List.mem_cons.1 hs with rfl | hs
          · omega
          · have := (hsep2 s hs).1; omega
    · refine done_exts hA.len (r.f1 - (r.f0 + 1)).toNat o0 (by omega) o2 (by omega) (hnn r hr) (by simpa using hlen) hin ?_
      have := list_go hA hv hnn hly ys (pre ++ [r]) r.f1 (by rw [hy]; simp) (by omega) o2 (fun s hs => by
        rcases List.mem_append.1 hs with hs | hs
        · have := hpre s hs; omega
        · simp at hs; subst hs; exact Int.le_refl _) (fun s hs => (hsep2 s hs).1) (.inr (.inr ⟨r, by simp, rfl⟩)) (fun h => by simp at h)
      rw [List.map_append] at this
      exact this
theorem list_f {M : List Int} {y : List S33} (hA : Agree M y) (hv : Valid y) (hnn : ∀ r ∈ y, 0 ≤ r.f2) (hly : y.length < 1000000) {k : Nat} (hk : 4096 < k) : halterref13_List.f k M = some (y.map cv) :=
  list_go hA hv hnn hly y [] 0 rfl (Int.le_refl _) (by omega) (fun r hr => by cases hr) (fun r hr => (hv.1 r hr).1) (.inl rfl) (fun _ => rfl) k (by omega)
end Go.Proofs.YtogbojhkkbddfaaDoor.RA
