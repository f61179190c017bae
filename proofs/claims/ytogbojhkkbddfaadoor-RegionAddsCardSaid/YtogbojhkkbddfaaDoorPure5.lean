/-
  RegionAdds, the plain law, part 5: Add and the document's.
-/
import Derived.Test.YtogbojhkkbddfaaDoorPure4
namespace Go.Proofs.YtogbojhkkbddfaaDoor.RA
open Go.RowKit Go.Proofs.YtogbojhkkbddfaaDoorW.PrintWords

/-- From some number of rounds on. -/
def EvT {α : Type} (g : Nat → Option α) (r : α) : Prop := ∃ K, ∀ k, K < k → g k = some r
theorem EvT.of {α : Type} {g : Nat → Option α} {r : α} (K : Nat) (h : ∀ k, K < k → g k = some r) : EvT g r := ⟨K, h⟩
theorem EvT.bind {α β : Type} {g : Nat → Option α} {f : Nat → α → Option β} {a : α} {r : β} (h : EvT g a) (k : EvT (fun n => f n a) r) : EvT (fun n => (g n).bind (f n)) r := by
  obtain ⟨K1, h1⟩ := h
  obtain ⟨K2, h2⟩ := k
  refine ⟨K1 + K2, fun n hn => ?_⟩
  show (g n).bind (f n) = some r
  rw [h1 n (by omega)]
  exact h2 n (by omega)
theorem EvT.step {α : Type} {g f : Nat → Option α} {r : α} (h : ∀ k, g (k + 1) = f k) (e : EvT f r) : EvT g r := by
  obtain ⟨K, hK⟩ := e
  refine ⟨K + 1, fun n hn => ?_⟩
  obtain ⟨m, rfl⟩ : ∃ m, n = m + 1 := ⟨n - 1, by omega⟩
  rw [h]
  exact hK m (by omega)
theorem EvT.congr {α : Type} {g f : Nat → Option α} {r : α} (h : ∀ k, g k = f k) (e : EvT f r) : EvT g r := by
  obtain ⟨K, hK⟩ := e
  exact ⟨K, fun n hn => (h n).trans (hK n hn)⟩
theorem EvT.now {α : Type} (r : α) : EvT (fun _ => some r) r := ⟨0, fun _ _ => rfl⟩

theorem refadd_taken (a b c : Int) (d : Nat) : ∀ (M : List Int) (p : Int), M.length = 4096 → 0 ≤ p → b ≤ 4096 → b - p ≤ d → (∃ q, p ≤ q ∧ q < b ∧ 0 ≤ rd M q) → ∀ k, d < k → halterref13_Add.l0 k M p a b c = some ([], 17) := by
  induction d with
  | zero => rintro M p hM h0 hb hd ⟨q, h1, h2, h3⟩; omega
  | succ d ih =>
    rintro M p hM h0 hb hd ⟨q, h1, h2, h3⟩ k hk
    obtain ⟨k, rfl, _⟩ := fuel hk
    simp only [halterref13_Add.l0]
    rw [if_pos (by omega), if_pos h0, if_pos (by rw [hM]; omega)]
    by_cases hp : rd M p ≥ 0
    · rw [if_pos hp]
    · rw [if_neg hp, w64 (x := p + 1) (by omega) (by omega)]
      have hqp : q ≠ p := fun e => hp (e ▸ h3)
      refine ih _ _ (by simp [hM]) (by omega) hb (by omega) ⟨q, by omega, h2, ?_⟩ k (by omega)
      rw [rd_set _ _ _ (by rw [hM]; omega) _ (by omega), if_neg (by omega)]
      exact h3
theorem refadd_free (a b c : Int) (hc0 : 0 ≤ c) (hc : c ≤ 255) (d : Nat) : ∀ (M : List Int) (p : Int), M.length = 4096 → 0 ≤ p → b ≤ 4096 → b - p ≤ d → (∀ q, p ≤ q → q < b → rd M q = -1) →
    ∃ M', M'.length = 4096 ∧ (∀ q : Int, 0 ≤ q → rd M' q = if p ≤ q ∧ q < b then c else rd M q) ∧ ∀ R, (∀ k, 4096 < k → halterref13_List.f k M' = some R) → ∀ k, d + 4097 < k → halterref13_Add.l0 k M p a b c = some (R, 0) := by
  induction d with
  | zero =>
    intro M p hM h0 hb hd hf
    refine ⟨M, hM, fun q hq => by rw [if_neg (by omega)], fun R hR k hk => ?_⟩
    obtain ⟨k, rfl, _⟩ := fuel hk
    simp only [halterref13_Add.l0]
    rw [if_neg (by omega), hR k (by omega)]
    rfl
  | succ d ih =>
    intro M p hM h0 hb hd hf
    by_cases hlt : p < b
    · obtain ⟨M', h1, h2, h3⟩ := ih (M.set p.toNat c) (p + 1) (by simp [hM]) (by omega) hb (by omega) (fun q h1 h2 => by
        rw [rd_set _ _ _ (by rw [hM]; omega) _ (by omega), if_neg (by omega)]
        exact hf q (by omega) h2)
      refine ⟨M', h1, fun q hq => ?_, fun R hR k hk => ?_⟩
      · rw [h2 q hq, rd_set _ _ _ (by rw [hM]; omega) _ hq]
        by_cases e : q = p
        · rw [if_neg (by omega), if_pos (by omega), if_pos (by omega)]
        · by_cases e2 : p + 1 ≤ q ∧ q < b
          · rw [if_pos e2, if_pos (by omega)]
          · rw [if_neg e2, if_neg (by omega), if_neg (by omega)]
      · obtain ⟨k, rfl, _⟩ := fuel hk
        simp only [halterref13_Add.l0]
        rw [if_pos hlt, if_pos h0, if_pos (by rw [hM]; omega), if_neg (by rw [hf p (by omega) hlt]; omega), w64 (x := c) (by omega) (by omega), w64 (x := p + 1) (by omega) (by omega)]
        exact h3 R hR k (by omega)
    · refine ⟨M, hM, fun q hq => by rw [if_neg (by omega)], fun R hR k hk => ?_⟩
      obtain ⟨k, rfl, _⟩ := fuel hk
      simp only [halterref13_Add.l0]
      rw [if_neg hlt, hR k (by omega)]
      rfl

theorem check_ev (x : List S33) (hn : x.length < 1000000) : EvT (fun k => region_Check.f k x) (errB (valid x)) := ⟨x.length, fun _ hk => check_f x hn hk⟩
theorem may_ev (l : List S24) (hn : l.length < 1000000) : EvT (fun k => halterref13_May.f k l) (valid (l.map conv)) := ⟨l.length, fun _ hk => refmay_f l hn hk⟩

theorem add_both (l : List S24) (hn : l.length ≤ 40) (hb : ∀ r ∈ l, 0 ≤ r.f2 ∧ r.f2 ≤ 255) (a b c : Int) (hc0 : 0 ≤ c) (hc : c ≤ 255) :
    ∃ (y : List S33) (e : Option Int), y.length < 1000000 ∧ EvT (fun k => region_Add.f k (l.map conv) a b c) (y, e) ∧ EvT (fun k => halterref13_Add.f k l a b c) (y.map cv, e.getD 0) := by
  have hxl : (l.map conv).length < 1000000 := by simp; omega
  have hC := check_ev (l.map conv) hxl
  have hM := may_ev l (by omega)
  have hbx : ∀ r ∈ l.map conv, 0 ≤ r.f2 := by
    intro r hr
    obtain ⟨s, hs, rfl⟩ := List.mem_map.1 hr
    exact (hb s hs).1
  cases hv : valid (l.map conv) with
  | false =>
    rw [hv] at hC hM
    refine ⟨[], some 22, by simp, ?_, ?_⟩
    · refine EvT.bind hC ?_
      simp only [errB, Option.isNone_some, Bool.false_eq_true, if_false]
      exact EvT.step (f := fun _ => some ([], some 22)) (fun k => by simp only [region_Add.j0]; rfl) (EvT.now _)
    · refine EvT.bind hM ?_
      simp only [Bool.false_eq_true, if_false]
      exact EvT.step (f := fun _ => some ([], 22)) (fun k => by simp only [halterref13_Add.j0]; rfl) (EvT.now _)
  | true =>
    rw [hv] at hC hM
    have hV := (valid_iff _).1 hv
    cases ho : one ⟨a, b, c⟩ with
    | false =>
      refine ⟨[], some 22, by simp, ?_, ?_⟩
      · refine EvT.bind hC ?_
        simp only [errB, Option.isNone_none, if_true, may_f, ho, Option.bind_some, Bool.not_false]
        exact EvT.step (f := fun _ => some ([], some 22)) (fun k => by simp only [region_Add.j0]; rfl) (EvT.now _)
      · refine EvT.bind hM ?_
        simp only [if_true, ref_one, ho, Option.bind_some, Bool.not_false]
        exact EvT.step (f := fun _ => some ([], 22)) (fun k => by simp only [halterref13_Add.j0]; rfl) (EvT.now _)
    | true =>
      obtain ⟨o0, o1, o2, o3⟩ := (one_iff _).1 ho
      simp only at o0 o1 o2 o3
      obtain ⟨M, hA, hMf⟩ := map_f l (by omega) hb hV
      have hMev : EvT (fun k => halterref13_Map.f k l) M := ⟨_, hMf⟩
      cases hm : (l.map conv).any (meetsB a b) with
      | true =>
        refine ⟨[], some 17, by simp, ?_, ?_⟩
        · refine EvT.bind hC ?_
          simp only [errB, Option.isNone_none, if_true, may_f, ho, Option.bind_some, Bool.not_true]
          refine EvT.step (f := fun _ => some ([], some 17)) (fun k => ?_) (EvT.now _)
          simp only [region_Add.j0, slices_ContainsFunc.f, hm, Option.bind_some]
          rfl
        · refine EvT.bind hM ?_
          simp only [if_true, ref_one, ho, Option.bind_some, Bool.not_true]
          refine EvT.step (f := fun k => (halterref13_Map.f k l).bind fun t237 => halterref13_Add.l0 k t237 a a b c) (fun k => by simp only [halterref13_Add.j0]; rfl) ?_
          refine EvT.bind hMev ?_
          obtain ⟨r, hr, hrm⟩ := List.any_eq_true.1 hm
          unfold meetsB at hrm
          simp at hrm
          have hr1 := hV.1 r hr
          have h01 := hr1.2.1
          have hq : ∃ q, a ≤ q ∧ q < b ∧ 0 ≤ rd M q := by
            by_cases hle : a ≤ r.f0
            · exact ⟨r.f0, hle, hrm.1, by rw [hA.yes r.f0 r.f2 (by omega) (by omega) ⟨r, hr, Int.le_refl _, h01, rfl⟩]; exact hbx r hr⟩
            · exact ⟨a, Int.le_refl _, o1, by rw [hA.yes a r.f2 o0 (by omega) ⟨r, hr, by omega, hrm.2, rfl⟩]; exact hbx r hr⟩
          exact ⟨(b - a).toNat, fun k hk => refadd_taken a b c (b - a).toNat M a hA.len o0 o2 (by omega) hq k hk⟩
      | false =>
        have hno : ∀ r ∈ l.map conv, ¬ (r.f0 < b ∧ a < r.f1) := by
          intro r hr hh
          have := List.any_eq_false.1 hm r hr
          unfold meetsB at this
          simp at this
          have := this hh.1
          omega
        have hfin : ∀ r ∈ l.map conv ++ [⟨a, b, c⟩], Fine r := by
          intro r hr
          rcases List.mem_append.1 hr with hr | hr
          · exact ⟨hV.1 r hr, hbx r hr⟩
          · simp at hr; subst hr; exact ⟨⟨o0, o1, o2, o3⟩, hc0⟩
        have hdis : (l.map conv ++ [(⟨a, b, c⟩ : S33)]).Pairwise fun a b => a.f1 ≤ b.f0 ∨ b.f1 ≤ a.f0 := by
          rw [List.pairwise_append]
          refine ⟨hV.2.imp (fun h => .inl h.1), by simp, fun r hr s hs => ?_⟩
          simp at hs
          subst hs
          have := hno r hr
          show r.f1 ≤ a ∨ b ≤ r.f0
          omega
        obtain ⟨y, hy1, hy2, hy3, hy4, hy5⟩ := join_f (l.map conv ++ [⟨a, b, c⟩]) (by simp) hfin hdis (by simp; omega)
        have hyl : y.length < 1000000 := by simp at hy4; omega
        refine ⟨y, none, hyl, ?_, ?_⟩
        · refine EvT.bind hC ?_
          simp only [errB, Option.isNone_none, if_true, may_f, ho, Option.bind_some, Bool.not_true]
          refine EvT.step (f := fun k => (region_joined.f k (l.map conv ++ [⟨a, b, c⟩])).bind fun t => some (t, none)) (fun k => ?_) (EvT.bind ⟨_, hy5⟩ (EvT.now _))
          simp only [region_Add.j0, slices_ContainsFunc.f, slices_Clone.f, hm, Option.bind_some]
          rw [if_neg (by simp), if_neg (by simp), if_pos hxl]
          simp only [Option.bind_some]
          rw [if_pos (by simp; omega)]
        · refine EvT.bind hM ?_
          simp only [if_true, ref_one, ho, Option.bind_some, Bool.not_true]
          refine EvT.step (f := fun k => (halterref13_Map.f k l).bind fun t237 => halterref13_Add.l0 k t237 a a b c) (fun k => by simp only [halterref13_Add.j0]; rfl) ?_
          refine EvT.bind hMev ?_
          obtain ⟨M', h1, h2, h3⟩ := refadd_free a b c hc0 hc (b - a).toNat M a hA.len o0 o2 (by omega) (fun q h1 h2 => hA.no q (by omega) (by omega) (by
            rintro v ⟨r, hr, x1, x2, _⟩
            exact hno r hr ⟨by omega, by omega⟩))
          have hA' : Agree M' y := by
            refine ⟨h1, fun p v hp hp2 hin => ?_, fun p hp hp2 hin => ?_⟩
            · rw [h2 p hp]
              obtain ⟨r, hr, x1, x2, x3⟩ := (hy3 p v).1 hin
              rcases List.mem_append.1 hr with hr | hr
              · have := hno r hr
                rw [if_neg (by omega)]
                exact hA.yes p v hp hp2 ⟨r, hr, x1, x2, x3⟩
              · simp at hr
                subst hr
                rw [if_pos ⟨x1, x2⟩]
                exact x3
            · rw [h2 p hp, if_neg]
              · exact hA.no p hp hp2 (fun v ⟨r, hr, hh⟩ => hin v ((hy3 p v).2 ⟨r, List.mem_append_left _ hr, hh⟩))
              · rintro ⟨x1, x2⟩
                exact hin c ((hy3 p c).2 ⟨⟨a, b, c⟩, List.mem_append_right _ (by simp), x1, x2, rfl⟩)
          exact ⟨_, fun k hk => h3 (y.map cv) (fun k hk => list_f hA' hy1 (fun r hr => (hy2 r hr).2) hyl hk) k hk⟩
end Go.Proofs.YtogbojhkkbddfaaDoor.RA
