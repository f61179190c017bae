/-
  RegionAdds, the plain law, part 4: the sort and the join; a region more.
-/
import Derived.Test.YtogbojhkkbddfaaDoorPure3
namespace Go.Proofs.YtogbojhkkbddfaaDoor.RA
open Go.RowKit Go.Proofs.YtogbojhkkbddfaaDoorW.PrintWords

def Fine (r : S33) : Prop := One r ∧ 0 ≤ r.f2
theorem rd33_last (o : List S33) (t : S33) : rd_T33 (o ++ [t]) (o.length : Int) = t := by
  unfold rd_T33; simp

theorem join_go (z : List S33) (hz : ∀ r ∈ z, Fine r) (hw : z.Pairwise fun a b => a.f1 ≤ b.f0) (hn : z.length < 1000000) (d : Nat) : ∀ (i : Nat) (out : List S33), i + d = z.length → Valid out → (∀ r ∈ out, Fine r) →
    (∀ p v, In out p v ↔ In (z.take i) p v) → (∀ r ∈ out, ∀ s ∈ z.drop i, r.f1 ≤ s.f0) → out.length ≤ i →
    ∃ y, Valid y ∧ (∀ r ∈ y, Fine r) ∧ (∀ p v, In y p v ↔ In z p v) ∧ y.length ≤ z.length ∧ ∀ k, d < k → region_joined.l0 k out z (z.length : Int) i = some y := by
  induction d with
  | zero =>
    intro i out hi hv hf hin _ hl
    rw [List.take_of_length_le (by omega)] at hin
    refine ⟨out, hv, hf, hin, by omega, fun k hk => ?_⟩
    obtain ⟨k, rfl, _⟩ := fuel hk
    simp only [region_joined.l0]
    rw [if_neg (by omega)]
  | succ d ih =>
    intro i out hi hv hf hin hb hl
    have hil : i < z.length := by omega
    have hr := hz _ (List.getElem_mem hil)
    have hrd : rd_T33 z (i : Int) = z[i] := rd33_at z i hil
    have hdrop : z.drop i = z[i] :: z.drop (i + 1) := List.drop_eq_getElem_cons hil
    have htake : z.take (i + 1) = z.take i ++ [z[i]] := List.take_succ_eq_append_getElem hil
    have hnext : ∀ s ∈ z.drop (i + 1), z[i].f1 ≤ s.f0 := by
      intro s hs
      obtain ⟨j, hj, rfl⟩ := List.getElem_of_mem hs
      rw [List.length_drop] at hj
      rw [List.getElem_drop]
      exact List.pairwise_iff_getElem.1 hw i (i + 1 + j) hil (by omega) (by omega)
    have hbi : ∀ r ∈ out, r.f1 ≤ z[i].f0 := fun r h => hb r h _ (by rw [hdrop]; exact List.mem_cons_self)
    have hwrap : wrap64 ((i : Int) + 1) = ((i + 1 : Nat) : Int) := by rw [w64 (by omega) (by omega)]; omega
    have hInTake : ∀ p v, In (z.take (i + 1)) p v ↔ In (z.take i) p v ∨ (z[i].f0 ≤ p ∧ p < z[i].f1 ∧ z[i].f2 = v) := by
      intro p v
      rw [htake]
      constructor
      · rintro ⟨r, hr, h⟩
        rcases List.mem_append.1 hr with hr | hr
        · exact .inl ⟨r, hr, h⟩
        · simp at hr; subst hr; exact .inr h
      · rintro (⟨r, hr, h⟩ | h)
        · exact ⟨r, List.mem_append_left _ hr, h⟩
        · exact ⟨_, List.mem_append_right _ (by simp), h⟩
    -- the way of an append
    have happ : (∀ t o, out = o ++ [t] → ¬ (t.f1 = z[i].f0 ∧ t.f2 = z[i].f2)) → ∃ y, Valid y ∧ (∀ r ∈ y, Fine r) ∧ (∀ p v, In y p v ↔ In z p v) ∧ y.length ≤ z.length ∧ ∀ k, d < k → region_joined.l0 k (out ++ [z[i]]) z (z.length : Int) ((i + 1 : Nat) : Int) = some y := by
      intro hne
      refine ih (i + 1) (out ++ [z[i]]) (by omega) ⟨?_, ?_⟩ ?_ ?_ ?_ (by simp; omega)
      · intro r h
        rcases List.mem_append.1 h with h | h
        · exact hv.1 r h
        · simp at h; subst h; exact hr.1
      · rw [List.pairwise_append]
        refine ⟨hv.2, by simp, fun a ha b hb' => ?_⟩
        simp at hb'
        subst hb'
        refine ⟨hbi a ha, fun hh => ?_⟩
        rcases List.eq_nil_or_concat out with e | ⟨o, t, e⟩
        · rw [e] at ha; cases ha
        · rw [List.concat_eq_append] at e
          rw [e] at ha
          rcases List.mem_append.1 ha with ha' | ha'
          · have h1 := hv.2
            rw [e, List.pairwise_append] at h1
            have h2 := (h1.2.2 a ha' t (by simp)).1
            have h3 := (hv.1 t (by rw [e]; simp)).2.1
            have h4 := hbi t (by rw [e]; simp)
            omega
          · simp at ha'
            subst ha'
            exact hne a o e hh
      · intro r h
        rcases List.mem_append.1 h with h | h
        · exact hf r h
        · simp at h; subst h; exact hr
      · intro p v
        rw [hInTake, ← hin]
        constructor
        · rintro ⟨r, h, hh⟩
          rcases List.mem_append.1 h with h | h
          · exact .inl ⟨r, h, hh⟩
          · simp at h; subst h; exact .inr hh
        · rintro (⟨r, h, hh⟩ | hh)
          · exact ⟨r, List.mem_append_left _ h, hh⟩
          · exact ⟨_, List.mem_append_right _ (by simp), hh⟩
      · intro r h s hs
        rcases List.mem_append.1 h with h | h
        · exact hb r h s (by rw [hdrop]; exact List.mem_cons_of_mem _ hs)
        · simp at h; subst h; exact hnext s hs
    rcases List.eq_nil_or_concat out with e | ⟨o, t, e⟩
    · subst e
      obtain ⟨y, h1, h2, h3, h4, h5⟩ := happ (fun t o e => by simp at e)
      refine ⟨y, h1, h2, h3, h4, fun k hk => ?_⟩
      obtain ⟨k, rfl, _⟩ := fuel hk
      simp only [region_joined.l0]
      rw [if_pos (by omega), if_pos (by omega), if_pos (by omega), if_neg (by simp), if_pos (by simp), hwrap, hrd]
      exact h5 k (by omega)
    · rw [List.concat_eq_append] at e
      subst e
      have hlen : wrap64 (((o ++ [t]).length : Int) - 1) = (o.length : Int) := by
        have : ((o ++ [t]).length : Int) - 1 = (o.length : Int) := by simp
        rw [this]
        simp at hl
        exact w64 (by omega) (by omega)
      by_cases hc : t.f1 = z[i].f0 ∧ t.f2 = z[i].f2
      · obtain ⟨c1, c2⟩ := hc
        have ht := hf t (by simp)
        have hz0 := hr.1
        obtain ⟨y, h1, h2, h3, h4, h5⟩ := ih (i + 1) (o ++ [⟨t.f0, z[i].f1, t.f2⟩]) (by omega) ⟨by
            intro r h
            rcases List.mem_append.1 h with h | h
            · exact hv.1 r (List.mem_append_left _ h)
            · simp at h; subst h; exact ⟨ht.1.1, by have := ht.1.2.1; have := hz0.2.1; show t.f0 < z[i].f1; omega, hz0.2.2.1, ht.1.2.2.2⟩, by
            have h1 := hv.2
            rw [List.pairwise_append] at h1 ⊢
            refine ⟨h1.1, by simp, fun a ha b hb' => ?_⟩
            simp at hb'
            subst hb'
            exact h1.2.2 a ha t (by simp)⟩ (by
            intro r h
            rcases List.mem_append.1 h with h | h
            · exact hf r (List.mem_append_left _ h)
            · simp at h; subst h; exact ⟨⟨ht.1.1, by have := ht.1.2.1; have := hz0.2.1; show t.f0 < z[i].f1; omega, hz0.2.2.1, ht.1.2.2.2⟩, ht.2⟩) (by
            intro p v
            rw [hInTake, ← hin]
            have ht1 := ht.1.2.1
            have hz1 := hz0.2.1
            constructor
            · rintro ⟨r, h, a, b, c⟩
              rcases List.mem_append.1 h with h | h
              · exact .inl ⟨r, List.mem_append_left _ h, a, b, c⟩
              · simp at h
                subst h
                simp only at a b c
                by_cases hp : p < t.f1
                · exact .inl ⟨t, by simp, a, hp, c⟩
                · exact .inr ⟨by omega, b, by omega⟩
            · rintro (⟨r, h, a, b, c⟩ | ⟨a, b, c⟩)
              · rcases List.mem_append.1 h with h | h
                · exact ⟨r, List.mem_append_left _ h, a, b, c⟩
                · simp at h
                  subst h
                  exact ⟨_, List.mem_append_right _ (List.mem_singleton.2 rfl), a, by show p < z[i].f1; omega, c⟩
              · exact ⟨_, List.mem_append_right _ (List.mem_singleton.2 rfl), by show t.f0 ≤ p; omega, b, by show t.f2 = v; omega⟩) (by
            intro r h s hs
            rcases List.mem_append.1 h with h | h
            · exact hb r (List.mem_append_left _ h) s (by rw [hdrop]; exact List.mem_cons_of_mem _ hs)
            · simp at h; subst h; exact hnext s hs) (by simp at hl ⊢; omega)
        refine ⟨y, h1, h2, h3, h4, fun k hk => ?_⟩
        obtain ⟨k, rfl, _⟩ := fuel hk
        simp only [region_joined.l0]
        rw [if_pos (by omega), if_pos (by omega), if_pos (by omega), if_pos (show ((o ++ [t]).length : Int) > 0 by rw [List.length_append, List.length_singleton]; omega), hlen, if_pos (by omega), if_pos (show (o.length : Int) < ((o ++ [t]).length : Int) by rw [List.length_append, List.length_singleton]; omega), rd33_last, hrd, if_pos c1, if_pos c2, hwrap, Int.toNat_natCast]
        have hset : (o ++ [t]).set o.length (⟨t.f0, z[i].f1, t.f2⟩ : S33) = o ++ [⟨t.f0, z[i].f1, t.f2⟩] := by simp
        rw [hset]
        exact h5 k (by omega)
      · obtain ⟨y, h1, h2, h3, h4, h5⟩ := happ (fun t' o' e => by
          have := List.append_inj' e rfl
          have h2 := this.2
          simp at h2
          subst h2
          exact hc)
        refine ⟨y, h1, h2, h3, h4, fun k hk => ?_⟩
        obtain ⟨k, rfl, _⟩ := fuel hk
        simp only [region_joined.l0]
        rw [if_pos (by omega), if_pos (by omega), if_pos (by omega), if_pos (show ((o ++ [t]).length : Int) > 0 by rw [List.length_append, List.length_singleton]; omega), hlen, if_pos (by omega), if_pos (show (o.length : Int) < ((o ++ [t]).length : Int) by rw [List.length_append, List.length_singleton]; omega), rd33_last, hrd, hwrap]
        have hle : (o ++ [t]).length < 5864062014805 := by omega
        by_cases c1 : t.f1 = z[i].f0
        · rw [if_pos c1, if_neg (fun c2 => hc ⟨c1, c2⟩), if_pos hle]
          exact h5 k (by omega)
        · rw [if_neg c1, if_pos hle]
          exact h5 k (by omega)

theorem leR_iff (a b : S33) : leR a b = true ↔ a.f0 ≤ b.f0 := by unfold leR; simp
/-- The join of regions that lie apart, in whatever order. -/
theorem join_f (l : List S33) (hne : l ≠ []) (hz : ∀ r ∈ l, Fine r) (hd : l.Pairwise fun a b => a.f1 ≤ b.f0 ∨ b.f1 ≤ a.f0) (hn : l.length < 1000000) :
    ∃ y, Valid y ∧ (∀ r ∈ y, Fine r) ∧ (∀ p v, In y p v ↔ In l p v) ∧ y.length ≤ l.length ∧ ∀ k, l.length < k → region_joined.f k l = some y := by
  have hperm := List.mergeSort_perm l leR
  have hsorted : (l.mergeSort leR).Pairwise fun a b => leR a b = true := List.pairwise_mergeSort (fun a b c h1 h2 => by rw [leR_iff] at *; omega) (fun a b => by rw [Bool.or_eq_true, leR_iff, leR_iff]; omega) l
  have hmem : ∀ r, r ∈ l.mergeSort leR ↔ r ∈ l := fun r => hperm.mem_iff
  have hd2 : (l.mergeSort leR).Pairwise fun a b => a.f1 ≤ b.f0 ∨ b.f1 ≤ a.f0 := (hperm.pairwise_iff (fun h => h.symm)).2 hd
  have hw : (l.mergeSort leR).Pairwise fun a b => a.f1 ≤ b.f0 := by
    rw [List.pairwise_iff_getElem] at hsorted hd2 ⊢
    intro i j hi hj hij
    have h1 := hsorted i j hi hj hij
    have h2 := hd2 i j hi hj hij
    rw [leR_iff] at h1
    have h3 := (hz _ ((hmem _).1 (List.getElem_mem hj))).1.2.1
    have h4 := (hz _ ((hmem _).1 (List.getElem_mem hi))).1.2.1
    omega
  have hlen : (l.mergeSort leR).length = l.length := List.length_mergeSort l
  have hnil : ∀ r ∈ ([] : List S33), Fine r := fun r h => absurd h List.not_mem_nil
  have hnil1 : ∀ r ∈ ([] : List S33), One r := fun r h => absurd h List.not_mem_nil
  obtain ⟨y, h1, h2, h3, h4, h5⟩ := join_go (l.mergeSort leR) (fun r h => hz r ((hmem r).1 h)) hw (by omega) l.length 0 [] (by omega) ⟨hnil1, List.Pairwise.nil⟩ hnil (fun p v => by simp [In]) (fun r h => absurd h List.not_mem_nil) (Nat.le_refl _)
  refine ⟨y, h1, h2, fun p v => (h3 p v).trans ⟨fun ⟨r, hr, h⟩ => ⟨r, (hmem r).1 hr, h⟩, fun ⟨r, hr, h⟩ => ⟨r, (hmem r).2 hr, h⟩⟩, by omega, fun k hk => ?_⟩
  have hc : l.isEmpty = false ∧ l.length < 1000000 ∧ (∀ x ∈ l, 0 ≤ x.f0 ∧ x.f0 ≤ 4096) ∧ (l.map (·.f0)).Nodup := by
    refine ⟨(by cases l with | nil => exact absurd rfl hne | cons a l => rfl), hn, fun x hx => ?_, ?_⟩
    · have := (hz x hx).1
      exact ⟨this.1, by have := this.2.1; have := (hz x hx).1.2.2.1; omega⟩
    · rw [List.Nodup, List.pairwise_map]
      have h0 : l.Pairwise fun a b => a ∈ l ∧ b ∈ l := by
        rw [List.pairwise_iff_getElem]
        exact fun i j hi hj _ => ⟨List.getElem_mem hi, List.getElem_mem hj⟩
      refine List.Pairwise.imp₂ (fun a b h1 h2 => ?_) hd h0
      have h3 := (hz a h2.1).1.2.1
      have h4 := (hz b h2.2).1.2.1
      intro e
      omega
  unfold region_joined.f slices_SortFunc.f
  rw [if_pos hc]
  exact h5 k (by omega)
end Go.Proofs.YtogbojhkkbddfaaDoor.RA
