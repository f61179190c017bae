/-
  The plain law of paths, part 3: Split and Last, the program's and the document's.
-/
import Derived.Test.YtkfgaebakcpkhaaDoorPure2
namespace Go.Proofs.YtkfgaebakcpkhaaDoor.PA
open Go.RowKit Go.Proofs.YtkfgaebakcpkhaaDoorW.PrintWords Go.Proofs.YtkfgaebakcpkhaaDoor.Sq

theorem tk_none {l : List UInt8} : ∀ {i : Nat}, tk i l = [] → l = List.replicate l.length 47 := by
  induction l with
  | nil => intro i _; rfl
  | cons b l ih =>
    intro i h
    by_cases hb : b = 47
    · subst hb
      rw [tk_slash] at h
      rw [List.length_cons, List.replicate_succ, ← ih h]
    · exfalso
      unfold tk at h
      unfold cutB at h
      rw [if_neg hb] at h
      cases hc : cutB 47 l with
      | nil => exact cutB_ne _ _ hc
      | cons p r => rw [hc] at h; simp [toks] at h
theorem tk_rep (m : Nat) : ∀ i, tk i (List.replicate m 47) = [] := by
  induction m with
  | zero => intro i; rfl
  | succ m ih => intro i; rw [List.replicate_succ, tk_slash, ih]
/-- The last token. -/
theorem last_tok (n : Nat) : ∀ (l : List UInt8) (i : Nat), l.length ≤ n → tk i l ≠ [] →
    ∃ u t m, l = u ++ t ++ List.replicate m 47 ∧ tk i l = tk i u ++ [(i + u.length, t)] ∧ t ≠ [] ∧ ∀ b ∈ t, b ≠ 47 := by
  induction n with
  | zero =>
    intro l i hl h
    obtain rfl := List.eq_nil_of_length_eq_zero (Nat.le_zero.1 hl)
    exact absurd (tk_nil i) h
  | succ n ih =>
    intro l i hl h
    cases l with
    | nil => exact absurd (tk_nil i) h
    | cons b l =>
      by_cases hb : b = 47
      · subst hb
        rw [tk_slash] at h
        obtain ⟨u, t, m, h1, h2, h3, h4⟩ := ih l (i + 1) (by simp at hl; omega) h
        refine ⟨47 :: u, t, m, by rw [h1]; rfl, ?_, h3, h4⟩
        rw [tk_slash, tk_slash, h2, List.length_cons]
        congr 3
        omega
      · -- a word
        obtain ⟨w, r, hw, hr⟩ : ∃ w r, b :: l = w ++ r ∧ ((∀ c ∈ w, c ≠ 47) ∧ w ≠ [] ∧ (r = [] ∨ ∃ r', r = 47 :: r')) := by
          refine ⟨(b :: l).takeWhile (· != 47), (b :: l).dropWhile (· != 47), (List.takeWhile_append_dropWhile).symm, fun c hc => ?_, ?_, ?_⟩
          · have := List.all_eq_true.1 List.all_takeWhile c hc
            simpa using this
          · rw [List.takeWhile_cons, if_pos (by simpa using hb)]
            simp
          · cases hd : (b :: l).dropWhile (· != 47) with
            | nil => exact .inl rfl
            | cons c r' =>
              have := List.head?_dropWhile_not (fun c : UInt8 => c != 47) (b :: l)
              rw [hd] at this
              simp at this
              exact .inr ⟨r', by rw [this]⟩
        obtain ⟨hw1, hw2, hr⟩ := hr
        rw [hw] at h hl ⊢
        rcases hr with rfl | ⟨r', rfl⟩
        · refine ⟨[], w, 0, by simp, ?_, hw2, hw1⟩
          rw [List.append_nil, tk_end i w hw1 hw2]
          simp [tk_nil]
        · rw [tk_word i w r' hw1 hw2]
          have hwl : 0 < w.length := List.length_pos_iff.2 hw2
          by_cases hn : tk (i + w.length + 1) r' = []
          · refine ⟨[], w, 1 + r'.length, ?_, by rw [hn]; simp [tk_nil], hw2, hw1⟩
            rw [List.nil_append, Nat.add_comm, List.replicate_succ, ← tk_none hn]
          · obtain ⟨u, t, m, h1, h2, h3, h4⟩ := ih r' (i + w.length + 1) (by simp at hl; omega) hn
            refine ⟨w ++ 47 :: u, t, m, by rw [h1]; simp, ?_, h3, h4⟩
            rw [h2, tk_word i w u hw1 hw2]
            simp
            omega
theorem trim_last (u t : List UInt8) (m : Nat) (h0 : t ≠ []) (h : ∀ b ∈ t, b ≠ 47) : Lib.trimRightB (u ++ t ++ List.replicate m 47) 47 = u ++ t := by
  unfold Lib.trimRightB
  rw [List.reverse_append, List.reverse_replicate, List.dropWhile_append, show (List.replicate m (47 : UInt8)).dropWhile (· == 47) = [] from by rw [List.dropWhile_replicate]; simp]
  rw [if_pos (by rfl), List.reverse_append]
  have ht : t.reverse ≠ [] := by simpa using h0
  obtain ⟨c, r, hc⟩ := List.exists_cons_of_ne_nil ht
  have hcm : c ≠ 47 := h c (by rw [← List.mem_reverse, hc]; exact List.mem_cons_self)
  rw [hc, List.cons_append, List.dropWhile_cons, if_neg (by simpa using hcm), ← List.cons_append, ← hc, ← List.reverse_append, List.reverse_reverse]

/-! ### Split -/
def root (p : ByteArray) : Bool := p.data.toList.head? == some 47
def splitP (p : ByteArray) : List ByteArray × Bool × Option Int :=
  if p.data.toList = [] then ([], false, some 2) else match chkAll (names p) with
    | none => (names p, root p, none)
    | some e => ([], false, some e)
theorem prefix_f (p : ByteArray) (h : p.data.toList ≠ []) : strings_HasPrefix.f p (⟨#[47]⟩ : ByteArray) = some (root p) := by
  have hs : 0 < p.size := by rw [← lenS]; exact List.length_pos_iff.2 h
  unfold strings_HasPrefix.f stringslite_HasPrefix.f root
  rw [show (⟨#[47]⟩ : ByteArray).size = 1 from rfl, if_pos (by omega), if_pos (by omega), if_pos (by omega), Option.bind_some, toList_eq, toList_eq, toList_extract]
  congr 1
  obtain ⟨c, r, hc⟩ := List.exists_cons_of_ne_nil h
  rw [hc]
  rw [Bool.eq_iff_iff]
  simp
theorem split_f (p : ByteArray) (hp : p.size < 1099511627776) (k : Nat) (hk : 10 < k) : path_Split.f k p = some (splitP p) := by
  unfold path_Split.f splitP
  rw [toList_eq]
  by_cases h : p.data.toList = []
  · rw [if_pos h, if_pos h]
  · rw [if_neg h, if_neg h, parts_f p hp, Option.bind_some, path_check_f _ k hk, Option.bind_some, prefix_f p h]
    cases hc : chkAll (names p) with
    | none => rfl
    | some e => rfl
theorem ref_split_f (p : ByteArray) (hp : p.size < 1000000) (k : Nat) (hk : 2 * p.size + 100 < k) : halterref16_Split.f k p = some ((splitP p).1, (splitP p).2.1, errI (splitP p).2.2) := by
  unfold halterref16_Split.f splitP
  rw [toList_eq]
  by_cases h : p.data.toList = []
  · rw [if_pos h, if_pos h]; rfl
  · have hs : 0 < p.size := by rw [← lenS]; exact List.length_pos_iff.2 h
    rw [if_neg h, if_neg h, ref_parts_f p hp k (by omega), Option.bind_some, ref_checked_f _ k (by omega), Option.bind_some]
    cases hc : chkAll (names p) with
    | none =>
      simp only [errI, Option.getD_none, if_true]
      rw [if_pos (by omega)]
      have hb := bt_list p 0 hs
      rw [show ((0 : Nat) : Int) = 0 from rfl] at hb
      rw [hb]
      unfold root
      congr 3
      rw [List.head?_eq_getElem?, List.getElem?_eq_getElem (by rw [lenS]; exact hs), Bool.eq_iff_iff, beq_iff_eq, beq_iff_eq, b47]
      simp
    | some e =>
      have := chkAll_pos hc
      simp only [errI, Option.getD_some]
      rw [if_neg (by omega)]

/-! ### Last -/
def dots (s : List UInt8) : Bool := s == [46] || s == [46, 46]
def lastP (p : ByteArray) : ByteArray × ByteArray × Option Int :=
  match splitP p with
  | (_, _, some e) => (⟨#[]⟩, ⟨#[]⟩, some e)
  | (_, _, none) => match (tk 0 p.data.toList).getLast? with
    | none => (⟨#[]⟩, ⟨#[]⟩, some 22)
    | some t => if dots t.2 = true then (⟨#[]⟩, ⟨#[]⟩, some 22) else (mk t.2, mk (p.data.toList.take t.1), none)
theorem splitP_none {p : ByteArray} (h : (splitP p).2.2 = none) : p.data.toList ≠ [] ∧ chkAll (names p) = none ∧ splitP p = (names p, root p, none) := by
  unfold splitP at h ⊢
  by_cases h0 : p.data.toList = []
  · rw [if_pos h0] at h; cases h
  · rw [if_neg h0] at h ⊢
    cases hc : chkAll (names p) with
    | none => exact ⟨h0, rfl, rfl⟩
    | some e => rw [hc] at h; cases h
theorem names_len (p : ByteArray) : (names p).length = (tk 0 p.data.toList).length := by unfold names; rw [List.length_map]
/-- The last name, and what stands ahead of it. -/
theorem last_names {p : ByteArray} (h : names p ≠ []) : ∃ u t m, p.data.toList = u ++ t ++ List.replicate m 47 ∧ tk 0 p.data.toList = tk 0 u ++ [(u.length, t)] ∧ t ≠ [] ∧ ∀ b ∈ t, b ≠ 47 := by
  have h' : tk 0 p.data.toList ≠ [] := fun e => h (by unfold names; rw [e]; rfl)
  obtain ⟨u, t, m, h1, h2, h3, h4⟩ := last_tok _ _ 0 (Nat.le_refl _) h'
  exact ⟨u, t, m, h1, by simpa using h2, h3, h4⟩
theorem trim_f (p : ByteArray) (hp : p.size < 1099511627776) {u t : List UInt8} {m : Nat} (h1 : p.data.toList = u ++ t ++ List.replicate m 47) (h3 : t ≠ []) (h4 : ∀ b ∈ t, b ≠ 47) :
    ((strings_TrimRight.f p (⟨#[47]⟩ : ByteArray)).bind fun x => strings_TrimSuffix.f x (mk t)) = some (mk u) := by
  unfold strings_TrimRight.f
  rw [if_pos ⟨by omega, rfl⟩, Option.bind_some, h1, trim_last u t m h3 h4]
  change strings_TrimSuffix.f (mk (u ++ t)) (mk t) = _
  have s1 : (mk (u ++ t)).size = u.length + t.length := by rw [← lenS, mk_list, List.length_append]
  have s2 : (mk t).size = t.length := by rw [← lenS, mk_list]
  have hb : u.length + t.length ≤ p.size := by
    rw [← lenS, h1]; simp
  have hw : wrap64 (((mk (u ++ t)).size : Int) - ((mk t).size : Int)) = (u.length : Int) := by rw [s1, s2, w64 (by omega) (by omega)]; omega
  unfold strings_TrimSuffix.f stringslite_TrimSuffix.f stringslite_HasSuffix.f
  rw [hw, if_pos (by omega), if_pos (by omega), if_pos (by omega), toList_eq, toList_eq, Int.toNat_natCast, toList_extract, s1, mk_list, mk_list]
  have e : ((u ++ t).take (u.length + t.length)).drop u.length = t := by
    rw [List.take_of_length_le (by simp), List.drop_left]
  rw [e, Option.bind_some, if_pos (by simp), if_pos (by omega), if_pos (by omega), Option.bind_some, extract_mk, mk_list, List.drop_zero, List.take_left]
theorem last_f (p : ByteArray) (hp : p.size < 1099511627776) (k : Nat) (hk : 12 < k) : path_Last.f k p = some (lastP p) := by
  unfold path_Last.f lastP
  rw [split_f p hp k (by omega), Option.bind_some]
  cases he : (splitP p).2.2 with
  | some e =>
    obtain ⟨l, r, e', hs⟩ : ∃ l r e', splitP p = (l, r, e') := ⟨_, _, _, rfl⟩
    rw [hs] at he ⊢
    simp only at he
    subst he
    rfl
  | none =>
    obtain ⟨h0, hc, hs⟩ := splitP_none he
    rw [hs]
    simp only [Option.isNone_none, if_true]
    obtain ⟨k, rfl⟩ : ∃ m, k = m + 1 := ⟨k - 1, by omega⟩
    by_cases hn : names p = []
    · rw [hn, if_pos (by rfl)]
      have : tk 0 p.data.toList = [] := by
        unfold names at hn
        simpa using hn
      rw [this]
      simp only [path_Last.j0]
      rfl
    · obtain ⟨u, t, m, h1, h2, h3, h4⟩ := last_names hn
      have hl8 := (chkAll_none hc).1
      have hl : 0 < (names p).length := List.length_pos_iff.2 hn
      have hw : wrap64 (((names p).length : Int) - 1) = (((names p).length - 1 : Nat) : Int) := by rw [w64 (by omega) (by omega)]; omega
      have hlast : (names p)[(names p).length - 1]'(by omega) = mk t := by
        have : names p = (tk 0 u).map (fun t => mk t.2) ++ [mk t] := by unfold names; rw [h2]; simp
        simp only [this, List.length_append, List.length_singleton, Nat.add_sub_cancel, List.getElem_concat_length]
      rw [if_neg (by omega), hw, if_pos (by omega), if_pos (by omega), rdOf_at _ _ (by omega), hlast, toList_eq, h2, List.getLast?_concat]
      have hj : ∀ b, path_Last.j0 (k + 1) p (names p) b = some (if b = true then ((⟨#[]⟩ : ByteArray), (⟨#[]⟩ : ByteArray), some 22) else (mk t, mk u, none)) := fun b => by
        simp only [path_Last.j0]
        cases b with
        | true => rfl
        | false =>
          rw [if_neg (by decide), hw, if_pos (by omega), if_pos (by omega), rdOf_at _ _ (by omega), hlast]
          have ht := trim_f p hp h1 h3 h4
          have hr : ∃ x, strings_TrimRight.f p (⟨#[47]⟩ : ByteArray) = some x := by
            cases hx : strings_TrimRight.f p (⟨#[47]⟩ : ByteArray) with
            | none => rw [hx] at ht; cases ht
            | some x => exact ⟨x, rfl⟩
          obtain ⟨x, hx⟩ := hr
          rw [hx, Option.bind_some] at ht
          rw [hx, Option.bind_some, ht, Option.bind_some]
          rfl
      rw [hj, hj]
      simp only [mk_list]
      have hu : p.data.toList.take u.length = u := by rw [h1, List.append_assoc, List.take_left]
      rw [hu]
      have hd : dots t = (t == [46] || t == [46, 46]) := rfl
      by_cases hd1 : t = [46]
      · rw [if_pos hd1, hd, beq_iff_eq.2 hd1]; rfl
      · rw [if_neg hd1, hd, beq_eq_false_iff_ne.2 hd1, Bool.false_or]
        rfl
theorem ref_last_f (p : ByteArray) (hp : p.size < 1000000) (k : Nat) (hk : 2 * p.size + 100 < k) : halterref16_Last.f k p = some ((lastP p).1, (lastP p).2.1, errI (lastP p).2.2) := by
  unfold halterref16_Last.f lastP
  rw [ref_split_f p hp k hk, Option.bind_some]
  cases he : (splitP p).2.2 with
  | some e =>
    have hpos : e ≠ 0 := by
      unfold splitP at he
      split at he
      · cases he; decide
      · split at he
        · cases he
        · rename_i e' hc
          cases he
          have := chkAll_pos hc
          omega
    obtain ⟨l, r, e', hs⟩ : ∃ l r e', splitP p = (l, r, e') := ⟨_, _, _, rfl⟩
    rw [hs] at he ⊢
    simp only at he
    subst he
    simp only [errI, Option.getD_some]
    rw [if_neg hpos]
  | none =>
    obtain ⟨h0, hc, hs⟩ := splitP_none he
    rw [hs]
    simp only [errI, Option.getD_none, if_true]
    have hl8 := (chkAll_none hc).1
    by_cases hn : names p = []
    · rw [hn, if_pos (by rw [List.length_nil, w64 (by omega) (by omega)]; omega)]
      have : tk 0 p.data.toList = [] := by
        unfold names at hn
        simpa using hn
      rw [this]
      rfl
    · obtain ⟨u, t, m, h1, h2, h3, h4⟩ := last_names hn
      have hl : 0 < (names p).length := List.length_pos_iff.2 hn
      have hw : wrap64 (((names p).length : Int) - 1) = (((names p).length - 1 : Nat) : Int) := by rw [w64 (by omega) (by omega)]; omega
      have hlast : (names p)[(names p).length - 1]'(by omega) = mk t := by
        have : names p = (tk 0 u).map (fun t => mk t.2) ++ [mk t] := by unfold names; rw [h2]; simp
        simp only [this, List.length_append, List.length_singleton, Nat.add_sub_cancel, List.getElem_concat_length]
      have hpl : (places p).length = (names p).length := by unfold places names; rw [List.length_map, List.length_map]
      have hul : u.length ≤ p.size := by rw [← lenS, h1, List.append_assoc, List.length_append]; omega
      have hplast : rd (places p) (((names p).length - 1 : Nat) : Int) = (u.length : Int) := by
        unfold rd
        rw [Int.toNat_natCast, List.getD_eq_getElem?_getD, ← hpl]
        have h5 : places p = (tk 0 u).map (fun t => (t.1 : Int)) ++ [(u.length : Int)] := by unfold places; rw [h2]; simp
        rw [h5]
        simp
      rw [if_neg (by rw [hw]; omega), hw, if_pos (by omega), if_pos (by omega), rdOf_at _ _ (by omega), hlast, toList_eq, h2, List.getLast?_concat]
      dsimp only
      have hd : dots t = (t == [46] || t == [46, 46]) := rfl
      by_cases hd1 : t = [46]
      · rw [if_pos (show (mk t).data.toList = [46] from hd1), hd, beq_iff_eq.2 hd1]; rfl
      · rw [if_neg (show ¬ (mk t).data.toList = [46] from hd1), hd, beq_eq_false_iff_ne.2 hd1, Bool.false_or]
        by_cases hd2 : t = [46, 46]
        · rw [if_pos (show (mk t).data.toList = [46, 46] from hd2), beq_iff_eq.2 hd2]; rfl
        · rw [if_neg (show ¬ (mk t).data.toList = [46, 46] from hd2), beq_eq_false_iff_ne.2 hd2, ref_parts_f p hp k (by omega), Option.bind_some]
          simp only [hpl, hplast]
          rw [if_pos (by omega), if_pos (by omega), if_pos (by omega), Int.toNat_natCast, extract_mk, List.drop_zero]
          rfl
end Go.Proofs.YtkfgaebakcpkhaaDoor.PA
