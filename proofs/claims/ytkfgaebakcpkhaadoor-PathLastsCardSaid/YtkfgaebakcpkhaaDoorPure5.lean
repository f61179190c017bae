/-
  The plain law of paths, part 5: PathBack and PathLasts.
-/
import Derived.Test.YtkfgaebakcpkhaaDoorPure4
import Derived.Test.YtkfgaebakcpkhaaDoorPAx5
namespace Go.Proofs.YtkfgaebakcpkhaaDoor.PA
open Go.RowKit Go.Proofs.YtkfgaebakcpkhaaDoorW.PrintWords Go.Proofs.YtkfgaebakcpkhaaDoor.Sq

/-- A word: not empty, no slash in it. -/
def Word (w : List UInt8) : Prop := w ≠ [] ∧ ∀ b ∈ w, b ≠ 47
theorem words_of {l : List ByteArray} (h : chkAll l = none) : ∀ w ∈ bytes l, Word w := by
  intro w hw
  obtain ⟨s, hs, rfl⟩ := List.mem_map.1 hw
  obtain ⟨h1, _, h3⟩ := chk_none ((chkAll_none h).2 s hs)
  exact ⟨h1, h3⟩
theorem tk_joinL (m : Nat) : ∀ (ls : List (List UInt8)) (i : Nat), (∀ w ∈ ls, Word w) → (tk i (joinL ls ++ List.replicate m 47)).map (·.2) = ls
  | [], i, _ => by
    rw [show joinL [] = [] from rfl, List.nil_append, tk_rep]
    rfl
  | [w], i, h => by
    obtain ⟨h0, h1⟩ := h w List.mem_cons_self
    rw [show joinL [w] = w by simp [joinL]]
    cases m with
    | zero => rw [List.replicate_zero, List.append_nil, tk_end i w h1 h0]; rfl
    | succ m => rw [List.replicate_succ, tk_word i w _ h1 h0, tk_rep]; rfl
  | w :: v :: r, i, h => by
    obtain ⟨h0, h1⟩ := h w List.mem_cons_self
    rw [joinL_two, List.append_assoc, List.cons_append, tk_word i w _ h1 h0, List.map_cons, tk_joinL m (v :: r) _ (fun x hx => h x (List.mem_cons_of_mem _ hx))]
theorem map_mk_bytes (l : List ByteArray) : (bytes l).map mk = l := by
  unfold bytes
  rw [List.map_map]
  conv => rhs; rw [← List.map_id l]
  apply List.map_congr_left
  intro s _
  exact mk_toList s
theorem names_mk (l : List UInt8) : names (mk l) = ((tk 0 l).map (·.2)).map mk := by
  unfold names
  rw [mk_list, List.map_map]
  rfl
theorem names_joined {l : List ByteArray} (h : chkAll l = none) : names (joined l) = l := by
  unfold joined
  rw [names_mk, tk_slash]
  have := tk_joinL 0 (bytes l) 1 (words_of h)
  rw [List.replicate_zero, List.append_nil] at this
  rw [this, map_mk_bytes]
theorem split_joined {l : List ByteArray} (h : chkAll l = none) : splitP (joined l) = (l, true, none) := by
  unfold splitP
  rw [if_neg (by simp [joined, mk_list]), names_joined h, h]
  rfl
theorem split_around {l : List ByteArray} (h : chkAll l = none) : splitP (((⟨#[47]⟩ : ByteArray) ++ joined l) ++ (⟨#[47, 47]⟩ : ByteArray)) = (l, true, none) := by
  have e : ((⟨#[47]⟩ : ByteArray) ++ joined l) ++ (⟨#[47, 47]⟩ : ByteArray) = mk (47 :: 47 :: (joinL (bytes l) ++ List.replicate 2 47)) := by
    change (mk [47] ++ mk (47 :: joinL (bytes l))) ++ mk [47, 47] = _
    rw [mk_append, mk_append]
    simp
  rw [e]
  unfold splitP
  have hn : names (mk (47 :: 47 :: (joinL (bytes l) ++ List.replicate 2 47))) = l := by
    rw [names_mk, tk_slash, tk_slash, tk_joinL 2 (bytes l) _ (words_of h), map_mk_bytes]
  rw [if_neg (by simp [mk_list]), hn, h]
  rfl

/-! ### the document's Join -/
theorem ref_join_l0 (l : List ByteArray) (hl : l.length ≤ 8) (h16 : ∀ s ∈ l, s.size ≤ 16) (d : Nat) : ∀ (i k : Nat) (x : List UInt8), i + d = l.length → 0 < i → x.length ≤ 17 * i + 1 → d < k →
    halterref16_Join.l0 k l (mk x) (i : Int) = some (mk (x ++ ((bytes (l.drop i)).map (47 :: ·)).flatten), 0) := by
  induction d with
  | zero =>
    intro i k x hi h0 hx hk
    obtain ⟨k, rfl, _⟩ := fuel hk
    simp only [halterref16_Join.l0]
    rw [if_neg (by omega), List.drop_eq_nil_of_le (by omega)]
    simp [bytes]
  | succ d ih =>
    intro i k x hi h0 hx hk
    obtain ⟨k, rfl, hk'⟩ := fuel hk
    have hil : i < l.length := by omega
    have hw : wrap64 ((i : Int) + 1) = ((i + 1 : Nat) : Int) := by rw [w64 (by omega) (by omega)]; omega
    have hs := h16 _ (List.getElem_mem hil)
    have hxs : (mk x).size = x.length := by rw [← lenS, mk_list]
    have e1 : mk x ++ (⟨#[47]⟩ : ByteArray) = mk (x ++ [47]) := mk_append x [47]
    have e2 : mk (x ++ [47]) ++ l[i] = mk (x ++ 47 :: l[i].data.toList) := by
      conv => lhs; rw [← mk_toList l[i]]
      refine (mk_append _ _).trans ?_
      simp
    have hsz : (mk (x ++ [47])).size = x.length + 1 := by rw [← lenS, mk_list]; simp
    simp only [halterref16_Join.l0]
    rw [if_pos (by omega), if_pos (by omega), if_pos (by omega), if_pos (by omega), rdOf_at l i hil, e1, if_pos (by omega), e2, hw,
      ih (i + 1) k _ (by omega) (by omega) (by rw [List.length_append, List.length_cons, lenS]; omega) (by omega)]
    have e3 : bytes (l.drop i) = l[i].data.toList :: bytes (l.drop (i + 1)) := by
      unfold bytes
      rw [List.drop_eq_getElem_cons hil, List.map_cons]
    rw [e3]
    simp
theorem ref_join_f (l : List ByteArray) (k : Nat) (hk : 50 < k) : halterref16_Join.f k l = some (match chkAll l with | none => (joined l, 0) | some e => (⟨#[]⟩, e)) := by
  unfold halterref16_Join.f
  rw [ref_checked_f l k hk, Option.bind_some]
  cases h : chkAll l with
  | some e =>
    have := chkAll_pos h
    rw [if_neg (show ¬ errI (some e) = 0 by simp only [errI, Option.getD_some]; omega)]
    rfl
  | none =>
    obtain ⟨h1, h2⟩ := chkAll_none h
    have h16 : ∀ s ∈ l, s.size ≤ 16 := fun s hs => (chk_none (h2 s hs)).2.1
    simp only [errI, Option.getD_none, if_true]
    obtain ⟨k, rfl, hk'⟩ := fuel (show 49 < k by omega)
    cases l with
    | nil =>
      simp only [halterref16_Join.l0]
      rw [if_neg (by simp)]
      rfl
    | cons s r =>
      have hs := h16 s List.mem_cons_self
      have e2 : (⟨#[47]⟩ : ByteArray) ++ s = mk (47 :: s.data.toList) := by
        conv => lhs; rw [← mk_toList s]
        exact mk_append [47] _
      have r0 : rdOf ByteArray.empty (s :: r) 0 = s := rfl
      have hw : wrap64 ((0 : Int) + 1) = ((1 : Nat) : Int) := by rw [w64 (by omega) (by omega)]; rfl
      simp only [halterref16_Join.l0]
      rw [if_pos (by simp), if_neg (by omega), if_pos (by omega), r0, show (⟨#[47]⟩ : ByteArray).size = 1 from rfl, if_pos (by omega), e2, hw,
        ref_join_l0 (s :: r) h1 h16 r.length 1 k _ (by simp; omega) (by omega) (by rw [List.length_cons, lenS]; omega) (by simp at h1; omega)]
      simp [joined, joinL, bytes]

/-! ### PathBack -/
theorem num_f (e : Option Int) : halterlaw16_num.f e = some (errI e) := rfl
theorem back_end (l : List ByteArray) (k : Nat) (hk : 2000 < k) : ((path_Join.f k l).bind fun bt215 => ((halterref16_Join.f k l).bind fun bt217 => (if bt215.1.toList = bt217.1.toList then ((halterlaw16_num.f bt215.2).bind fun t219 => (halterlaw16_PathBack.j1 k l bt215.1 bt215.2 (t219 != bt217.2))) else (halterlaw16_PathBack.j1 k l bt215.1 bt215.2 true)))) = some true := by
  rw [join_f l k (by omega), Option.bind_some, ref_join_f l k (by omega), Option.bind_some]
  obtain ⟨k, rfl, hk'⟩ := fuel (show 2000 < k by omega)
  cases h : chkAll l with
  | some e =>
    dsimp only
    rw [if_pos rfl, num_f, Option.bind_some]
    simp only [halterlaw16_PathBack.j1]
    rw [if_neg (by simp [errI]), if_neg (by simp), sure_f _ (by omega)]
    rfl
  | none =>
    obtain ⟨h1, h2⟩ := len_ok h
    have hsz : (joined l).size ≤ 200 := by rw [← lenS]; unfold joined; rw [mk_list, List.length_cons]; omega
    have hsz2 : ((⟨#[47]⟩ : ByteArray) ++ joined l).size = 1 + (joined l).size := ByteArray.size_append
    have hsz3 : (((⟨#[47]⟩ : ByteArray) ++ joined l) ++ (⟨#[47, 47]⟩ : ByteArray)).size = ((⟨#[47]⟩ : ByteArray) ++ joined l).size + 2 := ByteArray.size_append
    dsimp only
    rw [if_pos rfl, num_f, Option.bind_some]
    simp only [halterlaw16_PathBack.j1]
    rw [if_neg (by simp [errI]), if_pos (by rfl), split_f _ (by omega) k (by omega), Option.bind_some, split_joined h, if_pos (by omega), if_pos (by omega), split_f _ (by omega) k (by omega), Option.bind_some, split_around h]
    dsimp only
    rw [if_pos (by rfl), if_pos (by rfl), if_pos rfl, if_pos rfl, texts_f l (by omega) k (by omega), Option.bind_some, if_pos rfl, Option.bind_some, if_pos rfl, sure_f _ (by omega)]
    rfl
theorem back_l0 (l : List ByteArray) (d : Nat) : ∀ (i k : Nat) (n : Int), i + d = l.length → 0 ≤ n → n ≤ 500 → d + 2001 < k → halterlaw16_PathBack.l0 k l n (i : Int) = some true := by
  induction d with
  | zero =>
    intro i k n hi h0 hn hk
    obtain ⟨k, rfl, _⟩ := fuel hk
    simp only [halterlaw16_PathBack.l0]
    rw [if_neg (by omega)]
    exact back_end l k (by omega)
  | succ d ih =>
    intro i k n hi h0 hn hk
    obtain ⟨k, rfl, hk'⟩ := fuel hk
    simp only [halterlaw16_PathBack.l0]
    rw [if_pos (by omega), if_pos (by omega)]
    by_cases h60 : (l.length : Int) > 60
    · rw [if_pos h60, sure_f _ (by omega)]
      rfl
    · rw [if_neg h60]
      have hm : 0 ≤ mn ((rdOf ByteArray.empty l (i : Int)).size : Int) 600 ∧ mn ((rdOf ByteArray.empty l (i : Int)).size : Int) 600 ≤ 600 := by
        unfold mn
        split <;> omega
      generalize mn ((rdOf ByteArray.empty l (i : Int)).size : Int) 600 = m at hm ⊢
      have hw : wrap64 ((i : Int) + 1) = ((i + 1 : Nat) : Int) := by rw [w64 (by omega) (by omega)]; omega
      have hw2 : wrap64 (n + m) = n + m := w64 (by omega) (by omega)
      rw [hw, hw2]
      by_cases h5 : n + m > 500
      · rw [if_pos h5, sure_f _ (by omega)]
        rfl
      · rw [if_neg h5]
        exact ih (i + 1) k _ (by omega) (by omega) (by omega) (by omega)
theorem law_back (l : List ByteArray) : ∃ k, halterlaw16_PathBack.f k l = some true :=
  ⟨l.length + 2002, back_l0 l l.length 0 _ 0 (by omega) (by omega) (by omega) (by omega)⟩

/-! ### PathLasts -/
theorem cutB_snoc (l : List UInt8) : cutB 47 (l ++ [47]) = cutB 47 l ++ [[]] := by
  induction l with
  | nil => rfl
  | cons b l ih =>
    rw [List.cons_append]
    by_cases hb : b = 47
    · subst hb
      simp [cutB, ih]
    · conv => lhs; unfold cutB
      conv => rhs; unfold cutB
      rw [if_neg hb, if_neg hb, ih]
      cases h : cutB 47 l with
      | nil => exact absurd h (cutB_ne _ _)
      | cons p r => rfl
theorem toks_snoc (ps : List (List UInt8)) : ∀ i, toks i (ps ++ [[]]) = toks i ps := by
  induction ps with
  | nil => intro i; rfl
  | cons p r ih =>
    intro i
    rw [List.cons_append]
    unfold toks
    rw [ih, ih]
theorem tk_snoc (i : Nat) (l : List UInt8) : tk i (l ++ [47]) = tk i l := by
  unfold tk
  rw [cutB_snoc, toks_snoc]
theorem lasts_end (l : List ByteArray) (h : chkAll l = none) (h0 : l ≠ []) (k : Nat) (hk : 1000 < k) : halterlaw16_PathLasts.j1 k l (joined l) false = some true := by
  obtain ⟨h1, h2⟩ := len_ok h
  have hlp : 0 < l.length := List.length_pos_iff.2 h0
  have hsz : (joined l).size ≤ 200 := by rw [← lenS]; unfold joined; rw [mk_list, List.length_cons]; omega
  have hsz2 : (joined l ++ (⟨#[47]⟩ : ByteArray)).size = (joined l).size + 1 := ByteArray.size_append
  have hj : (joined l).data.toList = 47 :: joinL (bytes l) := rfl
  have hj2 : (joined l ++ (⟨#[47]⟩ : ByteArray)).data.toList = (joined l).data.toList ++ [47] := by
    rw [ByteArray.data_append, Array.toList_append]
  obtain ⟨u, t, m, p1, p2, p3, p4⟩ := last_names (p := joined l) (by rw [names_joined h]; exact h0)
  have hnames : l = (tk 0 u).map (fun t => mk t.2) ++ [mk t] := by
    have := names_joined h
    unfold names at this
    rw [p2] at this
    rw [← this]
    simp
  have htk0 : tk 0 (joined l).data.toList ≠ [] := by rw [p2]; simp
  have hul : u.length ≤ (joined l).data.toList.length := by rw [p1, List.append_assoc, List.length_append]; omega
  have htake : (joined l).data.toList.take u.length = u := by rw [p1, List.append_assoc, List.take_left]
  have l1 : lastP (joined l) = if dots t = true then (⟨#[]⟩, ⟨#[]⟩, some 22) else (mk t, mk u, none) := by
    unfold lastP
    rw [split_joined h, p2, List.getLast?_concat]
    dsimp only
    rw [htake]
  have l2 : lastP (joined l ++ (⟨#[47]⟩ : ByteArray)) = if dots t = true then (⟨#[]⟩, ⟨#[]⟩, some 22) else (mk t, mk u, none) := by
    have hs : splitP (joined l ++ (⟨#[47]⟩ : ByteArray)) = (l, true, none) := by
      unfold splitP
      have hn : names (joined l ++ (⟨#[47]⟩ : ByteArray)) = l := by
        refine Eq.trans ?_ (names_joined h)
        unfold names
        rw [hj2, tk_snoc]
      rw [hn, h, if_neg (by rw [hj2]; simp)]
      unfold root
      rw [hj2, hj]
      rfl
    unfold lastP
    rw [hs, hj2, tk_snoc, p2, List.getLast?_concat]
    dsimp only
    rw [List.take_append_of_le_length hul, htake]
  have hw : wrap64 ((l.length : Int) - 1) = ((l.length - 1 : Nat) : Int) := by rw [w64 (by omega) (by omega)]; omega
  have hlast : rdOf ByteArray.empty l ((l.length - 1 : Nat) : Int) = mk t := by
    rw [rdOf_at l _ (by omega)]
    have e : l.length - 1 = ((tk 0 u).map (fun t => mk t.2)).length := by rw [hnames]; simp
    simp only [e]
    simp only [hnames, List.getElem_concat_length]
  obtain ⟨k, rfl, hk'⟩ := fuel hk
  simp only [halterlaw16_PathLasts.j1]
  rw [if_neg (by decide), last_f _ (by omega) k (by omega), Option.bind_some, if_pos (by omega), last_f _ (by omega) k (by omega), Option.bind_some, l1, l2, hw, if_pos (by omega), if_pos (by omega), hlast, toList_eq, mk_list]
  obtain ⟨k, rfl, hk''⟩ := fuel (show 998 < k by omega)
  have yes : dots t = true → halterlaw16_PathLasts.j2 (k + 1) l (if dots t = true then ((⟨#[]⟩ : ByteArray), (⟨#[]⟩ : ByteArray), some (22 : Int)) else (mk t, mk u, none)).1 (if dots t = true then ((⟨#[]⟩ : ByteArray), (⟨#[]⟩ : ByteArray), some (22 : Int)) else (mk t, mk u, none)).2.1 (if dots t = true then ((⟨#[]⟩ : ByteArray), (⟨#[]⟩ : ByteArray), some (22 : Int)) else (mk t, mk u, none)).2.2 (if dots t = true then ((⟨#[]⟩ : ByteArray), (⟨#[]⟩ : ByteArray), some (22 : Int)) else (mk t, mk u, none)).1 (if dots t = true then ((⟨#[]⟩ : ByteArray), (⟨#[]⟩ : ByteArray), some (22 : Int)) else (mk t, mk u, none)).2.1 (if dots t = true then ((⟨#[]⟩ : ByteArray), (⟨#[]⟩ : ByteArray), some (22 : Int)) else (mk t, mk u, none)).2.2 ((l.length - 1 : Nat) : Int) true = some true := fun hd => by
    rw [if_pos hd]
    dsimp only
    simp only [halterlaw16_PathLasts.j2]
    rw [if_pos trivial, num_f, Option.bind_some, if_pos (by rfl), Option.bind_some, if_pos (by rfl), sure_f _ (by omega)]
    rfl
  by_cases hd1 : t = [46]
  · rw [if_pos hd1]
    exact yes (by rw [hd1]; rfl)
  · rw [if_neg hd1]
    cases hd2 : (t == [46, 46]) with
    | true => exact yes (by unfold dots; rw [hd2, Bool.or_true])
    | false =>
      have hd : ¬ dots t = true := by unfold dots; rw [hd2, Bool.or_false]; simpa using hd1
      rw [if_neg hd]
      dsimp only
      simp only [halterlaw16_PathLasts.j2]
      have hu0 : u ≠ [] := by
        rintro rfl
        rw [List.nil_append, hj] at p1
        obtain ⟨c, r, hc⟩ := List.exists_cons_of_ne_nil p3
        rw [hc] at p1
        injection p1 with p1 _
        exact p4 c (by rw [hc]; exact List.mem_cons_self) p1.symm
      have hnu : names (mk u) = l.take (l.length - 1) := by
        rw [names_mk]
        have e : l.length - 1 = ((tk 0 u).map (fun t => mk t.2)).length := by rw [hnames]; simp
        rw [e]
        conv => rhs; rw [hnames]
        rw [List.take_left, List.map_map]
        rfl
      have hcu : chkAll (l.take (l.length - 1)) = none := by
        unfold chkAll
        rw [if_neg (by rw [List.length_take]; omega), List.findSome?_eq_none_iff]
        intro s hs
        exact (chkAll_none h).2 s (List.mem_of_mem_take hs)
      have hsu : splitP (mk u) = (l.take (l.length - 1), true, none) := by
        unfold splitP
        rw [if_neg (by rw [mk_list]; exact hu0), hnu, hcu]
        unfold root
        rw [mk_list]
        obtain ⟨c, r, hc⟩ := List.exists_cons_of_ne_nil hu0
        rw [hj, hc] at p1
        simp only [List.cons_append] at p1
        injection p1 with p1 _
        rw [hc, ← p1]
        rfl
      have husz : (mk u).size < 1099511627776 := by
        rw [← lenS, mk_list]
        rw [lenS] at hul
        omega
      rw [if_neg (by decide), split_f _ husz k (by omega), Option.bind_some, hsu]
      dsimp only
      rw [if_pos (by rfl), if_pos (by rfl), if_pos (by rfl), if_pos (by omega), if_pos (by omega), hlast, if_pos rfl, if_pos (by first | rfl | trivial), if_pos (by first | rfl | trivial), if_pos (by first | rfl | trivial), if_pos (by omega), Int.toNat_natCast,
        texts_f _ (by rw [List.length_take]; omega) k (by rw [List.length_take]; omega), Option.bind_some, if_pos rfl, sure_f _ (by omega)]
      rfl
theorem lasts_l0 (l : List ByteArray) (hl : l.length ≤ 20) (d : Nat) : ∀ (i k : Nat), i + d = l.length → d + 1002 < k → halterlaw16_PathLasts.l0 k l (i : Int) = some true := by
  induction d with
  | zero =>
    intro i k hi hk
    obtain ⟨k, rfl, _⟩ := fuel hk
    simp only [halterlaw16_PathLasts.l0]
    rw [if_neg (by omega), join_f l k (by omega), Option.bind_some]
    have big : ∀ x, halterlaw16_PathLasts.j1 k l x true = some true := fun x => by
      obtain ⟨k, rfl, _⟩ := fuel (show 1000 < k by omega)
      simp only [halterlaw16_PathLasts.j1]
      rw [if_pos trivial, sure_f _ (by omega)]
      rfl
    cases h : chkAll l with
    | some e =>
      dsimp only
      rw [if_neg (by simp)]
      exact big _
    | none =>
      dsimp only
      rw [if_pos (by rfl)]
      by_cases h0 : l = []
      · rw [show ((l.length : Int) == 0) = true by rw [h0]; rfl]
        exact big _
      · rw [show ((l.length : Int) == 0) = false by
          have := List.length_pos_iff.2 h0
          rw [beq_eq_false_iff_ne]; omega]
        exact lasts_end l h h0 k (by omega)
  | succ d ih =>
    intro i k hi hk
    obtain ⟨k, rfl, hk'⟩ := fuel hk
    have hw : wrap64 ((i : Int) + 1) = ((i + 1 : Nat) : Int) := by rw [w64 (by omega) (by omega)]; omega
    simp only [halterlaw16_PathLasts.l0]
    rw [if_pos (by omega), if_pos (by omega), hw]
    split
    · rw [sure_f _ (by omega)]
      rfl
    · exact ih (i + 1) k (by omega) (by omega)
theorem law_lasts (l : List ByteArray) : ∃ k, halterlaw16_PathLasts.f k l = some true := by
  refine ⟨2000, ?_⟩
  unfold halterlaw16_PathLasts.f
  by_cases h : (l.length : Int) > 20
  · rw [if_pos h, sure_f _ (by omega)]
    rfl
  · rw [if_neg h]
    exact lasts_l0 l (by omega) l.length 0 2000 (by omega) (by omega)
end Go.Proofs.YtkfgaebakcpkhaaDoor.PA
