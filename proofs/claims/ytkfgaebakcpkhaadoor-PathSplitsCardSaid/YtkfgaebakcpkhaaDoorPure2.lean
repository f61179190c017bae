/-
  The plain law of paths, part 2: the tokens of a text between slashes, with their places.
-/
import Derived.Test.YtkfgaebakcpkhaaDoorPure1
namespace Go.Proofs.YtkfgaebakcpkhaaDoor.PA
open Go.RowKit Go.Proofs.YtkfgaebakcpkhaaDoorW.PrintWords Go.Proofs.YtkfgaebakcpkhaaDoor.Sq

/-- The tokens of pieces, with their places; the first piece begins at i. -/
def toks : Nat → List (List UInt8) → List (Nat × List UInt8)
  | _, [] => []
  | i, p :: r => if p = [] then toks (i + 1) r else (i, p) :: toks (i + p.length + 1) r
def mk (l : List UInt8) : ByteArray := ⟨l.toArray⟩
theorem mk_list (l : List UInt8) : (mk l).data.toList = l := rfl
def tk (i : Nat) (l : List UInt8) : List (Nat × List UInt8) := toks i (cutB 47 l)
theorem tk_nil (i : Nat) : tk i [] = [] := rfl
theorem tk_slash (i : Nat) (l : List UInt8) : tk i (47 :: l) = tk (i + 1) l := by
  unfold tk
  rw [show cutB 47 (47 :: l) = [] :: cutB 47 l by simp [cutB]]
  rfl
/-- A token with what stands behind it: at the end, or at a slash. -/
theorem cut_word (w l : List UInt8) (hw : ∀ b ∈ w, b ≠ 47) : cutB 47 (w ++ l) = match cutB 47 l with | [] => [w] | p :: r => (w ++ p) :: r := by
  induction w with
  | nil =>
    cases h : cutB 47 l with
    | nil => exact absurd h (cutB_ne _ _)
    | cons p r => simp [h]
  | cons b w ih =>
    have hb : b ≠ 47 := hw b List.mem_cons_self
    have ih := ih (fun c hc => hw c (List.mem_cons_of_mem _ hc))
    rw [List.cons_append]
    conv => lhs; unfold cutB
    rw [if_neg hb, ih]
    cases h : cutB 47 l with
    | nil => exact absurd h (cutB_ne _ _)
    | cons p r => rfl
theorem tk_end (i : Nat) (w : List UInt8) (hw : ∀ b ∈ w, b ≠ 47) (h0 : w ≠ []) : tk i w = [(i, w)] := by
  unfold tk
  have := cut_word w [] hw
  rw [List.append_nil] at this
  rw [this]
  simp [cutB, toks, h0]
theorem tk_word (i : Nat) (w l : List UInt8) (hw : ∀ b ∈ w, b ≠ 47) (h0 : w ≠ []) : tk i (w ++ 47 :: l) = (i, w) :: tk (i + w.length + 1) l := by
  unfold tk
  rw [cut_word w _ hw, show cutB 47 (47 :: l) = [] :: cutB 47 l by simp [cutB]]
  simp [toks, h0]
theorem toks_names (i : Nat) (ps : List (List UInt8)) : (toks i ps).map (·.2) = ps.filter (fun p => !p.isEmpty) := by
  induction ps generalizing i with
  | nil => rfl
  | cons p r ih =>
    unfold toks
    cases p with
    | nil => simp [ih]
    | cons a p => simp [ih]
/-- The program's tokens. -/
def names (p : ByteArray) : List ByteArray := (tk 0 p.data.toList).map fun t => mk t.2
theorem parts_f (p : ByteArray) (hp : p.size < 1099511627776) : path_parts.f p = some (names p) := by
  unfold path_parts.f names tk
  rw [if_pos hp]
  congr 1
  rw [show (toks 0 (cutB 47 p.data.toList)).map (fun t => mk t.2) = ((toks 0 (cutB 47 p.data.toList)).map (·.2)).map mk by rw [List.map_map]; rfl, toks_names]
  unfold Sq.pieces
  rw [List.filter_map]
  rfl

theorem b47 (x : UInt8) : (x.toNat : Int) = 47 ↔ x = 47 := by
  constructor
  · intro h
    apply UInt8.toNat_inj.1
    show x.toNat = 47
    omega
  · rintro rfl
    rfl
/-! ### the document's -/
theorem extract_mk (s : ByteArray) (a b : Nat) : s.extract a b = mk ((s.data.toList.take b).drop a) := by
  apply ext_list
  rw [toList_extract, mk_list]
theorem ref_parts_l (s : ByteArray) (hs : s.size < 8000000000000) (d : Nat) :
    (∀ (i k : Nat) (x4 : List ByteArray) (x5 : List Int), i + d = s.size → 2 * d + 4 < k → x4.length + d < 8000000000000 → x5.length + d < 8000000000000 →
      halterref16_parts.l0 k s x4 x5 (i : Int) = some (x4 ++ (tk i (s.data.toList.drop i)).map (fun t => mk t.2), x5 ++ (tk i (s.data.toList.drop i)).map (fun t => (t.1 : Int)))) ∧
    (∀ (i j k : Nat) (x4 : List ByteArray) (x5 : List Int), i + d = s.size → j < i → (∀ b ∈ (s.data.toList.take i).drop j, b ≠ 47) → 2 * d + 3 < k → x4.length + d < 8000000000000 → x5.length + d < 8000000000000 →
      halterref16_parts.l1 k s x4 x5 (i : Int) (j : Int) = some (x4 ++ (tk j (s.data.toList.drop j)).map (fun t => mk t.2), x5 ++ (tk j (s.data.toList.drop j)).map (fun t => (t.1 : Int)))) := by
  have hsz := lenS s
  have done : ∀ (k : Nat) (x4 : List ByteArray) (x5 : List Int), 0 < k → halterref16_parts.l0 k s x4 x5 ((s.size + 1 : Nat) : Int) = some (x4, x5) := fun k x4 x5 hk => by
    obtain ⟨k, rfl, _⟩ := fuel hk
    simp only [halterref16_parts.l0]
    rw [if_neg (by omega)]
  have word_ne : ∀ i j : Nat, j < i → i ≤ s.size → (s.data.toList.take i).drop j ≠ [] := fun i j h1 h2 e => by
    have := congrArg List.length e
    rw [List.length_drop, List.length_take, hsz, List.length_nil] at this
    omega
  have split_at : ∀ i j : Nat, j ≤ i → s.data.toList.drop j = (s.data.toList.take i).drop j ++ s.data.toList.drop i := fun i j h => by
    conv => lhs; rw [← List.take_append_drop i s.data.toList]
    rw [List.drop_append]
    rcases Nat.lt_or_ge s.size i with h1 | h1
    · rw [@List.drop_eq_nil_of_le _ s.data.toList i (by omega)]
      simp
    · rw [List.length_take, hsz, Nat.min_eq_left h1, show j - i = 0 by omega, List.drop_zero]
  induction d with
  | zero =>
    constructor
    · intro i k x4 x5 hi hk _ _
      obtain ⟨k, rfl, _⟩ := fuel hk
      simp only [halterref16_parts.l0]
      rw [if_neg (by omega), List.drop_eq_nil_of_le (by omega), tk_nil]
      simp
    · intro i j k x4 x5 hi hj hw hk h4 h5
      obtain ⟨k, rfl, _⟩ := fuel hk
      obtain rfl : i = s.size := by omega
      have hwr : wrap64 ((s.size : Int) + 1) = ((s.size + 1 : Nat) : Int) := by rw [w64 (by omega) (by omega)]; omega
      simp only [halterref16_parts.l1]
      rw [if_neg (by omega), if_pos (by omega), if_pos (by omega), if_pos (by omega), if_pos (by omega), if_pos (by omega), hwr, done k _ _ (by omega)]
      rw [split_at s.size j (by omega), @List.drop_eq_nil_of_le _ s.data.toList s.size (by omega), List.append_nil, tk_end j _ hw (word_ne _ _ hj (Nat.le_refl _)), Int.toNat_natCast, Int.toNat_natCast, extract_mk]
      rfl
  | succ d ih =>
    constructor
    · intro i k x4 x5 hi hk h4 h5
      obtain ⟨k, rfl, hk'⟩ := fuel hk
      have hil : i < s.size := by omega
      have hwr : wrap64 ((i : Int) + 1) = ((i + 1 : Nat) : Int) := by rw [w64 (by omega) (by omega)]; omega
      have hd : s.data.toList.drop i = s.data.toList[i]'(by omega) :: s.data.toList.drop (i + 1) := List.drop_eq_getElem_cons _
      simp only [halterref16_parts.l0]
      rw [if_pos (by omega), if_pos (by omega), bt_list s i hil, hwr]
      by_cases hb : s.data.toList[i]'(by omega) = 47
      · rw [if_pos (by rw [hb]; rfl), ih.1 (i + 1) k x4 x5 (by omega) (by omega) (by omega) (by omega), hd, hb, tk_slash]
      · rw [if_neg (fun e => hb ((b47 _).1 e))]
        -- the first byte of a token: one round more
        obtain ⟨k, rfl, hk''⟩ := fuel (show 2 * d + 4 < k by omega)
        simp only [halterref16_parts.l1]
        rw [if_pos (by omega), if_pos (by omega), bt_list s i hil, if_neg (fun e => hb ((b47 _).1 e)), hwr]
        refine ih.2 (i + 1) i k x4 x5 (by omega) (by omega) ?_ (by omega) (by omega) (by omega)
        intro b hmem
        rw [List.take_add_one, List.drop_append] at hmem
        rw [List.drop_eq_nil_of_le (by rw [List.length_take]; omega), List.nil_append, List.length_take, hsz, Nat.min_eq_left (by omega), Nat.sub_self, List.drop_zero, List.getElem?_eq_getElem (by omega)] at hmem
        simp at hmem
        rw [hmem]
        exact hb
    · intro i j k x4 x5 hi hj hw hk h4 h5
      obtain ⟨k, rfl, hk'⟩ := fuel hk
      have hil : i < s.size := by omega
      have hwr : wrap64 ((i : Int) + 1) = ((i + 1 : Nat) : Int) := by rw [w64 (by omega) (by omega)]; omega
      have hd : s.data.toList.drop i = s.data.toList[i]'(by omega) :: s.data.toList.drop (i + 1) := List.drop_eq_getElem_cons _
      simp only [halterref16_parts.l1]
      rw [if_pos (by omega), if_pos (by omega), bt_list s i hil, hwr]
      by_cases hb : s.data.toList[i]'(by omega) = 47
      · rw [if_pos (by rw [hb]; rfl), if_pos (by omega), if_pos (by omega), if_pos (by omega), if_pos (by omega), if_pos (by omega),
          ih.1 (i + 1) k _ _ (by omega) (by omega) (by simp; omega) (by simp; omega)]
        have hl : ((s.data.toList.take i).drop j).length = i - j := by rw [List.length_drop, List.length_take, hsz]; omega
        rw [split_at i j (by omega), hd, hb, tk_word j _ _ hw (word_ne _ _ hj (by omega)), hl, show j + (i - j) + 1 = i + 1 by omega, Int.toNat_natCast, Int.toNat_natCast, extract_mk]
        simp
      · rw [if_neg (fun e => hb ((b47 _).1 e))]
        refine ih.2 (i + 1) j k x4 x5 (by omega) (by omega) ?_ (by omega) (by omega) (by omega)
        intro b hmem
        rw [List.take_add_one, List.drop_append] at hmem
        rcases List.mem_append.1 hmem with h | h
        · exact hw b h
        · rw [List.getElem?_eq_getElem (by omega)] at h
          have := List.mem_of_mem_drop h
          simp at this
          rw [this]
          exact hb
def places (p : ByteArray) : List Int := (tk 0 p.data.toList).map fun t => (t.1 : Int)
theorem ref_parts_f (s : ByteArray) (hs : s.size < 1000000) (k : Nat) (hk : 2 * s.size + 4 < k) : halterref16_parts.f k s = some (names s, places s) := by
  unfold halterref16_parts.f
  have := (ref_parts_l s (by omega) s.size).1 0 k [] [] (by omega) hk (by simp; omega) (by simp; omega)
  rw [List.drop_zero] at this
  exact this.trans (by simp [names, places])
end Go.Proofs.YtkfgaebakcpkhaaDoor.PA
