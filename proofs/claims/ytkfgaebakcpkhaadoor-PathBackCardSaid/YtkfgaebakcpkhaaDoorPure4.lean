/-
  The plain law of paths, part 4: what must come whatever the input is (sure); PathSplits.
-/
import Derived.Test.YtkfgaebakcpkhaaDoorPure3
import Derived.Test.YtkfgaebakcpkhaaDoorPAx4
namespace Go.Proofs.YtkfgaebakcpkhaaDoor.PA
open Go.RowKit Go.Proofs.YtkfgaebakcpkhaaDoorW.PrintWords Go.Proofs.YtkfgaebakcpkhaaDoor.Sq

theorem texts_l0 (l : List ByteArray) (hl : l.length < 1000000) (d : Nat) : ∀ (i k : Nat), i + d = l.length → d < k → halterlaw16_texts.l0 k l l (i : Int) = some true := by
  induction d with
  | zero =>
    intro i k hi hk
    obtain ⟨k, rfl, _⟩ := fuel hk
    simp only [halterlaw16_texts.l0]
    rw [if_neg (by omega)]
  | succ d ih =>
    intro i k hi hk
    obtain ⟨k, rfl, hk'⟩ := fuel hk
    have hw : wrap64 ((i : Int) + 1) = ((i + 1 : Nat) : Int) := by rw [w64 (by omega) (by omega)]; omega
    simp only [halterlaw16_texts.l0]
    rw [if_pos (by omega), if_pos (by omega), if_pos (by omega), if_pos trivial, hw]
    exact ih (i + 1) k (by omega) (by omega)
theorem texts_f (l : List ByteArray) (hl : l.length < 1000000) (k : Nat) (hk : l.length < k) : halterlaw16_texts.f k l l = some true := by
  unfold halterlaw16_texts.f
  rw [if_pos rfl]
  exact texts_l0 l hl l.length 0 k (by omega) hk

/-! ### Join -/
def joinL : List (List UInt8) → List UInt8
  | [] => []
  | w :: r => w ++ (r.map (47 :: ·)).flatten
theorem joinL_two (w v : List UInt8) (r : List (List UInt8)) : joinL (w :: v :: r) = w ++ 47 :: joinL (v :: r) := by simp [joinL]
theorem join_eq : ∀ ls : List (List UInt8), Lib.join ls [47] = joinL ls
  | [] => rfl
  | [w] => by simp [Lib.join, joinL, List.intercalate]
  | w :: v :: r => by
    rw [joinL_two, ← join_eq (v :: r)]
    simp [Lib.join, List.intercalate]
theorem joinL_len {ls : List (List UInt8)} (h : ∀ w ∈ ls, w.length ≤ 16) : (joinL ls).length ≤ 17 * ls.length := by
  cases ls with
  | nil => simp [joinL]
  | cons w r =>
    have h1 : ∀ r : List (List UInt8), (∀ w ∈ r, w.length ≤ 16) → ((r.map (47 :: ·)).flatten).length ≤ 17 * r.length := by
      intro r
      induction r with
      | nil => simp
      | cons v r ih =>
        intro hr
        have := ih (fun x hx => hr x (List.mem_cons_of_mem _ hx))
        have hv := hr v List.mem_cons_self
        simp only [List.map_cons, List.flatten_cons, List.length_append, List.length_cons]
        omega
    have := h1 r (fun x hx => h x (List.mem_cons_of_mem _ hx))
    have hw := h w List.mem_cons_self
    simp only [joinL, List.length_append, List.length_cons]
    omega
def bytes (l : List ByteArray) : List (List UInt8) := l.map (·.data.toList)
def joined (l : List ByteArray) : ByteArray := mk (47 :: joinL (bytes l))
theorem mk_append (a b : List UInt8) : mk a ++ mk b = mk (a ++ b) := by
  apply ext_list
  rw [mk_list]
  show (mk a ++ mk b).data.toList = a ++ b
  rw [ByteArray.data_append, Array.toList_append]
  rfl
theorem len_ok {l : List ByteArray} (h : chkAll l = none) : l.length ≤ 8 ∧ (joinL (bytes l)).length ≤ 17 * 8 := by
  obtain ⟨h1, h2⟩ := chkAll_none h
  refine ⟨h1, ?_⟩
  have := joinL_len (ls := bytes l) (fun w hw => by
    obtain ⟨s, hs, rfl⟩ := List.mem_map.1 hw
    have := (chk_none (h2 s hs)).2.1
    rw [lenS]
    exact this)
  unfold bytes at this ⊢
  rw [List.length_map] at this
  omega
theorem join_f (l : List ByteArray) (k : Nat) (hk : 10 < k) : path_Join.f k l = some (match chkAll l with | none => (joined l, none) | some e => (⟨#[]⟩, some e)) := by
  unfold path_Join.f
  rw [path_check_f l k hk, Option.bind_some]
  cases h : chkAll l with
  | some e => rfl
  | none =>
    obtain ⟨h1, h2⟩ := len_ok h
    rw [if_pos (by rfl)]
    unfold strings_Join.f
    change (if l.length ≤ 140737488355328 ∧ (Lib.join (bytes l) [47]).length ≤ 140737488355328 then some (mk (Lib.join (bytes l) [47])) else none).bind _ = _
    rw [join_eq, if_pos ⟨by omega, by omega⟩, Option.bind_some]
    have hs : (mk (joinL (bytes l))).size = (joinL (bytes l)).length := by rw [← lenS, mk_list]
    rw [if_pos (by omega)]
    change some (mk [47] ++ mk (joinL (bytes l)), none) = _
    rw [mk_append]
    rfl

theorem sure_f (k : Nat) (hk : 100 < k) : halterlaw16_sure.f k = some true := by
  have hs : splitP ⟨#[47, 97, 47, 47, 98, 47]⟩ = ([⟨#[97]⟩, ⟨#[98]⟩], true, none) := by rfl
  have hl : lastP ⟨#[47, 97, 47, 47, 98, 47]⟩ = (⟨#[98]⟩, ⟨#[47, 97, 47, 47]⟩, none) := by rfl
  unfold halterlaw16_sure.f
  rw [split_f _ (by decide) k (by omega), Option.bind_some, last_f _ (by decide) k (by omega), Option.bind_some, hs, hl, join_f _ k (by omega), Option.bind_some]
  rw [show (match chkAll [(⟨#[97]⟩ : ByteArray), ⟨#[98]⟩] with | none => (joined [(⟨#[97]⟩ : ByteArray), ⟨#[98]⟩], (none : Option Int)) | some e => (⟨#[]⟩, some e)) = (⟨#[47, 97, 47, 98]⟩, none) from rfl]
  rw [if_pos (by rfl), if_pos (by rfl), if_pos (by rfl), texts_f _ (by decide) k (by simp; omega), Option.bind_some, if_pos (by rfl), if_pos (by rfl), if_pos (by rw [toList_eq]), if_pos (by rw [toList_eq]), if_pos (by rw [toList_eq]), check_f, Option.bind_some]
  rfl

theorem law_splits (p name : ByteArray) : ∃ k, halterlaw16_PathSplits.f k p name = some true := by
  refine ⟨3000, ?_⟩
  have big : halterlaw16_PathSplits.j0 3000 p name true = some true := by
    simp only [halterlaw16_PathSplits.j0]
    rw [if_pos trivial, sure_f _ (by omega)]
    rfl
  unfold halterlaw16_PathSplits.f
  by_cases h1 : (p.size : Int) > 500
  · rw [if_pos h1]
    exact big
  · rw [if_neg h1]
    by_cases h2 : (name.size : Int) > 500
    · rw [decide_eq_true h2]
      exact big
    · rw [decide_eq_false h2]
      simp only [halterlaw16_PathSplits.j0]
      rw [if_neg (by decide), split_f p (by omega) _ (by omega), Option.bind_some, ref_split_f p (by omega) _ (by omega), Option.bind_some, last_f p (by omega) _ (by omega), Option.bind_some, ref_last_f p (by omega) _ (by omega), Option.bind_some]
      have hn : (splitP p).1.length ≤ 8 := by
        unfold splitP
        split
        · simp
        · split
          · rename_i hc
            exact (chkAll_none hc).1
          · simp
      rw [texts_f _ (by omega) _ (by omega), Option.bind_some, if_pos rfl, if_pos (by simp)]
      have hnum : ∀ e : Option Int, halterlaw16_num.f e = some (errI e) := fun _ => rfl
      rw [hnum, Option.bind_some]
      dsimp only
      rw [if_pos rfl, if_pos rfl, if_pos rfl, hnum, Option.bind_some, if_pos rfl, check_f, Option.bind_some, hnum, Option.bind_some, ref_check_f _ _ (by omega), Option.bind_some, if_pos rfl, sure_f _ (by omega)]
      rfl
end Go.Proofs.YtkfgaebakcpkhaaDoor.PA
