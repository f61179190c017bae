/-
  path.parts: the pieces of a path that are not empty, in the print's form; condition: fewer than 2^40 bytes.
-/
import Derived.Test.YtkfgaebakcpkhaaDoorPAx0
import Derived.Test.YtkfgaebakcpkhaaDoorSqSplit
namespace Go.Proofs.YtkfgaebakcpkhaaDoor.PA
open Go.RowKit Go.Shelf Go.Lib Go.Proofs.YtkfgaebakcpkhaaDoorW.PrintWords Go.Proofs.YtkfgaebakcpkhaaDoor.Sq
attribute [local go_sem] Oper.semAt_some

def notNil (x : ByteArray) : Bool := !x.data.toList.isEmpty
def path_parts.f (a0 : ByteArray) : Option (List ByteArray) := if a0.size < 1099511627776 then some ((Sq.pieces 47 a0).filter notNil) else none
theorem pieces_len (c : UInt8) (s : ByteArray) : (Sq.pieces c s).length ≤ s.size + 1 := by
  have h : ∀ l : List UInt8, (cutB c l).length ≤ l.length + 1 := by
    intro l
    induction l with
    | nil => simp [cutB]
    | cons b l ih =>
      unfold cutB
      split
      · simpa using ih
      · split
        · simp
        · rename_i p r he
          rw [he] at ih
          simp at ih ⊢
          omega
  have := h s.data.toList
  unfold Sq.pieces
  rw [List.length_map]
  exact this
theorem filter_hit (pre : List ByteArray) {x : ByteArray} (h : notNil x = true) : (pre ++ [x]).filter notNil = pre.filter notNil ++ [x] := by simp [h]
theorem filter_miss (pre : List ByteArray) {x : ByteArray} (h : notNil x = false) : (pre ++ [x]).filter notNil = pre.filter notNil := by simp [h]
theorem filter_le {pre all : List ByteArray} (h : pre <+: all) : (pre.filter notNil).length ≤ all.length :=
  Nat.le_trans (List.length_filter_le _ _) h.length_le

theorem split_calls (s sep : ByteArray) (w : World) :
    Calls Tryd.prog 27 #[.string s, .string sep] w fun e w' => e = .returned (.func (.func 55) #[] #[.pointer (some ⟨w.heap.size + 1, 0, none⟩), .pointer (some ⟨w.heap.size, 0, none⟩), .pointer (some ⟨w.heap.size + 2, 0, none⟩)]) ∧
      w' = ((w.alloc (.cells #[.string s] 9)).alloc (.cells #[.string sep] 9)).alloc (.cells #[.int .i64 0] 3) := by
  go_enter Tryd.func27, Tryd.ntmps27
  go_wp2
  go_ret
  exact ⟨rfl, rfl⟩

theorem reps_strings (w : World) (b : Nat) (ok : Nat → Prop) : ∀ xs : List ByteArray, Reps (Kd.string.M w b ok) Kd.string.sz xs (xs.map Value.string) := fun xs => by
  refine ⟨by simp [show Kd.string.sz = 1 from rfl], fun j p hj => ?_⟩
  show ((xs.map Value.string).drop (j * 1)).take 1 = [Value.string p]
  have hl : j < (xs.map Value.string).length := by
    rw [List.length_map]
    exact (List.getElem?_eq_some_iff.1 hj).1
  rw [Nat.mul_one, List.drop_eq_getElem_cons hl]
  have : (xs.map Value.string)[j] = Value.string p := by
    rw [List.getElem_map, (List.getElem?_eq_some_iff.1 hj).2]
  simp [this]

set_option maxRecDepth 100000 in
set_option maxHeartbeats 2000000 in
theorem path_parts.calls (a0 : ByteArray) (r : List ByteArray) (w : World) (h : path_parts.f a0 = some r) :
    Calls Tryd.prog 17 #[.string a0] w fun e w' => ∃ v0_ : Value, e = .returned v0_ ∧ Kd.R Kd.string 9 w' w.heap.size (fun _ => True) v0_ r ∧ Below w.heap.size w w' := by
  unfold path_parts.f at h
  split at h
  case isFalse => cases h
  rename_i hs
  obtain rfl := Option.some.inj h
  clear h
  obtain ⟨i0, hi, hz0, hz1, hz2⟩ := info_parts info9
  have hpl := pieces_len 47 a0
  refine (callsIn_wide (n := 6)).1 ?_
  refine callsIn_of_wp_marks Tryd.func17 rfl trivial ?_ rfl
  simp only [Tryd.ntmps17, List.size_toArray, List.length_cons, List.length_nil, Nat.reduceAdd, Nat.reduceSub, Array.replicate_succ, Array.replicate_zero, List.push_toArray, List.append_toArray, List.nil_append, List.cons_append]
  gi_wp2_with (refine ⟨trivial, ?_⟩; gi_at_call 27; refine (callsIn_wide.2 (split_calls a0 ⟨#[47]⟩ _)).mono ?_; rintro e w' ⟨rfl, rfl⟩)
  have bo0 := Boxed.new w 23 (.slice none 0 0)
  have bs0 := Boxed.new (w.alloc (.cells #[.slice none 0 0] 23)) 9 (.string a0)
  have bp0 := Boxed.new ((w.alloc (.cells #[.slice none 0 0] 23)).alloc (.cells #[.string a0] 9)) 9 (.string ⟨#[47]⟩)
  have bv0 := Boxed.new (((w.alloc (.cells #[.slice none 0 0] 23)).alloc (.cells #[.string a0] 9)).alloc (.cells #[.string ⟨#[47]⟩] 9)) 3 (.int .i64 0)
  have hB0 : Below w.heap.size w ((((w.alloc (.cells #[.slice none 0 0] 23)).alloc (.cells #[.string a0] 9)).alloc (.cells #[.string ⟨#[47]⟩] 9)).alloc (.cells #[.int .i64 0] 3)) :=
    ((((Below.refl _ w).alloc (Nat.le_refl _) _).alloc (by simp) _).alloc (by simp; omega) _).alloc (by simp; omega) _
  have bo1 := ((bo0.alloc (.cells #[.string a0] 9)).alloc (.cells #[.string ⟨#[47]⟩] 9)).alloc (.cells #[.int .i64 0] 3)
  have bs1 := (bs0.alloc (.cells #[.string ⟨#[47]⟩] 9)).alloc (.cells #[.int .i64 0] 3)
  have bp1 := bp0.alloc (.cells #[.int .i64 0] 3)
  have hz : ((((w.alloc (.cells #[.slice none 0 0] 23)).alloc (.cells #[.string a0] 9)).alloc (.cells #[.string ⟨#[47]⟩] 9)).alloc (.cells #[.int .i64 0] 3)).heap.size = w.heap.size + 4 := by simp
  clear bo0 bs0 bp0
  simp only [World.size_alloc] at bs1 bp1 bv0
  generalize hW0 : (((w.alloc (.cells #[.slice none 0 0] 23)).alloc (.cells #[.string a0] 9)).alloc (.cells #[.string ⟨#[47]⟩] 9)).alloc (.cells #[.int .i64 0] 3) = W0 at *
  clear hW0
  obtain ⟨N, hN⟩ : ∃ N, w.heap.size = N := ⟨_, rfl⟩
  simp only [hN] at bo1 bs1 bp1 bv0 hz hB0 ⊢
  refine range_own (own := fun r => r = N + 1) (Kp := fun A B => ∀ k, k = N + 1 ∨ k = N + 1 + 1 ∨ k = N + 1 + 2 → B.heap[k]? = A.heap[k]?) (All := fun xs => xs = Sq.pieces 47 a0) (Part := fun pre => pre <+: Sq.pieces 47 a0)
    (enc := fun x : ByteArray => Value.string x)
    rfl (by omega) (gf := 55) (lb := #[.pointer (some ⟨N + 1 + 1, 0, none⟩), .pointer (some ⟨N + 1, 0, none⟩), .pointer (some ⟨N + 1 + 2, 0, none⟩)]) rfl trivial (enters_of Tryd.func55 (by kernel_rfl) rfl)
    (split_seq 47 a0 (by omega) (N + 1) (N + 1 + 1) (N + 1 + 2) ⟨by omega, by omega⟩ W0 _ (by omega) bs1 bp1 bv0) (fun r hr => by omega)
    (fun h1 h2 k hk => (h2 k hk).trans (h1 k hk)) (fun W l o o' hl hw _ _ k hk => World.putObj_heap_other (by omega)) rfl
    (fun pre W => (∃ v, Boxed W N 23 v ∧ W.ownsRow (N + 4) 9 1 v (pre.filter notNil).length ((pre.filter notNil).map Value.string) ∧ True) ∧ Below N w W ∧ N + 4 ≤ W.heap.size)
    (fun _ _ _ => False) ?hI (fun _ _ _ _ _ hs _ _ => hs) ?hS (fun _ _ _ _ _ hs _ _ => hs) ⟨⟨_, bo1, World.ownsRow_nil _ _ _ _, trivial⟩, hB0, by omega⟩
    (fun x => { tmps := #[.string a0, undef, .slice none 0 0, .pointer (some ⟨N, 0, none⟩), .string x, .string a0, .func (.func 55) #[] #[.pointer (some ⟨N + 1 + 1, 0, none⟩), .pointer (some ⟨N + 1, 0, none⟩), .pointer (some ⟨N + 1 + 2, 0, none⟩)], .string x, undef, undef, undef, undef, undef, undef, undef], defers := [] })
    ?assign ?body ?done ?stop
  case hI =>
    refine OwnFrom.and (Own.from (holdsRow_own (N + 4) N 23 9 1 (fun pre : List ByteArray => (pre.filter notNil).length) (fun pre => (pre.filter notNil).map Value.string) (fun _ _ => True)) _) (OwnFrom.and (ownFrom_below (by omega) (by omega)) ?_)
    intro s A B row hs hg _
    exact Nat.le_trans hs hg.size
  case hS =>
    rintro pre A B row ⟨⟨v, hv, hrow, _⟩, hb, hsz⟩ hg hr
    refine ⟨⟨v, hv.kept hg (fun e => by have := hr N e.symm; omega), hrow.kept hg ?_, trivial⟩, hb.grown hg (by omega) (fun k e => by have := hr k e; omega), Nat.le_trans hsz hg.size⟩
    rcases hrow.2 with ⟨rfl, _⟩ | ⟨g, cap, cur, rfl, hgb, _⟩
    · exact .inl rfl
    · refine .inr fun e => ?_
      have := hr g (by simpa [Value.ownBlock] using e.symm)
      omega
  case assign =>
    intro l x W K hK
    gi_wp2
    exact hK
  case body =>
    rintro l pre x W ⟨⟨v, hv, hrow, _⟩, hB, hsz⟩ hpart
    have hc := hv.cell
    have hpl2 : (pre.filter notNil).length ≤ a0.size + 1 := Nat.le_trans (filter_le ((List.prefix_append pre [x]).trans hpart)) hpl
    cases hx : notNil x with
    | true =>
      have hx1 : (!x.toList.isEmpty) = true := by
        rw [Lib.toList_data]; exact hx
      have hx2 : (x.toList == []) = false := by
        cases hl : x.toList with
        | nil => rw [hl] at hx1; cases hx1
        | cons _ _ => rfl
      have hx3 := filter_hit pre hx
      gi_wp2_with (gi_at_builtin; refine wpListIn_append_own _ rfl _ _ 23 rfl (N + 4) 9 i0 (.string ⟨#[]⟩) 1 16 Tryd.underlying23 hi hz0 hz1 hz2 rfl (by decide) _ _ _ rfl (hrow.alloc _) ⟨W.heap.size, 0, none⟩ 1 1 [.string x] rfl rfl (cell_one_new _ _ _) (by simp [Value.oneCell']) (by simp only [maxLen]; omega) (by omega) (by simp; omega) ?_; intro v' w1 hown' hgrow _; obtain ⟨g', cap', rfl⟩ := ownsRow_succ hown'; have hv1 : Boxed w1 N 23 v := (hv.alloc _).kept hgrow (hv.not_row (by decide) hrow); have hc1 := hv1.cell; have hf1 := hv1.frozen)
      have hg2 : (W.alloc (.cells #[.string x] 9)).grownBy w1 v.ownBlock := hgrow
      have hvb : ∀ k, v.ownBlock = some k → N + 4 ≤ k := fun k e => own_base hrow k e
      refine ⟨(((KeepsOthers.alloc W _).trans (KeepsOthers.of_grownBy hg2 (fun k o e ho => ?_))).trans (KeepsOthers.setCell _ _ _)).from _, fun k hk => ?_, ⟨_, hv1.set _, ?_, trivial⟩, ?_, ?_⟩
      · obtain ⟨cells, hcl⟩ := own_typed (hrow.alloc _) k e
        rw [hcl] at ho
        cases ho
        rfl
      · refine (Below.heap_setCell w1 ⟨N, 0, none⟩ _ k (show k ≠ N by omega)).trans ((hg2.block k (by simp; omega) (fun e => by have := hvb k e.symm; omega)).trans (Below.heap_alloc W _ k (by omega)))
      · rw [hx3]
        refine (show w1.ownsRow _ _ _ _ _ _ from ?_ : _).kept (grownBy_setCell' w1 N _) (.inr fun e => ?_)
        · simpa using hown'
        · have := own_base hown' N (by simpa using e)
          omega
      · exact ((hB.alloc (by omega) _).grown hg2 (by simp; omega) (fun k e => by have := hvb k e; omega)).setCell (p := ⟨N, 0, none⟩) (Nat.le_refl _) _
      · have := hg2.size
        simp [World.setCell] at this ⊢
        omega
    | false =>
      have hx1 : x.toList.isEmpty = true := by
        rw [Lib.toList_data]
        simpa [notNil] using hx
      have hx2 : x.toList = [] := by simpa using hx1
      have hx3 := filter_miss pre hx
      gi_wp2
      exact ⟨KeepsFrom.refl _ _, fun _ _ => rfl, ⟨v, hv, by rw [hx3]; exact hrow, trivial⟩, hB, hsz⟩
  case done =>
    rintro D xs W hD rfl ⟨⟨v, hv, hrow, _⟩, hB, hsz⟩ hK
    have hc := hv.cell
    gi_wp2
    refine ⟨by simp, .inl ⟨_, _, rfl, run_takeDeferred hK, ?_⟩⟩
    rw [hN]
    exact ⟨_, results_tmp rfl _ _ _, v, rfl, ⟨fun _ _ => trivial, _, own_weaken (ownsRow_putObj hrow _ hK rfl) (by omega), reps_strings _ _ _ _⟩, hB.trans (belowK_b (w := w) (by omega) W D _ _ (by omega) hK rfl rfl)⟩
  case stop =>
    rintro D c pre W _ _ h _
    exact h.elim
end Go.Proofs.YtkfgaebakcpkhaaDoor.PA
