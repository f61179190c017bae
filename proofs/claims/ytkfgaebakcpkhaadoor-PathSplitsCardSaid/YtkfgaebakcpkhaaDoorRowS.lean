/-
  PathSplits: for every input that can be read the call returns true, and the arguments read as before: the row, and its tied card.
-/
import Derived.Test.YtkfgaebakcpkhaaDoorRow0
import Derived.Test.YtkfgaebakcpkhaaDoorPure4
namespace Go.Proofs.YtkfgaebakcpkhaaDoor.PA
open Go.ChangeShapes Go.WideShapes Go.RowKit Go.Deep Go.Joins Go.Proofs.YtkfgaebakcpkhaaDoorW.PrintWords
set_option linter.unusedVariables false
noncomputable def laidWorld_pathSplits (os : Os) : World := laidWorld os [(2, (((partsOf (Rows.laid_unicode_utf8_acceptRanges : DataW Unit)).flatMap partsOf).map cellOf).toArray), (0, #[.iface 91 (.agg #[.pointer (some ⟨4, 25, none⟩)])]), (1, (((partsOf (Rows.laid_unicode_utf8_first : DataW Unit)).flatMap partsOf).map cellOf).toArray)]
set_option maxRecDepth 100000 in
theorem laidWorld_pathSplits_met (os : Os) (args : Array Value) : laidMetH Tryd.prog Rows.pathSplitsRow.laid ((laidWorld_pathSplits os).forCall (fun _ _ => 0) ⟨#[], args, []⟩).memory :=
  laidMetH_of_parts (laidMet_of_run' 20 (by kernel_rfl) (by kernel_rfl)) (by kernel_rfl)
set_option maxRecDepth 100000 in
set_option maxHeartbeats 1000000 in
theorem lifted_pathSplits (os : Os) (started : os.Started) (H : Type) (enc : TypeId × Value → H) :
    ReturnsInHanded {} Tryd.checked os 3 .any (fun w args => (Rows.pathSplitsSpec.pre enc Tryd.prog Tryd.f3 [] false w args ∧ laidMetH Tryd.prog Rows.pathSplitsRow.laid w) ∧ sizedMet enc Tryd.prog Tryd.f3 (OpenSpec.ofChange Rows.pathSplitsSpec) false w args)
      (Rows.pathSplitsSpec.post enc Tryd.prog Tryd.f3 false true false false) := by
  refine returnsInHanded_of_change_and (C := Tryd.checked) (X := fun w _ => laidMetH Tryd.prog Rows.pathSplitsRow.laid w) (fun _ _ _ hh h => h.of_heap hh) own started (by kernel_rfl) Tryd.func3
    (ChangeSpec.witness_at (enc := enc) (C := Tryd.checked) (os := os) (X := fun w _ => laidMetH Tryd.prog Rows.pathSplitsRow.laid w) false (laidWorld_pathSplits os) #[.string ByteArray.empty, .string ByteArray.empty] 8 rfl (by kernel_rfl) (by kernel_rfl) (by kernel_rfl) (by kernel_rfl) (by kernel_rfl) (laidWorld_pathSplits_met os _)) ?_
  intro W base args ds gs before hval0 hW _ hwt hL _
  have hval : ∀ (j : Nat) t v, Tryd.f3.params[j]? = some t → args[j]? = some v → Value.okWide Tryd.prog W .any base t v := hval0
  have hW' := hW
  obtain ⟨p, q, hA0, hV0, rfl, hfz, hnd⟩ := hW
  have hA : DataW.TrodAll enc Tryd.prog W 0 (fun _ => true) true Tryd.f3.params.toList args.toList ds p := hA0
  have hV : DataW.TrodVars enc Tryd.prog W (fun _ => true) [] gs q := hV0
  rw [Tryd.params3] at hA hval
  obtain ⟨v0, vs0, d0, ds0, p0, q0, hargs, rfl, rfl, h0, r0⟩ := trodAll_cons hA
  obtain ⟨v1, vs1, d1, ds1, p1, q1, rfl, rfl, rfl, h1, r1⟩ := trodAll_cons r0
  obtain ⟨rfl, rfl, rfl⟩ := trodAll_nil r1
  obtain rfl : args = #[v0, v1] := by cases args; simp_all
  have hg := gok_of_laid (l := Rows.pathSplitsRow.laid) (by simp [Rows.pathSplitsRow]) hL
  obtain ⟨rfl, rfl⟩ : gs = [] ∧ q = [] := by
    cases gs with
    | nil => exact ⟨rfl, hV⟩
    | cons g r => exact absurd hV (by intro h; cases h)
  have lt0 : ∀ x ∈ p0, x.block < W.heap.size := by obtain ⟨m, hm⟩ := h0; exact DataW.trod_lt m _ _ _ hm
  have b0 := h0
  have lt1 : ∀ x ∈ p1, x.block < W.heap.size := by obtain ⟨m, hm⟩ := h1; exact DataW.trod_lt m _ _ _ hm
  have b1 := h1
  obtain ⟨a0, rfl, rfl, rfl, y0⟩ := Go.ChangeMaps.open_string Tryd.underlying9 (hval 0 9 v0 rfl rfl) h0
  obtain ⟨a1, rfl, rfl, rfl, y1⟩ := Go.ChangeMaps.open_string Tryd.underlying9 (hval 1 9 v1 rfl rfl) h1
  obtain ⟨k, hk⟩ := law_splits a0 a1
  have hcall := halterlaw16_PathSplits.calls k a0 a1 true W hk ⟨rfl⟩ hg
  refine hcall.mono fun e W' ⟨he, bel⟩ => ?_
  subst he
  have s0 := Below.trod laidOut (by kernel_rfl) (of_decide_eq_true (by kernel_rfl)) b0 bel lt0
  have s1 := Below.trod laidOut (by kernel_rfl) (of_decide_eq_true (by kernel_rfl)) b1 bel lt1
  exact ⟨_, rfl, _, _, _, [], _, [], hW', trodAll_mk1 (shut_bool Tryd.underlying4 _), (trodAll_cons_mk s0 (trodAll_cons_mk s1 trodAll_mk0)), rfl, bel.frame _, fun h => by cases h⟩
theorem said_pathSplits : Rows.PathSplitsSaid :=
  OpenClaim.holds_of_wide 3 Tryd.f3 rfl rfl rfl rfl rfl rfl rfl ⟨rfl, rfl, rfl, rfl, rfl⟩ rfl rfl rfl rfl rfl (by kernel_rfl) Tryd.func3 (by kernel_rfl)
    (of_decide_eq_true (by kernel_rfl)) (by unfold Func.isWrapper; rw [if_neg (of_decide_eq_false (by kernel_rfl))]; exact ⟨rfl, rfl⟩)
    (fun os started H enc _ => lifted_pathSplits os started H enc)
end Go.Proofs.YtkfgaebakcpkhaaDoor.PA

namespace Go.Proofs.YtkfgaebakcpkhaaDoor
open Go
/-- The tied card. -/
theorem pathSplits_card_holds : Rows.PathSplitsCardSaid :=
  Claim7.holds_tied_plain_at .later [] [.data, .handle, .pinned] true (true, "c3b5d924254ec8fb1b88ac88a1f46e281da0fec48156f710e7dcf72e5cd9c417") true
    PA.said_pathSplits (fun _ h => by cases h) (by kernel_rfl) (fun _ h => by cases h) pathSplits_row_tie rfl ⟨rfl, rfl⟩ (by kernel_rfl) rfl
    (fun f fn hf hfn => by
      obtain rfl : f = 3 := Option.some.inj ((show Tryd.prog.funcNamed "halter/halterlaw16.PathSplits" = some 3 by kernel_rfl).symm.trans hf) |>.symm
      obtain rfl : fn = Tryd.f3 := (Option.some.inj (Tryd.func3.symm.trans hfn)).symm
      refine ⟨by kernel_rfl, fun j t ht => ?_⟩
      rw [Tryd.params3] at ht
      rcases j with _ | _ | j
      · obtain rfl : t = 9 := by simpa using ht.symm
        kernel_rfl
      · obtain rfl : t = 9 := by simpa using ht.symm
        kernel_rfl
      · simp at ht)
    (by kernel_rfl)
#print axioms pathSplits_card_holds
end Go.Proofs.YtkfgaebakcpkhaaDoor
