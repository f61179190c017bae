/-
  PathLasts: for every input that can be read the call returns true, and the arguments read as before: the row, and its tied card.
-/
import Derived.Test.YtkfgaebakcpkhaaDoorRow0
import Derived.Test.YtkfgaebakcpkhaaDoorPure5
namespace Go.Proofs.YtkfgaebakcpkhaaDoor.PA
open Go.ChangeShapes Go.WideShapes Go.RowKit Go.Deep Go.Joins Go.Proofs.YtkfgaebakcpkhaaDoorW.PrintWords
set_option linter.unusedVariables false
noncomputable def laidWorld_pathLasts (os : Os) : World := laidWorld os [(2, (((partsOf (Rows.laid_unicode_utf8_acceptRanges : DataW Unit)).flatMap partsOf).map cellOf).toArray), (0, #[.iface 91 (.agg #[.pointer (some ⟨4, 25, none⟩)])]), (1, (((partsOf (Rows.laid_unicode_utf8_first : DataW Unit)).flatMap partsOf).map cellOf).toArray)]
set_option maxRecDepth 100000 in
theorem laidWorld_pathLasts_met (os : Os) (args : Array Value) : laidMetH Tryd.prog Rows.pathLastsRow.laid ((laidWorld_pathLasts os).forCall (fun _ _ => 0) ⟨#[], args, []⟩).memory :=
  laidMetH_of_parts (laidMet_of_run' 20 (by kernel_rfl) (by kernel_rfl)) (by kernel_rfl)
set_option maxRecDepth 100000 in
set_option maxHeartbeats 1000000 in
theorem lifted_pathLasts (os : Os) (started : os.Started) (H : Type) (enc : TypeId × Value → H) :
    ReturnsInHanded {} Tryd.checked os 5 .any (fun w args => (Rows.pathLastsSpec.pre enc Tryd.prog Tryd.f5 [] false w args ∧ laidMetH Tryd.prog Rows.pathLastsRow.laid w) ∧ sizedMet enc Tryd.prog Tryd.f5 (OpenSpec.ofChange Rows.pathLastsSpec) false w args)
      (Rows.pathLastsSpec.post enc Tryd.prog Tryd.f5 false true false false) := by
  refine returnsInHanded_of_change_and (C := Tryd.checked) (X := fun w _ => laidMetH Tryd.prog Rows.pathLastsRow.laid w) (fun _ _ _ hh h => h.of_heap hh) own started (by kernel_rfl) Tryd.func5
    (ChangeSpec.witness_at (enc := enc) (C := Tryd.checked) (os := os) (X := fun w _ => laidMetH Tryd.prog Rows.pathLastsRow.laid w) false (laidWorld_pathLasts os) #[.slice none 0 0] 8 rfl (by kernel_rfl) (by kernel_rfl) (by kernel_rfl) (by kernel_rfl) (by kernel_rfl) (laidWorld_pathLasts_met os _)) ?_
  intro W base args ds gs before hval0 hW _ hwt hL _
  have hval : ∀ (j : Nat) t v, Tryd.f5.params[j]? = some t → args[j]? = some v → Value.okWide Tryd.prog W .any base t v := hval0
  have hW' := hW
  obtain ⟨p, q, hA0, hV0, rfl, hfz, hnd⟩ := hW
  have hA : DataW.TrodAll enc Tryd.prog W 0 (fun _ => true) true Tryd.f5.params.toList args.toList ds p := hA0
  have hV : DataW.TrodVars enc Tryd.prog W (fun _ => true) [] gs q := hV0
  rw [Tryd.params5] at hA hval
  obtain ⟨v0, vs0, d0, ds0, p0, q0, hargs, rfl, rfl, h0, r0⟩ := trodAll_cons hA
  obtain ⟨rfl, rfl, rfl⟩ := trodAll_nil r0
  obtain rfl : args = #[v0] := by cases args; simp_all
  have hg := gok_of_laid (l := Rows.pathLastsRow.laid) (by simp [Rows.pathLastsRow]) hL
  obtain ⟨rfl, rfl⟩ : gs = [] ∧ q = [] := by
    cases gs with
    | nil => exact ⟨rfl, hV⟩
    | cons g r => exact absurd hV (by intro h; cases h)
  have lt0 : ∀ x ∈ p0, x.block < W.heap.size := by obtain ⟨m, hm⟩ := h0; exact DataW.trod_lt m _ _ _ hm
  have b0 := h0
  obtain ⟨A0, len0, cap0, rfl⟩ := okWide_slice Tryd.underlying23 (hval 0 23 v0 rfl rfl)
  obtain ⟨l0, rfl, hC0, hcap0, hsz0⟩ := strings_in Tryd.underlying23 h0
  obtain ⟨k, hk⟩ := law_lasts l0
  have hcall := halterlaw16_PathLasts.calls k A0 cap0 l0 true W hC0 hcap0 hk ⟨rfl⟩ hg
  refine hcall.mono fun e W' ⟨he, bel⟩ => ?_
  subst he
  have s0 := Below.trod laidOut (by kernel_rfl) (of_decide_eq_true (by kernel_rfl)) b0 bel lt0
  exact ⟨_, rfl, _, _, _, [], _, [], hW', trodAll_mk1 (shut_bool Tryd.underlying4 _), (trodAll_cons_mk s0 trodAll_mk0), rfl, bel.frame _, fun h => by cases h⟩
theorem said_pathLasts : Rows.PathLastsSaid :=
  OpenClaim.holds_of_wide 5 Tryd.f5 rfl rfl rfl rfl rfl rfl rfl ⟨rfl, rfl, rfl, rfl, rfl⟩ rfl rfl rfl rfl rfl (by kernel_rfl) Tryd.func5 (by kernel_rfl)
    (of_decide_eq_true (by kernel_rfl)) (by unfold Func.isWrapper; rw [if_neg (of_decide_eq_false (by kernel_rfl))]; exact ⟨rfl, rfl⟩)
    (fun os started H enc _ => lifted_pathLasts os started H enc)
end Go.Proofs.YtkfgaebakcpkhaaDoor.PA

namespace Go.Proofs.YtkfgaebakcpkhaaDoor
open Go
/-- The tied card. -/
theorem pathLasts_card_holds : Rows.PathLastsCardSaid :=
  Claim7.holds_tied_plain_at .later [] [.data, .handle, .pinned] true (true, "c3b5d924254ec8fb1b88ac88a1f46e281da0fec48156f710e7dcf72e5cd9c417") true
    PA.said_pathLasts (fun _ h => by cases h) (by kernel_rfl) (fun _ h => by cases h) pathLasts_row_tie rfl ⟨rfl, rfl⟩ (by kernel_rfl) rfl
    (fun f fn hf hfn => by
      obtain rfl : f = 5 := Option.some.inj ((show Tryd.prog.funcNamed "halter/halterlaw16.PathLasts" = some 5 by kernel_rfl).symm.trans hf) |>.symm
      obtain rfl : fn = Tryd.f5 := (Option.some.inj (Tryd.func5.symm.trans hfn)).symm
      refine ⟨by kernel_rfl, fun j t ht => ?_⟩
      rw [Tryd.params5] at ht
      rcases j with _ | j
      · obtain rfl : t = 23 := by simpa using ht.symm
        kernel_rfl
      · simp at ht)
    (by kernel_rfl)
#print axioms pathLasts_card_holds
end Go.Proofs.YtkfgaebakcpkhaaDoor
