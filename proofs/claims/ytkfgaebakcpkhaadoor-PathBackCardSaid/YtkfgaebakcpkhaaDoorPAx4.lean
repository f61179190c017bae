-- written by a program of this session (wip/oprint), after the kit's print
import Derived.Test.YtkfgaebakcpkhaaDoorPAx0
import Derived.Test.YtkfgaebakcpkhaaDoorPAx1
import Derived.Test.YtkfgaebakcpkhaaDoorPAx2
import Derived.Test.YtkfgaebakcpkhaaDoorPAx3
import Derived.Test.YtkfgaebakcpkhaaDoorONum
namespace Go.Proofs.YtkfgaebakcpkhaaDoor.PA
open Go.RowKit Go.Proofs.YtkfgaebakcpkhaaDoorW.PrintWords Go.Proofs.YtkfgaebakcpkhaaDoorW.PrintLast Go.Proofs.YtkfgaebakcpkhaaDoorW.PrintMore
attribute [local go_sem] max2_int min2_int max_two min_two max_three min_three max_four min_four   -- for this text's walks alone
set_option linter.unusedVariables false
set_option linter.unusedSimpArgs false

/-! ### halterlaw16_PathSplits: function 3 -/
def halterlaw16_PathSplits.j0 : Nat → ByteArray → ByteArray → Bool → Option (Bool)
  | 0, _, _, _ => none
  | k + 1, x0, x1, x24 => if x24 = true then ((halterlaw16_sure.f k).bind fun t185 => (some t185)) else ((path_Split.f k x0).bind fun bt186 => ((halterref16_Split.f k x0).bind fun bt191 => ((path_Last.f k x0).bind fun bt196 => ((halterref16_Last.f k x0).bind fun bt199 => ((halterlaw16_texts.f k bt186.1 bt191.1).bind fun t202 => (if t202 = true then (if (bt186.2.1 == bt191.2.1) = true then ((halterlaw16_num.f bt186.2.2).bind fun t203 => (if t203 = bt191.2.2 then (if bt196.1.toList = bt199.1.toList then (if bt196.2.1.toList = bt199.2.1.toList then ((halterlaw16_num.f bt196.2.2).bind fun t204 => (if t204 = bt199.2.2 then ((path_Check.f x1).bind fun t205 => ((halterlaw16_num.f t205).bind fun t206 => ((halterref16_Check.f k x1).bind fun t207 => (if t206 = t207 then ((halterlaw16_sure.f k).bind fun t208 => (some t208)) else (some false))))) else (some false))) else (some false)) else (some false)) else (some false))) else (some false)) else (some false)))))))
def halterlaw16_PathSplits.f (k : Nat) (a0 : ByteArray) (a1 : ByteArray) : Option (Bool) := if (a0.size : Int) > 500 then (halterlaw16_PathSplits.j0 k a0 a1 true) else (halterlaw16_PathSplits.j0 k a0 a1 (decide ((a1.size : Int) > 500)))
theorem halterlaw16_PathSplits.mono_l : ∀ k, (∀ y0 y1 y2, LeO (halterlaw16_PathSplits.j0 k y0 y1 y2) (halterlaw16_PathSplits.j0 (k + 1) y0 y1 y2))
  | 0 => fun _ _ _ r h => by simp [halterlaw16_PathSplits.j0] at h
  | k + 1 => by
    have ih0 := halterlaw16_PathSplits.mono_l k
    · intro y0 y1 y2
      unfold halterlaw16_PathSplits.j0
      repeat' first
      | (with_reducible exact ih0 _ _ _)
      | (with_reducible exact halterlaw16_sure.mono _)
      | (with_reducible exact halterlaw16_texts.mono _ _ _)
      | (with_reducible exact halterref16_Check.mono _ _)
      | (with_reducible exact halterref16_Last.mono _ _)
      | (with_reducible exact halterref16_Split.mono _ _)
      | (with_reducible exact path_Last.mono _ _)
      | (with_reducible exact path_Split.mono _ _)
      | (with_reducible exact LeO.refl _)
      | (with_reducible exact LeO.none _)
      | (with_reducible refine LeO.ite ?_ ?_)
      | (with_reducible refine LeO.bind ?_ (fun _ => ?_))
      | exact ih0 _ _ _
      | exact halterlaw16_sure.mono _
      | exact halterlaw16_texts.mono _ _ _
      | exact halterref16_Check.mono _ _
      | exact halterref16_Last.mono _ _
      | exact halterref16_Split.mono _ _
      | exact path_Last.mono _ _
      | exact path_Split.mono _ _
      | exact LeO.none _
      | refine LeO.ite ?_ ?_
      | refine LeO.bind ?_ (fun _ => ?_)
theorem halterlaw16_PathSplits.mono : ∀ a0 a1 k, LeO (halterlaw16_PathSplits.f k a0 a1) (halterlaw16_PathSplits.f (k + 1) a0 a1) := by
  intro a0 a1 k
  have ih0 := halterlaw16_PathSplits.mono_l k
  unfold halterlaw16_PathSplits.f
  repeat' first
      | (with_reducible exact ih0 _ _ _)
      | (with_reducible exact halterlaw16_sure.mono _)
      | (with_reducible exact halterlaw16_texts.mono _ _ _)
      | (with_reducible exact halterref16_Check.mono _ _)
      | (with_reducible exact halterref16_Last.mono _ _)
      | (with_reducible exact halterref16_Split.mono _ _)
      | (with_reducible exact path_Last.mono _ _)
      | (with_reducible exact path_Split.mono _ _)
      | (with_reducible exact LeO.refl _)
      | (with_reducible exact LeO.none _)
      | (with_reducible refine LeO.ite ?_ ?_)
      | (with_reducible refine LeO.bind ?_ (fun _ => ?_))
      | exact ih0 _ _ _
      | exact halterlaw16_sure.mono _
      | exact halterlaw16_texts.mono _ _ _
      | exact halterref16_Check.mono _ _
      | exact halterref16_Last.mono _ _
      | exact halterref16_Split.mono _ _
      | exact path_Last.mono _ _
      | exact path_Split.mono _ _
      | exact LeO.none _
      | refine LeO.ite ?_ ?_
      | refine LeO.bind ?_ (fun _ => ?_)
set_option maxHeartbeats 8000000 in
set_option maxRecDepth 100000 in
theorem halterlaw16_PathSplits.calls (k : Nat) (a0 : ByteArray) (a1 : ByteArray) (r : Bool) (w : World) (h : halterlaw16_PathSplits.f k a0 a1 = some r) (hTrue : Aside0 (r = true)) (hG : GOK w := by first | assumption | exact hG | exact GOK.below hG (by repeat (first | (with_reducible first | exact HB.out | apply below_alloc | apply pw_below_drewN | apply below_drew1) | exact HB.out))) :
    Calls Tryd.prog 3 #[.string a0, .string a1] w fun e w' => e = .returned (.bool r) ∧ Below w.heap.size w w' := by
  have HB := Aside0.mk (Below.refl w.heap.size w)
  have H : (if (a0.size : Int) > 500 then (halterlaw16_PathSplits.j0 k a0 a1 true) else (halterlaw16_PathSplits.j0 k a0 a1 (decide ((a1.size : Int) > 500)))) = some r := h
  clear h
  have HC3 := Aside0.mk H
  clear H
  go_enter Tryd.func3, Tryd.ntmps3
  go_upto_region 1 with (fail)
  go_cut [24] (fun v24 wc => ∃ (kq : Nat) (x24_2 : Bool), v24 = .bool x24_2 ∧ Aside0 (halterlaw16_PathSplits.j0 kq a0 a1 x24_2 = some r) ∧ Aside0 (kq ≤ k) ∧ Aside0 (Below w.heap.size w wc))
  case first =>
    have H := HC3.out
    clear HC3
    by_cases c4 : (a0.size : Int) > 500
    · rw [if_pos c4] at H
      have c4b0 : decide (500 < (a0.size : Int)) = true := decide_eq_true c4
      have c4b1 : decide (500 < a0.size) = true := decide_eq_true (by omega)
      clear c4
      (first | rw [c4b0] | (simp only [i64_w, i32_w]; rw [c4b0]) | skip)
      have H' := Aside0.mk H
      clear H
      go_wp2
      go_meet
      case rel => (try simp only [hji4]); exact ⟨_, (true), (by first | rfl | (simp; done) | (simp [*]; done)), H', ⟨by first | omega | exact Nat.le_refl _⟩, ⟨by repeat (first | (with_reducible first | exact HB.out | apply below_alloc | apply pw_below_drewN | apply below_drew1) | exact HB.out)⟩⟩
    · rw [if_neg c4] at H
      have c4b0 : decide (500 < (a0.size : Int)) = false := decide_eq_false c4
      have c4b1 : decide (500 < a0.size) = false := decide_eq_false (by omega)
      clear c4
      (first | rw [c4b0] | (simp only [i64_w, i32_w]; rw [c4b0]) | skip)
      have H' := Aside0.mk H
      clear H
      go_wp2
      go_meet
      case rel => (try simp only [hji4]); exact ⟨_, (decide ((a1.size : Int) > 500)), (by first | rfl | (simp; done) | (simp [*]; done)), H', ⟨by first | omega | exact Nat.le_refl _⟩, ⟨by repeat (first | (with_reducible first | exact HB.out | apply below_alloc | apply pw_below_drewN | apply below_drew1) | exact HB.out)⟩⟩
  case rest =>
    clear HC3
    try clear p2
    try clear c3
    try clear c4
    try clear c4b0
    try clear c4b1
    obtain ⟨kq, x24_2, rfl, HA, HJ2, HB⟩ := hcut
    cases kq with
    | zero => exact absurd HA.out (by simp [halterlaw16_PathSplits.j0])
    | succ kj2 =>
      have H := HA.out
      clear HA
      simp only [halterlaw16_PathSplits.j0] at H
      by_cases c5 : x24_2 = true
      · subst c5
        have H1 : ((halterlaw16_sure.f kj2).bind fun t185 => (some t185)) = some r := by rw [if_pos rfl] at H; exact H
        clear H
        have H := H1
        clear H1
        replace H := Option.bind_eq_some_iff.mp H
        obtain ⟨t185, A60, H⟩ := H
        replace H : (some t185) = some r := H
        have A6 := Aside0.mk A60
        clear A60
        obtain rfl := Option.some.inj H
        go_wp2_with (first | ((with_reducible refine gate_callee (f := 6) rfl ?_); refine goesL_ (some 25) rfl rfl Tryd.func6 (by kernel_rfl) rfl #[] rfl (by (try simp only [List.map_toArray, List.map_cons, List.map_nil]); first | done | rfl | (simp only [List.length_drop, List.length_take]; rfl)) ?_; (with_reducible refine (halterlaw16_sure.calls kj2  t185 _ A6.out).mono ?_); rintro e w7 ⟨rfl, hb⟩; refine ⟨_, rfl, ?_⟩; have n0_ := Aside0.mk (below_step (by repeat (first | (with_reducible first | exact HB.out | apply below_alloc | apply pw_below_drewN | apply below_drew1) | exact HB.out)) hb); clear HB; have HB := n0_; clear n0_; (try clear hb); (try clear hb2); (try clear hk); (try clear hi)))
        go_ret
        exact ⟨by first | rfl | (simp [errW_none, errW_some] <;> rfl) | (simp [*, errW_none, errW_some] <;> rfl), by repeat (first | (with_reducible first | exact HB.out | apply below_alloc | apply pw_below_drewN | apply below_drew1) | exact HB.out)⟩
      · replace c5 := Bool.eq_false_iff.mpr c5
        subst c5
        have H1 : ((path_Split.f kj2 a0).bind fun bt186 => ((halterref16_Split.f kj2 a0).bind fun bt191 => ((path_Last.f kj2 a0).bind fun bt196 => ((halterref16_Last.f kj2 a0).bind fun bt199 => ((halterlaw16_texts.f kj2 bt186.1 bt191.1).bind fun t202 => (if t202 = true then (if (bt186.2.1 == bt191.2.1) = true then ((halterlaw16_num.f bt186.2.2).bind fun t203 => (if t203 = bt191.2.2 then (if bt196.1.toList = bt199.1.toList then (if bt196.2.1.toList = bt199.2.1.toList then ((halterlaw16_num.f bt196.2.2).bind fun t204 => (if t204 = bt199.2.2 then ((path_Check.f a1).bind fun t205 => ((halterlaw16_num.f t205).bind fun t206 => ((halterref16_Check.f kj2 a1).bind fun t207 => (if t206 = t207 then ((halterlaw16_sure.f kj2).bind fun t208 => (some t208)) else (some false))))) else (some false))) else (some false)) else (some false)) else (some false))) else (some false)) else (some false))))))) = some r := by rw [if_neg (show ¬ (false = true) by decide)] at H; exact H
        clear H
        have H := H1
        clear H1
        replace H := Option.bind_eq_some_iff.mp H
        obtain ⟨⟨t186, t187, t188⟩, A80, H⟩ := H
        replace H : ((halterref16_Split.f kj2 a0).bind fun bt191 => ((path_Last.f kj2 a0).bind fun bt196 => ((halterref16_Last.f kj2 a0).bind fun bt199 => ((halterlaw16_texts.f kj2 t186 bt191.1).bind fun t202 => (if t202 = true then (if (t187 == bt191.2.1) = true then ((halterlaw16_num.f t188).bind fun t203 => (if t203 = bt191.2.2 then (if bt196.1.toList = bt199.1.toList then (if bt196.2.1.toList = bt199.2.1.toList then ((halterlaw16_num.f bt196.2.2).bind fun t204 => (if t204 = bt199.2.2 then ((path_Check.f a1).bind fun t205 => ((halterlaw16_num.f t205).bind fun t206 => ((halterref16_Check.f kj2 a1).bind fun t207 => (if t206 = t207 then ((halterlaw16_sure.f kj2).bind fun t208 => (some t208)) else (some false))))) else (some false))) else (some false)) else (some false)) else (some false))) else (some false)) else (some false)))))) = some r := H
        have A8 := Aside0.mk A80
        clear A80
        replace H := Option.bind_eq_some_iff.mp H
        obtain ⟨⟨t191, t192, t193⟩, A90, H⟩ := H
        replace H : ((path_Last.f kj2 a0).bind fun bt196 => ((halterref16_Last.f kj2 a0).bind fun bt199 => ((halterlaw16_texts.f kj2 t186 t191).bind fun t202 => (if t202 = true then (if (t187 == t192) = true then ((halterlaw16_num.f t188).bind fun t203 => (if t203 = t193 then (if bt196.1.toList = bt199.1.toList then (if bt196.2.1.toList = bt199.2.1.toList then ((halterlaw16_num.f bt196.2.2).bind fun t204 => (if t204 = bt199.2.2 then ((path_Check.f a1).bind fun t205 => ((halterlaw16_num.f t205).bind fun t206 => ((halterref16_Check.f kj2 a1).bind fun t207 => (if t206 = t207 then ((halterlaw16_sure.f kj2).bind fun t208 => (some t208)) else (some false))))) else (some false))) else (some false)) else (some false)) else (some false))) else (some false)) else (some false))))) = some r := H
        have A9 := Aside0.mk A90
        clear A90
        replace H := Option.bind_eq_some_iff.mp H
        obtain ⟨⟨t196, t197, t198⟩, A100, H⟩ := H
        replace H : ((halterref16_Last.f kj2 a0).bind fun bt199 => ((halterlaw16_texts.f kj2 t186 t191).bind fun t202 => (if t202 = true then (if (t187 == t192) = true then ((halterlaw16_num.f t188).bind fun t203 => (if t203 = t193 then (if t196.toList = bt199.1.toList then (if t197.toList = bt199.2.1.toList then ((halterlaw16_num.f t198).bind fun t204 => (if t204 = bt199.2.2 then ((path_Check.f a1).bind fun t205 => ((halterlaw16_num.f t205).bind fun t206 => ((halterref16_Check.f kj2 a1).bind fun t207 => (if t206 = t207 then ((halterlaw16_sure.f kj2).bind fun t208 => (some t208)) else (some false))))) else (some false))) else (some false)) else (some false)) else (some false))) else (some false)) else (some false)))) = some r := H
        have A10 := Aside0.mk A100
        clear A100
        replace H := Option.bind_eq_some_iff.mp H
        obtain ⟨⟨t199, t200, t201⟩, A110, H⟩ := H
        replace H : ((halterlaw16_texts.f kj2 t186 t191).bind fun t202 => (if t202 = true then (if (t187 == t192) = true then ((halterlaw16_num.f t188).bind fun t203 => (if t203 = t193 then (if t196.toList = t199.toList then (if t197.toList = t200.toList then ((halterlaw16_num.f t198).bind fun t204 => (if t204 = t201 then ((path_Check.f a1).bind fun t205 => ((halterlaw16_num.f t205).bind fun t206 => ((halterref16_Check.f kj2 a1).bind fun t207 => (if t206 = t207 then ((halterlaw16_sure.f kj2).bind fun t208 => (some t208)) else (some false))))) else (some false))) else (some false)) else (some false)) else (some false))) else (some false)) else (some false))) = some r := H
        have A11 := Aside0.mk A110
        clear A110
        replace H := Option.bind_eq_some_iff.mp H
        obtain ⟨t202, A120, H⟩ := H
        replace H : (if t202 = true then (if (t187 == t192) = true then ((halterlaw16_num.f t188).bind fun t203 => (if t203 = t193 then (if t196.toList = t199.toList then (if t197.toList = t200.toList then ((halterlaw16_num.f t198).bind fun t204 => (if t204 = t201 then ((path_Check.f a1).bind fun t205 => ((halterlaw16_num.f t205).bind fun t206 => ((halterref16_Check.f kj2 a1).bind fun t207 => (if t206 = t207 then ((halterlaw16_sure.f kj2).bind fun t208 => (some t208)) else (some false))))) else (some false))) else (some false)) else (some false)) else (some false))) else (some false)) else (some false)) = some r := H
        have A12 := Aside0.mk A120
        clear A120
        by_cases c13 : t202 = true
        · subst c13
          have H1 : (if (t187 == t192) = true then ((halterlaw16_num.f t188).bind fun t203 => (if t203 = t193 then (if t196.toList = t199.toList then (if t197.toList = t200.toList then ((halterlaw16_num.f t198).bind fun t204 => (if t204 = t201 then ((path_Check.f a1).bind fun t205 => ((halterlaw16_num.f t205).bind fun t206 => ((halterref16_Check.f kj2 a1).bind fun t207 => (if t206 = t207 then ((halterlaw16_sure.f kj2).bind fun t208 => (some t208)) else (some false))))) else (some false))) else (some false)) else (some false)) else (some false))) else (some false)) = some r := by rw [if_pos rfl] at H; exact H
          clear H
          have H := H1
          clear H1
          by_cases c14 : (t187 == t192) = true
          · rw [if_pos c14] at H
            have c14b0 : (t187 == t192) = true := c14
            (try (have c14b1 : decide (t187 = t192) = true := by simpa using c14))
            (try (have c14b2 : (t187 == t192) = true := by simpa using c14))
            clear c14
            replace H := Option.bind_eq_some_iff.mp H
            obtain ⟨t203, A150, H⟩ := H
            replace H : (if t203 = t193 then (if t196.toList = t199.toList then (if t197.toList = t200.toList then ((halterlaw16_num.f t198).bind fun t204 => (if t204 = t201 then ((path_Check.f a1).bind fun t205 => ((halterlaw16_num.f t205).bind fun t206 => ((halterref16_Check.f kj2 a1).bind fun t207 => (if t206 = t207 then ((halterlaw16_sure.f kj2).bind fun t208 => (some t208)) else (some false))))) else (some false))) else (some false)) else (some false)) else (some false)) = some r := H
            have A15 := Aside0.mk A150
            clear A150
            by_cases c16 : t203 = t193
            · rw [if_pos c16] at H
              have c16b0 : (t203 == t193) = true := beq_iff_eq.mpr c16
              have c16b1 : (t203 != t193) = false := bne_eq_false_iff_eq.mpr c16
              clear c16
              by_cases c17 : t196.toList = t199.toList
              · rw [if_pos c17] at H
                have c17b0 : (t196.toList == t199.toList) = true := beq_iff_eq.mpr c17
                have c17b1 : (t196.toList != t199.toList) = false := bne_eq_false_iff_eq.mpr c17
                clear c17
                by_cases c18 : t197.toList = t200.toList
                · rw [if_pos c18] at H
                  have c18b0 : (t197.toList == t200.toList) = true := beq_iff_eq.mpr c18
                  have c18b1 : (t197.toList != t200.toList) = false := bne_eq_false_iff_eq.mpr c18
                  clear c18
                  replace H := Option.bind_eq_some_iff.mp H
                  obtain ⟨t204, A190, H⟩ := H
                  replace H : (if t204 = t201 then ((path_Check.f a1).bind fun t205 => ((halterlaw16_num.f t205).bind fun t206 => ((halterref16_Check.f kj2 a1).bind fun t207 => (if t206 = t207 then ((halterlaw16_sure.f kj2).bind fun t208 => (some t208)) else (some false))))) else (some false)) = some r := H
                  have A19 := Aside0.mk A190
                  clear A190
                  by_cases c20 : t204 = t201
                  · rw [if_pos c20] at H
                    have c20b0 : (t204 == t201) = true := beq_iff_eq.mpr c20
                    have c20b1 : (t204 != t201) = false := bne_eq_false_iff_eq.mpr c20
                    clear c20
                    replace H := Option.bind_eq_some_iff.mp H
                    obtain ⟨t205, A210, H⟩ := H
                    replace H : ((halterlaw16_num.f t205).bind fun t206 => ((halterref16_Check.f kj2 a1).bind fun t207 => (if t206 = t207 then ((halterlaw16_sure.f kj2).bind fun t208 => (some t208)) else (some false)))) = some r := H
                    have A21 := Aside0.mk A210
                    clear A210
                    replace H := Option.bind_eq_some_iff.mp H
                    obtain ⟨t206, A220, H⟩ := H
                    replace H : ((halterref16_Check.f kj2 a1).bind fun t207 => (if t206 = t207 then ((halterlaw16_sure.f kj2).bind fun t208 => (some t208)) else (some false))) = some r := H
                    have A22 := Aside0.mk A220
                    clear A220
                    replace H := Option.bind_eq_some_iff.mp H
                    obtain ⟨t207, A230, H⟩ := H
                    replace H : (if t206 = t207 then ((halterlaw16_sure.f kj2).bind fun t208 => (some t208)) else (some false)) = some r := H
                    have A23 := Aside0.mk A230
                    clear A230
                    by_cases c24 : t206 = t207
                    · rw [if_pos c24] at H
                      have c24b0 : (t206 == t207) = true := beq_iff_eq.mpr c24
                      have c24b1 : (t206 != t207) = false := bne_eq_false_iff_eq.mpr c24
                      clear c24
                      replace H := Option.bind_eq_some_iff.mp H
                      obtain ⟨t208, A250, H⟩ := H
                      replace H : (some t208) = some r := H
                      have A25 := Aside0.mk A250
                      clear A250
                      obtain rfl := Option.some.inj H
                      go_wp2_with (first | ((with_reducible refine gate_callee (f := 7) rfl ?_); refine goesL_ (some 28) rfl rfl Tryd.func7 (by kernel_rfl) rfl #[.string a0] rfl (by (try simp only [List.map_toArray, List.map_cons, List.map_nil]); first | done | rfl | (simp only [List.length_drop, List.length_take]; rfl)) ?_; (with_reducible refine (path_Split.calls kj2 a0 t186 t187 t188 _ A8.out).mono ?_); rintro e w26 ⟨v189, rfl, ho0, hb⟩; refine ⟨_, rfl, ?_⟩; have n0_ := Aside0.mk (Kd.R_lower ho0 (below_size (by repeat (first | (with_reducible first | exact HB.out | apply below_alloc | apply pw_below_drewN | apply below_drew1) | exact HB.out)))); have n1_ := Aside0.mk (below_step (by repeat (first | (with_reducible first | exact HB.out | apply below_alloc | apply pw_below_drewN | apply below_drew1) | exact HB.out)) hb); clear HB; have HO190 := n0_; have HB := n1_; clear n0_ n1_; (try clear hb); (try clear hb2); (try clear hk); (try clear hi); (try clear ho0); (try simp only [errW_none, errW_some])) | ((with_reducible refine gate_callee (f := 8) rfl ?_); refine goesL_ (some 34) rfl rfl Tryd.func8 (by kernel_rfl) rfl #[.string a0] rfl (by (try simp only [List.map_toArray, List.map_cons, List.map_nil]); first | done | rfl | (simp only [List.length_drop, List.length_take]; rfl)) ?_; (with_reducible refine (halterref16_Split.calls kj2 a0 t191 t192 t193 _ A9.out).mono ?_); rintro e w27 ⟨v194, rfl, ho0, hb⟩; refine ⟨_, rfl, ?_⟩; have n0_ := Aside0.mk (Kd.R_elder' (by (with_reducible repeat (first | apply Kd.R_alloc | apply Kd.R_drewN | apply Kd.R_drew)); exact HO190.out) (Kd.R_base ho0) hb); have n1_ := Aside0.mk (Kd.R_lower (Kd.R_new' ho0 (Kd.R_lt (by (with_reducible repeat (first | apply Kd.R_alloc | apply Kd.R_drewN | apply Kd.R_drew)); exact HO190.out))) (below_size (by repeat (first | (with_reducible first | exact HB.out | apply below_alloc | apply pw_below_drewN | apply below_drew1) | exact HB.out)))); have n2_ := Aside0.mk (below_step (by repeat (first | (with_reducible first | exact HB.out | apply below_alloc | apply pw_below_drewN | apply below_drew1) | exact HB.out)) hb); clear HO190; clear HB; have HO190 := n0_; have HO195 := n1_; have HB := n2_; clear n0_ n1_ n2_; (try clear hb); (try clear hb2); (try clear hk); (try clear hi); (try clear ho0)) | ((with_reducible refine gate_callee (f := 9) rfl ?_); refine goesL_ (some 40) rfl rfl Tryd.func9 (by kernel_rfl) rfl #[.string a0] rfl (by (try simp only [List.map_toArray, List.map_cons, List.map_nil]); first | done | rfl | (simp only [List.length_drop, List.length_take]; rfl)) ?_; (with_reducible refine (path_Last.calls kj2 a0 t196 t197 t198 _ A10.out).mono ?_); rintro e w28 ⟨rfl, hb⟩; refine ⟨_, rfl, ?_⟩; have n0_ := Aside0.mk (Kd.R_below (by (with_reducible repeat (first | apply Kd.R_alloc | apply Kd.R_drewN | apply Kd.R_drew)); exact HO190.out) hb); have n1_ := Aside0.mk (Kd.R_below (by (with_reducible repeat (first | apply Kd.R_alloc | apply Kd.R_drewN | apply Kd.R_drew)); exact HO195.out) hb); have n2_ := Aside0.mk (below_step (by repeat (first | (with_reducible first | exact HB.out | apply below_alloc | apply pw_below_drewN | apply below_drew1) | exact HB.out)) hb); clear HO190; clear HO195; clear HB; have HO190 := n0_; have HO195 := n1_; have HB := n2_; clear n0_ n1_ n2_; (try clear hb); (try clear hb2); (try clear hk); (try clear hi); (try simp only [errW_none, errW_some])) | ((with_reducible refine gate_callee (f := 10) rfl ?_); refine goesL_ (some 46) rfl rfl Tryd.func10 (by kernel_rfl) rfl #[.string a0] rfl (by (try simp only [List.map_toArray, List.map_cons, List.map_nil]); first | done | rfl | (simp only [List.length_drop, List.length_take]; rfl)) ?_; (with_reducible refine (halterref16_Last.calls kj2 a0 t199 t200 t201 _ A11.out).mono ?_); rintro e w29 ⟨rfl, hb⟩; refine ⟨_, rfl, ?_⟩; have n0_ := Aside0.mk (Kd.R_below (by (with_reducible repeat (first | apply Kd.R_alloc | apply Kd.R_drewN | apply Kd.R_drew)); exact HO190.out) hb); have n1_ := Aside0.mk (Kd.R_below (by (with_reducible repeat (first | apply Kd.R_alloc | apply Kd.R_drewN | apply Kd.R_drew)); exact HO195.out) hb); have n2_ := Aside0.mk (below_step (by repeat (first | (with_reducible first | exact HB.out | apply below_alloc | apply pw_below_drewN | apply below_drew1) | exact HB.out)) hb); clear HO190; clear HO195; clear HB; have HO190 := n0_; have HO195 := n1_; have HB := n2_; clear n0_ n1_ n2_; (try clear hb); (try clear hb2); (try clear hk); (try clear hi); obtain ⟨Ao30, co30, eo30⟩ := Kd.R_slice HO190.out; subst eo30; obtain ⟨Ao31, co31, eo31⟩ := Kd.R_slice HO195.out; subst eo31) | ((with_reducible refine gate_callee (f := 11) rfl ?_); refine goesL_ (some 52) rfl rfl Tryd.func11 (by kernel_rfl) rfl #[.slice Ao30 t186.length co30, .slice Ao31 t191.length co31] rfl (by (try simp only [List.map_toArray, List.map_cons, List.map_nil]); first | done | rfl | (simp only [List.length_drop, List.length_take]; rfl)) ?_; (with_reducible refine (halterlaw16_texts.calls kj2 _ _ t186 _ _ t191 true _ ?side1 ?side2 ?side3 ?side4 A12.out).mono ?_); (case side1 => repeat (first | exact (Kd.R_reads' HO190.out).2.2 | (with_reducible refine Kd.C_alloc ?_ _) | (with_reducible refine Kd.C_drewN ?_ _) | (with_reducible refine Kd.C_drew ?_))); (case side2 => exact (Kd.R_reads' HO190.out).2.1); (case side3 => repeat (first | exact (Kd.R_reads' HO195.out).2.2 | (with_reducible refine Kd.C_alloc ?_ _) | (with_reducible refine Kd.C_drewN ?_ _) | (with_reducible refine Kd.C_drew ?_))); (case side4 => exact (Kd.R_reads' HO195.out).2.1); rintro e w' ⟨rfl, ⟨nd, rfl⟩⟩; refine ⟨_, rfl, ?_⟩; have CA15 := fun W (hG_ : GOK W) => halterlaw16_num.calls t188 t203 W A15.out hG_; try simp only [errW_none, errW_some] at CA15) | (go_at_call 12; (with_reducible refine (CA15 _ (by first | assumption | exact hG | exact GOK.below hG (by repeat (first | (with_reducible first | exact HB.out | apply below_alloc | apply pw_below_drewN | apply below_drew1) | exact HB.out)))).mono ?_); rintro e w32 ⟨rfl, hb⟩; have n0_ := Aside0.mk (Kd.R_below (by (with_reducible repeat (first | apply Kd.R_alloc | apply Kd.R_drewN | apply Kd.R_drew)); exact HO190.out) hb); have n1_ := Aside0.mk (Kd.R_below (by (with_reducible repeat (first | apply Kd.R_alloc | apply Kd.R_drewN | apply Kd.R_drew)); exact HO195.out) hb); have n2_ := Aside0.mk (below_step (by repeat (first | (with_reducible first | exact HB.out | apply below_alloc | apply pw_below_drewN | apply below_drew1) | exact HB.out)) hb); clear HO190; clear HO195; clear HB; have HO190 := n0_; have HO195 := n1_; have HB := n2_; clear n0_ n1_ n2_; (try clear hb); (try clear hb2); (try clear hk); (try clear hi); have CA19 := fun W (hG_ : GOK W) => halterlaw16_num.calls t198 t204 W A19.out hG_; try simp only [errW_none, errW_some] at CA19) | (go_at_call 12; (with_reducible refine (CA19 _ (by first | assumption | exact hG | exact GOK.below hG (by repeat (first | (with_reducible first | exact HB.out | apply below_alloc | apply pw_below_drewN | apply below_drew1) | exact HB.out)))).mono ?_); rintro e w33 ⟨rfl, hb⟩; have n0_ := Aside0.mk (Kd.R_below (by (with_reducible repeat (first | apply Kd.R_alloc | apply Kd.R_drewN | apply Kd.R_drew)); exact HO190.out) hb); have n1_ := Aside0.mk (Kd.R_below (by (with_reducible repeat (first | apply Kd.R_alloc | apply Kd.R_drewN | apply Kd.R_drew)); exact HO195.out) hb); have n2_ := Aside0.mk (below_step (by repeat (first | (with_reducible first | exact HB.out | apply below_alloc | apply pw_below_drewN | apply below_drew1) | exact HB.out)) hb); clear HO190; clear HO195; clear HB; have HO190 := n0_; have HO195 := n1_; have HB := n2_; clear n0_ n1_ n2_; (try clear hb); (try clear hb2); (try clear hk); (try clear hi)) | (go_at_call 13; (with_reducible refine (path_Check.calls a1 t205 _ A21.out).mono ?_); rintro e w34 ⟨rfl, hb⟩; have n0_ := Aside0.mk (Kd.R_below (by (with_reducible repeat (first | apply Kd.R_alloc | apply Kd.R_drewN | apply Kd.R_drew)); exact HO190.out) hb); have n1_ := Aside0.mk (Kd.R_below (by (with_reducible repeat (first | apply Kd.R_alloc | apply Kd.R_drewN | apply Kd.R_drew)); exact HO195.out) hb); have n2_ := Aside0.mk (below_step (by repeat (first | (with_reducible first | exact HB.out | apply below_alloc | apply pw_below_drewN | apply below_drew1) | exact HB.out)) hb); clear HO190; clear HO195; clear HB; have HO190 := n0_; have HO195 := n1_; have HB := n2_; clear n0_ n1_ n2_; (try clear hb); (try clear hb2); (try clear hk); (try clear hi); (try simp only [errW_none, errW_some]); have CA22 := fun W (hG_ : GOK W) => halterlaw16_num.calls t205 t206 W A22.out hG_; try simp only [errW_none, errW_some] at CA22) | (go_at_call 12; (with_reducible refine (CA22 _ (by first | assumption | exact hG | exact GOK.below hG (by repeat (first | (with_reducible first | exact HB.out | apply below_alloc | apply pw_below_drewN | apply below_drew1) | exact HB.out)))).mono ?_); rintro e w35 ⟨rfl, hb⟩; have n0_ := Aside0.mk (Kd.R_below (by (with_reducible repeat (first | apply Kd.R_alloc | apply Kd.R_drewN | apply Kd.R_drew)); exact HO190.out) hb); have n1_ := Aside0.mk (Kd.R_below (by (with_reducible repeat (first | apply Kd.R_alloc | apply Kd.R_drewN | apply Kd.R_drew)); exact HO195.out) hb); have n2_ := Aside0.mk (below_step (by repeat (first | (with_reducible first | exact HB.out | apply below_alloc | apply pw_below_drewN | apply below_drew1) | exact HB.out)) hb); clear HO190; clear HO195; clear HB; have HO190 := n0_; have HO195 := n1_; have HB := n2_; clear n0_ n1_ n2_; (try clear hb); (try clear hb2); (try clear hk); (try clear hi)) | (go_at_call 14; (with_reducible refine (halterref16_Check.calls kj2 a1 t207 _ A23.out).mono ?_); rintro e w' ⟨rfl, ⟨nd, rfl⟩⟩) | (go_at_call 6; (with_reducible refine (halterlaw16_sure.calls kj2  t208 _ A25.out).mono ?_); rintro e w36 ⟨rfl, hb⟩; have n0_ := Aside0.mk (Kd.R_below (by (with_reducible repeat (first | apply Kd.R_alloc | apply Kd.R_drewN | apply Kd.R_drew)); exact HO190.out) hb); have n1_ := Aside0.mk (Kd.R_below (by (with_reducible repeat (first | apply Kd.R_alloc | apply Kd.R_drewN | apply Kd.R_drew)); exact HO195.out) hb); have n2_ := Aside0.mk (below_step (by repeat (first | (with_reducible first | exact HB.out | apply below_alloc | apply pw_below_drewN | apply below_drew1) | exact HB.out)) hb); clear HO190; clear HO195; clear HB; have HO190 := n0_; have HO195 := n1_; have HB := n2_; clear n0_ n1_ n2_; (try clear hb); (try clear hb2); (try clear hk); (try clear hi)))
                      go_ret
                      exact ⟨by first | rfl | (simp [errW_none, errW_some] <;> rfl) | (simp [*, errW_none, errW_some] <;> rfl), by repeat (first | (with_reducible first | exact HB.out | apply below_alloc | apply pw_below_drewN | apply below_drew1) | exact HB.out)⟩
                    · rw [if_neg c24] at H
                      have c24b0 : (t206 == t207) = false := beq_eq_false_iff_ne.mpr c24
                      have c24b1 : (t206 != t207) = true := bne_iff_ne.mpr c24
                      obtain rfl := Option.some.inj H
                      exact absurd hTrue.out (by decide)
                  · rw [if_neg c20] at H
                    have c20b0 : (t204 == t201) = false := beq_eq_false_iff_ne.mpr c20
                    have c20b1 : (t204 != t201) = true := bne_iff_ne.mpr c20
                    obtain rfl := Option.some.inj H
                    exact absurd hTrue.out (by decide)
                · rw [if_neg c18] at H
                  have c18b0 : (t197.toList == t200.toList) = false := beq_eq_false_iff_ne.mpr c18
                  have c18b1 : (t197.toList != t200.toList) = true := bne_iff_ne.mpr c18
                  obtain rfl := Option.some.inj H
                  exact absurd hTrue.out (by decide)
              · rw [if_neg c17] at H
                have c17b0 : (t196.toList == t199.toList) = false := beq_eq_false_iff_ne.mpr c17
                have c17b1 : (t196.toList != t199.toList) = true := bne_iff_ne.mpr c17
                obtain rfl := Option.some.inj H
                exact absurd hTrue.out (by decide)
            · rw [if_neg c16] at H
              have c16b0 : (t203 == t193) = false := beq_eq_false_iff_ne.mpr c16
              have c16b1 : (t203 != t193) = true := bne_iff_ne.mpr c16
              obtain rfl := Option.some.inj H
              exact absurd hTrue.out (by decide)
          · rw [if_neg c14] at H
            have c14b0 : (t187 == t192) = false := by simpa using c14
            (try (have c14b1 : decide (t187 = t192) = false := by simpa using c14))
            (try (have c14b2 : (t187 == t192) = false := by simpa using c14))
            (try (have c14b3 : ¬ (t187 = t192) := by simpa using c14))
            clear c14
            obtain rfl := Option.some.inj H
            exact absurd hTrue.out (by decide)
        · replace c13 := Bool.eq_false_iff.mpr c13
          subst c13
          have H1 : (some false) = some r := by rw [if_neg (show ¬ (false = true) by decide)] at H; exact H
          clear H
          have H := H1
          clear H1
          obtain rfl := Option.some.inj H
          exact absurd hTrue.out (by decide)

/-- THE ONE PURE STATEMENT of halterlaw16_PathSplits: yours. -/
def halterlaw16_PathSplits.Pure : Prop := ∀ (a0 : ByteArray) (a1 : ByteArray), a0.size ≤ 140737488351232 → a1.size ≤ 140737488351232 → ∃ k, halterlaw16_PathSplits.f k a0 a1 = some true
/-! ### halterref16_Join: function 16 -/
def halterref16_Join.l0 : Nat → List ByteArray → ByteArray → Int → Option (ByteArray × Int)
  | 0, _, _, _ => none
  | k + 1, x0, x5, x6 => if x6 < (x0.length : Int) then (if x6 > 0 then (if x5.size + 1 ≤ 9223372036854775807 then (if 0 ≤ x6 then (if (x5 ++ (⟨#[47]⟩ : ByteArray)).size + (rdOf ByteArray.empty x0 x6).size ≤ 9223372036854775807 then (halterref16_Join.l0 k x0 ((x5 ++ (⟨#[47]⟩ : ByteArray)) ++ (rdOf ByteArray.empty x0 x6)) (wrap64 (x6 + 1))) else (none)) else (none)) else (none)) else (if 0 ≤ x6 then (if x5.size + (rdOf ByteArray.empty x0 x6).size ≤ 9223372036854775807 then (halterref16_Join.l0 k x0 (x5 ++ (rdOf ByteArray.empty x0 x6)) (wrap64 (x6 + 1))) else (none)) else (none))) else (some (x5, 0))
def halterref16_Join.f (k : Nat) (l0 : List ByteArray) : Option (ByteArray × Int) := (halterref16_checked.f k l0).bind fun t209 => (if t209 = 0 then (halterref16_Join.l0 k l0 (⟨#[47]⟩ : ByteArray) 0) else (some ((⟨#[]⟩ : ByteArray), t209)))
theorem halterref16_Join.mono_l : ∀ k, (∀ y0 y1 y2, LeO (halterref16_Join.l0 k y0 y1 y2) (halterref16_Join.l0 (k + 1) y0 y1 y2))
  | 0 => fun _ _ _ r h => by simp [halterref16_Join.l0] at h
  | k + 1 => by
    have ih0 := halterref16_Join.mono_l k
    · intro y0 y1 y2
      unfold halterref16_Join.l0
      repeat' first
      | (with_reducible exact ih0 _ _ _)
      | (with_reducible exact halterref16_checked.mono _ _)
      | (with_reducible exact LeO.refl _)
      | (with_reducible exact LeO.none _)
      | (with_reducible refine LeO.ite ?_ ?_)
      | (with_reducible refine LeO.bind ?_ (fun _ => ?_))
      | exact ih0 _ _ _
      | exact halterref16_checked.mono _ _
      | exact LeO.none _
      | refine LeO.ite ?_ ?_
      | refine LeO.bind ?_ (fun _ => ?_)
theorem halterref16_Join.mono : ∀ a0 k, LeO (halterref16_Join.f k a0) (halterref16_Join.f (k + 1) a0) := by
  intro a0 k
  have ih0 := halterref16_Join.mono_l k
  unfold halterref16_Join.f
  repeat' first
      | (with_reducible exact ih0 _ _ _)
      | (with_reducible exact halterref16_checked.mono _ _)
      | (with_reducible exact LeO.refl _)
      | (with_reducible exact LeO.none _)
      | (with_reducible refine LeO.ite ?_ ?_)
      | (with_reducible refine LeO.bind ?_ (fun _ => ?_))
      | exact ih0 _ _ _
      | exact halterref16_checked.mono _ _
      | exact LeO.none _
      | refine LeO.ite ?_ ?_
      | refine LeO.bind ?_ (fun _ => ?_)
set_option maxHeartbeats 8000000 in
set_option maxRecDepth 100000 in
theorem halterref16_Join.calls (k : Nat) (A0 : Option Addr) (c0 : Nat) (l0 : List ByteArray) (r1 : ByteArray) (r2 : Int) (w : World) (hr0 : Kd.C Kd.string w A0 l0.length l0) (hc0 : l0.length ≤ c0) (h : halterref16_Join.f k l0 = some (r1, r2)) :
    Calls Tryd.prog 16 #[.slice A0 l0.length c0] w fun e w' => e = .returned (.tuple #[.string r1, .int .i64 r2]) ∧ Drawn0 w w' := by
  have HR0 := Aside0.mk hr0
  have HC0 := Aside0.mk hc0
  clear hr0 hc0
  have H : ((halterref16_checked.f k l0).bind fun t209 => (if t209 = 0 then (halterref16_Join.l0 k l0 (⟨#[47]⟩ : ByteArray) 0) else (some ((⟨#[]⟩ : ByteArray), t209)))) = some (r1, r2) := h
  clear h
  replace H := Option.bind_eq_some_iff.mp H
  obtain ⟨t209, A20, H⟩ := H
  replace H : (if t209 = 0 then (halterref16_Join.l0 k l0 (⟨#[47]⟩ : ByteArray) 0) else (some ((⟨#[]⟩ : ByteArray), t209))) = some (r1, r2) := H
  have A2 := Aside0.mk A20
  clear A20
  by_cases c3 : t209 = 0
  · rw [if_pos c3] at H
    have c3b0 : (t209 == 0) = true := beq_iff_eq.mpr c3
    have c3b1 : (t209 != 0) = false := bne_eq_false_iff_eq.mpr c3
    clear c3
    have H' := Aside0.mk H
    clear H
    go_enter Tryd.func16, Tryd.ntmps16
    go_wp2_with (first | ((with_reducible refine gate_callee (f := 21) rfl ?_); refine goesL_ (some 8) rfl rfl Tryd.func21 (by kernel_rfl) rfl #[.slice A0 l0.length c0] rfl (by (try simp only [List.map_toArray, List.map_cons, List.map_nil]); first | done | rfl | (simp only [List.length_drop, List.length_take]; rfl)) ?_; (with_reducible refine (halterref16_checked.calls k _ _ l0 t209 _ ?side1 ?side2 A2.out).mono ?_); (case side1 => repeat (first | exact HR0.out | (with_reducible refine Kd.C_alloc ?_ _) | (with_reducible refine Kd.C_drewN ?_ _) | (with_reducible refine Kd.C_drew ?_))); (case side2 => exact HC0.out); rintro e w' ⟨rfl, ⟨nd, rfl⟩⟩; refine ⟨_, rfl, ?_⟩))
    go_loopg [5, 6] k (fun kq v5 v6 w' => ∃ (x5_1 : ByteArray) (x6_1 : Int), v5 = .string x5_1 ∧ v6 = .int .i64 x6_1 ∧ Aside0 (halterref16_Join.l0 kq l0 x5_1 x6_1 = some (r1, r2)) ∧ Aside0 (kq ≤ k) ∧ Drawn0 w w')
    case atStart => exact ⟨((⟨#[47]⟩ : ByteArray)), (0), (by first | rfl | (simp; done) | (simp [*]; done)), (by first | rfl | (simp; done) | (simp [*]; done)), H', ⟨Nat.le_refl _⟩, by repeat (first | exact Drawn0.refl _ | apply Drawn0.step)⟩
    case round =>
      clear H'
      try clear c1
      try clear c2
      try clear p2
      try clear c3
      try clear c3b0
      try clear c3b1
      obtain ⟨x5_1, x6_1, rfl, rfl, HA, HK1, ⟨m1, rfl⟩⟩ := hrel
      cases gk with
      | zero => exact absurd HA.out (by simp [halterref16_Join.l0])
      | succ k1 =>
        have H := HA.out
        clear HA
        simp only [halterref16_Join.l0] at H
        by_cases c4 : x6_1 < (l0.length : Int)
        · rw [if_pos c4] at H
          have c4b0 : decide (x6_1 < (l0.length : Int)) = true := decide_eq_true c4
          clear c4
          by_cases c5 : x6_1 > 0
          · rw [if_pos c5] at H
            have c5b0 : decide (0 < x6_1) = true := decide_eq_true c5
            clear c5
            by_cases c6 : x5_1.size + 1 ≤ 9223372036854775807
            · rw [if_pos c6] at H
              have c6b0 := eq_true c6
              have c6b1 : decide (x5_1.size + 1 ≤ 9223372036854775807) = true := decide_eq_true c6
              try have c6b2 : (9223372036854775807 < x5_1.size + 1) = False := eq_false (Nat.not_lt.2 c6)
              by_cases c7 : 0 ≤ x6_1
              · rw [if_pos c7] at H
                have c7b0 : decide (0 ≤ x6_1) = true := decide_eq_true c7
                clear c7
                by_cases c8 : (x5_1 ++ (⟨#[47]⟩ : ByteArray)).size + (rdOf ByteArray.empty l0 x6_1).size ≤ 9223372036854775807
                · rw [if_pos c8] at H
                  have c8b0 := eq_true c8
                  have c8b1 : decide ((x5_1 ++ (⟨#[47]⟩ : ByteArray)).size + (rdOf ByteArray.empty l0 x6_1).size ≤ 9223372036854775807) = true := decide_eq_true c8
                  try have c8b2 : (9223372036854775807 < (x5_1 ++ (⟨#[47]⟩ : ByteArray)).size + (rdOf ByteArray.empty l0 x6_1).size) = False := eq_false (Nat.not_lt.2 c8)
                  have H' := Aside0.mk H
                  clear H
                  have p210 : 0 ≤ (x6_1 : Int) := of_decide_eq_true (by first | (with_reducible assumption) | assumption)
                  have q210 : x6_1 < (l0.length : Int) := of_decide_eq_true (by first | (with_reducible assumption) | assumption)
                  obtain ⟨ad210, e210, hx210_0⟩ := Kd.at_string HR0.out x6_1 p210 q210
                  cases e210
                  replace p210 := eq_true p210
                  replace q210 := eq_true q210
                  go_wp2
                  go_roundg k1
                  case measure => have := HK1.out; omega
                  case rel => (try simp only [hji4]); exact ⟨((x5_1 ++ (⟨#[47]⟩ : ByteArray)) ++ (rdOf ByteArray.empty l0 x6_1)), (wrap64 (x6_1 + 1)), (by first | rfl | (simp; done) | (simp [*]; done)), (by first | rfl | (simp; done) | (simp [*]; done)), H', ⟨by have := HK1.out; omega⟩, by repeat (first | exact Drawn0.refl _ | apply Drawn0.step)⟩
                · rw [if_neg c8] at H
                  exact absurd H (by simp)
              · rw [if_neg c7] at H
                exact absurd H (by simp)
            · rw [if_neg c6] at H
              exact absurd H (by simp)
          · rw [if_neg c5] at H
            have c5b0 : decide (0 < x6_1) = false := decide_eq_false c5
            clear c5
            by_cases c9 : 0 ≤ x6_1
            · rw [if_pos c9] at H
              have c9b0 : decide (0 ≤ x6_1) = true := decide_eq_true c9
              clear c9
              by_cases c10 : x5_1.size + (rdOf ByteArray.empty l0 x6_1).size ≤ 9223372036854775807
              · rw [if_pos c10] at H
                have c10b0 := eq_true c10
                have c10b1 : decide (x5_1.size + (rdOf ByteArray.empty l0 x6_1).size ≤ 9223372036854775807) = true := decide_eq_true c10
                try have c10b2 : (9223372036854775807 < x5_1.size + (rdOf ByteArray.empty l0 x6_1).size) = False := eq_false (Nat.not_lt.2 c10)
                have H' := Aside0.mk H
                clear H
                have p211 : 0 ≤ (x6_1 : Int) := of_decide_eq_true (by first | (with_reducible assumption) | assumption)
                have q211 : x6_1 < (l0.length : Int) := of_decide_eq_true (by first | (with_reducible assumption) | assumption)
                obtain ⟨ad211, e211, hx211_0⟩ := Kd.at_string HR0.out x6_1 p211 q211
                cases e211
                replace p211 := eq_true p211
                replace q211 := eq_true q211
                go_wp2
                go_roundg k1
                case measure => have := HK1.out; omega
                case rel => (try simp only [hji4]); exact ⟨(x5_1 ++ (rdOf ByteArray.empty l0 x6_1)), (wrap64 (x6_1 + 1)), (by first | rfl | (simp; done) | (simp [*]; done)), (by first | rfl | (simp; done) | (simp [*]; done)), H', ⟨by have := HK1.out; omega⟩, by repeat (first | exact Drawn0.refl _ | apply Drawn0.step)⟩
              · rw [if_neg c10] at H
                exact absurd H (by simp)
            · rw [if_neg c9] at H
              exact absurd H (by simp)
        · rw [if_neg c4] at H
          have c4b0 : decide (x6_1 < (l0.length : Int)) = false := decide_eq_false c4
          clear c4
          simp only [Option.some.injEq, Prod.mk.injEq] at H
          obtain ⟨rfl, rfl⟩ := H
          go_wp2
          go_ret2
          exact ⟨by first | rfl | (simp; done) | (simp [*]; done), by repeat (first | exact Drawn0.refl _ | apply Drawn0.step)⟩
  · rw [if_neg c3] at H
    have c3b0 : (t209 == 0) = false := beq_eq_false_iff_ne.mpr c3
    have c3b1 : (t209 != 0) = true := bne_iff_ne.mpr c3
    simp only [Option.some.injEq, Prod.mk.injEq] at H
    obtain ⟨rfl, rfl⟩ := H
    go_enter Tryd.func16, Tryd.ntmps16
    go_wp2_with (first | ((with_reducible refine gate_callee (f := 21) rfl ?_); refine goesL_ (some 8) rfl rfl Tryd.func21 (by kernel_rfl) rfl #[.slice A0 l0.length c0] rfl (by (try simp only [List.map_toArray, List.map_cons, List.map_nil]); first | done | rfl | (simp only [List.length_drop, List.length_take]; rfl)) ?_; (with_reducible refine (halterref16_checked.calls k _ _ l0 t209 _ ?side1 ?side2 A2.out).mono ?_); (case side1 => repeat (first | exact HR0.out | (with_reducible refine Kd.C_alloc ?_ _) | (with_reducible refine Kd.C_drewN ?_ _) | (with_reducible refine Kd.C_drew ?_))); (case side2 => exact HC0.out); rintro e w' ⟨rfl, ⟨nd, rfl⟩⟩; refine ⟨_, rfl, ?_⟩))
    go_ret2
    exact ⟨by first | rfl | (simp; done) | (simp [*]; done), by repeat (first | exact Drawn0.refl _ | apply Drawn0.step)⟩

/-! ### halterlaw16_PathBack: function 4 -/
mutual
def halterlaw16_PathBack.l0 : Nat → List ByteArray → Int → Int → Option (Bool)
  | 0, _, _, _ => none
  | k + 1, x0, x3, x4 => if x4 < (x0.length : Int) then (if 0 ≤ x4 then (if (x0.length : Int) > 60 then ((halterlaw16_sure.f k).bind fun t213 => (some t213)) else (if (wrap64 (x3 + (mn ((rdOf ByteArray.empty x0 x4).size : Int) 600))) > 500 then ((halterlaw16_sure.f k).bind fun t214 => (some t214)) else (halterlaw16_PathBack.l0 k x0 (wrap64 (x3 + (mn ((rdOf ByteArray.empty x0 x4).size : Int) 600))) (wrap64 (x4 + 1))))) else (none)) else ((path_Join.f k x0).bind fun bt215 => ((halterref16_Join.f k x0).bind fun bt217 => (if bt215.1.toList = bt217.1.toList then ((halterlaw16_num.f bt215.2).bind fun t219 => (halterlaw16_PathBack.j1 k x0 bt215.1 bt215.2 (t219 != bt217.2))) else (halterlaw16_PathBack.j1 k x0 bt215.1 bt215.2 true))))
def halterlaw16_PathBack.j1 : Nat → List ByteArray → ByteArray → Option Int → Bool → Option (Bool)
  | 0, _, _, _, _ => none
  | k + 1, x0, x5, x6, x55 => if x55 = true then (some false) else (if x6.isNone = true then ((path_Split.f k x5).bind fun bt221 => (if 1 + x5.size ≤ 9223372036854775807 then (if ((⟨#[47]⟩ : ByteArray) ++ x5).size + 2 ≤ 9223372036854775807 then ((path_Split.f k (((⟨#[47]⟩ : ByteArray) ++ x5) ++ (⟨#[47, 47]⟩ : ByteArray))).bind fun bt226 => (if bt221.2.2.isNone = true then (if bt226.2.2.isNone = true then (if bt221.2.1 = true then (if bt226.2.1 = true then ((halterlaw16_texts.f k bt221.1 x0).bind fun t233 => (if t233 = true then ((halterlaw16_texts.f k bt226.1 x0).bind fun t234 => (if t234 = true then ((halterlaw16_sure.f k).bind fun t235 => (some t235)) else (some false))) else (some false))) else (some false)) else (some false)) else (some false)) else (some false))) else (none)) else (none))) else ((halterlaw16_sure.f k).bind fun t236 => (some t236)))
end
def halterlaw16_PathBack.f (k : Nat) (l0 : List ByteArray) : Option (Bool) := halterlaw16_PathBack.l0 k l0 0 0
theorem halterlaw16_PathBack.mono_l : ∀ k, (∀ y0 y1 y2, LeO (halterlaw16_PathBack.l0 k y0 y1 y2) (halterlaw16_PathBack.l0 (k + 1) y0 y1 y2)) ∧ (∀ y0 y1 y2 y3, LeO (halterlaw16_PathBack.j1 k y0 y1 y2 y3) (halterlaw16_PathBack.j1 (k + 1) y0 y1 y2 y3))
  | 0 => ⟨fun _ _ _ r h => by simp [halterlaw16_PathBack.l0] at h, fun _ _ _ _ r h => by simp [halterlaw16_PathBack.j1] at h⟩
  | k + 1 => by
    obtain ⟨ih0, ih1⟩ := halterlaw16_PathBack.mono_l k
    refine ⟨?_, ?_⟩
    · intro y0 y1 y2
      unfold halterlaw16_PathBack.l0
      repeat' first
      | (with_reducible exact ih0 _ _ _)
      | (with_reducible exact ih1 _ _ _ _)
      | (with_reducible exact halterlaw16_sure.mono _)
      | (with_reducible exact halterlaw16_texts.mono _ _ _)
      | (with_reducible exact halterref16_Join.mono _ _)
      | (with_reducible exact path_Join.mono _ _)
      | (with_reducible exact path_Split.mono _ _)
      | (with_reducible exact LeO.refl _)
      | (with_reducible exact LeO.none _)
      | (with_reducible refine LeO.ite ?_ ?_)
      | (with_reducible refine LeO.bind ?_ (fun _ => ?_))
      | exact ih0 _ _ _
      | exact ih1 _ _ _ _
      | exact halterlaw16_sure.mono _
      | exact halterlaw16_texts.mono _ _ _
      | exact halterref16_Join.mono _ _
      | exact path_Join.mono _ _
      | exact path_Split.mono _ _
      | exact LeO.none _
      | refine LeO.ite ?_ ?_
      | refine LeO.bind ?_ (fun _ => ?_)
    · intro y0 y1 y2 y3
      unfold halterlaw16_PathBack.j1
      repeat' first
      | (with_reducible exact ih0 _ _ _)
      | (with_reducible exact ih1 _ _ _ _)
      | (with_reducible exact halterlaw16_sure.mono _)
      | (with_reducible exact halterlaw16_texts.mono _ _ _)
      | (with_reducible exact halterref16_Join.mono _ _)
      | (with_reducible exact path_Join.mono _ _)
      | (with_reducible exact path_Split.mono _ _)
      | (with_reducible exact LeO.refl _)
      | (with_reducible exact LeO.none _)
      | (with_reducible refine LeO.ite ?_ ?_)
      | (with_reducible refine LeO.bind ?_ (fun _ => ?_))
      | exact ih0 _ _ _
      | exact ih1 _ _ _ _
      | exact halterlaw16_sure.mono _
      | exact halterlaw16_texts.mono _ _ _
      | exact halterref16_Join.mono _ _
      | exact path_Join.mono _ _
      | exact path_Split.mono _ _
      | exact LeO.none _
      | refine LeO.ite ?_ ?_
      | refine LeO.bind ?_ (fun _ => ?_)
theorem halterlaw16_PathBack.mono : ∀ a0 k, LeO (halterlaw16_PathBack.f k a0) (halterlaw16_PathBack.f (k + 1) a0) := by
  intro a0 k
  obtain ⟨ih0, ih1⟩ := halterlaw16_PathBack.mono_l k
  unfold halterlaw16_PathBack.f
  repeat' first
      | (with_reducible exact ih0 _ _ _)
      | (with_reducible exact ih1 _ _ _ _)
      | (with_reducible exact halterlaw16_sure.mono _)
      | (with_reducible exact halterlaw16_texts.mono _ _ _)
      | (with_reducible exact halterref16_Join.mono _ _)
      | (with_reducible exact path_Join.mono _ _)
      | (with_reducible exact path_Split.mono _ _)
      | (with_reducible exact LeO.refl _)
      | (with_reducible exact LeO.none _)
      | (with_reducible refine LeO.ite ?_ ?_)
      | (with_reducible refine LeO.bind ?_ (fun _ => ?_))
      | exact ih0 _ _ _
      | exact ih1 _ _ _ _
      | exact halterlaw16_sure.mono _
      | exact halterlaw16_texts.mono _ _ _
      | exact halterref16_Join.mono _ _
      | exact path_Join.mono _ _
      | exact path_Split.mono _ _
      | exact LeO.none _
      | refine LeO.ite ?_ ?_
      | refine LeO.bind ?_ (fun _ => ?_)
set_option maxHeartbeats 8000000 in
set_option maxRecDepth 100000 in
theorem halterlaw16_PathBack.calls (k : Nat) (A0 : Option Addr) (c0 : Nat) (l0 : List ByteArray) (r : Bool) (w : World) (hr0 : Kd.C Kd.string w A0 l0.length l0) (hc0 : l0.length ≤ c0) (h : halterlaw16_PathBack.f k l0 = some r) (hTrue : Aside0 (r = true)) (hG : GOK w := by first | assumption | exact hG | exact GOK.below hG (by repeat (first | (with_reducible first | exact HB.out | apply below_alloc | apply pw_below_drewN | apply below_drew1) | exact HB.out))) :
    Calls Tryd.prog 4 #[.slice A0 l0.length c0] w fun e w' => e = .returned (.bool r) ∧ Below w.heap.size w w' := by
  have hu25 := Tryd.underlying25
  have hu44 := Tryd.underlying44
  have HR0 := Aside0.mk hr0
  have HC0 := Aside0.mk hc0
  clear hr0 hc0
  have HB := Aside0.mk (Below.refl w.heap.size w)
  have H : (halterlaw16_PathBack.l0 k l0 0 0) = some r := h
  clear h
  have H' := Aside0.mk H
  clear H
  go_enter Tryd.func4, Tryd.ntmps4
  go_wp2
  go_loopg [3, 4] k (fun kq v3 v4 w' => ∃ (x3_1 : Int) (x4_1 : Int), v3 = .int .i64 x3_1 ∧ v4 = .int .i64 x4_1 ∧ Aside0 (halterlaw16_PathBack.l0 kq l0 x3_1 x4_1 = some r) ∧ Aside0 (kq ≤ k) ∧ Aside0 (Below w.heap.size w w'))
  case atStart => exact ⟨(0), (0), (by first | rfl | (simp; done) | (simp [*]; done)), (by first | rfl | (simp; done) | (simp [*]; done)), H', ⟨Nat.le_refl _⟩, ⟨by repeat (first | (with_reducible first | exact HB.out | apply below_alloc | apply pw_below_drewN | apply below_drew1) | exact HB.out)⟩⟩
  case round =>
    clear H'
    obtain ⟨x3_1, x4_1, rfl, rfl, HA, HK1, HB⟩ := hrel
    cases gk with
    | zero => exact absurd HA.out (by simp [halterlaw16_PathBack.l0])
    | succ k1 =>
      have H := HA.out
      clear HA
      simp only [halterlaw16_PathBack.l0] at H
      by_cases c2 : x4_1 < (l0.length : Int)
      · rw [if_pos c2] at H
        have c2b0 : decide (x4_1 < (l0.length : Int)) = true := decide_eq_true c2
        clear c2
        by_cases c3 : 0 ≤ x4_1
        · rw [if_pos c3] at H
          have c3b0 : decide (0 ≤ x4_1) = true := decide_eq_true c3
          clear c3
          obtain ⟨ji4, hji4⟩ : ∃ j_ : Int, (mn ((rdOf ByteArray.empty l0 x4_1).size : Int) 600) = j_ := ⟨_, rfl⟩
          replace H : (if (l0.length : Int) > 60 then ((halterlaw16_sure.f k1).bind fun t213 => (some t213)) else (if (wrap64 (x3_1 + (ji4))) > 500 then ((halterlaw16_sure.f k1).bind fun t214 => (some t214)) else (halterlaw16_PathBack.l0 k1 l0 (wrap64 (x3_1 + (ji4))) (wrap64 (x4_1 + 1))))) = some r := by first | (rw [hji4] at H; exact H) | (simp only [hji4] at H ⊢; exact H)
          have hji4_ : (if 600 < ((rdOf ByteArray.empty l0 x4_1).size : Int) then 600 else ((rdOf ByteArray.empty l0 x4_1).size : Int)) = ji4 := hji4
          by_cases c5 : (l0.length : Int) > 60
          · rw [if_pos c5] at H
            have c5b0 : decide (60 < (l0.length : Int)) = true := decide_eq_true c5
            have c5b1 : decide (60 < l0.length) = true := decide_eq_true (by omega)
            clear c5
            replace H := Option.bind_eq_some_iff.mp H
            obtain ⟨t213, A60, H⟩ := H
            replace H : (some t213) = some r := H
            have A6 := Aside0.mk A60
            clear A60
            obtain rfl := Option.some.inj H
            have p212 : 0 ≤ (x4_1 : Int) := of_decide_eq_true (by first | (with_reducible assumption) | assumption)
            have q212 : x4_1 < (l0.length : Int) := of_decide_eq_true (by first | (with_reducible assumption) | assumption)
            obtain ⟨ad212, e212, hx212_0⟩ := Kd.at_string HR0.out x4_1 p212 q212
            cases e212
            replace hx212_0 := (HB.out.cell (World.block_lt_of_cell? w _ hx212_0)).trans hx212_0
            replace p212 := eq_true p212
            replace q212 := eq_true q212
            go_wp2_with (first | ((with_reducible refine gate_callee (f := 6) rfl ?_); refine goesL_ (some 36) rfl rfl Tryd.func6 (by kernel_rfl) rfl #[] rfl (by (try simp only [List.map_toArray, List.map_cons, List.map_nil]); first | done | rfl | (simp only [List.length_drop, List.length_take]; rfl)) ?_; (with_reducible refine (halterlaw16_sure.calls k1  t213 _ A6.out).mono ?_); rintro e w7 ⟨rfl, hb⟩; refine ⟨_, rfl, ?_⟩; have n0_ := Aside0.mk (below_step (by repeat (first | (with_reducible first | exact HB.out | apply below_alloc | apply pw_below_drewN | apply below_drew1) | exact HB.out)) hb); clear HB; have HB := n0_; clear n0_; (try clear hb); (try clear hb2); (try clear hk); (try clear hi)))
            go_ret
            exact ⟨by first | rfl | (simp [errW_none, errW_some] <;> rfl) | (simp only [← hji4]; first | rfl | (simp [errW_none, errW_some] <;> rfl)) | (simp [*, errW_none, errW_some] <;> rfl), by repeat (first | (with_reducible first | exact HB.out | apply below_alloc | apply pw_below_drewN | apply below_drew1) | exact HB.out)⟩
          · rw [if_neg c5] at H
            have c5b0 : decide (60 < (l0.length : Int)) = false := decide_eq_false c5
            have c5b1 : decide (60 < l0.length) = false := decide_eq_false (by omega)
            clear c5
            by_cases c8 : (wrap64 (x3_1 + (ji4))) > 500
            · rw [if_pos c8] at H
              have c8b0 : decide (500 < (wrap64 (x3_1 + (ji4)))) = true := decide_eq_true c8
              clear c8
              replace H := Option.bind_eq_some_iff.mp H
              obtain ⟨t214, A90, H⟩ := H
              replace H : (some t214) = some r := H
              have A9 := Aside0.mk A90
              clear A90
              obtain rfl := Option.some.inj H
              have p212 : 0 ≤ (x4_1 : Int) := of_decide_eq_true (by first | (with_reducible assumption) | assumption)
              have q212 : x4_1 < (l0.length : Int) := of_decide_eq_true (by first | (with_reducible assumption) | assumption)
              obtain ⟨ad212, e212, hx212_0⟩ := Kd.at_string HR0.out x4_1 p212 q212
              cases e212
              replace hx212_0 := (HB.out.cell (World.block_lt_of_cell? w _ hx212_0)).trans hx212_0
              replace p212 := eq_true p212
              replace q212 := eq_true q212
              go_wp2_with (first | ((with_reducible refine gate_callee (f := 6) rfl ?_); refine goesL_ (some 36) rfl rfl Tryd.func6 (by kernel_rfl) rfl #[] rfl (by (try simp only [List.map_toArray, List.map_cons, List.map_nil]); first | done | rfl | (simp only [List.length_drop, List.length_take]; rfl)) ?_; (with_reducible refine (halterlaw16_sure.calls k1  t214 _ A9.out).mono ?_); rintro e w10 ⟨rfl, hb⟩; refine ⟨_, rfl, ?_⟩; have n0_ := Aside0.mk (below_step (by repeat (first | (with_reducible first | exact HB.out | apply below_alloc | apply pw_below_drewN | apply below_drew1) | exact HB.out)) hb); clear HB; have HB := n0_; clear n0_; (try clear hb); (try clear hb2); (try clear hk); (try clear hi)))
              go_ret
              exact ⟨by first | rfl | (simp [errW_none, errW_some] <;> rfl) | (simp only [← hji4]; first | rfl | (simp [errW_none, errW_some] <;> rfl)) | (simp [*, errW_none, errW_some] <;> rfl), by repeat (first | (with_reducible first | exact HB.out | apply below_alloc | apply pw_below_drewN | apply below_drew1) | exact HB.out)⟩
            · rw [if_neg c8] at H
              have c8b0 : decide (500 < (wrap64 (x3_1 + (ji4)))) = false := decide_eq_false c8
              clear c8
              have H' := Aside0.mk H
              clear H
              have p212 : 0 ≤ (x4_1 : Int) := of_decide_eq_true (by first | (with_reducible assumption) | assumption)
              have q212 : x4_1 < (l0.length : Int) := of_decide_eq_true (by first | (with_reducible assumption) | assumption)
              obtain ⟨ad212, e212, hx212_0⟩ := Kd.at_string HR0.out x4_1 p212 q212
              cases e212
              replace hx212_0 := (HB.out.cell (World.block_lt_of_cell? w _ hx212_0)).trans hx212_0
              replace p212 := eq_true p212
              replace q212 := eq_true q212
              go_wp2
              go_roundg k1
              case measure => have := HK1.out; omega
              case rel => (try simp only [hji4]); exact ⟨(wrap64 (x3_1 + (ji4))), (wrap64 (x4_1 + 1)), (by first | rfl | (simp; done) | (simp only [← hji4] <;> (first | rfl | simp)) | (simp [*]; done)), (by first | rfl | (simp; done) | (simp [*]; done)), H', ⟨by have := HK1.out; omega⟩, ⟨by repeat (first | (with_reducible first | exact HB.out | apply below_alloc | apply pw_below_drewN | apply below_drew1) | exact HB.out)⟩⟩
        · rw [if_neg c3] at H
          exact absurd H (by simp)
      · rw [if_neg c2] at H
        have c2b0 : decide (x4_1 < (l0.length : Int)) = false := decide_eq_false c2
        clear c2
        replace H := Option.bind_eq_some_iff.mp H
        obtain ⟨⟨t215, t216⟩, A110, H⟩ := H
        replace H : ((halterref16_Join.f k1 l0).bind fun bt217 => (if t215.toList = bt217.1.toList then ((halterlaw16_num.f t216).bind fun t219 => (halterlaw16_PathBack.j1 k1 l0 t215 t216 (t219 != bt217.2))) else (halterlaw16_PathBack.j1 k1 l0 t215 t216 true))) = some r := H
        have A11 := Aside0.mk A110
        clear A110
        replace H := Option.bind_eq_some_iff.mp H
        obtain ⟨⟨t217, t218⟩, A120, H⟩ := H
        replace H : (if t215.toList = t217.toList then ((halterlaw16_num.f t216).bind fun t219 => (halterlaw16_PathBack.j1 k1 l0 t215 t216 (t219 != t218))) else (halterlaw16_PathBack.j1 k1 l0 t215 t216 true)) = some r := H
        have A12 := Aside0.mk A120
        clear A120
        have HC13 := Aside0.mk H
        clear H
        go_upto_region 10 with (first | ((with_reducible refine gate_callee (f := 15) rfl ?_); refine goesL_ (some 39) rfl rfl Tryd.func15 (by kernel_rfl) rfl #[.slice A0 l0.length c0] rfl (by (try simp only [List.map_toArray, List.map_cons, List.map_nil]); first | done | rfl | (simp only [List.length_drop, List.length_take]; rfl)) ?_; (with_reducible refine (path_Join.calls k1 _ _ l0 t215 t216 _ ?side1 ?side2 A11.out).mono ?_); (case side1 => repeat (first | exact (Kd.C_below HR0.out HB.out) | (with_reducible refine Kd.C_alloc ?_ _) | (with_reducible refine Kd.C_drewN ?_ _) | (with_reducible refine Kd.C_drew ?_))); (case side2 => exact HC0.out); rintro e w14 ⟨rfl, hb⟩; refine ⟨_, rfl, ?_⟩; have n0_ := Aside0.mk (below_step (by repeat (first | (with_reducible first | exact HB.out | apply below_alloc | apply pw_below_drewN | apply below_drew1) | exact HB.out)) hb); clear HB; have HB := n0_; clear n0_; (try clear hb); (try clear hb2); (try clear hk); (try clear hi); (try simp only [errW_none, errW_some])) | ((with_reducible refine gate_callee (f := 16) rfl ?_); refine goesL_ (some 44) rfl rfl Tryd.func16 (by kernel_rfl) rfl #[.slice A0 l0.length c0] rfl (by (try simp only [List.map_toArray, List.map_cons, List.map_nil]); first | done | rfl | (simp only [List.length_drop, List.length_take]; rfl)) ?_; (with_reducible refine (halterref16_Join.calls k1 _ _ l0 t217 t218 _ ?side1 ?side2 A12.out).mono ?_); (case side1 => repeat (first | exact (Kd.C_below HR0.out HB.out) | (with_reducible refine Kd.C_alloc ?_ _) | (with_reducible refine Kd.C_drewN ?_ _) | (with_reducible refine Kd.C_drew ?_))); (case side2 => exact HC0.out); rintro e w' ⟨rfl, ⟨nd, rfl⟩⟩; refine ⟨_, rfl, ?_⟩))
        (try simp only [Act.put, List.setIfInBounds_toArray, List.set_cons_zero, List.set_cons_succ])
        go_cut [55] (fun v55 wc => ∃ (kq : Nat) (x55_12 : Bool), v55 = .bool x55_12 ∧ Aside0 (halterlaw16_PathBack.j1 kq l0 t215 t216 x55_12 = some r) ∧ Aside0 (kq ≤ k1) ∧ Aside0 (Below w.heap.size w wc))
        case first =>
          have H := HC13.out
          clear HC13
          by_cases c15 : t215.toList = t217.toList
          · rw [if_pos c15] at H
            have c15b0 : (t215.toList == t217.toList) = true := beq_iff_eq.mpr c15
            have c15b1 : (t215.toList != t217.toList) = false := bne_eq_false_iff_eq.mpr c15
            clear c15
            (first | rw [c15b0] | (simp only [i64_w, i32_w]; rw [c15b0]) | skip)
            replace H := Option.bind_eq_some_iff.mp H
            obtain ⟨t219, A160, H⟩ := H
            replace H : (halterlaw16_PathBack.j1 k1 l0 t215 t216 (t219 != t218)) = some r := H
            have A16 := Aside0.mk A160
            clear A160
            have H' := Aside0.mk H
            clear H
            have CA16 := fun W (hG_ : GOK W) => halterlaw16_num.calls t216 t219 W A16.out hG_
            try simp only [errW_none, errW_some] at CA16
            go_wp2_with (first | (go_at_call 12; (with_reducible refine (CA16 _ (by first | assumption | exact hG | exact GOK.below hG (by repeat (first | (with_reducible first | exact HB.out | apply below_alloc | apply pw_below_drewN | apply below_drew1) | exact HB.out)))).mono ?_); rintro e w17 ⟨rfl, hb⟩; have n0_ := Aside0.mk (below_step (by repeat (first | (with_reducible first | exact HB.out | apply below_alloc | apply pw_below_drewN | apply below_drew1) | exact HB.out)) hb); clear HB; have HB := n0_; clear n0_; (try clear hb); (try clear hb2); (try clear hk); (try clear hi)))
            go_meet
            case rel => (try simp only [hji4]); exact ⟨_, ((t219 != t218)), (by first | rfl | (simp; done) | (simp [*]; done)), H', ⟨by have := HK1.out; first | omega | exact Nat.le_refl _⟩, ⟨by repeat (first | (with_reducible first | exact HB.out | apply below_alloc | apply pw_below_drewN | apply below_drew1) | exact HB.out)⟩⟩
          · rw [if_neg c15] at H
            have c15b0 : (t215.toList == t217.toList) = false := beq_eq_false_iff_ne.mpr c15
            have c15b1 : (t215.toList != t217.toList) = true := bne_iff_ne.mpr c15
            (first | rw [c15b0] | (simp only [i64_w, i32_w]; rw [c15b0]) | skip)
            have H' := Aside0.mk H
            clear H
            go_wp2
            go_meet
            case rel => (try simp only [hji4]); exact ⟨_, (true), (by first | rfl | (simp; done) | (simp [*]; done)), H', ⟨by have := HK1.out; first | omega | exact Nat.le_refl _⟩, ⟨by repeat (first | (with_reducible first | exact HB.out | apply below_alloc | apply pw_below_drewN | apply below_drew1) | exact HB.out)⟩⟩
        case rest =>
          clear HC13
          try clear c1
          try clear c2
          try clear c2b0
          try clear p2
          try clear q2
          try clear hx2
          try clear c3
          try clear c3b0
          try clear c4
          try clear c5
          try clear c5b0
          try clear c5b1
          try clear c6
          try clear p6
          try clear c8
          try clear c8b0
          try clear c15
          try clear c15b0
          try clear c15b1
          try clear c16
          try clear hx212_0
          try clear p212
          try clear q212
          obtain ⟨kq, x55_12, rfl, HA, HJ12, HB⟩ := hcut
          cases kq with
          | zero => exact absurd HA.out (by simp [halterlaw16_PathBack.j1])
          | succ kj12 =>
            have H := HA.out
            clear HA
            simp only [halterlaw16_PathBack.j1] at H
            by_cases c18 : x55_12 = true
            · subst c18
              have H1 : (some false) = some r := by rw [if_pos rfl] at H; exact H
              clear H
              have H := H1
              clear H1
              obtain rfl := Option.some.inj H
              exact absurd hTrue.out (by decide)
            · replace c18 := Bool.eq_false_iff.mpr c18
              subst c18
              have H1 : (if t216.isNone = true then ((path_Split.f kj12 t215).bind fun bt221 => (if 1 + t215.size ≤ 9223372036854775807 then (if ((⟨#[47]⟩ : ByteArray) ++ t215).size + 2 ≤ 9223372036854775807 then ((path_Split.f kj12 (((⟨#[47]⟩ : ByteArray) ++ t215) ++ (⟨#[47, 47]⟩ : ByteArray))).bind fun bt226 => (if bt221.2.2.isNone = true then (if bt226.2.2.isNone = true then (if bt221.2.1 = true then (if bt226.2.1 = true then ((halterlaw16_texts.f kj12 bt221.1 l0).bind fun t233 => (if t233 = true then ((halterlaw16_texts.f kj12 bt226.1 l0).bind fun t234 => (if t234 = true then ((halterlaw16_sure.f kj12).bind fun t235 => (some t235)) else (some false))) else (some false))) else (some false)) else (some false)) else (some false)) else (some false))) else (none)) else (none))) else ((halterlaw16_sure.f kj12).bind fun t236 => (some t236))) = some r := by rw [if_neg (show ¬ (false = true) by decide)] at H; exact H
              clear H
              have H := H1
              clear H1
              rcases t216 with _ | q220
              · have H1 : ((path_Split.f kj12 t215).bind fun bt221 => (if 1 + t215.size ≤ 9223372036854775807 then (if ((⟨#[47]⟩ : ByteArray) ++ t215).size + 2 ≤ 9223372036854775807 then ((path_Split.f kj12 (((⟨#[47]⟩ : ByteArray) ++ t215) ++ (⟨#[47, 47]⟩ : ByteArray))).bind fun bt226 => (if bt221.2.2.isNone = true then (if bt226.2.2.isNone = true then (if bt221.2.1 = true then (if bt226.2.1 = true then ((halterlaw16_texts.f kj12 bt221.1 l0).bind fun t233 => (if t233 = true then ((halterlaw16_texts.f kj12 bt226.1 l0).bind fun t234 => (if t234 = true then ((halterlaw16_sure.f kj12).bind fun t235 => (some t235)) else (some false))) else (some false))) else (some false)) else (some false)) else (some false)) else (some false))) else (none)) else (none))) = some r := by rw [if_pos (show (none : Option Int).isNone = true by rfl)] at H; exact H
                clear H
                have H := H1
                clear H1
                try simp only [errW_none, errW_some]
                replace H := Option.bind_eq_some_iff.mp H
                obtain ⟨⟨t221, t222, t223⟩, A190, H⟩ := H
                replace H : (if 1 + t215.size ≤ 9223372036854775807 then (if ((⟨#[47]⟩ : ByteArray) ++ t215).size + 2 ≤ 9223372036854775807 then ((path_Split.f kj12 (((⟨#[47]⟩ : ByteArray) ++ t215) ++ (⟨#[47, 47]⟩ : ByteArray))).bind fun bt226 => (if t223.isNone = true then (if bt226.2.2.isNone = true then (if t222 = true then (if bt226.2.1 = true then ((halterlaw16_texts.f kj12 t221 l0).bind fun t233 => (if t233 = true then ((halterlaw16_texts.f kj12 bt226.1 l0).bind fun t234 => (if t234 = true then ((halterlaw16_sure.f kj12).bind fun t235 => (some t235)) else (some false))) else (some false))) else (some false)) else (some false)) else (some false)) else (some false))) else (none)) else (none)) = some r := H
                have A19 := Aside0.mk A190
                clear A190
                by_cases c20 : 1 + t215.size ≤ 9223372036854775807
                · rw [if_pos c20] at H
                  have c20b0 := eq_true c20
                  have c20b1 : decide (1 + t215.size ≤ 9223372036854775807) = true := decide_eq_true c20
                  try have c20b2 : (9223372036854775807 < 1 + t215.size) = False := eq_false (Nat.not_lt.2 c20)
                  by_cases c21 : ((⟨#[47]⟩ : ByteArray) ++ t215).size + 2 ≤ 9223372036854775807
                  · rw [if_pos c21] at H
                    have c21b0 := eq_true c21
                    have c21b1 : decide (((⟨#[47]⟩ : ByteArray) ++ t215).size + 2 ≤ 9223372036854775807) = true := decide_eq_true c21
                    try have c21b2 : (9223372036854775807 < ((⟨#[47]⟩ : ByteArray) ++ t215).size + 2) = False := eq_false (Nat.not_lt.2 c21)
                    have c21n : (9223372036854775807 < 1 + t215.size + 2) = False := eq_false (by have h_ : ((⟨#[47]⟩ : ByteArray) ++ t215).size = 1 + t215.size := ByteArray.size_append; omega)
                    replace H := Option.bind_eq_some_iff.mp H
                    obtain ⟨⟨t226, t227, t228⟩, A220, H⟩ := H
                    replace H : (if t223.isNone = true then (if t228.isNone = true then (if t222 = true then (if t227 = true then ((halterlaw16_texts.f kj12 t221 l0).bind fun t233 => (if t233 = true then ((halterlaw16_texts.f kj12 t226 l0).bind fun t234 => (if t234 = true then ((halterlaw16_sure.f kj12).bind fun t235 => (some t235)) else (some false))) else (some false))) else (some false)) else (some false)) else (some false)) else (some false)) = some r := H
                    have A22 := Aside0.mk A220
                    clear A220
                    rcases t223 with _ | q231
                    · have H1 : (if t228.isNone = true then (if t222 = true then (if t227 = true then ((halterlaw16_texts.f kj12 t221 l0).bind fun t233 => (if t233 = true then ((halterlaw16_texts.f kj12 t226 l0).bind fun t234 => (if t234 = true then ((halterlaw16_sure.f kj12).bind fun t235 => (some t235)) else (some false))) else (some false))) else (some false)) else (some false)) else (some false)) = some r := by rw [if_pos (show (none : Option Int).isNone = true by rfl)] at H; exact H
                      clear H
                      have H := H1
                      clear H1
                      try simp only [errW_none, errW_some]
                      rcases t228 with _ | q232
                      · have H1 : (if t222 = true then (if t227 = true then ((halterlaw16_texts.f kj12 t221 l0).bind fun t233 => (if t233 = true then ((halterlaw16_texts.f kj12 t226 l0).bind fun t234 => (if t234 = true then ((halterlaw16_sure.f kj12).bind fun t235 => (some t235)) else (some false))) else (some false))) else (some false)) else (some false)) = some r := by rw [if_pos (show (none : Option Int).isNone = true by rfl)] at H; exact H
                        clear H
                        have H := H1
                        clear H1
                        try simp only [errW_none, errW_some]
                        by_cases c23 : t222 = true
                        · subst c23
                          have H1 : (if t227 = true then ((halterlaw16_texts.f kj12 t221 l0).bind fun t233 => (if t233 = true then ((halterlaw16_texts.f kj12 t226 l0).bind fun t234 => (if t234 = true then ((halterlaw16_sure.f kj12).bind fun t235 => (some t235)) else (some false))) else (some false))) else (some false)) = some r := by rw [if_pos rfl] at H; exact H
                          clear H
                          have H := H1
                          clear H1
                          by_cases c24 : t227 = true
                          · subst c24
                            have H1 : ((halterlaw16_texts.f kj12 t221 l0).bind fun t233 => (if t233 = true then ((halterlaw16_texts.f kj12 t226 l0).bind fun t234 => (if t234 = true then ((halterlaw16_sure.f kj12).bind fun t235 => (some t235)) else (some false))) else (some false))) = some r := by rw [if_pos rfl] at H; exact H
                            clear H
                            have H := H1
                            clear H1
                            replace H := Option.bind_eq_some_iff.mp H
                            obtain ⟨t233, A250, H⟩ := H
                            replace H : (if t233 = true then ((halterlaw16_texts.f kj12 t226 l0).bind fun t234 => (if t234 = true then ((halterlaw16_sure.f kj12).bind fun t235 => (some t235)) else (some false))) else (some false)) = some r := H
                            have A25 := Aside0.mk A250
                            clear A250
                            by_cases c26 : t233 = true
                            · subst c26
                              have H1 : ((halterlaw16_texts.f kj12 t226 l0).bind fun t234 => (if t234 = true then ((halterlaw16_sure.f kj12).bind fun t235 => (some t235)) else (some false))) = some r := by rw [if_pos rfl] at H; exact H
                              clear H
                              have H := H1
                              clear H1
                              replace H := Option.bind_eq_some_iff.mp H
                              obtain ⟨t234, A270, H⟩ := H
                              replace H : (if t234 = true then ((halterlaw16_sure.f kj12).bind fun t235 => (some t235)) else (some false)) = some r := H
                              have A27 := Aside0.mk A270
                              clear A270
                              by_cases c28 : t234 = true
                              · subst c28
                                have H1 : ((halterlaw16_sure.f kj12).bind fun t235 => (some t235)) = some r := by rw [if_pos rfl] at H; exact H
                                clear H
                                have H := H1
                                clear H1
                                replace H := Option.bind_eq_some_iff.mp H
                                obtain ⟨t235, A290, H⟩ := H
                                replace H : (some t235) = some r := H
                                have A29 := Aside0.mk A290
                                clear A290
                                obtain rfl := Option.some.inj H
                                go_wp2_with (first | ((with_reducible refine gate_callee (f := 7) rfl ?_); refine goesL_ (some 61) rfl rfl Tryd.func7 (by kernel_rfl) rfl #[.string t215] rfl (by (try simp only [List.map_toArray, List.map_cons, List.map_nil]); first | done | rfl | (simp only [List.length_drop, List.length_take]; rfl)) ?_; (with_reducible refine (path_Split.calls kj12 t215 t221 true none _ A19.out).mono ?_); rintro e w30 ⟨v224, rfl, ho0, hb⟩; refine ⟨_, rfl, ?_⟩; have n0_ := Aside0.mk (Kd.R_lower ho0 (below_size (by repeat (first | (with_reducible first | exact HB.out | apply below_alloc | apply pw_below_drewN | apply below_drew1) | exact HB.out)))); have n1_ := Aside0.mk (below_step (by repeat (first | (with_reducible first | exact HB.out | apply below_alloc | apply pw_below_drewN | apply below_drew1) | exact HB.out)) hb); clear HB; have HO225 := n0_; have HB := n1_; clear n0_ n1_; (try clear hb); (try clear hb2); (try clear hk); (try clear hi); (try clear ho0); (try simp only [errW_none, errW_some])) | ((with_reducible refine gate_callee (f := 7) rfl ?_); refine goesL_ (some 69) rfl rfl Tryd.func7 (by kernel_rfl) rfl #[.string (((⟨#[47]⟩ : ByteArray) ++ t215) ++ (⟨#[47, 47]⟩ : ByteArray))] rfl (by (try simp only [List.map_toArray, List.map_cons, List.map_nil]); first | done | rfl | (simp only [List.length_drop, List.length_take]; rfl)) ?_; (with_reducible refine (path_Split.calls kj12 (((⟨#[47]⟩ : ByteArray) ++ t215) ++ (⟨#[47, 47]⟩ : ByteArray)) t226 true none _ A22.out).mono ?_); rintro e w31 ⟨v229, rfl, ho0, hb⟩; refine ⟨_, rfl, ?_⟩; have n0_ := Aside0.mk (Kd.R_elder' (by (with_reducible repeat (first | apply Kd.R_alloc | apply Kd.R_drewN | apply Kd.R_drew)); exact HO225.out) (Kd.R_base ho0) hb); have n1_ := Aside0.mk (Kd.R_lower (Kd.R_new' ho0 (Kd.R_lt (by (with_reducible repeat (first | apply Kd.R_alloc | apply Kd.R_drewN | apply Kd.R_drew)); exact HO225.out))) (below_size (by repeat (first | (with_reducible first | exact HB.out | apply below_alloc | apply pw_below_drewN | apply below_drew1) | exact HB.out)))); have n2_ := Aside0.mk (below_step (by repeat (first | (with_reducible first | exact HB.out | apply below_alloc | apply pw_below_drewN | apply below_drew1) | exact HB.out)) hb); clear HO225; clear HB; have HO225 := n0_; have HO230 := n1_; have HB := n2_; clear n0_ n1_ n2_; (try clear hb); (try clear hb2); (try clear hk); (try clear hi); (try clear ho0); (try simp only [errW_none, errW_some]); obtain ⟨Ao32, co32, eo32⟩ := Kd.R_slice HO225.out; subst eo32) | (go_at_call 11; (with_reducible refine (halterlaw16_texts.calls kj12 _ _ t221 _ _ l0 true _ ?side1 ?side2 ?side3 ?side4 A25.out).mono ?_); (case side1 => repeat (first | exact (Kd.R_reads' HO225.out).2.2 | (with_reducible refine Kd.C_alloc ?_ _) | (with_reducible refine Kd.C_drewN ?_ _) | (with_reducible refine Kd.C_drew ?_))); (case side2 => exact (Kd.R_reads' HO225.out).2.1); (case side3 => repeat (first | exact (Kd.C_below HR0.out HB.out) | (with_reducible refine Kd.C_alloc ?_ _) | (with_reducible refine Kd.C_drewN ?_ _) | (with_reducible refine Kd.C_drew ?_))); (case side4 => exact HC0.out); rintro e w' ⟨rfl, ⟨nd, rfl⟩⟩; obtain ⟨Ao33, co33, eo33⟩ := Kd.R_slice HO230.out; subst eo33) | (go_at_call 11; (with_reducible refine (halterlaw16_texts.calls kj12 _ _ t226 _ _ l0 true _ ?side1 ?side2 ?side3 ?side4 A27.out).mono ?_); (case side1 => repeat (first | exact (Kd.R_reads' HO230.out).2.2 | (with_reducible refine Kd.C_alloc ?_ _) | (with_reducible refine Kd.C_drewN ?_ _) | (with_reducible refine Kd.C_drew ?_))); (case side2 => exact (Kd.R_reads' HO230.out).2.1); (case side3 => repeat (first | exact (Kd.C_below HR0.out (by repeat (first | (with_reducible first | exact HB.out | apply below_alloc | apply pw_below_drewN | apply below_drew1) | exact HB.out))) | (with_reducible refine Kd.C_alloc ?_ _) | (with_reducible refine Kd.C_drewN ?_ _) | (with_reducible refine Kd.C_drew ?_))); (case side4 => exact HC0.out); rintro e w' ⟨rfl, ⟨nd, rfl⟩⟩) | (go_at_call 6; (with_reducible refine (halterlaw16_sure.calls kj12  t235 _ A29.out).mono ?_); rintro e w34 ⟨rfl, hb⟩; have n0_ := Aside0.mk (Kd.R_below (by (with_reducible repeat (first | apply Kd.R_alloc | apply Kd.R_drewN | apply Kd.R_drew)); exact HO225.out) hb); have n1_ := Aside0.mk (Kd.R_below (by (with_reducible repeat (first | apply Kd.R_alloc | apply Kd.R_drewN | apply Kd.R_drew)); exact HO230.out) hb); have n2_ := Aside0.mk (below_step (by repeat (first | (with_reducible first | exact HB.out | apply below_alloc | apply pw_below_drewN | apply below_drew1) | exact HB.out)) hb); clear HO225; clear HO230; clear HB; have HO225 := n0_; have HO230 := n1_; have HB := n2_; clear n0_ n1_ n2_; (try clear hb); (try clear hb2); (try clear hk); (try clear hi)))
                                go_ret
                                exact ⟨by first | rfl | (simp [errW_none, errW_some] <;> rfl) | (simp [*, errW_none, errW_some] <;> rfl), by repeat (first | (with_reducible first | exact HB.out | apply below_alloc | apply pw_below_drewN | apply below_drew1) | exact HB.out)⟩
                              · replace c28 := Bool.eq_false_iff.mpr c28
                                subst c28
                                have H1 : (some false) = some r := by rw [if_neg (show ¬ (false = true) by decide)] at H; exact H
                                clear H
                                have H := H1
                                clear H1
                                obtain rfl := Option.some.inj H
                                exact absurd hTrue.out (by decide)
                            · replace c26 := Bool.eq_false_iff.mpr c26
                              subst c26
                              have H1 : (some false) = some r := by rw [if_neg (show ¬ (false = true) by decide)] at H; exact H
                              clear H
                              have H := H1
                              clear H1
                              obtain rfl := Option.some.inj H
                              exact absurd hTrue.out (by decide)
                          · replace c24 := Bool.eq_false_iff.mpr c24
                            subst c24
                            have H1 : (some false) = some r := by rw [if_neg (show ¬ (false = true) by decide)] at H; exact H
                            clear H
                            have H := H1
                            clear H1
                            obtain rfl := Option.some.inj H
                            exact absurd hTrue.out (by decide)
                        · replace c23 := Bool.eq_false_iff.mpr c23
                          subst c23
                          have H1 : (some false) = some r := by rw [if_neg (show ¬ (false = true) by decide)] at H; exact H
                          clear H
                          have H := H1
                          clear H1
                          obtain rfl := Option.some.inj H
                          exact absurd hTrue.out (by decide)
                      · have H1 : (some false) = some r := by rw [if_neg (show ¬ (some q232).isNone = true by simp)] at H; exact H
                        clear H
                        have H := H1
                        clear H1
                        try simp only [errW_none, errW_some]
                        obtain rfl := Option.some.inj H
                        exact absurd hTrue.out (by decide)
                    · have H1 : (some false) = some r := by rw [if_neg (show ¬ (some q231).isNone = true by simp)] at H; exact H
                      clear H
                      have H := H1
                      clear H1
                      try simp only [errW_none, errW_some]
                      obtain rfl := Option.some.inj H
                      exact absurd hTrue.out (by decide)
                  · rw [if_neg c21] at H
                    exact absurd H (by simp)
                · rw [if_neg c20] at H
                  exact absurd H (by simp)
              · have H1 : ((halterlaw16_sure.f kj12).bind fun t236 => (some t236)) = some r := by rw [if_neg (show ¬ (some q220).isNone = true by simp)] at H; exact H
                clear H
                have H := H1
                clear H1
                try simp only [errW_none, errW_some]
                replace H := Option.bind_eq_some_iff.mp H
                obtain ⟨t236, A350, H⟩ := H
                replace H : (some t236) = some r := H
                have A35 := Aside0.mk A350
                clear A350
                obtain rfl := Option.some.inj H
                go_wp2_with (first | ((with_reducible refine gate_callee (f := 6) rfl ?_); refine goesL_ (some 58) rfl rfl Tryd.func6 (by kernel_rfl) rfl #[] rfl (by (try simp only [List.map_toArray, List.map_cons, List.map_nil]); first | done | rfl | (simp only [List.length_drop, List.length_take]; rfl)) ?_; (with_reducible refine (halterlaw16_sure.calls kj12  t236 _ A35.out).mono ?_); rintro e w36 ⟨rfl, hb⟩; refine ⟨_, rfl, ?_⟩; have n0_ := Aside0.mk (below_step (by repeat (first | (with_reducible first | exact HB.out | apply below_alloc | apply pw_below_drewN | apply below_drew1) | exact HB.out)) hb); clear HB; have HB := n0_; clear n0_; (try clear hb); (try clear hb2); (try clear hk); (try clear hi)))
                go_ret
                exact ⟨by first | rfl | (simp [errW_none, errW_some] <;> rfl) | (simp [*, errW_none, errW_some] <;> rfl), by repeat (first | (with_reducible first | exact HB.out | apply below_alloc | apply pw_below_drewN | apply below_drew1) | exact HB.out)⟩

end Go.Proofs.YtkfgaebakcpkhaaDoor.PA
