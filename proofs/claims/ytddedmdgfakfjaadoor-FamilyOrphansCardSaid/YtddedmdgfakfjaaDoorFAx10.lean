-- written by a program of this session (wip/oprint), after the kit's print
import Derived.Test.YtddedmdgfakfjaaDoorFAx0
import Derived.Test.YtddedmdgfakfjaaDoorFAx4
import Derived.Test.YtddedmdgfakfjaaDoorFAx5
import Derived.Test.YtddedmdgfakfjaaDoorONum
namespace Go.Proofs.YtddedmdgfakfjaaDoor.FA
open Go.RowKit Go.Proofs.YtddedmdgfakfjaaDoorW.PrintWords Go.Proofs.YtddedmdgfakfjaaDoorW.PrintLast Go.Proofs.YtddedmdgfakfjaaDoorW.PrintMore
attribute [local go_sem] max2_int min2_int max_two min_two max_three min_three max_four min_four   -- for this text's walks alone
set_option linter.unusedVariables false
set_option linter.unusedSimpArgs false

/-! ### halterlaw24_FamilyOrphans: function 4 -/
mutual
def halterlaw24_FamilyOrphans.j0 : Nat → Int → List (S39) → Bool → Option (Bool)
 | 0, _, _, _ => none
 | k + 1, x1, x5, x25 => if x25 = true then ((halterlaw24_sure.f k).bind fun t358 => (some t358)) else ((family_Children.f k x5 x1).bind fun t359 => ((family_Exit.f k x5 x1 9).bind fun bt362 => (if bt362.2.isNone = true then (halterlaw24_FamilyOrphans.l0 k x1 x5 t359 bt362.1 0) else ((halterlaw24_sure.f k).bind fun t388 => (some t388)))))
def halterlaw24_FamilyOrphans.l0 : Nat → Int → List (S39) → List Int → List (S39) → Int → Option (Bool)
 | 0, _, _, _, _, _ => none
 | k + 1, x1, x5, x6, x7, x9 => if x9 < (x5.length : Int) then (if 0 ≤ x9 then ((family_Find.f k x7 ((rd_T39 x5 x9).f0)).bind fun bt368 => (halterlaw24_FamilyOrphans.l1 k x1 x5 x6 x7 x9 bt368.2.2.2.2 ((rd_T39 x5 x9).f1) 0 bt368.1 bt368.2.1 bt368.2.2.1 bt368.2.2.2.1)) else (none)) else ((family_Exit.f k x7 x1 9).bind fun bt379 => (if (x7.length : Int) = (x5.length : Int) then ((family_Children.f k x7 x1).bind fun t383 => (if (t383.length : Int) = 0 then ((halterlaw24_num.f bt379.2).bind fun t386 => (if t386 = 3 then ((halterlaw24_sure.f k).bind fun t387 => (some t387)) else (some false))) else (some false))) else (some false)))
def halterlaw24_FamilyOrphans.l1 : Nat → Int → List (S39) → List Int → List (S39) → Int → Option Int → Int → Int → Int → Int → Bool → Int → Option (Bool)
 | 0, _, _, _, _, _, _, _, _, _, _, _, _ => none
 | k + 1, x1, x5, x6, x7, x9, x11, x12, x13, x374000, x374001, x374002, x374003 => if x13 < (x6.length : Int) then (if 0 ≤ x13 then (if (rd x6 x13) = x374000 then (halterlaw24_FamilyOrphans.l1 k x1 x5 x6 x7 x9 x11 1 (wrap64 (x13 + 1)) x374000 x374001 x374002 x374003) else (halterlaw24_FamilyOrphans.l1 k x1 x5 x6 x7 x9 x11 x12 (wrap64 (x13 + 1)) x374000 x374001 x374002 x374003)) else (none)) else (if x11.isNone = true then (if x374001 = x12 then (if x374000 = x1 then (if x374002 = true then (if x374003 = 9 then (halterlaw24_FamilyOrphans.l0 k x1 x5 x6 x7 (wrap64 (x9 + 1))) else (some false)) else (some false)) else (if 0 ≤ x9 then (if x9 < (x5.length : Int) then (if (x374002 != ((rd_T39 x5 x9).f2)) = true then (some false) else (if x374003 = ((rd_T39 x5 x9).f3) then (halterlaw24_FamilyOrphans.l0 k x1 x5 x6 x7 (wrap64 (x9 + 1))) else (some false))) else (none)) else (none))) else (some false)) else (some false))
end
def halterlaw24_FamilyOrphans.f (k : Nat) (l0 : List (S51)) (a1 : Int) : Option (Bool) := (halterlaw24_give.f k l0).bind fun t353 => (if (l0.length : Int) > 16 then (halterlaw24_FamilyOrphans.j0 k a1 t353 true) else ((family_Check.f k t353).bind fun t356 => (if t356.isNone = true then (halterlaw24_FamilyOrphans.j0 k a1 t353 false) else (halterlaw24_FamilyOrphans.j0 k a1 t353 true))))
theorem halterlaw24_FamilyOrphans.mono_l : ∀ k, (∀ y0 y1 y2, LeO (halterlaw24_FamilyOrphans.j0 k y0 y1 y2) (halterlaw24_FamilyOrphans.j0 (k + 1) y0 y1 y2)) ∧ (∀ y0 y1 y2 y3 y4, LeO (halterlaw24_FamilyOrphans.l0 k y0 y1 y2 y3 y4) (halterlaw24_FamilyOrphans.l0 (k + 1) y0 y1 y2 y3 y4)) ∧ (∀ y0 y1 y2 y3 y4 y5 y6 y7 y8 y9 y10 y11, LeO (halterlaw24_FamilyOrphans.l1 k y0 y1 y2 y3 y4 y5 y6 y7 y8 y9 y10 y11) (halterlaw24_FamilyOrphans.l1 (k + 1) y0 y1 y2 y3 y4 y5 y6 y7 y8 y9 y10 y11))
 | 0 => ⟨fun _ _ _ r h => by simp [halterlaw24_FamilyOrphans.j0] at h, fun _ _ _ _ _ r h => by simp [halterlaw24_FamilyOrphans.l0] at h, fun _ _ _ _ _ _ _ _ _ _ _ _ r h => by simp [halterlaw24_FamilyOrphans.l1] at h⟩
 | k + 1 => by
  obtain ⟨ih0, ih1, ih2⟩ := halterlaw24_FamilyOrphans.mono_l k
  refine ⟨?_, ?_, ?_⟩
  ·intro y0 y1 y2
   unfold halterlaw24_FamilyOrphans.j0
   repeat' first
   | (with_reducible exact ih0 _ _ _)
   | (with_reducible exact ih1 _ _ _ _ _)
   | (with_reducible exact ih2 _ _ _ _ _ _ _ _ _ _ _ _)
   | (with_reducible exact family_Check.mono _ _)
   | (with_reducible exact family_Children.mono _ _ _)
   | (with_reducible exact family_Exit.mono _ _ _ _)
   | (with_reducible exact family_Find.mono _ _ _)
   | (with_reducible exact halterlaw24_give.mono _ _)
   | (with_reducible exact halterlaw24_sure.mono _)
   | (with_reducible exact LeO.refl _)
   | (with_reducible exact LeO.none _)
   | (with_reducible refine LeO.ite ?_ ?_)
   | (with_reducible refine LeO.bind ?_ (fun _ => ?_))
   | exact ih0 _ _ _
   | exact ih1 _ _ _ _ _
   | exact ih2 _ _ _ _ _ _ _ _ _ _ _ _
   | exact family_Check.mono _ _
   | exact family_Children.mono _ _ _
   | exact family_Exit.mono _ _ _ _
   | exact family_Find.mono _ _ _
   | exact halterlaw24_give.mono _ _
   | exact halterlaw24_sure.mono _
   | exact LeO.none _
   | refine LeO.ite ?_ ?_
   | refine LeO.bind ?_ (fun _ => ?_)
  ·intro y0 y1 y2 y3 y4
   unfold halterlaw24_FamilyOrphans.l0
   repeat' first
   | (with_reducible exact ih0 _ _ _)
   | (with_reducible exact ih1 _ _ _ _ _)
   | (with_reducible exact ih2 _ _ _ _ _ _ _ _ _ _ _ _)
   | (with_reducible exact family_Check.mono _ _)
   | (with_reducible exact family_Children.mono _ _ _)
   | (with_reducible exact family_Exit.mono _ _ _ _)
   | (with_reducible exact family_Find.mono _ _ _)
   | (with_reducible exact halterlaw24_give.mono _ _)
   | (with_reducible exact halterlaw24_sure.mono _)
   | (with_reducible exact LeO.refl _)
   | (with_reducible exact LeO.none _)
   | (with_reducible refine LeO.ite ?_ ?_)
   | (with_reducible refine LeO.bind ?_ (fun _ => ?_))
   | exact ih0 _ _ _
   | exact ih1 _ _ _ _ _
   | exact ih2 _ _ _ _ _ _ _ _ _ _ _ _
   | exact family_Check.mono _ _
   | exact family_Children.mono _ _ _
   | exact family_Exit.mono _ _ _ _
   | exact family_Find.mono _ _ _
   | exact halterlaw24_give.mono _ _
   | exact halterlaw24_sure.mono _
   | exact LeO.none _
   | refine LeO.ite ?_ ?_
   | refine LeO.bind ?_ (fun _ => ?_)
  ·intro y0 y1 y2 y3 y4 y5 y6 y7 y8 y9 y10 y11
   unfold halterlaw24_FamilyOrphans.l1
   repeat' first
   | (with_reducible exact ih0 _ _ _)
   | (with_reducible exact ih1 _ _ _ _ _)
   | (with_reducible exact ih2 _ _ _ _ _ _ _ _ _ _ _ _)
   | (with_reducible exact family_Check.mono _ _)
   | (with_reducible exact family_Children.mono _ _ _)
   | (with_reducible exact family_Exit.mono _ _ _ _)
   | (with_reducible exact family_Find.mono _ _ _)
   | (with_reducible exact halterlaw24_give.mono _ _)
   | (with_reducible exact halterlaw24_sure.mono _)
   | (with_reducible exact LeO.refl _)
   | (with_reducible exact LeO.none _)
   | (with_reducible refine LeO.ite ?_ ?_)
   | (with_reducible refine LeO.bind ?_ (fun _ => ?_))
   | exact ih0 _ _ _
   | exact ih1 _ _ _ _ _
   | exact ih2 _ _ _ _ _ _ _ _ _ _ _ _
   | exact family_Check.mono _ _
   | exact family_Children.mono _ _ _
   | exact family_Exit.mono _ _ _ _
   | exact family_Find.mono _ _ _
   | exact halterlaw24_give.mono _ _
   | exact halterlaw24_sure.mono _
   | exact LeO.none _
   | refine LeO.ite ?_ ?_
   | refine LeO.bind ?_ (fun _ => ?_)
theorem halterlaw24_FamilyOrphans.mono : ∀ a0 a1 k, LeO (halterlaw24_FamilyOrphans.f k a0 a1) (halterlaw24_FamilyOrphans.f (k + 1) a0 a1) := by
 intro a0 a1 k
 obtain ⟨ih0, ih1, ih2⟩ := halterlaw24_FamilyOrphans.mono_l k
 unfold halterlaw24_FamilyOrphans.f
 repeat' first
   | (with_reducible exact ih0 _ _ _)
   | (with_reducible exact ih1 _ _ _ _ _)
   | (with_reducible exact ih2 _ _ _ _ _ _ _ _ _ _ _ _)
   | (with_reducible exact family_Check.mono _ _)
   | (with_reducible exact family_Children.mono _ _ _)
   | (with_reducible exact family_Exit.mono _ _ _ _)
   | (with_reducible exact family_Find.mono _ _ _)
   | (with_reducible exact halterlaw24_give.mono _ _)
   | (with_reducible exact halterlaw24_sure.mono _)
   | (with_reducible exact LeO.refl _)
   | (with_reducible exact LeO.none _)
   | (with_reducible refine LeO.ite ?_ ?_)
   | (with_reducible refine LeO.bind ?_ (fun _ => ?_))
   | exact ih0 _ _ _
   | exact ih1 _ _ _ _ _
   | exact ih2 _ _ _ _ _ _ _ _ _ _ _ _
   | exact family_Check.mono _ _
   | exact family_Children.mono _ _ _
   | exact family_Exit.mono _ _ _ _
   | exact family_Find.mono _ _ _
   | exact halterlaw24_give.mono _ _
   | exact halterlaw24_sure.mono _
   | exact LeO.none _
   | refine LeO.ite ?_ ?_
   | refine LeO.bind ?_ (fun _ => ?_)
set_option maxHeartbeats 8000000 in
set_option maxRecDepth 100000 in
theorem halterlaw24_FamilyOrphans.calls (k : Nat) (A0 : Option Addr) (c0 : Nat) (l0 : List (S51)) (a1 : Int) (r : Bool) (w : World) (hr0 : Kd.C k51 w A0 l0.length l0) (hc0 : l0.length ≤ c0) (h : halterlaw24_FamilyOrphans.f k l0 a1 = some r) (hTrue : Aside0 (r = true)) (hG : GOK w := by first | assumption | exact hG | exact GOK.below hG (hbx)) :
  Calls Tryd.prog 4 #[.slice A0 l0.length c0, .int .i64 a1] w fun e w' => e = .returned (.bool r) ∧ Below w.heap.size w w' := by
 have hu39 := Tryd.underlying39
 have hu29 := Tryd.underlying29
 have hu55 := Tryd.underlying55
 have HR0 := Aside0.mk hr0
 have HC0 := Aside0.mk hc0
 clear hr0 hc0
 have HB := Aside0.mk (Below.refl w.heap.size w)
 have H : ((halterlaw24_give.f k l0).bind fun t353 => (if (l0.length : Int) > 16 then (halterlaw24_FamilyOrphans.j0 k a1 t353 true) else ((family_Check.f k t353).bind fun t356 => (if t356.isNone = true then (halterlaw24_FamilyOrphans.j0 k a1 t353 false) else (halterlaw24_FamilyOrphans.j0 k a1 t353 true))))) = some r := h
 clear h
 replace H := Option.bind_eq_some_iff.mp H
 obtain ⟨t353, A30, H⟩ := H
 replace H : (if (l0.length : Int) > 16 then (halterlaw24_FamilyOrphans.j0 k a1 t353 true) else ((family_Check.f k t353).bind fun t356 => (if t356.isNone = true then (halterlaw24_FamilyOrphans.j0 k a1 t353 false) else (halterlaw24_FamilyOrphans.j0 k a1 t353 true)))) = some r := H
 have A3 := Aside0.mk A30
 clear A30
 have HC4 := Aside0.mk H
 clear H
 go_enter Tryd.func4, Tryd.ntmps4
 go_upto_region 2 with (first | (go_at_call 6; (with_reducible refine (halterlaw24_give.calls k _ _ l0 t353 _ ?side1 ?side2 A3.out).mono ?_); (case side1 => repeat (first | exact HR0.out | (with_reducible refine Kd.C_alloc ?_ _) | (with_reducible refine Kd.C_drewN ?_ _) | (with_reducible refine Kd.C_drew ?_))); (case side2 => exact HC0.out); rintro e w5 ⟨v354, rfl, ho0, hb⟩; have n0_ := Aside0.mk (Kd.R_lower ho0 (below_size (hbx))); have n1_ := Aside0.mk (below_step (hbx) hb); clear HB; have HO355 := n0_; have HB := n1_; clear n0_ n1_; (try clear hb); (try clear hb2); (try clear hk); (try clear hi); (try clear ho0)))
 repeat (go_quiet (first | (go_at_call 6; (with_reducible refine (halterlaw24_give.calls k _ _ l0 t353 _ ?side1 ?side2 A3.out).mono ?_); (case side1 => repeat (first | exact HR0.out | (with_reducible refine Kd.C_alloc ?_ _) | (with_reducible refine Kd.C_drewN ?_ _) | (with_reducible refine Kd.C_drew ?_))); (case side2 => exact HC0.out); rintro e w5 ⟨v354, rfl, ho0, hb⟩; have n0_ := Aside0.mk (Kd.R_lower ho0 (below_size (hbx))); have n1_ := Aside0.mk (below_step (hbx) hb); clear HB; have HO355 := n0_; have HB := n1_; clear n0_ n1_; (try clear hb); (try clear hb2); (try clear hk); (try clear hi); (try clear ho0))); go_upto_region 2 with (first | (go_at_call 6; (with_reducible refine (halterlaw24_give.calls k _ _ l0 t353 _ ?side1 ?side2 A3.out).mono ?_); (case side1 => repeat (first | exact HR0.out | (with_reducible refine Kd.C_alloc ?_ _) | (with_reducible refine Kd.C_drewN ?_ _) | (with_reducible refine Kd.C_drew ?_))); (case side2 => exact HC0.out); rintro e w5 ⟨v354, rfl, ho0, hb⟩; have n0_ := Aside0.mk (Kd.R_lower ho0 (below_size (hbx))); have n1_ := Aside0.mk (below_step (hbx) hb); clear HB; have HO355 := n0_; have HB := n1_; clear n0_ n1_; (try clear hb); (try clear hb2); (try clear hk); (try clear hi); (try clear ho0))))
 (try simp only [Act.put, List.setIfInBounds_toArray, List.set_cons_zero, List.set_cons_succ])
 go_cut [25] (fun v25 wc => ∃ (kq : Nat) (x25_3 : Bool), v25 = .bool x25_3 ∧ Aside0 (halterlaw24_FamilyOrphans.j0 kq a1 t353 x25_3 = some r) ∧ Aside0 (kq ≤ k) ∧ Aside0 (Kd.R k39 39 wc w.heap.size (fun _ => True) v354 t353) ∧ Aside0 (Below w.heap.size w wc))
 case first =>
  have H := HC4.out
  clear HC4
  by_cases c6 : (l0.length : Int) > 16
  ·rw [if_pos c6] at H
   have c6b0 : decide (16 < (l0.length : Int)) = true := decide_eq_true c6
   have c6b1 : decide (16 < l0.length) = true := decide_eq_true (by omega)
   clear c6
   (first | rw [c6b0] | (simp only [i64_w, i32_w]; rw [c6b0]) | skip)
   have H' := Aside0.mk H
   clear H
   go_wp2
   repeat (go_quiet (fail); try go_wp2)
   go_meet
   case rel => exact ⟨_, (true), (by first | rfl | (simp; done) | (simp [*]; done)), H', ⟨by first | omega | exact Nat.le_refl _⟩, ⟨by (with_reducible repeat (first | apply Kd.R_alloc | apply Kd.R_drewN | apply Kd.R_drew)); exact HO355.out⟩, ⟨hbx⟩⟩
  ·rw [if_neg c6] at H
   have c6b0 : decide (16 < (l0.length : Int)) = false := decide_eq_false c6
   have c6b1 : decide (16 < l0.length) = false := decide_eq_false (by omega)
   clear c6
   (first | rw [c6b0] | (simp only [i64_w, i32_w]; rw [c6b0]) | skip)
   replace H := Option.bind_eq_some_iff.mp H
   obtain ⟨t356, A70, H⟩ := H
   replace H : (if t356.isNone = true then (halterlaw24_FamilyOrphans.j0 k a1 t353 false) else (halterlaw24_FamilyOrphans.j0 k a1 t353 true)) = some r := H
   have A7 := Aside0.mk A70
   clear A70
   rcases t356 with _ | q357
   ·have H1 : (halterlaw24_FamilyOrphans.j0 k a1 t353 false) = some r := by rw [if_pos (show (none : Option Int).isNone = true by rfl)] at H; exact H
    clear H
    have H := H1
    clear H1
    try simp only [errW_none, errW_some]
    have H' := Aside0.mk H
    clear H
    obtain ⟨Ao8, co8, eo8⟩ := Kd.R_slice HO355.out
    subst eo8
    go_wp2_with (first | (go_at_call 19; (with_reducible refine (family_Check.calls k _ _ t353 none _ ?side1 ?side2 A7.out).mono ?_); (case side1 => repeat (first | exact (Kd.R_reads' HO355.out).2.2 | (with_reducible refine Kd.C_alloc ?_ _) | (with_reducible refine Kd.C_drewN ?_ _) | (with_reducible refine Kd.C_drew ?_))); (case side2 => exact (Kd.R_reads' HO355.out).2.1); rintro e w9 ⟨rfl, hb⟩; have n0_ := Aside0.mk (Kd.R_below (by (with_reducible repeat (first | apply Kd.R_alloc | apply Kd.R_drewN | apply Kd.R_drew)); exact HO355.out) hb); have n1_ := Aside0.mk (below_step (hbx) hb); clear HO355; clear HB; have HO355 := n0_; have HB := n1_; clear n0_ n1_; (try clear hb); (try clear hb2); (try clear hk); (try clear hi); (try simp only [errW_none, errW_some])))
    repeat (go_quiet (first | (go_at_call 19; (with_reducible refine (family_Check.calls k _ _ t353 none _ ?side1 ?side2 A7.out).mono ?_); (case side1 => repeat (first | exact (Kd.R_reads' HO355.out).2.2 | (with_reducible refine Kd.C_alloc ?_ _) | (with_reducible refine Kd.C_drewN ?_ _) | (with_reducible refine Kd.C_drew ?_))); (case side2 => exact (Kd.R_reads' HO355.out).2.1); rintro e w9 ⟨rfl, hb⟩; have n0_ := Aside0.mk (Kd.R_below (by (with_reducible repeat (first | apply Kd.R_alloc | apply Kd.R_drewN | apply Kd.R_drew)); exact HO355.out) hb); have n1_ := Aside0.mk (below_step (hbx) hb); clear HO355; clear HB; have HO355 := n0_; have HB := n1_; clear n0_ n1_; (try clear hb); (try clear hb2); (try clear hk); (try clear hi); (try simp only [errW_none, errW_some]))); try go_wp2_with (first | (go_at_call 19; (with_reducible refine (family_Check.calls k _ _ t353 none _ ?side1 ?side2 A7.out).mono ?_); (case side1 => repeat (first | exact (Kd.R_reads' HO355.out).2.2 | (with_reducible refine Kd.C_alloc ?_ _) | (with_reducible refine Kd.C_drewN ?_ _) | (with_reducible refine Kd.C_drew ?_))); (case side2 => exact (Kd.R_reads' HO355.out).2.1); rintro e w9 ⟨rfl, hb⟩; have n0_ := Aside0.mk (Kd.R_below (by (with_reducible repeat (first | apply Kd.R_alloc | apply Kd.R_drewN | apply Kd.R_drew)); exact HO355.out) hb); have n1_ := Aside0.mk (below_step (hbx) hb); clear HO355; clear HB; have HO355 := n0_; have HB := n1_; clear n0_ n1_; (try clear hb); (try clear hb2); (try clear hk); (try clear hi); (try simp only [errW_none, errW_some]))))
    go_meet
    case rel => exact ⟨_, (false), (by first | rfl | (simp; done) | (simp [*]; done)), H', ⟨by first | omega | exact Nat.le_refl _⟩, ⟨by (with_reducible repeat (first | apply Kd.R_alloc | apply Kd.R_drewN | apply Kd.R_drew)); exact HO355.out⟩, ⟨hbx⟩⟩
   ·have H1 : (halterlaw24_FamilyOrphans.j0 k a1 t353 true) = some r := by rw [if_neg (show ¬ (some q357).isNone = true by simp)] at H; exact H
    clear H
    have H := H1
    clear H1
    try simp only [errW_none, errW_some]
    have H' := Aside0.mk H
    clear H
    obtain ⟨Ao10, co10, eo10⟩ := Kd.R_slice HO355.out
    subst eo10
    go_wp2_with (first | (go_at_call 19; (with_reducible refine (family_Check.calls k _ _ t353 (some q357) _ ?side1 ?side2 A7.out).mono ?_); (case side1 => repeat (first | exact (Kd.R_reads' HO355.out).2.2 | (with_reducible refine Kd.C_alloc ?_ _) | (with_reducible refine Kd.C_drewN ?_ _) | (with_reducible refine Kd.C_drew ?_))); (case side2 => exact (Kd.R_reads' HO355.out).2.1); rintro e w11 ⟨rfl, hb⟩; have n0_ := Aside0.mk (Kd.R_below (by (with_reducible repeat (first | apply Kd.R_alloc | apply Kd.R_drewN | apply Kd.R_drew)); exact HO355.out) hb); have n1_ := Aside0.mk (below_step (hbx) hb); clear HO355; clear HB; have HO355 := n0_; have HB := n1_; clear n0_ n1_; (try clear hb); (try clear hb2); (try clear hk); (try clear hi); (try simp only [errW_none, errW_some])))
    repeat (go_quiet (first | (go_at_call 19; (with_reducible refine (family_Check.calls k _ _ t353 (some q357) _ ?side1 ?side2 A7.out).mono ?_); (case side1 => repeat (first | exact (Kd.R_reads' HO355.out).2.2 | (with_reducible refine Kd.C_alloc ?_ _) | (with_reducible refine Kd.C_drewN ?_ _) | (with_reducible refine Kd.C_drew ?_))); (case side2 => exact (Kd.R_reads' HO355.out).2.1); rintro e w11 ⟨rfl, hb⟩; have n0_ := Aside0.mk (Kd.R_below (by (with_reducible repeat (first | apply Kd.R_alloc | apply Kd.R_drewN | apply Kd.R_drew)); exact HO355.out) hb); have n1_ := Aside0.mk (below_step (hbx) hb); clear HO355; clear HB; have HO355 := n0_; have HB := n1_; clear n0_ n1_; (try clear hb); (try clear hb2); (try clear hk); (try clear hi); (try simp only [errW_none, errW_some]))); try go_wp2_with (first | (go_at_call 19; (with_reducible refine (family_Check.calls k _ _ t353 (some q357) _ ?side1 ?side2 A7.out).mono ?_); (case side1 => repeat (first | exact (Kd.R_reads' HO355.out).2.2 | (with_reducible refine Kd.C_alloc ?_ _) | (with_reducible refine Kd.C_drewN ?_ _) | (with_reducible refine Kd.C_drew ?_))); (case side2 => exact (Kd.R_reads' HO355.out).2.1); rintro e w11 ⟨rfl, hb⟩; have n0_ := Aside0.mk (Kd.R_below (by (with_reducible repeat (first | apply Kd.R_alloc | apply Kd.R_drewN | apply Kd.R_drew)); exact HO355.out) hb); have n1_ := Aside0.mk (below_step (hbx) hb); clear HO355; clear HB; have HO355 := n0_; have HB := n1_; clear n0_ n1_; (try clear hb); (try clear hb2); (try clear hk); (try clear hi); (try simp only [errW_none, errW_some]))))
    go_meet
    case rel => exact ⟨_, (true), (by first | rfl | (simp; done) | (simp [*]; done)), H', ⟨by first | omega | exact Nat.le_refl _⟩, ⟨by (with_reducible repeat (first | apply Kd.R_alloc | apply Kd.R_drewN | apply Kd.R_drew)); exact HO355.out⟩, ⟨hbx⟩⟩
 case rest =>
  clear HC4
  try clear p2
  try clear q3
  try clear c4
  try clear c6
  try clear c6b0
  try clear c6b1
  try clear q357
  obtain ⟨kq, x25_3, rfl, HA, HJ3, HO_5, HB⟩ := hcut
  cases kq with
  | zero => exact absurd HA.out (by simp [halterlaw24_FamilyOrphans.j0])
  | succ kj3 =>
   have H := HA.out
   clear HA
   simp only [halterlaw24_FamilyOrphans.j0] at H
   by_cases c12 : x25_3 = true
   ·subst c12
    have H1 : ((halterlaw24_sure.f kj3).bind fun t358 => (some t358)) = some r := by rw [if_pos rfl] at H; exact H
    clear H
    have H := H1
    clear H1
    replace H := Option.bind_eq_some_iff.mp H
    obtain ⟨t358, A130, H⟩ := H
    replace H : (some t358) = some r := H
    have A13 := Aside0.mk A130
    clear A130
    obtain rfl := Option.some.inj H
    go_wp2_with (first | (go_at_call 5; (with_reducible refine (halterlaw24_sure.calls kj3  t358 _ A13.out).mono ?_); rintro e w14 ⟨rfl, hb⟩; have n0_ := Aside0.mk (Kd.R_below (by (with_reducible repeat (first | apply Kd.R_alloc | apply Kd.R_drewN | apply Kd.R_drew)); exact HO_5.out) hb); have n1_ := Aside0.mk (below_step (hbx) hb); clear HO_5; clear HB; have HO_5 := n0_; have HB := n1_; clear n0_ n1_; (try clear hb); (try clear hb2); (try clear hk); (try clear hi)))
    repeat (go_quiet (first | (go_at_call 5; (with_reducible refine (halterlaw24_sure.calls kj3  t358 _ A13.out).mono ?_); rintro e w14 ⟨rfl, hb⟩; have n0_ := Aside0.mk (Kd.R_below (by (with_reducible repeat (first | apply Kd.R_alloc | apply Kd.R_drewN | apply Kd.R_drew)); exact HO_5.out) hb); have n1_ := Aside0.mk (below_step (hbx) hb); clear HO_5; clear HB; have HO_5 := n0_; have HB := n1_; clear n0_ n1_; (try clear hb); (try clear hb2); (try clear hk); (try clear hi))); try go_wp2_with (first | (go_at_call 5; (with_reducible refine (halterlaw24_sure.calls kj3  t358 _ A13.out).mono ?_); rintro e w14 ⟨rfl, hb⟩; have n0_ := Aside0.mk (Kd.R_below (by (with_reducible repeat (first | apply Kd.R_alloc | apply Kd.R_drewN | apply Kd.R_drew)); exact HO_5.out) hb); have n1_ := Aside0.mk (below_step (hbx) hb); clear HO_5; clear HB; have HO_5 := n0_; have HB := n1_; clear n0_ n1_; (try clear hb); (try clear hb2); (try clear hk); (try clear hi))))
    go_ret
    exact ⟨by first | rfl | (simp [errW_none, errW_some] <;> rfl) | (simp [*, errW_none, errW_some] <;> rfl), hbx⟩
   ·replace c12 := Bool.eq_false_iff.mpr c12
    subst c12
    have H1 : ((family_Children.f kj3 t353 a1).bind fun t359 => ((family_Exit.f kj3 t353 a1 9).bind fun bt362 => (if bt362.2.isNone = true then (halterlaw24_FamilyOrphans.l0 kj3 a1 t353 t359 bt362.1 0) else ((halterlaw24_sure.f kj3).bind fun t388 => (some t388))))) = some r := by rw [if_neg (show ¬ (false = true) by decide)] at H; exact H
    clear H
    have H := H1
    clear H1
    replace H := Option.bind_eq_some_iff.mp H
    obtain ⟨t359, A150, H⟩ := H
    replace H : ((family_Exit.f kj3 t353 a1 9).bind fun bt362 => (if bt362.2.isNone = true then (halterlaw24_FamilyOrphans.l0 kj3 a1 t353 t359 bt362.1 0) else ((halterlaw24_sure.f kj3).bind fun t388 => (some t388)))) = some r := H
    have A15 := Aside0.mk A150
    clear A150
    replace H := Option.bind_eq_some_iff.mp H
    obtain ⟨⟨t362, t363⟩, A160, H⟩ := H
    replace H : (if t363.isNone = true then (halterlaw24_FamilyOrphans.l0 kj3 a1 t353 t359 t362 0) else ((halterlaw24_sure.f kj3).bind fun t388 => (some t388))) = some r := H
    have A16 := Aside0.mk A160
    clear A160
    rcases t363 with _ | q366
    ·have H1 : (halterlaw24_FamilyOrphans.l0 kj3 a1 t353 t359 t362 0) = some r := by rw [if_pos (show (none : Option Int).isNone = true by rfl)] at H; exact H
     clear H
     have H := H1
     clear H1
     try simp only [errW_none, errW_some]
     have H' := Aside0.mk H
     clear H
     obtain ⟨Ao17, co17, eo17⟩ := Kd.R_slice HO_5.out
     subst eo17
     go_wp2_with (first | (go_at_call 17; (with_reducible refine (family_Children.calls kj3 _ _ t353 a1 t359 _ ?side1 ?side2 A15.out).mono ?_); (case side1 => repeat (first | exact (Kd.R_reads' HO_5.out).2.2 | (with_reducible refine Kd.C_alloc ?_ _) | (with_reducible refine Kd.C_drewN ?_ _) | (with_reducible refine Kd.C_drew ?_))); (case side2 => exact (Kd.R_reads' HO_5.out).2.1); rintro e w18 ⟨v360, rfl, ho0, hb⟩; have n0_ := Aside0.mk (Kd.R_below (by (with_reducible repeat (first | apply Kd.R_alloc | apply Kd.R_drewN | apply Kd.R_drew)); exact HO_5.out) hb); have n1_ := Aside0.mk (Kd.R_lower ho0 (below_size (hbx))); have n2_ := Aside0.mk (below_step (hbx) hb); clear HO_5; clear HB; have HO_5 := n0_; have HO361 := n1_; have HB := n2_; clear n0_ n1_ n2_; (try clear hb); (try clear hb2); (try clear hk); (try clear hi); (try clear ho0)) | (go_at_call 9; (with_reducible refine (family_Exit.calls kj3 _ _ t353 a1 9 t362 none _ ?side1 ?side2 A16.out).mono ?_); (case side1 => repeat (first | exact (Kd.R_reads' HO_5.out).2.2 | (with_reducible refine Kd.C_alloc ?_ _) | (with_reducible refine Kd.C_drewN ?_ _) | (with_reducible refine Kd.C_drew ?_))); (case side2 => exact (Kd.R_reads' HO_5.out).2.1); rintro e w19 ⟨v364, rfl, ho0, hb⟩; have n0_ := Aside0.mk (Kd.R_elder' (by (with_reducible repeat (first | apply Kd.R_alloc | apply Kd.R_drewN | apply Kd.R_drew)); exact HO_5.out) (Kd.R_base ho0) hb); have n1_ := Aside0.mk (Kd.R_below (by (with_reducible repeat (first | apply Kd.R_alloc | apply Kd.R_drewN | apply Kd.R_drew)); exact HO361.out) hb); have n2_ := Aside0.mk (Kd.R_lower (Kd.R_new' ho0 (Kd.R_lt (by (with_reducible repeat (first | apply Kd.R_alloc | apply Kd.R_drewN | apply Kd.R_drew)); exact HO_5.out))) (below_size (hbx))); have n3_ := Aside0.mk (below_step (hbx) hb); clear HO_5; clear HO361; clear HB; have HO_5 := n0_; have HO361 := n1_; have HO365 := n2_; have HB := n3_; clear n0_ n1_ n2_ n3_; (try clear hb); (try clear hb2); (try clear hk); (try clear hi); (try clear ho0); (try simp only [errW_none, errW_some])))
     repeat (go_quiet (first | (go_at_call 17; (with_reducible refine (family_Children.calls kj3 _ _ t353 a1 t359 _ ?side1 ?side2 A15.out).mono ?_); (case side1 => repeat (first | exact (Kd.R_reads' HO_5.out).2.2 | (with_reducible refine Kd.C_alloc ?_ _) | (with_reducible refine Kd.C_drewN ?_ _) | (with_reducible refine Kd.C_drew ?_))); (case side2 => exact (Kd.R_reads' HO_5.out).2.1); rintro e w18 ⟨v360, rfl, ho0, hb⟩; have n0_ := Aside0.mk (Kd.R_below (by (with_reducible repeat (first | apply Kd.R_alloc | apply Kd.R_drewN | apply Kd.R_drew)); exact HO_5.out) hb); have n1_ := Aside0.mk (Kd.R_lower ho0 (below_size (hbx))); have n2_ := Aside0.mk (below_step (hbx) hb); clear HO_5; clear HB; have HO_5 := n0_; have HO361 := n1_; have HB := n2_; clear n0_ n1_ n2_; (try clear hb); (try clear hb2); (try clear hk); (try clear hi); (try clear ho0)) | (go_at_call 9; (with_reducible refine (family_Exit.calls kj3 _ _ t353 a1 9 t362 none _ ?side1 ?side2 A16.out).mono ?_); (case side1 => repeat (first | exact (Kd.R_reads' HO_5.out).2.2 | (with_reducible refine Kd.C_alloc ?_ _) | (with_reducible refine Kd.C_drewN ?_ _) | (with_reducible refine Kd.C_drew ?_))); (case side2 => exact (Kd.R_reads' HO_5.out).2.1); rintro e w19 ⟨v364, rfl, ho0, hb⟩; have n0_ := Aside0.mk (Kd.R_elder' (by (with_reducible repeat (first | apply Kd.R_alloc | apply Kd.R_drewN | apply Kd.R_drew)); exact HO_5.out) (Kd.R_base ho0) hb); have n1_ := Aside0.mk (Kd.R_below (by (with_reducible repeat (first | apply Kd.R_alloc | apply Kd.R_drewN | apply Kd.R_drew)); exact HO361.out) hb); have n2_ := Aside0.mk (Kd.R_lower (Kd.R_new' ho0 (Kd.R_lt (by (with_reducible repeat (first | apply Kd.R_alloc | apply Kd.R_drewN | apply Kd.R_drew)); exact HO_5.out))) (below_size (hbx))); have n3_ := Aside0.mk (below_step (hbx) hb); clear HO_5; clear HO361; clear HB; have HO_5 := n0_; have HO361 := n1_; have HO365 := n2_; have HB := n3_; clear n0_ n1_ n2_ n3_; (try clear hb); (try clear hb2); (try clear hk); (try clear hi); (try clear ho0); (try simp only [errW_none, errW_some]))); try go_wp2_with (first | (go_at_call 17; (with_reducible refine (family_Children.calls kj3 _ _ t353 a1 t359 _ ?side1 ?side2 A15.out).mono ?_); (case side1 => repeat (first | exact (Kd.R_reads' HO_5.out).2.2 | (with_reducible refine Kd.C_alloc ?_ _) | (with_reducible refine Kd.C_drewN ?_ _) | (with_reducible refine Kd.C_drew ?_))); (case side2 => exact (Kd.R_reads' HO_5.out).2.1); rintro e w18 ⟨v360, rfl, ho0, hb⟩; have n0_ := Aside0.mk (Kd.R_below (by (with_reducible repeat (first | apply Kd.R_alloc | apply Kd.R_drewN | apply Kd.R_drew)); exact HO_5.out) hb); have n1_ := Aside0.mk (Kd.R_lower ho0 (below_size (hbx))); have n2_ := Aside0.mk (below_step (hbx) hb); clear HO_5; clear HB; have HO_5 := n0_; have HO361 := n1_; have HB := n2_; clear n0_ n1_ n2_; (try clear hb); (try clear hb2); (try clear hk); (try clear hi); (try clear ho0)) | (go_at_call 9; (with_reducible refine (family_Exit.calls kj3 _ _ t353 a1 9 t362 none _ ?side1 ?side2 A16.out).mono ?_); (case side1 => repeat (first | exact (Kd.R_reads' HO_5.out).2.2 | (with_reducible refine Kd.C_alloc ?_ _) | (with_reducible refine Kd.C_drewN ?_ _) | (with_reducible refine Kd.C_drew ?_))); (case side2 => exact (Kd.R_reads' HO_5.out).2.1); rintro e w19 ⟨v364, rfl, ho0, hb⟩; have n0_ := Aside0.mk (Kd.R_elder' (by (with_reducible repeat (first | apply Kd.R_alloc | apply Kd.R_drewN | apply Kd.R_drew)); exact HO_5.out) (Kd.R_base ho0) hb); have n1_ := Aside0.mk (Kd.R_below (by (with_reducible repeat (first | apply Kd.R_alloc | apply Kd.R_drewN | apply Kd.R_drew)); exact HO361.out) hb); have n2_ := Aside0.mk (Kd.R_lower (Kd.R_new' ho0 (Kd.R_lt (by (with_reducible repeat (first | apply Kd.R_alloc | apply Kd.R_drewN | apply Kd.R_drew)); exact HO_5.out))) (below_size (hbx))); have n3_ := Aside0.mk (below_step (hbx) hb); clear HO_5; clear HO361; clear HB; have HO_5 := n0_; have HO361 := n1_; have HO365 := n2_; have HB := n3_; clear n0_ n1_ n2_ n3_; (try clear hb); (try clear hb2); (try clear hk); (try clear hi); (try clear ho0); (try simp only [errW_none, errW_some]))))
     go_loopg [9] kj3 (fun kq v9 w' => ∃ (x9_2 : Int), v9 = .int .i64 x9_2 ∧ Aside0 (halterlaw24_FamilyOrphans.l0 kq a1 t353 t359 t362 x9_2 = some r) ∧ Aside0 (kq ≤ kj3) ∧ Aside0 (Kd.R k39 39 w' w.heap.size (fun k_ => some k_ ≠ (v364 : Value).ownBlock) (.slice Ao17 t353.length co17) t353) ∧ Aside0 (Kd.R (Kd.int .i64) 3 w' w.heap.size (fun _ => True) v360 t359) ∧ Aside0 (Kd.R k39 39 w' w.heap.size (fun k_ => some k_ ≠ ((.slice Ao17 t353.length co17) : Value).ownBlock) v364 t362) ∧ Aside0 (Below w.heap.size w w'))
     case atStart => exact ⟨(0), (by first | rfl | (simp; done) | (simp [*]; done)), H', ⟨Nat.le_refl _⟩, ⟨by (with_reducible repeat (first | apply Kd.R_alloc | apply Kd.R_drewN | apply Kd.R_drew)); exact Kd.R_mono HO_5.out (fun _ hk => hk.2)⟩, ⟨by (with_reducible repeat (first | apply Kd.R_alloc | apply Kd.R_drewN | apply Kd.R_drew)); exact HO361.out⟩, ⟨by (with_reducible repeat (first | apply Kd.R_alloc | apply Kd.R_drewN | apply Kd.R_drew)); exact Kd.R_mono HO365.out (fun _ hk => hk.2)⟩, ⟨hbx⟩⟩
     case round =>
      clear H'
      try clear c1
      try clear p2
      try clear q3
      try clear c4
      try clear c6
      try clear c6b0
      try clear c6b1
      try clear c12
      try clear p2
      try clear q3
      try clear q357
      try clear q366
      obtain ⟨x9_2, rfl, HA, HK2, HO_5, HO_6, HO_7, HB⟩ := hrel
      cases gk with
      | zero => exact absurd HA.out (by simp [halterlaw24_FamilyOrphans.l0])
      | succ k2 =>
       have H := HA.out
       clear HA
       simp only [halterlaw24_FamilyOrphans.l0] at H
       by_cases c20 : x9_2 < (t353.length : Int)
       ·rw [if_pos c20] at H
        have c20b0 : decide (x9_2 < (t353.length : Int)) = true := decide_eq_true c20
        clear c20
        by_cases c21 : 0 ≤ x9_2
        ·rw [if_pos c21] at H
         have c21b0 : decide (0 ≤ x9_2) = true := decide_eq_true c21
         clear c21
         replace H := Option.bind_eq_some_iff.mp H
         obtain ⟨⟨t368, t369, t370, t371, t372⟩, A220, H⟩ := H
         replace H : (halterlaw24_FamilyOrphans.l1 k2 a1 t353 t359 t362 x9_2 t372 ((rd_T39 t353 x9_2).f1) 0 t368 t369 t370 t371) = some r := H
         have A22 := Aside0.mk A220
         clear A220
         have H' := Aside0.mk H
         clear H
         have p367 : 0 ≤ (x9_2 : Int) := of_decide_eq_true (by first | (with_reducible assumption) | assumption)
         have q367 : x9_2 < (t353.length : Int) := of_decide_eq_true (by first | (with_reducible assumption) | assumption)
         obtain ⟨ad367, e367, hx367_0, hx367_1, hx367_2, hx367_3⟩ := at_T39 (Kd.R_reads' HO_5.out).2.2 x9_2 p367 q367
         cases e367
         replace p367 := eq_true p367
         replace q367 := eq_true q367
         obtain ⟨Ao23, co23, eo23⟩ := Kd.R_slice HO_7.out
         subst eo23
         go_wp2_with (first | (go_at_call 13; (with_reducible refine (family_Find.calls k2 _ _ t362 ((rd_T39 t353 x9_2).f0) t368 t369 t370 t371 t372 _ ?side1 ?side2 A22.out).mono ?_); (case side1 => repeat (first | exact (Kd.R_reads' HO_7.out).2.2 | (with_reducible refine Kd.C_alloc ?_ _) | (with_reducible refine Kd.C_drewN ?_ _) | (with_reducible refine Kd.C_drew ?_))); (case side2 => exact (Kd.R_reads' HO_7.out).2.1); rintro e w24 ⟨rfl, hb⟩; have n0_ := Aside0.mk (Kd.R_below (by (with_reducible repeat (first | apply Kd.R_alloc | apply Kd.R_drewN | apply Kd.R_drew)); exact HO_5.out) hb); have n1_ := Aside0.mk (Kd.R_below (by (with_reducible repeat (first | apply Kd.R_alloc | apply Kd.R_drewN | apply Kd.R_drew)); exact HO_6.out) hb); have n2_ := Aside0.mk (Kd.R_below (by (with_reducible repeat (first | apply Kd.R_alloc | apply Kd.R_drewN | apply Kd.R_drew)); exact HO_7.out) hb); have n3_ := Aside0.mk (below_step (hbx) hb); clear HO_5; clear HO_6; clear HO_7; clear HB; have HO_5 := n0_; have HO_6 := n1_; have HO_7 := n2_; have HB := n3_; clear n0_ n1_ n2_ n3_; (try clear hb); (try clear hb2); (try clear hk); (try clear hi); (try simp only [errW_none, errW_some])) | ((with_reducible refine gate_dst (N := 10) rfl ?_); (try (refine gate_guard (by rfl) ?_; dsimp only)); refine box_event ?hg (N := 10) ?hd (cs := #[.int .i64 0, .int .i64 0, .bool false, .int .u32 0]) (t := 39) ?hr ?_; (case hd => rfl); (case hg => rfl); (case hr => first | (go_simp; done) | (go_simp; rfl)); intro gb373 hg w25 hbox hb; have n0_ := Aside0.mk (Kd.R_below (Kd.R_elderB (by (with_reducible repeat (first | apply Kd.R_alloc | apply Kd.R_drewN | apply Kd.R_drew)); exact HO_5.out) gb373 (Nat.le_of_eq hg.symm)) hb); have n1_ := Aside0.mk (Kd.R_below (by (with_reducible repeat (first | apply Kd.R_alloc | apply Kd.R_drewN | apply Kd.R_drew)); exact HO_6.out) hb); have n2_ := Aside0.mk (Kd.R_below (Kd.R_elderB (by (with_reducible repeat (first | apply Kd.R_alloc | apply Kd.R_drewN | apply Kd.R_drew)); exact HO_7.out) gb373 (Nat.le_of_eq hg.symm)) hb); have n3_ := Aside0.mk (below_step (hbx) hb); have n4_ := Aside0.mk (hbox); have n5_ := Aside0.mk ((by rw [hg]; exact (below_size (hbx)) : w.heap.size ≤ gb373)); have n6_ := Aside0.mk ((by rw [hg]; exact (below_size (hbx)) : w.heap.size ≤ gb373)); clear HO_5; clear HO_6; clear HO_7; clear HB; have HO_5 := n0_; have HO_6 := n1_; have HO_7 := n2_; have HB := n3_; have BK373 := n4_; have GW373 := n5_; have GE373 := n6_; clear n0_ n1_ n2_ n3_ n4_ n5_ n6_; clear hb hbox hg; have hcz26_0 : w25.cell? ⟨gb373, 0, none⟩ = some (.int .i64 0) := (blk_cell BK373.out 0).trans rfl; have hcz26_1 : w25.cell? ⟨gb373, 1, none⟩ = some (.int .i64 0) := (blk_cell BK373.out 1).trans rfl; have hcz26_2 : w25.cell? ⟨gb373, 2, none⟩ = some (.bool false) := (blk_cell BK373.out 2).trans rfl; have hcz26_3 : w25.cell? ⟨gb373, 3, none⟩ = some (.int .u32 0) := (blk_cell BK373.out 3).trans rfl; have hfz26_0 := blk_frozen BK373.out 0; have hfz26_1 := blk_frozen BK373.out 1; have hfz26_2 := blk_frozen BK373.out 2; have hfz26_3 := blk_frozen BK373.out 3; have p374 : 0 ≤ (x9_2 : Int) := of_decide_eq_true (by first | (with_reducible assumption) | assumption); have q374 : x9_2 < (t353.length : Int) := of_decide_eq_true (by first | (with_reducible assumption) | assumption); obtain ⟨ad374, e374, hx374_0, hx374_1, hx374_2, hx374_3⟩ := at_T39 (Kd.R_reads' HO_5.out).2.2 x9_2 p374 q374; obtain rfl : ad367 = ad374 := (by injection e374); have hn374_0 : ad367.block ≠ gb373 := Kd.own_blk (by first | exact Kd.R_ne HO_5.out BK373.out (by decide) | exact Kd.R_away HO_5.out (fun _ hk => by first | exact hk | exact hk.2 | exact hk.1 | exact hk.1.2 | exact hk.2.1 | exact hk.2.2)); have hn374_1 : ad367.block ≠ gb373 := Kd.own_blk (by first | exact Kd.R_ne HO_5.out BK373.out (by decide) | exact Kd.R_away HO_5.out (fun _ hk => by first | exact hk | exact hk.2 | exact hk.1 | exact hk.1.2 | exact hk.2.1 | exact hk.2.2)); have hn374_2 : ad367.block ≠ gb373 := Kd.own_blk (by first | exact Kd.R_ne HO_5.out BK373.out (by decide) | exact Kd.R_away HO_5.out (fun _ hk => by first | exact hk | exact hk.2 | exact hk.1 | exact hk.1.2 | exact hk.2.1 | exact hk.2.2)); have hn374_3 : ad367.block ≠ gb373 := Kd.own_blk (by first | exact Kd.R_ne HO_5.out BK373.out (by decide) | exact Kd.R_away HO_5.out (fun _ hk => by first | exact hk | exact hk.2 | exact hk.1 | exact hk.1.2 | exact hk.2.1 | exact hk.2.2)); replace hx374_0 := (cell_far (p := ⟨gb373, 0, none⟩) (by first | (rw [add_block]; exact hn374_0) | (show (Addr.add _ _).block ≠ _; rw [add_block]; exact hn374_0) | exact hn374_0) (.int .i64 t368)).trans hx374_0; replace hx374_1 := (cell_far (p := ⟨gb373, 0, none⟩) (by first | (rw [add_block]; exact hn374_0) | (show (Addr.add _ _).block ≠ _; rw [add_block]; exact hn374_0) | exact hn374_0) (.int .i64 t368)).trans hx374_1; replace hx374_2 := (cell_far (p := ⟨gb373, 0, none⟩) (by first | (rw [add_block]; exact hn374_0) | (show (Addr.add _ _).block ≠ _; rw [add_block]; exact hn374_0) | exact hn374_0) (.int .i64 t368)).trans hx374_2; replace hx374_3 := (cell_far (p := ⟨gb373, 0, none⟩) (by first | (rw [add_block]; exact hn374_0) | (show (Addr.add _ _).block ≠ _; rw [add_block]; exact hn374_0) | exact hn374_0) (.int .i64 t368)).trans hx374_3; replace hx374_0 := (cell_far (p := ⟨gb373, 1, none⟩) (by first | (rw [add_block]; exact hn374_1) | (show (Addr.add _ _).block ≠ _; rw [add_block]; exact hn374_1) | exact hn374_1) (.int .i64 t369)).trans hx374_0; replace hx374_1 := (cell_far (p := ⟨gb373, 1, none⟩) (by first | (rw [add_block]; exact hn374_1) | (show (Addr.add _ _).block ≠ _; rw [add_block]; exact hn374_1) | exact hn374_1) (.int .i64 t369)).trans hx374_1; replace hx374_2 := (cell_far (p := ⟨gb373, 1, none⟩) (by first | (rw [add_block]; exact hn374_1) | (show (Addr.add _ _).block ≠ _; rw [add_block]; exact hn374_1) | exact hn374_1) (.int .i64 t369)).trans hx374_2; replace hx374_3 := (cell_far (p := ⟨gb373, 1, none⟩) (by first | (rw [add_block]; exact hn374_1) | (show (Addr.add _ _).block ≠ _; rw [add_block]; exact hn374_1) | exact hn374_1) (.int .i64 t369)).trans hx374_3; replace hx374_0 := (cell_far (p := ⟨gb373, 2, none⟩) (by first | (rw [add_block]; exact hn374_2) | (show (Addr.add _ _).block ≠ _; rw [add_block]; exact hn374_2) | exact hn374_2) (.bool t370)).trans hx374_0; replace hx374_1 := (cell_far (p := ⟨gb373, 2, none⟩) (by first | (rw [add_block]; exact hn374_2) | (show (Addr.add _ _).block ≠ _; rw [add_block]; exact hn374_2) | exact hn374_2) (.bool t370)).trans hx374_1; replace hx374_2 := (cell_far (p := ⟨gb373, 2, none⟩) (by first | (rw [add_block]; exact hn374_2) | (show (Addr.add _ _).block ≠ _; rw [add_block]; exact hn374_2) | exact hn374_2) (.bool t370)).trans hx374_2; replace hx374_3 := (cell_far (p := ⟨gb373, 2, none⟩) (by first | (rw [add_block]; exact hn374_2) | (show (Addr.add _ _).block ≠ _; rw [add_block]; exact hn374_2) | exact hn374_2) (.bool t370)).trans hx374_3; replace hx374_0 := (cell_far (p := ⟨gb373, 3, none⟩) (by first | (rw [add_block]; exact hn374_3) | (show (Addr.add _ _).block ≠ _; rw [add_block]; exact hn374_3) | exact hn374_3) (.int .u32 t371)).trans hx374_0; replace hx374_1 := (cell_far (p := ⟨gb373, 3, none⟩) (by first | (rw [add_block]; exact hn374_3) | (show (Addr.add _ _).block ≠ _; rw [add_block]; exact hn374_3) | exact hn374_3) (.int .u32 t371)).trans hx374_1; replace hx374_2 := (cell_far (p := ⟨gb373, 3, none⟩) (by first | (rw [add_block]; exact hn374_3) | (show (Addr.add _ _).block ≠ _; rw [add_block]; exact hn374_3) | exact hn374_3) (.int .u32 t371)).trans hx374_2; replace hx374_3 := (cell_far (p := ⟨gb373, 3, none⟩) (by first | (rw [add_block]; exact hn374_3) | (show (Addr.add _ _).block ≠ _; rw [add_block]; exact hn374_3) | exact hn374_3) (.int .u32 t371)).trans hx374_3; (try have hy374_0 := fun (n_ : Nat) => (show ((((((w25.drewN n_).setCell ⟨gb373, 0, none⟩ (.int .i64 t368)).setCell ⟨gb373, 1, none⟩ (.int .i64 t369)).setCell ⟨gb373, 2, none⟩ (.bool t370)).setCell ⟨gb373, 3, none⟩ (.int .u32 t371))).cell? _ = some _ from hx374_0)); (try have hy374_1 := fun (n_ : Nat) => (show ((((((w25.drewN n_).setCell ⟨gb373, 0, none⟩ (.int .i64 t368)).setCell ⟨gb373, 1, none⟩ (.int .i64 t369)).setCell ⟨gb373, 2, none⟩ (.bool t370)).setCell ⟨gb373, 3, none⟩ (.int .u32 t371))).cell? _ = some _ from hx374_1)); (try have hy374_2 := fun (n_ : Nat) => (show ((((((w25.drewN n_).setCell ⟨gb373, 0, none⟩ (.int .i64 t368)).setCell ⟨gb373, 1, none⟩ (.int .i64 t369)).setCell ⟨gb373, 2, none⟩ (.bool t370)).setCell ⟨gb373, 3, none⟩ (.int .u32 t371))).cell? _ = some _ from hx374_2)); (try have hy374_3 := fun (n_ : Nat) => (show ((((((w25.drewN n_).setCell ⟨gb373, 0, none⟩ (.int .i64 t368)).setCell ⟨gb373, 1, none⟩ (.int .i64 t369)).setCell ⟨gb373, 2, none⟩ (.bool t370)).setCell ⟨gb373, 3, none⟩ (.int .u32 t371))).cell? _ = some _ from hx374_3)); clear hn374_0; clear hn374_1; clear hn374_2; clear hn374_3; replace p374 := eq_true p374; replace q374 := eq_true q374))
         repeat (go_quiet (first | (go_at_call 13; (with_reducible refine (family_Find.calls k2 _ _ t362 ((rd_T39 t353 x9_2).f0) t368 t369 t370 t371 t372 _ ?side1 ?side2 A22.out).mono ?_); (case side1 => repeat (first | exact (Kd.R_reads' HO_7.out).2.2 | (with_reducible refine Kd.C_alloc ?_ _) | (with_reducible refine Kd.C_drewN ?_ _) | (with_reducible refine Kd.C_drew ?_))); (case side2 => exact (Kd.R_reads' HO_7.out).2.1); rintro e w24 ⟨rfl, hb⟩; have n0_ := Aside0.mk (Kd.R_below (by (with_reducible repeat (first | apply Kd.R_alloc | apply Kd.R_drewN | apply Kd.R_drew)); exact HO_5.out) hb); have n1_ := Aside0.mk (Kd.R_below (by (with_reducible repeat (first | apply Kd.R_alloc | apply Kd.R_drewN | apply Kd.R_drew)); exact HO_6.out) hb); have n2_ := Aside0.mk (Kd.R_below (by (with_reducible repeat (first | apply Kd.R_alloc | apply Kd.R_drewN | apply Kd.R_drew)); exact HO_7.out) hb); have n3_ := Aside0.mk (below_step (hbx) hb); clear HO_5; clear HO_6; clear HO_7; clear HB; have HO_5 := n0_; have HO_6 := n1_; have HO_7 := n2_; have HB := n3_; clear n0_ n1_ n2_ n3_; (try clear hb); (try clear hb2); (try clear hk); (try clear hi); (try simp only [errW_none, errW_some])) | ((with_reducible refine gate_dst (N := 10) rfl ?_); (try (refine gate_guard (by rfl) ?_; dsimp only)); refine box_event ?hg (N := 10) ?hd (cs := #[.int .i64 0, .int .i64 0, .bool false, .int .u32 0]) (t := 39) ?hr ?_; (case hd => rfl); (case hg => rfl); (case hr => first | (go_simp; done) | (go_simp; rfl)); intro gb373 hg w25 hbox hb; have n0_ := Aside0.mk (Kd.R_below (Kd.R_elderB (by (with_reducible repeat (first | apply Kd.R_alloc | apply Kd.R_drewN | apply Kd.R_drew)); exact HO_5.out) gb373 (Nat.le_of_eq hg.symm)) hb); have n1_ := Aside0.mk (Kd.R_below (by (with_reducible repeat (first | apply Kd.R_alloc | apply Kd.R_drewN | apply Kd.R_drew)); exact HO_6.out) hb); have n2_ := Aside0.mk (Kd.R_below (Kd.R_elderB (by (with_reducible repeat (first | apply Kd.R_alloc | apply Kd.R_drewN | apply Kd.R_drew)); exact HO_7.out) gb373 (Nat.le_of_eq hg.symm)) hb); have n3_ := Aside0.mk (below_step (hbx) hb); have n4_ := Aside0.mk (hbox); have n5_ := Aside0.mk ((by rw [hg]; exact (below_size (hbx)) : w.heap.size ≤ gb373)); have n6_ := Aside0.mk ((by rw [hg]; exact (below_size (hbx)) : w.heap.size ≤ gb373)); clear HO_5; clear HO_6; clear HO_7; clear HB; have HO_5 := n0_; have HO_6 := n1_; have HO_7 := n2_; have HB := n3_; have BK373 := n4_; have GW373 := n5_; have GE373 := n6_; clear n0_ n1_ n2_ n3_ n4_ n5_ n6_; clear hb hbox hg; have hcz26_0 : w25.cell? ⟨gb373, 0, none⟩ = some (.int .i64 0) := (blk_cell BK373.out 0).trans rfl; have hcz26_1 : w25.cell? ⟨gb373, 1, none⟩ = some (.int .i64 0) := (blk_cell BK373.out 1).trans rfl; have hcz26_2 : w25.cell? ⟨gb373, 2, none⟩ = some (.bool false) := (blk_cell BK373.out 2).trans rfl; have hcz26_3 : w25.cell? ⟨gb373, 3, none⟩ = some (.int .u32 0) := (blk_cell BK373.out 3).trans rfl; have hfz26_0 := blk_frozen BK373.out 0; have hfz26_1 := blk_frozen BK373.out 1; have hfz26_2 := blk_frozen BK373.out 2; have hfz26_3 := blk_frozen BK373.out 3; have p374 : 0 ≤ (x9_2 : Int) := of_decide_eq_true (by first | (with_reducible assumption) | assumption); have q374 : x9_2 < (t353.length : Int) := of_decide_eq_true (by first | (with_reducible assumption) | assumption); obtain ⟨ad374, e374, hx374_0, hx374_1, hx374_2, hx374_3⟩ := at_T39 (Kd.R_reads' HO_5.out).2.2 x9_2 p374 q374; obtain rfl : ad367 = ad374 := (by injection e374); have hn374_0 : ad367.block ≠ gb373 := Kd.own_blk (by first | exact Kd.R_ne HO_5.out BK373.out (by decide) | exact Kd.R_away HO_5.out (fun _ hk => by first | exact hk | exact hk.2 | exact hk.1 | exact hk.1.2 | exact hk.2.1 | exact hk.2.2)); have hn374_1 : ad367.block ≠ gb373 := Kd.own_blk (by first | exact Kd.R_ne HO_5.out BK373.out (by decide) | exact Kd.R_away HO_5.out (fun _ hk => by first | exact hk | exact hk.2 | exact hk.1 | exact hk.1.2 | exact hk.2.1 | exact hk.2.2)); have hn374_2 : ad367.block ≠ gb373 := Kd.own_blk (by first | exact Kd.R_ne HO_5.out BK373.out (by decide) | exact Kd.R_away HO_5.out (fun _ hk => by first | exact hk | exact hk.2 | exact hk.1 | exact hk.1.2 | exact hk.2.1 | exact hk.2.2)); have hn374_3 : ad367.block ≠ gb373 := Kd.own_blk (by first | exact Kd.R_ne HO_5.out BK373.out (by decide) | exact Kd.R_away HO_5.out (fun _ hk => by first | exact hk | exact hk.2 | exact hk.1 | exact hk.1.2 | exact hk.2.1 | exact hk.2.2)); replace hx374_0 := (cell_far (p := ⟨gb373, 0, none⟩) (by first | (rw [add_block]; exact hn374_0) | (show (Addr.add _ _).block ≠ _; rw [add_block]; exact hn374_0) | exact hn374_0) (.int .i64 t368)).trans hx374_0; replace hx374_1 := (cell_far (p := ⟨gb373, 0, none⟩) (by first | (rw [add_block]; exact hn374_0) | (show (Addr.add _ _).block ≠ _; rw [add_block]; exact hn374_0) | exact hn374_0) (.int .i64 t368)).trans hx374_1; replace hx374_2 := (cell_far (p := ⟨gb373, 0, none⟩) (by first | (rw [add_block]; exact hn374_0) | (show (Addr.add _ _).block ≠ _; rw [add_block]; exact hn374_0) | exact hn374_0) (.int .i64 t368)).trans hx374_2; replace hx374_3 := (cell_far (p := ⟨gb373, 0, none⟩) (by first | (rw [add_block]; exact hn374_0) | (show (Addr.add _ _).block ≠ _; rw [add_block]; exact hn374_0) | exact hn374_0) (.int .i64 t368)).trans hx374_3; replace hx374_0 := (cell_far (p := ⟨gb373, 1, none⟩) (by first | (rw [add_block]; exact hn374_1) | (show (Addr.add _ _).block ≠ _; rw [add_block]; exact hn374_1) | exact hn374_1) (.int .i64 t369)).trans hx374_0; replace hx374_1 := (cell_far (p := ⟨gb373, 1, none⟩) (by first | (rw [add_block]; exact hn374_1) | (show (Addr.add _ _).block ≠ _; rw [add_block]; exact hn374_1) | exact hn374_1) (.int .i64 t369)).trans hx374_1; replace hx374_2 := (cell_far (p := ⟨gb373, 1, none⟩) (by first | (rw [add_block]; exact hn374_1) | (show (Addr.add _ _).block ≠ _; rw [add_block]; exact hn374_1) | exact hn374_1) (.int .i64 t369)).trans hx374_2; replace hx374_3 := (cell_far (p := ⟨gb373, 1, none⟩) (by first | (rw [add_block]; exact hn374_1) | (show (Addr.add _ _).block ≠ _; rw [add_block]; exact hn374_1) | exact hn374_1) (.int .i64 t369)).trans hx374_3; replace hx374_0 := (cell_far (p := ⟨gb373, 2, none⟩) (by first | (rw [add_block]; exact hn374_2) | (show (Addr.add _ _).block ≠ _; rw [add_block]; exact hn374_2) | exact hn374_2) (.bool t370)).trans hx374_0; replace hx374_1 := (cell_far (p := ⟨gb373, 2, none⟩) (by first | (rw [add_block]; exact hn374_2) | (show (Addr.add _ _).block ≠ _; rw [add_block]; exact hn374_2) | exact hn374_2) (.bool t370)).trans hx374_1; replace hx374_2 := (cell_far (p := ⟨gb373, 2, none⟩) (by first | (rw [add_block]; exact hn374_2) | (show (Addr.add _ _).block ≠ _; rw [add_block]; exact hn374_2) | exact hn374_2) (.bool t370)).trans hx374_2; replace hx374_3 := (cell_far (p := ⟨gb373, 2, none⟩) (by first | (rw [add_block]; exact hn374_2) | (show (Addr.add _ _).block ≠ _; rw [add_block]; exact hn374_2) | exact hn374_2) (.bool t370)).trans hx374_3; replace hx374_0 := (cell_far (p := ⟨gb373, 3, none⟩) (by first | (rw [add_block]; exact hn374_3) | (show (Addr.add _ _).block ≠ _; rw [add_block]; exact hn374_3) | exact hn374_3) (.int .u32 t371)).trans hx374_0; replace hx374_1 := (cell_far (p := ⟨gb373, 3, none⟩) (by first | (rw [add_block]; exact hn374_3) | (show (Addr.add _ _).block ≠ _; rw [add_block]; exact hn374_3) | exact hn374_3) (.int .u32 t371)).trans hx374_1; replace hx374_2 := (cell_far (p := ⟨gb373, 3, none⟩) (by first | (rw [add_block]; exact hn374_3) | (show (Addr.add _ _).block ≠ _; rw [add_block]; exact hn374_3) | exact hn374_3) (.int .u32 t371)).trans hx374_2; replace hx374_3 := (cell_far (p := ⟨gb373, 3, none⟩) (by first | (rw [add_block]; exact hn374_3) | (show (Addr.add _ _).block ≠ _; rw [add_block]; exact hn374_3) | exact hn374_3) (.int .u32 t371)).trans hx374_3; (try have hy374_0 := fun (n_ : Nat) => (show ((((((w25.drewN n_).setCell ⟨gb373, 0, none⟩ (.int .i64 t368)).setCell ⟨gb373, 1, none⟩ (.int .i64 t369)).setCell ⟨gb373, 2, none⟩ (.bool t370)).setCell ⟨gb373, 3, none⟩ (.int .u32 t371))).cell? _ = some _ from hx374_0)); (try have hy374_1 := fun (n_ : Nat) => (show ((((((w25.drewN n_).setCell ⟨gb373, 0, none⟩ (.int .i64 t368)).setCell ⟨gb373, 1, none⟩ (.int .i64 t369)).setCell ⟨gb373, 2, none⟩ (.bool t370)).setCell ⟨gb373, 3, none⟩ (.int .u32 t371))).cell? _ = some _ from hx374_1)); (try have hy374_2 := fun (n_ : Nat) => (show ((((((w25.drewN n_).setCell ⟨gb373, 0, none⟩ (.int .i64 t368)).setCell ⟨gb373, 1, none⟩ (.int .i64 t369)).setCell ⟨gb373, 2, none⟩ (.bool t370)).setCell ⟨gb373, 3, none⟩ (.int .u32 t371))).cell? _ = some _ from hx374_2)); (try have hy374_3 := fun (n_ : Nat) => (show ((((((w25.drewN n_).setCell ⟨gb373, 0, none⟩ (.int .i64 t368)).setCell ⟨gb373, 1, none⟩ (.int .i64 t369)).setCell ⟨gb373, 2, none⟩ (.bool t370)).setCell ⟨gb373, 3, none⟩ (.int .u32 t371))).cell? _ = some _ from hx374_3)); clear hn374_0; clear hn374_1; clear hn374_2; clear hn374_3; replace p374 := eq_true p374; replace q374 := eq_true q374)); try go_wp2_with (first | (go_at_call 13; (with_reducible refine (family_Find.calls k2 _ _ t362 ((rd_T39 t353 x9_2).f0) t368 t369 t370 t371 t372 _ ?side1 ?side2 A22.out).mono ?_); (case side1 => repeat (first | exact (Kd.R_reads' HO_7.out).2.2 | (with_reducible refine Kd.C_alloc ?_ _) | (with_reducible refine Kd.C_drewN ?_ _) | (with_reducible refine Kd.C_drew ?_))); (case side2 => exact (Kd.R_reads' HO_7.out).2.1); rintro e w24 ⟨rfl, hb⟩; have n0_ := Aside0.mk (Kd.R_below (by (with_reducible repeat (first | apply Kd.R_alloc | apply Kd.R_drewN | apply Kd.R_drew)); exact HO_5.out) hb); have n1_ := Aside0.mk (Kd.R_below (by (with_reducible repeat (first | apply Kd.R_alloc | apply Kd.R_drewN | apply Kd.R_drew)); exact HO_6.out) hb); have n2_ := Aside0.mk (Kd.R_below (by (with_reducible repeat (first | apply Kd.R_alloc | apply Kd.R_drewN | apply Kd.R_drew)); exact HO_7.out) hb); have n3_ := Aside0.mk (below_step (hbx) hb); clear HO_5; clear HO_6; clear HO_7; clear HB; have HO_5 := n0_; have HO_6 := n1_; have HO_7 := n2_; have HB := n3_; clear n0_ n1_ n2_ n3_; (try clear hb); (try clear hb2); (try clear hk); (try clear hi); (try simp only [errW_none, errW_some])) | ((with_reducible refine gate_dst (N := 10) rfl ?_); (try (refine gate_guard (by rfl) ?_; dsimp only)); refine box_event ?hg (N := 10) ?hd (cs := #[.int .i64 0, .int .i64 0, .bool false, .int .u32 0]) (t := 39) ?hr ?_; (case hd => rfl); (case hg => rfl); (case hr => first | (go_simp; done) | (go_simp; rfl)); intro gb373 hg w25 hbox hb; have n0_ := Aside0.mk (Kd.R_below (Kd.R_elderB (by (with_reducible repeat (first | apply Kd.R_alloc | apply Kd.R_drewN | apply Kd.R_drew)); exact HO_5.out) gb373 (Nat.le_of_eq hg.symm)) hb); have n1_ := Aside0.mk (Kd.R_below (by (with_reducible repeat (first | apply Kd.R_alloc | apply Kd.R_drewN | apply Kd.R_drew)); exact HO_6.out) hb); have n2_ := Aside0.mk (Kd.R_below (Kd.R_elderB (by (with_reducible repeat (first | apply Kd.R_alloc | apply Kd.R_drewN | apply Kd.R_drew)); exact HO_7.out) gb373 (Nat.le_of_eq hg.symm)) hb); have n3_ := Aside0.mk (below_step (hbx) hb); have n4_ := Aside0.mk (hbox); have n5_ := Aside0.mk ((by rw [hg]; exact (below_size (hbx)) : w.heap.size ≤ gb373)); have n6_ := Aside0.mk ((by rw [hg]; exact (below_size (hbx)) : w.heap.size ≤ gb373)); clear HO_5; clear HO_6; clear HO_7; clear HB; have HO_5 := n0_; have HO_6 := n1_; have HO_7 := n2_; have HB := n3_; have BK373 := n4_; have GW373 := n5_; have GE373 := n6_; clear n0_ n1_ n2_ n3_ n4_ n5_ n6_; clear hb hbox hg; have hcz26_0 : w25.cell? ⟨gb373, 0, none⟩ = some (.int .i64 0) := (blk_cell BK373.out 0).trans rfl; have hcz26_1 : w25.cell? ⟨gb373, 1, none⟩ = some (.int .i64 0) := (blk_cell BK373.out 1).trans rfl; have hcz26_2 : w25.cell? ⟨gb373, 2, none⟩ = some (.bool false) := (blk_cell BK373.out 2).trans rfl; have hcz26_3 : w25.cell? ⟨gb373, 3, none⟩ = some (.int .u32 0) := (blk_cell BK373.out 3).trans rfl; have hfz26_0 := blk_frozen BK373.out 0; have hfz26_1 := blk_frozen BK373.out 1; have hfz26_2 := blk_frozen BK373.out 2; have hfz26_3 := blk_frozen BK373.out 3; have p374 : 0 ≤ (x9_2 : Int) := of_decide_eq_true (by first | (with_reducible assumption) | assumption); have q374 : x9_2 < (t353.length : Int) := of_decide_eq_true (by first | (with_reducible assumption) | assumption); obtain ⟨ad374, e374, hx374_0, hx374_1, hx374_2, hx374_3⟩ := at_T39 (Kd.R_reads' HO_5.out).2.2 x9_2 p374 q374; obtain rfl : ad367 = ad374 := (by injection e374); have hn374_0 : ad367.block ≠ gb373 := Kd.own_blk (by first | exact Kd.R_ne HO_5.out BK373.out (by decide) | exact Kd.R_away HO_5.out (fun _ hk => by first | exact hk | exact hk.2 | exact hk.1 | exact hk.1.2 | exact hk.2.1 | exact hk.2.2)); have hn374_1 : ad367.block ≠ gb373 := Kd.own_blk (by first | exact Kd.R_ne HO_5.out BK373.out (by decide) | exact Kd.R_away HO_5.out (fun _ hk => by first | exact hk | exact hk.2 | exact hk.1 | exact hk.1.2 | exact hk.2.1 | exact hk.2.2)); have hn374_2 : ad367.block ≠ gb373 := Kd.own_blk (by first | exact Kd.R_ne HO_5.out BK373.out (by decide) | exact Kd.R_away HO_5.out (fun _ hk => by first | exact hk | exact hk.2 | exact hk.1 | exact hk.1.2 | exact hk.2.1 | exact hk.2.2)); have hn374_3 : ad367.block ≠ gb373 := Kd.own_blk (by first | exact Kd.R_ne HO_5.out BK373.out (by decide) | exact Kd.R_away HO_5.out (fun _ hk => by first | exact hk | exact hk.2 | exact hk.1 | exact hk.1.2 | exact hk.2.1 | exact hk.2.2)); replace hx374_0 := (cell_far (p := ⟨gb373, 0, none⟩) (by first | (rw [add_block]; exact hn374_0) | (show (Addr.add _ _).block ≠ _; rw [add_block]; exact hn374_0) | exact hn374_0) (.int .i64 t368)).trans hx374_0; replace hx374_1 := (cell_far (p := ⟨gb373, 0, none⟩) (by first | (rw [add_block]; exact hn374_0) | (show (Addr.add _ _).block ≠ _; rw [add_block]; exact hn374_0) | exact hn374_0) (.int .i64 t368)).trans hx374_1; replace hx374_2 := (cell_far (p := ⟨gb373, 0, none⟩) (by first | (rw [add_block]; exact hn374_0) | (show (Addr.add _ _).block ≠ _; rw [add_block]; exact hn374_0) | exact hn374_0) (.int .i64 t368)).trans hx374_2; replace hx374_3 := (cell_far (p := ⟨gb373, 0, none⟩) (by first | (rw [add_block]; exact hn374_0) | (show (Addr.add _ _).block ≠ _; rw [add_block]; exact hn374_0) | exact hn374_0) (.int .i64 t368)).trans hx374_3; replace hx374_0 := (cell_far (p := ⟨gb373, 1, none⟩) (by first | (rw [add_block]; exact hn374_1) | (show (Addr.add _ _).block ≠ _; rw [add_block]; exact hn374_1) | exact hn374_1) (.int .i64 t369)).trans hx374_0; replace hx374_1 := (cell_far (p := ⟨gb373, 1, none⟩) (by first | (rw [add_block]; exact hn374_1) | (show (Addr.add _ _).block ≠ _; rw [add_block]; exact hn374_1) | exact hn374_1) (.int .i64 t369)).trans hx374_1; replace hx374_2 := (cell_far (p := ⟨gb373, 1, none⟩) (by first | (rw [add_block]; exact hn374_1) | (show (Addr.add _ _).block ≠ _; rw [add_block]; exact hn374_1) | exact hn374_1) (.int .i64 t369)).trans hx374_2; replace hx374_3 := (cell_far (p := ⟨gb373, 1, none⟩) (by first | (rw [add_block]; exact hn374_1) | (show (Addr.add _ _).block ≠ _; rw [add_block]; exact hn374_1) | exact hn374_1) (.int .i64 t369)).trans hx374_3; replace hx374_0 := (cell_far (p := ⟨gb373, 2, none⟩) (by first | (rw [add_block]; exact hn374_2) | (show (Addr.add _ _).block ≠ _; rw [add_block]; exact hn374_2) | exact hn374_2) (.bool t370)).trans hx374_0; replace hx374_1 := (cell_far (p := ⟨gb373, 2, none⟩) (by first | (rw [add_block]; exact hn374_2) | (show (Addr.add _ _).block ≠ _; rw [add_block]; exact hn374_2) | exact hn374_2) (.bool t370)).trans hx374_1; replace hx374_2 := (cell_far (p := ⟨gb373, 2, none⟩) (by first | (rw [add_block]; exact hn374_2) | (show (Addr.add _ _).block ≠ _; rw [add_block]; exact hn374_2) | exact hn374_2) (.bool t370)).trans hx374_2; replace hx374_3 := (cell_far (p := ⟨gb373, 2, none⟩) (by first | (rw [add_block]; exact hn374_2) | (show (Addr.add _ _).block ≠ _; rw [add_block]; exact hn374_2) | exact hn374_2) (.bool t370)).trans hx374_3; replace hx374_0 := (cell_far (p := ⟨gb373, 3, none⟩) (by first | (rw [add_block]; exact hn374_3) | (show (Addr.add _ _).block ≠ _; rw [add_block]; exact hn374_3) | exact hn374_3) (.int .u32 t371)).trans hx374_0; replace hx374_1 := (cell_far (p := ⟨gb373, 3, none⟩) (by first | (rw [add_block]; exact hn374_3) | (show (Addr.add _ _).block ≠ _; rw [add_block]; exact hn374_3) | exact hn374_3) (.int .u32 t371)).trans hx374_1; replace hx374_2 := (cell_far (p := ⟨gb373, 3, none⟩) (by first | (rw [add_block]; exact hn374_3) | (show (Addr.add _ _).block ≠ _; rw [add_block]; exact hn374_3) | exact hn374_3) (.int .u32 t371)).trans hx374_2; replace hx374_3 := (cell_far (p := ⟨gb373, 3, none⟩) (by first | (rw [add_block]; exact hn374_3) | (show (Addr.add _ _).block ≠ _; rw [add_block]; exact hn374_3) | exact hn374_3) (.int .u32 t371)).trans hx374_3; (try have hy374_0 := fun (n_ : Nat) => (show ((((((w25.drewN n_).setCell ⟨gb373, 0, none⟩ (.int .i64 t368)).setCell ⟨gb373, 1, none⟩ (.int .i64 t369)).setCell ⟨gb373, 2, none⟩ (.bool t370)).setCell ⟨gb373, 3, none⟩ (.int .u32 t371))).cell? _ = some _ from hx374_0)); (try have hy374_1 := fun (n_ : Nat) => (show ((((((w25.drewN n_).setCell ⟨gb373, 0, none⟩ (.int .i64 t368)).setCell ⟨gb373, 1, none⟩ (.int .i64 t369)).setCell ⟨gb373, 2, none⟩ (.bool t370)).setCell ⟨gb373, 3, none⟩ (.int .u32 t371))).cell? _ = some _ from hx374_1)); (try have hy374_2 := fun (n_ : Nat) => (show ((((((w25.drewN n_).setCell ⟨gb373, 0, none⟩ (.int .i64 t368)).setCell ⟨gb373, 1, none⟩ (.int .i64 t369)).setCell ⟨gb373, 2, none⟩ (.bool t370)).setCell ⟨gb373, 3, none⟩ (.int .u32 t371))).cell? _ = some _ from hx374_2)); (try have hy374_3 := fun (n_ : Nat) => (show ((((((w25.drewN n_).setCell ⟨gb373, 0, none⟩ (.int .i64 t368)).setCell ⟨gb373, 1, none⟩ (.int .i64 t369)).setCell ⟨gb373, 2, none⟩ (.bool t370)).setCell ⟨gb373, 3, none⟩ (.int .u32 t371))).cell? _ = some _ from hx374_3)); clear hn374_0; clear hn374_1; clear hn374_2; clear hn374_3; replace p374 := eq_true p374; replace q374 := eq_true q374)))
         go_loopg [12, 13] k2 (fun kq v12 v13 w' => ∃ (x12_3 : Int) (x13_3 : Int), v12 = .int .i64 x12_3 ∧ v13 = .int .i64 x13_3 ∧ Aside0 (halterlaw24_FamilyOrphans.l1 kq a1 t353 t359 t362 x9_2 t372 x12_3 x13_3 t368 t369 t370 t371 = some r) ∧ Aside0 (kq ≤ k2) ∧ Aside0 (Kd.R k39 39 w' w.heap.size (fun k_ => some k_ ≠ ((.slice Ao23 t362.length co23) : Value).ownBlock ∧ k_ ≠ gb373) (.slice (some ad367) t353.length co17) t353) ∧ Aside0 (Kd.R (Kd.int .i64) 3 w' w.heap.size (fun _ => True) v360 t359) ∧ Aside0 (Kd.R k39 39 w' w.heap.size (fun k_ => some k_ ≠ ((.slice (some ad367) t353.length co17) : Value).ownBlock ∧ k_ ≠ gb373) (.slice Ao23 t362.length co23) t362) ∧ Aside0 (w'.heap[gb373]? = some (.cells #[.int .i64 t368, .int .i64 t369, .bool t370, .int .u32 t371] 39 (0, 0))) ∧ Aside0 (Below w.heap.size w w'))
         case atStart => exact ⟨((rd_T39 t353 x9_2).f1), (0), (by first | rfl | (simp; done) | (simp [*]; done)), (by first | rfl | (simp; done) | (simp [*]; done)), H', ⟨Nat.le_refl _⟩, ⟨by (with_reducible repeat (first | apply Kd.R_alloc | apply Kd.R_drewN | apply Kd.R_drew)); exact Kd.R_mono (Kd.R_far (p := ⟨gb373, 3, none⟩) (Kd.R_far (p := ⟨gb373, 2, none⟩) (Kd.R_far (p := ⟨gb373, 1, none⟩) (Kd.R_far (p := ⟨gb373, 0, none⟩) (Kd.R_mono HO_5.out (fun k_ hk => (⟨hk, hk.2⟩ : _ ∧ k_ ≠ gb373))) (fun _ hk => hk.2) (.int .i64 t368)) (fun _ hk => hk.2) (.int .i64 t369)) (fun _ hk => hk.2) (.bool t370)) (fun _ hk => hk.2) (.int .u32 t371)) (fun _ hk => ⟨hk.1.1, hk.1.2⟩)⟩, ⟨by (with_reducible repeat (first | apply Kd.R_alloc | apply Kd.R_drewN | apply Kd.R_drew)); exact Kd.R_mono (Kd.R_far (p := ⟨gb373, 3, none⟩) (Kd.R_far (p := ⟨gb373, 2, none⟩) (Kd.R_far (p := ⟨gb373, 1, none⟩) (Kd.R_far (p := ⟨gb373, 0, none⟩) (Kd.R_types HO_6.out BK373.out (by decide)) (fun _ hk => hk.2) (.int .i64 t368)) (fun _ hk => hk.2) (.int .i64 t369)) (fun _ hk => hk.2) (.bool t370)) (fun _ hk => hk.2) (.int .u32 t371)) (fun _ hk => trivial)⟩, ⟨by (with_reducible repeat (first | apply Kd.R_alloc | apply Kd.R_drewN | apply Kd.R_drew)); exact Kd.R_mono (Kd.R_far (p := ⟨gb373, 3, none⟩) (Kd.R_far (p := ⟨gb373, 2, none⟩) (Kd.R_far (p := ⟨gb373, 1, none⟩) (Kd.R_far (p := ⟨gb373, 0, none⟩) (Kd.R_mono HO_7.out (fun k_ hk => (⟨hk, hk.2⟩ : _ ∧ k_ ≠ gb373))) (fun _ hk => hk.2) (.int .i64 t368)) (fun _ hk => hk.2) (.int .i64 t369)) (fun _ hk => hk.2) (.bool t370)) (fun _ hk => hk.2) (.int .u32 t371)) (fun _ hk => ⟨hk.1.1, hk.1.2⟩)⟩, ⟨by (with_reducible repeat (first | refine blk_drewN ?_ _ | refine blk_drew ?_ | refine blk_alloc ?_ _)); refine blk_put (cs := #[.int .i64 t368, .int .i64 t369, .bool t370, .int .u32 0]) ?_ 3 _ rfl; (with_reducible repeat (first | refine blk_drewN ?_ _ | refine blk_drew ?_ | refine blk_alloc ?_ _)); refine blk_put (cs := #[.int .i64 t368, .int .i64 t369, .bool false, .int .u32 0]) ?_ 2 _ rfl; (with_reducible repeat (first | refine blk_drewN ?_ _ | refine blk_drew ?_ | refine blk_alloc ?_ _)); refine blk_put (cs := #[.int .i64 t368, .int .i64 0, .bool false, .int .u32 0]) ?_ 1 _ rfl; (with_reducible repeat (first | refine blk_drewN ?_ _ | refine blk_drew ?_ | refine blk_alloc ?_ _)); refine blk_put (cs := #[.int .i64 0, .int .i64 0, .bool false, .int .u32 0]) ?_ 0 _ rfl; (with_reducible repeat (first | refine blk_drewN ?_ _ | refine blk_drew ?_ | refine blk_alloc ?_ _)); exact BK373.out⟩, ⟨by repeat (first | (with_reducible first | exact HB.out | apply below_alloc | apply pw_below_drewN | apply below_drew1 | refine below_set ?_ GE373.out) | exact HB.out)⟩⟩
         case round =>
          clear H'
          try clear c1
          try clear c2
          try clear p2
          try clear p3
          try clear q3
          try clear hx3
          try clear c4
          try clear c6
          try clear c6b0
          try clear c6b1
          try clear c12
          try clear c20
          try clear c20b0
          try clear c21
          try clear c21b0
          try clear hcz26_0
          try clear hcz26_1
          try clear hcz26_2
          try clear hcz26_3
          try clear hfz26_0
          try clear hfz26_1
          try clear hfz26_2
          try clear hfz26_3
          try clear hx367_0
          try clear hx367_1
          try clear hx367_2
          try clear hx367_3
          try clear hx374_0
          try clear hx374_1
          try clear hx374_2
          try clear hx374_3
          try clear p2
          try clear p367
          try clear p374
          try clear q3
          try clear q357
          try clear q366
          try clear q367
          try clear q374
          obtain ⟨x12_3, x13_3, rfl, rfl, HA, HK3, HO_5, HO_6, HO_7, BK373, HB⟩ := hrel
          cases gk with
          | zero => exact absurd HA.out (by simp [halterlaw24_FamilyOrphans.l1])
          | succ k3 =>
           have H := HA.out
           clear HA
           simp only [halterlaw24_FamilyOrphans.l1] at H
           by_cases c27 : x13_3 < (t359.length : Int)
           ·rw [if_pos c27] at H
            have c27b0 : decide (x13_3 < (t359.length : Int)) = true := decide_eq_true c27
            clear c27
            by_cases c28 : 0 ≤ x13_3
            ·rw [if_pos c28] at H
             have c28b0 : decide (0 ≤ x13_3) = true := decide_eq_true c28
             clear c28
             by_cases c29 : (rd t359 x13_3) = t368
             ·rw [if_pos c29] at H
              have c29b0 : ((rd t359 x13_3) == t368) = true := beq_iff_eq.mpr c29
              have c29b1 : ((rd t359 x13_3) != t368) = false := bne_eq_false_iff_eq.mpr c29
              clear c29
              have H' := Aside0.mk H
              clear H
              obtain ⟨Ao30, co30, eo30⟩ := Kd.R_slice HO_6.out
              subst eo30
              have p375 : 0 ≤ (x13_3 : Int) := of_decide_eq_true (by first | (with_reducible assumption) | assumption)
              have q375 : x13_3 < (t359.length : Int) := of_decide_eq_true (by first | (with_reducible assumption) | assumption)
              obtain ⟨ad375, e375, hx375_0⟩ := Kd.at_int (Kd.R_reads' HO_6.out).2.2 x13_3 p375 q375
              cases e375
              replace p375 := eq_true p375
              replace q375 := eq_true q375
              have hcz31_0 : wr.cell? ⟨gb373, 0, none⟩ = some (.int .i64 t368) := (blk_cell BK373.out 0).trans rfl
              have hcz31_1 : wr.cell? ⟨gb373, 1, none⟩ = some (.int .i64 t369) := (blk_cell BK373.out 1).trans rfl
              have hcz31_2 : wr.cell? ⟨gb373, 2, none⟩ = some (.bool t370) := (blk_cell BK373.out 2).trans rfl
              have hcz31_3 : wr.cell? ⟨gb373, 3, none⟩ = some (.int .u32 t371) := (blk_cell BK373.out 3).trans rfl
              have hfz31_0 := blk_frozen BK373.out 0
              have hfz31_1 := blk_frozen BK373.out 1
              have hfz31_2 := blk_frozen BK373.out 2
              have hfz31_3 := blk_frozen BK373.out 3
              go_wp2
              repeat (go_quiet (fail); try go_wp2)
              go_roundg k3
              case measure => have := HJ3.out; have := HK2.out; have := HK3.out; omega
              case rel => exact ⟨(1), (wrap64 (x13_3 + 1)), (by first | rfl | (simp; done) | (simp [*]; done)), (by first | rfl | (simp; done) | (simp [*]; done)), H', ⟨by have := HJ3.out; have := HK2.out; have := HK3.out; omega⟩, ⟨by (with_reducible repeat (first | apply Kd.R_alloc | apply Kd.R_drewN | apply Kd.R_drew)); exact HO_5.out⟩, ⟨by (with_reducible repeat (first | apply Kd.R_alloc | apply Kd.R_drewN | apply Kd.R_drew)); exact HO_6.out⟩, ⟨by (with_reducible repeat (first | apply Kd.R_alloc | apply Kd.R_drewN | apply Kd.R_drew)); exact HO_7.out⟩, ⟨by (with_reducible repeat (first | refine blk_drewN ?_ _ | refine blk_drew ?_ | refine blk_alloc ?_ _)); exact BK373.out⟩, ⟨by repeat (first | (with_reducible first | exact HB.out | apply below_alloc | apply pw_below_drewN | apply below_drew1 | refine below_set ?_ GE373.out) | exact HB.out)⟩⟩
             ·rw [if_neg c29] at H
              have c29b0 : ((rd t359 x13_3) == t368) = false := beq_eq_false_iff_ne.mpr c29
              have c29b1 : ((rd t359 x13_3) != t368) = true := bne_iff_ne.mpr c29
              have H' := Aside0.mk H
              clear H
              obtain ⟨Ao32, co32, eo32⟩ := Kd.R_slice HO_6.out
              subst eo32
              have p375 : 0 ≤ (x13_3 : Int) := of_decide_eq_true (by first | (with_reducible assumption) | assumption)
              have q375 : x13_3 < (t359.length : Int) := of_decide_eq_true (by first | (with_reducible assumption) | assumption)
              obtain ⟨ad375, e375, hx375_0⟩ := Kd.at_int (Kd.R_reads' HO_6.out).2.2 x13_3 p375 q375
              cases e375
              replace p375 := eq_true p375
              replace q375 := eq_true q375
              have hcz33_0 : wr.cell? ⟨gb373, 0, none⟩ = some (.int .i64 t368) := (blk_cell BK373.out 0).trans rfl
              have hcz33_1 : wr.cell? ⟨gb373, 1, none⟩ = some (.int .i64 t369) := (blk_cell BK373.out 1).trans rfl
              have hcz33_2 : wr.cell? ⟨gb373, 2, none⟩ = some (.bool t370) := (blk_cell BK373.out 2).trans rfl
              have hcz33_3 : wr.cell? ⟨gb373, 3, none⟩ = some (.int .u32 t371) := (blk_cell BK373.out 3).trans rfl
              have hfz33_0 := blk_frozen BK373.out 0
              have hfz33_1 := blk_frozen BK373.out 1
              have hfz33_2 := blk_frozen BK373.out 2
              have hfz33_3 := blk_frozen BK373.out 3
              go_wp2
              repeat (go_quiet (fail); try go_wp2)
              go_roundg k3
              case measure => have := HJ3.out; have := HK2.out; have := HK3.out; omega
              case rel => exact ⟨(x12_3), (wrap64 (x13_3 + 1)), (by first | rfl | (simp; done) | (simp [*]; done)), (by first | rfl | (simp; done) | (simp [*]; done)), H', ⟨by have := HJ3.out; have := HK2.out; have := HK3.out; omega⟩, ⟨by (with_reducible repeat (first | apply Kd.R_alloc | apply Kd.R_drewN | apply Kd.R_drew)); exact HO_5.out⟩, ⟨by (with_reducible repeat (first | apply Kd.R_alloc | apply Kd.R_drewN | apply Kd.R_drew)); exact HO_6.out⟩, ⟨by (with_reducible repeat (first | apply Kd.R_alloc | apply Kd.R_drewN | apply Kd.R_drew)); exact HO_7.out⟩, ⟨by (with_reducible repeat (first | refine blk_drewN ?_ _ | refine blk_drew ?_ | refine blk_alloc ?_ _)); exact BK373.out⟩, ⟨by repeat (first | (with_reducible first | exact HB.out | apply below_alloc | apply pw_below_drewN | apply below_drew1 | refine below_set ?_ GE373.out) | exact HB.out)⟩⟩
            ·rw [if_neg c28] at H
             exact absurd H (by simp)
           ·rw [if_neg c27] at H
            have c27b0 : decide (x13_3 < (t359.length : Int)) = false := decide_eq_false c27
            clear c27
            rcases t372 with _ | q376
            ·have H1 : (if t369 = x12_3 then (if t368 = a1 then (if t370 = true then (if t371 = 9 then (halterlaw24_FamilyOrphans.l0 k3 a1 t353 t359 t362 (wrap64 (x9_2 + 1))) else (some false)) else (some false)) else (if 0 ≤ x9_2 then (if x9_2 < (t353.length : Int) then (if (t370 != ((rd_T39 t353 x9_2).f2)) = true then (some false) else (if t371 = ((rd_T39 t353 x9_2).f3) then (halterlaw24_FamilyOrphans.l0 k3 a1 t353 t359 t362 (wrap64 (x9_2 + 1))) else (some false))) else (none)) else (none))) else (some false)) = some r := by rw [if_pos (show (none : Option Int).isNone = true by rfl)] at H; exact H
             clear H
             have H := H1
             clear H1
             try simp only [errW_none, errW_some]
             by_cases c34 : t369 = x12_3
             ·rw [if_pos c34] at H
              have c34b0 : (t369 == x12_3) = true := beq_iff_eq.mpr c34
              have c34b1 : (t369 != x12_3) = false := bne_eq_false_iff_eq.mpr c34
              clear c34
              by_cases c35 : t368 = a1
              ·rw [if_pos c35] at H
               have c35b0 : (t368 == a1) = true := beq_iff_eq.mpr c35
               have c35b1 : (t368 != a1) = false := bne_eq_false_iff_eq.mpr c35
               clear c35
               by_cases c36 : t370 = true
               ·subst c36
                have H1 : (if t371 = 9 then (halterlaw24_FamilyOrphans.l0 k3 a1 t353 t359 t362 (wrap64 (x9_2 + 1))) else (some false)) = some r := by rw [if_pos rfl] at H; exact H
                clear H
                have H := H1
                clear H1
                by_cases c37 : t371 = 9
                ·rw [if_pos c37] at H
                 have c37b0 : (t371 == 9) = true := beq_iff_eq.mpr c37
                 have c37b1 : (t371 != 9) = false := bne_eq_false_iff_eq.mpr c37
                 clear c37
                 have H' := Aside0.mk H
                 clear H
                 obtain ⟨Ao38, co38, eo38⟩ := Kd.R_slice HO_6.out
                 subst eo38
                 have hcz39_0 : wr.cell? ⟨gb373, 0, none⟩ = some (.int .i64 t368) := (blk_cell BK373.out 0).trans rfl
                 have hcz39_1 : wr.cell? ⟨gb373, 1, none⟩ = some (.int .i64 t369) := (blk_cell BK373.out 1).trans rfl
                 have hcz39_2 : wr.cell? ⟨gb373, 2, none⟩ = some (.bool true) := (blk_cell BK373.out 2).trans rfl
                 have hcz39_3 : wr.cell? ⟨gb373, 3, none⟩ = some (.int .u32 t371) := (blk_cell BK373.out 3).trans rfl
                 have hfz39_0 := blk_frozen BK373.out 0
                 have hfz39_1 := blk_frozen BK373.out 1
                 have hfz39_2 := blk_frozen BK373.out 2
                 have hfz39_3 := blk_frozen BK373.out 3
                 go_wp2
                 repeat (go_quiet (fail); try go_wp2)
                 go_roundg k3
                 case measure => have := HJ3.out; have := HK2.out; have := HK3.out; omega
                 case rel => exact ⟨(wrap64 (x9_2 + 1)), (by first | rfl | (simp; done) | (simp [*]; done)), H', ⟨by have := HJ3.out; have := HK2.out; have := HK3.out; omega⟩, ⟨by (with_reducible repeat (first | apply Kd.R_alloc | apply Kd.R_drewN | apply Kd.R_drew)); exact Kd.R_mono HO_5.out (fun _ hk => hk.1)⟩, ⟨by (with_reducible repeat (first | apply Kd.R_alloc | apply Kd.R_drewN | apply Kd.R_drew)); exact HO_6.out⟩, ⟨by (with_reducible repeat (first | apply Kd.R_alloc | apply Kd.R_drewN | apply Kd.R_drew)); exact Kd.R_mono HO_7.out (fun _ hk => hk.1)⟩, ⟨by repeat (first | (with_reducible first | exact HB.out | apply below_alloc | apply pw_below_drewN | apply below_drew1 | refine below_set ?_ GE373.out) | exact HB.out)⟩⟩
                ·rw [if_neg c37] at H
                 have c37b0 : (t371 == 9) = false := beq_eq_false_iff_ne.mpr c37
                 have c37b1 : (t371 != 9) = true := bne_iff_ne.mpr c37
                 obtain rfl := Option.some.inj H
                 exact absurd hTrue.out (by decide)
               ·replace c36 := Bool.eq_false_iff.mpr c36
                subst c36
                have H1 : (some false) = some r := by rw [if_neg (show ¬ (false = true) by decide)] at H; exact H
                clear H
                have H := H1
                clear H1
                obtain rfl := Option.some.inj H
                exact absurd hTrue.out (by decide)
              ·rw [if_neg c35] at H
               have c35b0 : (t368 == a1) = false := beq_eq_false_iff_ne.mpr c35
               have c35b1 : (t368 != a1) = true := bne_iff_ne.mpr c35
               by_cases c40 : 0 ≤ x9_2
               ·rw [if_pos c40] at H
                have c40b0 : decide (0 ≤ x9_2) = true := decide_eq_true c40
                clear c40
                by_cases c41 : x9_2 < (t353.length : Int)
                ·rw [if_pos c41] at H
                 have c41b0 : decide (x9_2 < (t353.length : Int)) = true := decide_eq_true c41
                 clear c41
                 by_cases c42 : (t370 != ((rd_T39 t353 x9_2).f2)) = true
                 ·rw [if_pos c42] at H
                  have c42b0 : (t370 != ((rd_T39 t353 x9_2).f2)) = true := c42
                  (try (have c42b1 : decide (t370 = ((rd_T39 t353 x9_2).f2)) = false := by simpa using c42))
                  (try (have c42b2 : (t370 == ((rd_T39 t353 x9_2).f2)) = false := by simpa using c42))
                  (try (have c42b3 : ¬ (t370 = ((rd_T39 t353 x9_2).f2)) := by simpa using c42))
                  clear c42
                  obtain rfl := Option.some.inj H
                  exact absurd hTrue.out (by decide)
                 ·rw [if_neg c42] at H
                  have c42b0 : (t370 != ((rd_T39 t353 x9_2).f2)) = false := by simpa using c42
                  (try (have c42b1 : decide (t370 = ((rd_T39 t353 x9_2).f2)) = true := by simpa using c42))
                  (try (have c42b2 : (t370 == ((rd_T39 t353 x9_2).f2)) = true := by simpa using c42))
                  clear c42
                  by_cases c43 : t371 = ((rd_T39 t353 x9_2).f3)
                  ·rw [if_pos c43] at H
                   have c43b0 : (t371 == ((rd_T39 t353 x9_2).f3)) = true := beq_iff_eq.mpr c43
                   have c43b1 : (t371 != ((rd_T39 t353 x9_2).f3)) = false := bne_eq_false_iff_eq.mpr c43
                   clear c43
                   have H' := Aside0.mk H
                   clear H
                   obtain ⟨Ao44, co44, eo44⟩ := Kd.R_slice HO_6.out
                   subst eo44
                   have hcz45_0 : wr.cell? ⟨gb373, 0, none⟩ = some (.int .i64 t368) := (blk_cell BK373.out 0).trans rfl
                   have hcz45_1 : wr.cell? ⟨gb373, 1, none⟩ = some (.int .i64 t369) := (blk_cell BK373.out 1).trans rfl
                   have hcz45_2 : wr.cell? ⟨gb373, 2, none⟩ = some (.bool t370) := (blk_cell BK373.out 2).trans rfl
                   have hcz45_3 : wr.cell? ⟨gb373, 3, none⟩ = some (.int .u32 t371) := (blk_cell BK373.out 3).trans rfl
                   have hfz45_0 := blk_frozen BK373.out 0
                   have hfz45_1 := blk_frozen BK373.out 1
                   have hfz45_2 := blk_frozen BK373.out 2
                   have hfz45_3 := blk_frozen BK373.out 3
                   have p377 : 0 ≤ (x9_2 : Int) := of_decide_eq_true (by first | (with_reducible assumption) | assumption)
                   have q377 : x9_2 < (t353.length : Int) := of_decide_eq_true (by first | (with_reducible assumption) | assumption)
                   obtain ⟨ad377, e377, hx377_0, hx377_1, hx377_2, hx377_3⟩ := at_T39 (Kd.R_reads' HO_5.out).2.2 x9_2 p377 q377
                   obtain rfl : ad367 = ad377 := (by injection e377)
                   replace p377 := eq_true p377
                   replace q377 := eq_true q377
                   have p378 : 0 ≤ (x9_2 : Int) := of_decide_eq_true (by first | (with_reducible assumption) | assumption)
                   have q378 : x9_2 < (t353.length : Int) := of_decide_eq_true (by first | (with_reducible assumption) | assumption)
                   obtain ⟨ad378, e378, hx378_0, hx378_1, hx378_2, hx378_3⟩ := at_T39 (Kd.R_reads' HO_5.out).2.2 x9_2 p378 q378
                   obtain rfl : ad367 = ad378 := (by injection e378)
                   replace p378 := eq_true p378
                   replace q378 := eq_true q378
                   go_wp2
                   repeat (go_quiet (fail); try go_wp2)
                   go_roundg k3
                   case measure => have := HJ3.out; have := HK2.out; have := HK3.out; omega
                   case rel => exact ⟨(wrap64 (x9_2 + 1)), (by first | rfl | (simp; done) | (simp [*]; done)), H', ⟨by have := HJ3.out; have := HK2.out; have := HK3.out; omega⟩, ⟨by (with_reducible repeat (first | apply Kd.R_alloc | apply Kd.R_drewN | apply Kd.R_drew)); exact Kd.R_mono HO_5.out (fun _ hk => hk.1)⟩, ⟨by (with_reducible repeat (first | apply Kd.R_alloc | apply Kd.R_drewN | apply Kd.R_drew)); exact HO_6.out⟩, ⟨by (with_reducible repeat (first | apply Kd.R_alloc | apply Kd.R_drewN | apply Kd.R_drew)); exact Kd.R_mono HO_7.out (fun _ hk => hk.1)⟩, ⟨by repeat (first | (with_reducible first | exact HB.out | apply below_alloc | apply pw_below_drewN | apply below_drew1 | refine below_set ?_ GE373.out) | exact HB.out)⟩⟩
                  ·rw [if_neg c43] at H
                   have c43b0 : (t371 == ((rd_T39 t353 x9_2).f3)) = false := beq_eq_false_iff_ne.mpr c43
                   have c43b1 : (t371 != ((rd_T39 t353 x9_2).f3)) = true := bne_iff_ne.mpr c43
                   obtain rfl := Option.some.inj H
                   exact absurd hTrue.out (by decide)
                ·rw [if_neg c41] at H
                 exact absurd H (by simp)
               ·rw [if_neg c40] at H
                exact absurd H (by simp)
             ·rw [if_neg c34] at H
              have c34b0 : (t369 == x12_3) = false := beq_eq_false_iff_ne.mpr c34
              have c34b1 : (t369 != x12_3) = true := bne_iff_ne.mpr c34
              obtain rfl := Option.some.inj H
              exact absurd hTrue.out (by decide)
            ·have H1 : (some false) = some r := by rw [if_neg (show ¬ (some q376).isNone = true by simp)] at H; exact H
             clear H
             have H := H1
             clear H1
             try simp only [errW_none, errW_some]
             obtain rfl := Option.some.inj H
             exact absurd hTrue.out (by decide)
        ·rw [if_neg c21] at H
         exact absurd H (by simp)
       ·rw [if_neg c20] at H
        have c20b0 : decide (x9_2 < (t353.length : Int)) = false := decide_eq_false c20
        clear c20
        replace H := Option.bind_eq_some_iff.mp H
        obtain ⟨⟨t379, t380⟩, A460, H⟩ := H
        replace H : (if (t362.length : Int) = (t353.length : Int) then ((family_Children.f k2 t362 a1).bind fun t383 => (if (t383.length : Int) = 0 then ((halterlaw24_num.f t380).bind fun t386 => (if t386 = 3 then ((halterlaw24_sure.f k2).bind fun t387 => (some t387)) else (some false))) else (some false))) else (some false)) = some r := H
        have A46 := Aside0.mk A460
        clear A460
        by_cases c47 : (t362.length : Int) = (t353.length : Int)
        ·rw [if_pos c47] at H
         have c47b0 : ((t362.length : Int) == (t353.length : Int)) = true := beq_iff_eq.mpr c47
         have c47b1 : ((t362.length : Int) != (t353.length : Int)) = false := bne_eq_false_iff_eq.mpr c47
         have c47b2 : (t362.length == t353.length) = true := by first | simpa using c47 | (simp at c47 ⊢; omega)
         clear c47
         replace H := Option.bind_eq_some_iff.mp H
         obtain ⟨t383, A480, H⟩ := H
         replace H : (if (t383.length : Int) = 0 then ((halterlaw24_num.f t380).bind fun t386 => (if t386 = 3 then ((halterlaw24_sure.f k2).bind fun t387 => (some t387)) else (some false))) else (some false)) = some r := H
         have A48 := Aside0.mk A480
         clear A480
         by_cases c49 : (t383.length : Int) = 0
         ·rw [if_pos c49] at H
          have c49b0 : ((t383.length : Int) == 0) = true := beq_iff_eq.mpr c49
          have c49b1 : ((t383.length : Int) != 0) = false := bne_eq_false_iff_eq.mpr c49
          clear c49
          replace H := Option.bind_eq_some_iff.mp H
          obtain ⟨t386, A500, H⟩ := H
          replace H : (if t386 = 3 then ((halterlaw24_sure.f k2).bind fun t387 => (some t387)) else (some false)) = some r := H
          have A50 := Aside0.mk A500
          clear A500
          by_cases c51 : t386 = 3
          ·rw [if_pos c51] at H
           have c51b0 : (t386 == 3) = true := beq_iff_eq.mpr c51
           have c51b1 : (t386 != 3) = false := bne_eq_false_iff_eq.mpr c51
           clear c51
           replace H := Option.bind_eq_some_iff.mp H
           obtain ⟨t387, A520, H⟩ := H
           replace H : (some t387) = some r := H
           have A52 := Aside0.mk A520
           clear A520
           obtain rfl := Option.some.inj H
           obtain ⟨Ao53, co53, eo53⟩ := Kd.R_slice HO_7.out
           subst eo53
           go_wp2_with (first | (go_at_call 9; (with_reducible refine (family_Exit.calls k2 _ _ t362 a1 9 t379 t380 _ ?side1 ?side2 A46.out).mono ?_); (case side1 => repeat (first | exact (Kd.R_reads' HO_7.out).2.2 | (with_reducible refine Kd.C_alloc ?_ _) | (with_reducible refine Kd.C_drewN ?_ _) | (with_reducible refine Kd.C_drew ?_))); (case side2 => exact (Kd.R_reads' HO_7.out).2.1); rintro e w54 ⟨v381, rfl, ho0, hb⟩; have n0_ := Aside0.mk (Kd.R_elder' (by (with_reducible repeat (first | apply Kd.R_alloc | apply Kd.R_drewN | apply Kd.R_drew)); exact HO_5.out) (Kd.R_base ho0) hb); have n1_ := Aside0.mk (Kd.R_below (by (with_reducible repeat (first | apply Kd.R_alloc | apply Kd.R_drewN | apply Kd.R_drew)); exact HO_6.out) hb); have n2_ := Aside0.mk (Kd.R_elder' (by (with_reducible repeat (first | apply Kd.R_alloc | apply Kd.R_drewN | apply Kd.R_drew)); exact HO_7.out) (Kd.R_base ho0) hb); have n3_ := Aside0.mk (Kd.R_lower (Kd.R_new' (Kd.R_new' ho0 (Kd.R_lt (by (with_reducible repeat (first | apply Kd.R_alloc | apply Kd.R_drewN | apply Kd.R_drew)); exact HO_5.out))) (Kd.R_lt (by (with_reducible repeat (first | apply Kd.R_alloc | apply Kd.R_drewN | apply Kd.R_drew)); exact HO_7.out))) (below_size (hbx))); have n4_ := Aside0.mk (below_step (hbx) hb); clear HO_5; clear HO_6; clear HO_7; clear HB; have HO_5 := n0_; have HO_6 := n1_; have HO_7 := n2_; have HO382 := n3_; have HB := n4_; clear n0_ n1_ n2_ n3_ n4_; (try clear hb); (try clear hb2); (try clear hk); (try clear hi); (try clear ho0); (try simp only [errW_none, errW_some])) | (go_at_call 17; (with_reducible refine (family_Children.calls k2 _ _ t362 a1 t383 _ ?side1 ?side2 A48.out).mono ?_); (case side1 => repeat (first | exact (Kd.R_reads' HO_7.out).2.2 | (with_reducible refine Kd.C_alloc ?_ _) | (with_reducible refine Kd.C_drewN ?_ _) | (with_reducible refine Kd.C_drew ?_))); (case side2 => exact (Kd.R_reads' HO_7.out).2.1); rintro e w55 ⟨v384, rfl, ho0, hb⟩; have n0_ := Aside0.mk (Kd.R_below (by (with_reducible repeat (first | apply Kd.R_alloc | apply Kd.R_drewN | apply Kd.R_drew)); exact HO_5.out) hb); have n1_ := Aside0.mk (Kd.R_elder' (by (with_reducible repeat (first | apply Kd.R_alloc | apply Kd.R_drewN | apply Kd.R_drew)); exact HO_6.out) (Kd.R_base ho0) hb); have n2_ := Aside0.mk (Kd.R_below (by (with_reducible repeat (first | apply Kd.R_alloc | apply Kd.R_drewN | apply Kd.R_drew)); exact HO_7.out) hb); have n3_ := Aside0.mk (Kd.R_below (by (with_reducible repeat (first | apply Kd.R_alloc | apply Kd.R_drewN | apply Kd.R_drew)); exact HO382.out) hb); have n4_ := Aside0.mk (Kd.R_lower (Kd.R_new' ho0 (Kd.R_lt (by (with_reducible repeat (first | apply Kd.R_alloc | apply Kd.R_drewN | apply Kd.R_drew)); exact HO_6.out))) (below_size (hbx))); have n5_ := Aside0.mk (below_step (hbx) hb); clear HO_5; clear HO_6; clear HO_7; clear HO382; clear HB; have HO_5 := n0_; have HO_6 := n1_; have HO_7 := n2_; have HO382 := n3_; have HO385 := n4_; have HB := n5_; clear n0_ n1_ n2_ n3_ n4_ n5_; (try clear hb); (try clear hb2); (try clear hk); (try clear hi); (try clear ho0); obtain ⟨Ao56, co56, eo56⟩ := Kd.R_slice HO385.out; subst eo56; have CA50 := fun W (hG_ : GOK W) => halterlaw24_num.calls t380 t386 W A50.out hG_; try simp only [errW_none, errW_some] at CA50) | (go_at_call 15; (with_reducible refine (CA50 _ (by first | assumption | exact hG | exact GOK.below hG (hbx))).mono ?_); rintro e w57 ⟨rfl, hb⟩; have n0_ := Aside0.mk (Kd.R_below (by (with_reducible repeat (first | apply Kd.R_alloc | apply Kd.R_drewN | apply Kd.R_drew)); exact HO_5.out) hb); have n1_ := Aside0.mk (Kd.R_below (by (with_reducible repeat (first | apply Kd.R_alloc | apply Kd.R_drewN | apply Kd.R_drew)); exact HO_6.out) hb); have n2_ := Aside0.mk (Kd.R_below (by (with_reducible repeat (first | apply Kd.R_alloc | apply Kd.R_drewN | apply Kd.R_drew)); exact HO_7.out) hb); have n3_ := Aside0.mk (Kd.R_below (by (with_reducible repeat (first | apply Kd.R_alloc | apply Kd.R_drewN | apply Kd.R_drew)); exact HO382.out) hb); have n4_ := Aside0.mk (Kd.R_below (by (with_reducible repeat (first | apply Kd.R_alloc | apply Kd.R_drewN | apply Kd.R_drew)); exact HO385.out) hb); have n5_ := Aside0.mk (below_step (hbx) hb); clear HO_5; clear HO_6; clear HO_7; clear HO382; clear HO385; clear HB; have HO_5 := n0_; have HO_6 := n1_; have HO_7 := n2_; have HO382 := n3_; have HO385 := n4_; have HB := n5_; clear n0_ n1_ n2_ n3_ n4_ n5_; (try clear hb); (try clear hb2); (try clear hk); (try clear hi)) | (go_at_call 5; (with_reducible refine (halterlaw24_sure.calls k2  t387 _ A52.out).mono ?_); rintro e w58 ⟨rfl, hb⟩; have n0_ := Aside0.mk (Kd.R_below (by (with_reducible repeat (first | apply Kd.R_alloc | apply Kd.R_drewN | apply Kd.R_drew)); exact HO_5.out) hb); have n1_ := Aside0.mk (Kd.R_below (by (with_reducible repeat (first | apply Kd.R_alloc | apply Kd.R_drewN | apply Kd.R_drew)); exact HO_6.out) hb); have n2_ := Aside0.mk (Kd.R_below (by (with_reducible repeat (first | apply Kd.R_alloc | apply Kd.R_drewN | apply Kd.R_drew)); exact HO_7.out) hb); have n3_ := Aside0.mk (Kd.R_below (by (with_reducible repeat (first | apply Kd.R_alloc | apply Kd.R_drewN | apply Kd.R_drew)); exact HO382.out) hb); have n4_ := Aside0.mk (Kd.R_below (by (with_reducible repeat (first | apply Kd.R_alloc | apply Kd.R_drewN | apply Kd.R_drew)); exact HO385.out) hb); have n5_ := Aside0.mk (below_step (hbx) hb); clear HO_5; clear HO_6; clear HO_7; clear HO382; clear HO385; clear HB; have HO_5 := n0_; have HO_6 := n1_; have HO_7 := n2_; have HO382 := n3_; have HO385 := n4_; have HB := n5_; clear n0_ n1_ n2_ n3_ n4_ n5_; (try clear hb); (try clear hb2); (try clear hk); (try clear hi)))
           repeat (go_quiet (first | (go_at_call 9; (with_reducible refine (family_Exit.calls k2 _ _ t362 a1 9 t379 t380 _ ?side1 ?side2 A46.out).mono ?_); (case side1 => repeat (first | exact (Kd.R_reads' HO_7.out).2.2 | (with_reducible refine Kd.C_alloc ?_ _) | (with_reducible refine Kd.C_drewN ?_ _) | (with_reducible refine Kd.C_drew ?_))); (case side2 => exact (Kd.R_reads' HO_7.out).2.1); rintro e w54 ⟨v381, rfl, ho0, hb⟩; have n0_ := Aside0.mk (Kd.R_elder' (by (with_reducible repeat (first | apply Kd.R_alloc | apply Kd.R_drewN | apply Kd.R_drew)); exact HO_5.out) (Kd.R_base ho0) hb); have n1_ := Aside0.mk (Kd.R_below (by (with_reducible repeat (first | apply Kd.R_alloc | apply Kd.R_drewN | apply Kd.R_drew)); exact HO_6.out) hb); have n2_ := Aside0.mk (Kd.R_elder' (by (with_reducible repeat (first | apply Kd.R_alloc | apply Kd.R_drewN | apply Kd.R_drew)); exact HO_7.out) (Kd.R_base ho0) hb); have n3_ := Aside0.mk (Kd.R_lower (Kd.R_new' (Kd.R_new' ho0 (Kd.R_lt (by (with_reducible repeat (first | apply Kd.R_alloc | apply Kd.R_drewN | apply Kd.R_drew)); exact HO_5.out))) (Kd.R_lt (by (with_reducible repeat (first | apply Kd.R_alloc | apply Kd.R_drewN | apply Kd.R_drew)); exact HO_7.out))) (below_size (hbx))); have n4_ := Aside0.mk (below_step (hbx) hb); clear HO_5; clear HO_6; clear HO_7; clear HB; have HO_5 := n0_; have HO_6 := n1_; have HO_7 := n2_; have HO382 := n3_; have HB := n4_; clear n0_ n1_ n2_ n3_ n4_; (try clear hb); (try clear hb2); (try clear hk); (try clear hi); (try clear ho0); (try simp only [errW_none, errW_some])) | (go_at_call 17; (with_reducible refine (family_Children.calls k2 _ _ t362 a1 t383 _ ?side1 ?side2 A48.out).mono ?_); (case side1 => repeat (first | exact (Kd.R_reads' HO_7.out).2.2 | (with_reducible refine Kd.C_alloc ?_ _) | (with_reducible refine Kd.C_drewN ?_ _) | (with_reducible refine Kd.C_drew ?_))); (case side2 => exact (Kd.R_reads' HO_7.out).2.1); rintro e w55 ⟨v384, rfl, ho0, hb⟩; have n0_ := Aside0.mk (Kd.R_below (by (with_reducible repeat (first | apply Kd.R_alloc | apply Kd.R_drewN | apply Kd.R_drew)); exact HO_5.out) hb); have n1_ := Aside0.mk (Kd.R_elder' (by (with_reducible repeat (first | apply Kd.R_alloc | apply Kd.R_drewN | apply Kd.R_drew)); exact HO_6.out) (Kd.R_base ho0) hb); have n2_ := Aside0.mk (Kd.R_below (by (with_reducible repeat (first | apply Kd.R_alloc | apply Kd.R_drewN | apply Kd.R_drew)); exact HO_7.out) hb); have n3_ := Aside0.mk (Kd.R_below (by (with_reducible repeat (first | apply Kd.R_alloc | apply Kd.R_drewN | apply Kd.R_drew)); exact HO382.out) hb); have n4_ := Aside0.mk (Kd.R_lower (Kd.R_new' ho0 (Kd.R_lt (by (with_reducible repeat (first | apply Kd.R_alloc | apply Kd.R_drewN | apply Kd.R_drew)); exact HO_6.out))) (below_size (hbx))); have n5_ := Aside0.mk (below_step (hbx) hb); clear HO_5; clear HO_6; clear HO_7; clear HO382; clear HB; have HO_5 := n0_; have HO_6 := n1_; have HO_7 := n2_; have HO382 := n3_; have HO385 := n4_; have HB := n5_; clear n0_ n1_ n2_ n3_ n4_ n5_; (try clear hb); (try clear hb2); (try clear hk); (try clear hi); (try clear ho0); obtain ⟨Ao56, co56, eo56⟩ := Kd.R_slice HO385.out; subst eo56; have CA50 := fun W (hG_ : GOK W) => halterlaw24_num.calls t380 t386 W A50.out hG_; try simp only [errW_none, errW_some] at CA50) | (go_at_call 15; (with_reducible refine (CA50 _ (by first | assumption | exact hG | exact GOK.below hG (hbx))).mono ?_); rintro e w57 ⟨rfl, hb⟩; have n0_ := Aside0.mk (Kd.R_below (by (with_reducible repeat (first | apply Kd.R_alloc | apply Kd.R_drewN | apply Kd.R_drew)); exact HO_5.out) hb); have n1_ := Aside0.mk (Kd.R_below (by (with_reducible repeat (first | apply Kd.R_alloc | apply Kd.R_drewN | apply Kd.R_drew)); exact HO_6.out) hb); have n2_ := Aside0.mk (Kd.R_below (by (with_reducible repeat (first | apply Kd.R_alloc | apply Kd.R_drewN | apply Kd.R_drew)); exact HO_7.out) hb); have n3_ := Aside0.mk (Kd.R_below (by (with_reducible repeat (first | apply Kd.R_alloc | apply Kd.R_drewN | apply Kd.R_drew)); exact HO382.out) hb); have n4_ := Aside0.mk (Kd.R_below (by (with_reducible repeat (first | apply Kd.R_alloc | apply Kd.R_drewN | apply Kd.R_drew)); exact HO385.out) hb); have n5_ := Aside0.mk (below_step (hbx) hb); clear HO_5; clear HO_6; clear HO_7; clear HO382; clear HO385; clear HB; have HO_5 := n0_; have HO_6 := n1_; have HO_7 := n2_; have HO382 := n3_; have HO385 := n4_; have HB := n5_; clear n0_ n1_ n2_ n3_ n4_ n5_; (try clear hb); (try clear hb2); (try clear hk); (try clear hi)) | (go_at_call 5; (with_reducible refine (halterlaw24_sure.calls k2  t387 _ A52.out).mono ?_); rintro e w58 ⟨rfl, hb⟩; have n0_ := Aside0.mk (Kd.R_below (by (with_reducible repeat (first | apply Kd.R_alloc | apply Kd.R_drewN | apply Kd.R_drew)); exact HO_5.out) hb); have n1_ := Aside0.mk (Kd.R_below (by (with_reducible repeat (first | apply Kd.R_alloc | apply Kd.R_drewN | apply Kd.R_drew)); exact HO_6.out) hb); have n2_ := Aside0.mk (Kd.R_below (by (with_reducible repeat (first | apply Kd.R_alloc | apply Kd.R_drewN | apply Kd.R_drew)); exact HO_7.out) hb); have n3_ := Aside0.mk (Kd.R_below (by (with_reducible repeat (first | apply Kd.R_alloc | apply Kd.R_drewN | apply Kd.R_drew)); exact HO382.out) hb); have n4_ := Aside0.mk (Kd.R_below (by (with_reducible repeat (first | apply Kd.R_alloc | apply Kd.R_drewN | apply Kd.R_drew)); exact HO385.out) hb); have n5_ := Aside0.mk (below_step (hbx) hb); clear HO_5; clear HO_6; clear HO_7; clear HO382; clear HO385; clear HB; have HO_5 := n0_; have HO_6 := n1_; have HO_7 := n2_; have HO382 := n3_; have HO385 := n4_; have HB := n5_; clear n0_ n1_ n2_ n3_ n4_ n5_; (try clear hb); (try clear hb2); (try clear hk); (try clear hi))); try go_wp2_with (first | (go_at_call 9; (with_reducible refine (family_Exit.calls k2 _ _ t362 a1 9 t379 t380 _ ?side1 ?side2 A46.out).mono ?_); (case side1 => repeat (first | exact (Kd.R_reads' HO_7.out).2.2 | (with_reducible refine Kd.C_alloc ?_ _) | (with_reducible refine Kd.C_drewN ?_ _) | (with_reducible refine Kd.C_drew ?_))); (case side2 => exact (Kd.R_reads' HO_7.out).2.1); rintro e w54 ⟨v381, rfl, ho0, hb⟩; have n0_ := Aside0.mk (Kd.R_elder' (by (with_reducible repeat (first | apply Kd.R_alloc | apply Kd.R_drewN | apply Kd.R_drew)); exact HO_5.out) (Kd.R_base ho0) hb); have n1_ := Aside0.mk (Kd.R_below (by (with_reducible repeat (first | apply Kd.R_alloc | apply Kd.R_drewN | apply Kd.R_drew)); exact HO_6.out) hb); have n2_ := Aside0.mk (Kd.R_elder' (by (with_reducible repeat (first | apply Kd.R_alloc | apply Kd.R_drewN | apply Kd.R_drew)); exact HO_7.out) (Kd.R_base ho0) hb); have n3_ := Aside0.mk (Kd.R_lower (Kd.R_new' (Kd.R_new' ho0 (Kd.R_lt (by (with_reducible repeat (first | apply Kd.R_alloc | apply Kd.R_drewN | apply Kd.R_drew)); exact HO_5.out))) (Kd.R_lt (by (with_reducible repeat (first | apply Kd.R_alloc | apply Kd.R_drewN | apply Kd.R_drew)); exact HO_7.out))) (below_size (hbx))); have n4_ := Aside0.mk (below_step (hbx) hb); clear HO_5; clear HO_6; clear HO_7; clear HB; have HO_5 := n0_; have HO_6 := n1_; have HO_7 := n2_; have HO382 := n3_; have HB := n4_; clear n0_ n1_ n2_ n3_ n4_; (try clear hb); (try clear hb2); (try clear hk); (try clear hi); (try clear ho0); (try simp only [errW_none, errW_some])) | (go_at_call 17; (with_reducible refine (family_Children.calls k2 _ _ t362 a1 t383 _ ?side1 ?side2 A48.out).mono ?_); (case side1 => repeat (first | exact (Kd.R_reads' HO_7.out).2.2 | (with_reducible refine Kd.C_alloc ?_ _) | (with_reducible refine Kd.C_drewN ?_ _) | (with_reducible refine Kd.C_drew ?_))); (case side2 => exact (Kd.R_reads' HO_7.out).2.1); rintro e w55 ⟨v384, rfl, ho0, hb⟩; have n0_ := Aside0.mk (Kd.R_below (by (with_reducible repeat (first | apply Kd.R_alloc | apply Kd.R_drewN | apply Kd.R_drew)); exact HO_5.out) hb); have n1_ := Aside0.mk (Kd.R_elder' (by (with_reducible repeat (first | apply Kd.R_alloc | apply Kd.R_drewN | apply Kd.R_drew)); exact HO_6.out) (Kd.R_base ho0) hb); have n2_ := Aside0.mk (Kd.R_below (by (with_reducible repeat (first | apply Kd.R_alloc | apply Kd.R_drewN | apply Kd.R_drew)); exact HO_7.out) hb); have n3_ := Aside0.mk (Kd.R_below (by (with_reducible repeat (first | apply Kd.R_alloc | apply Kd.R_drewN | apply Kd.R_drew)); exact HO382.out) hb); have n4_ := Aside0.mk (Kd.R_lower (Kd.R_new' ho0 (Kd.R_lt (by (with_reducible repeat (first | apply Kd.R_alloc | apply Kd.R_drewN | apply Kd.R_drew)); exact HO_6.out))) (below_size (hbx))); have n5_ := Aside0.mk (below_step (hbx) hb); clear HO_5; clear HO_6; clear HO_7; clear HO382; clear HB; have HO_5 := n0_; have HO_6 := n1_; have HO_7 := n2_; have HO382 := n3_; have HO385 := n4_; have HB := n5_; clear n0_ n1_ n2_ n3_ n4_ n5_; (try clear hb); (try clear hb2); (try clear hk); (try clear hi); (try clear ho0); obtain ⟨Ao56, co56, eo56⟩ := Kd.R_slice HO385.out; subst eo56; have CA50 := fun W (hG_ : GOK W) => halterlaw24_num.calls t380 t386 W A50.out hG_; try simp only [errW_none, errW_some] at CA50) | (go_at_call 15; (with_reducible refine (CA50 _ (by first | assumption | exact hG | exact GOK.below hG (hbx))).mono ?_); rintro e w57 ⟨rfl, hb⟩; have n0_ := Aside0.mk (Kd.R_below (by (with_reducible repeat (first | apply Kd.R_alloc | apply Kd.R_drewN | apply Kd.R_drew)); exact HO_5.out) hb); have n1_ := Aside0.mk (Kd.R_below (by (with_reducible repeat (first | apply Kd.R_alloc | apply Kd.R_drewN | apply Kd.R_drew)); exact HO_6.out) hb); have n2_ := Aside0.mk (Kd.R_below (by (with_reducible repeat (first | apply Kd.R_alloc | apply Kd.R_drewN | apply Kd.R_drew)); exact HO_7.out) hb); have n3_ := Aside0.mk (Kd.R_below (by (with_reducible repeat (first | apply Kd.R_alloc | apply Kd.R_drewN | apply Kd.R_drew)); exact HO382.out) hb); have n4_ := Aside0.mk (Kd.R_below (by (with_reducible repeat (first | apply Kd.R_alloc | apply Kd.R_drewN | apply Kd.R_drew)); exact HO385.out) hb); have n5_ := Aside0.mk (below_step (hbx) hb); clear HO_5; clear HO_6; clear HO_7; clear HO382; clear HO385; clear HB; have HO_5 := n0_; have HO_6 := n1_; have HO_7 := n2_; have HO382 := n3_; have HO385 := n4_; have HB := n5_; clear n0_ n1_ n2_ n3_ n4_ n5_; (try clear hb); (try clear hb2); (try clear hk); (try clear hi)) | (go_at_call 5; (with_reducible refine (halterlaw24_sure.calls k2  t387 _ A52.out).mono ?_); rintro e w58 ⟨rfl, hb⟩; have n0_ := Aside0.mk (Kd.R_below (by (with_reducible repeat (first | apply Kd.R_alloc | apply Kd.R_drewN | apply Kd.R_drew)); exact HO_5.out) hb); have n1_ := Aside0.mk (Kd.R_below (by (with_reducible repeat (first | apply Kd.R_alloc | apply Kd.R_drewN | apply Kd.R_drew)); exact HO_6.out) hb); have n2_ := Aside0.mk (Kd.R_below (by (with_reducible repeat (first | apply Kd.R_alloc | apply Kd.R_drewN | apply Kd.R_drew)); exact HO_7.out) hb); have n3_ := Aside0.mk (Kd.R_below (by (with_reducible repeat (first | apply Kd.R_alloc | apply Kd.R_drewN | apply Kd.R_drew)); exact HO382.out) hb); have n4_ := Aside0.mk (Kd.R_below (by (with_reducible repeat (first | apply Kd.R_alloc | apply Kd.R_drewN | apply Kd.R_drew)); exact HO385.out) hb); have n5_ := Aside0.mk (below_step (hbx) hb); clear HO_5; clear HO_6; clear HO_7; clear HO382; clear HO385; clear HB; have HO_5 := n0_; have HO_6 := n1_; have HO_7 := n2_; have HO382 := n3_; have HO385 := n4_; have HB := n5_; clear n0_ n1_ n2_ n3_ n4_ n5_; (try clear hb); (try clear hb2); (try clear hk); (try clear hi))))
           go_ret
           exact ⟨by first | rfl | (simp [errW_none, errW_some] <;> rfl) | (simp [*, errW_none, errW_some] <;> rfl), hbx⟩
          ·rw [if_neg c51] at H
           have c51b0 : (t386 == 3) = false := beq_eq_false_iff_ne.mpr c51
           have c51b1 : (t386 != 3) = true := bne_iff_ne.mpr c51
           obtain rfl := Option.some.inj H
           exact absurd hTrue.out (by decide)
         ·rw [if_neg c49] at H
          have c49b0 : ((t383.length : Int) == 0) = false := beq_eq_false_iff_ne.mpr c49
          have c49b1 : ((t383.length : Int) != 0) = true := bne_iff_ne.mpr c49
          have c49b2 : ¬ (t383 = []) := fun h_ => c49 (by rw [h_]; rfl)
          obtain rfl := Option.some.inj H
          exact absurd hTrue.out (by decide)
        ·rw [if_neg c47] at H
         have c47b0 : ((t362.length : Int) == (t353.length : Int)) = false := beq_eq_false_iff_ne.mpr c47
         have c47b1 : ((t362.length : Int) != (t353.length : Int)) = true := bne_iff_ne.mpr c47
         have c47b2 : (t362.length == t353.length) = false := by first | simpa using c47 | (simp at c47 ⊢; omega)
         obtain rfl := Option.some.inj H
         exact absurd hTrue.out (by decide)
    ·have H1 : ((halterlaw24_sure.f kj3).bind fun t388 => (some t388)) = some r := by rw [if_neg (show ¬ (some q366).isNone = true by simp)] at H; exact H
     clear H
     have H := H1
     clear H1
     try simp only [errW_none, errW_some]
     replace H := Option.bind_eq_some_iff.mp H
     obtain ⟨t388, A590, H⟩ := H
     replace H : (some t388) = some r := H
     have A59 := Aside0.mk A590
     clear A590
     obtain rfl := Option.some.inj H
     obtain ⟨Ao60, co60, eo60⟩ := Kd.R_slice HO_5.out
     subst eo60
     go_wp2_with (first | (go_at_call 17; (with_reducible refine (family_Children.calls kj3 _ _ t353 a1 t359 _ ?side1 ?side2 A15.out).mono ?_); (case side1 => repeat (first | exact (Kd.R_reads' HO_5.out).2.2 | (with_reducible refine Kd.C_alloc ?_ _) | (with_reducible refine Kd.C_drewN ?_ _) | (with_reducible refine Kd.C_drew ?_))); (case side2 => exact (Kd.R_reads' HO_5.out).2.1); rintro e w61 ⟨v360, rfl, ho0, hb⟩; have n0_ := Aside0.mk (Kd.R_below (by (with_reducible repeat (first | apply Kd.R_alloc | apply Kd.R_drewN | apply Kd.R_drew)); exact HO_5.out) hb); have n1_ := Aside0.mk (Kd.R_lower ho0 (below_size (hbx))); have n2_ := Aside0.mk (below_step (hbx) hb); clear HO_5; clear HB; have HO_5 := n0_; have HO361 := n1_; have HB := n2_; clear n0_ n1_ n2_; (try clear hb); (try clear hb2); (try clear hk); (try clear hi); (try clear ho0)) | (go_at_call 9; (with_reducible refine (family_Exit.calls kj3 _ _ t353 a1 9 t362 (some q366) _ ?side1 ?side2 A16.out).mono ?_); (case side1 => repeat (first | exact (Kd.R_reads' HO_5.out).2.2 | (with_reducible refine Kd.C_alloc ?_ _) | (with_reducible refine Kd.C_drewN ?_ _) | (with_reducible refine Kd.C_drew ?_))); (case side2 => exact (Kd.R_reads' HO_5.out).2.1); rintro e w62 ⟨v364, rfl, ho0, hb⟩; have n0_ := Aside0.mk (Kd.R_elder' (by (with_reducible repeat (first | apply Kd.R_alloc | apply Kd.R_drewN | apply Kd.R_drew)); exact HO_5.out) (Kd.R_base ho0) hb); have n1_ := Aside0.mk (Kd.R_below (by (with_reducible repeat (first | apply Kd.R_alloc | apply Kd.R_drewN | apply Kd.R_drew)); exact HO361.out) hb); have n2_ := Aside0.mk (Kd.R_lower (Kd.R_new' ho0 (Kd.R_lt (by (with_reducible repeat (first | apply Kd.R_alloc | apply Kd.R_drewN | apply Kd.R_drew)); exact HO_5.out))) (below_size (hbx))); have n3_ := Aside0.mk (below_step (hbx) hb); clear HO_5; clear HO361; clear HB; have HO_5 := n0_; have HO361 := n1_; have HO365 := n2_; have HB := n3_; clear n0_ n1_ n2_ n3_; (try clear hb); (try clear hb2); (try clear hk); (try clear hi); (try clear ho0); (try simp only [errW_none, errW_some])) | (go_at_call 5; (with_reducible refine (halterlaw24_sure.calls kj3  t388 _ A59.out).mono ?_); rintro e w63 ⟨rfl, hb⟩; have n0_ := Aside0.mk (Kd.R_below (by (with_reducible repeat (first | apply Kd.R_alloc | apply Kd.R_drewN | apply Kd.R_drew)); exact HO_5.out) hb); have n1_ := Aside0.mk (Kd.R_below (by (with_reducible repeat (first | apply Kd.R_alloc | apply Kd.R_drewN | apply Kd.R_drew)); exact HO361.out) hb); have n2_ := Aside0.mk (Kd.R_below (by (with_reducible repeat (first | apply Kd.R_alloc | apply Kd.R_drewN | apply Kd.R_drew)); exact HO365.out) hb); have n3_ := Aside0.mk (below_step (hbx) hb); clear HO_5; clear HO361; clear HO365; clear HB; have HO_5 := n0_; have HO361 := n1_; have HO365 := n2_; have HB := n3_; clear n0_ n1_ n2_ n3_; (try clear hb); (try clear hb2); (try clear hk); (try clear hi)))
     repeat (go_quiet (first | (go_at_call 17; (with_reducible refine (family_Children.calls kj3 _ _ t353 a1 t359 _ ?side1 ?side2 A15.out).mono ?_); (case side1 => repeat (first | exact (Kd.R_reads' HO_5.out).2.2 | (with_reducible refine Kd.C_alloc ?_ _) | (with_reducible refine Kd.C_drewN ?_ _) | (with_reducible refine Kd.C_drew ?_))); (case side2 => exact (Kd.R_reads' HO_5.out).2.1); rintro e w61 ⟨v360, rfl, ho0, hb⟩; have n0_ := Aside0.mk (Kd.R_below (by (with_reducible repeat (first | apply Kd.R_alloc | apply Kd.R_drewN | apply Kd.R_drew)); exact HO_5.out) hb); have n1_ := Aside0.mk (Kd.R_lower ho0 (below_size (hbx))); have n2_ := Aside0.mk (below_step (hbx) hb); clear HO_5; clear HB; have HO_5 := n0_; have HO361 := n1_; have HB := n2_; clear n0_ n1_ n2_; (try clear hb); (try clear hb2); (try clear hk); (try clear hi); (try clear ho0)) | (go_at_call 9; (with_reducible refine (family_Exit.calls kj3 _ _ t353 a1 9 t362 (some q366) _ ?side1 ?side2 A16.out).mono ?_); (case side1 => repeat (first | exact (Kd.R_reads' HO_5.out).2.2 | (with_reducible refine Kd.C_alloc ?_ _) | (with_reducible refine Kd.C_drewN ?_ _) | (with_reducible refine Kd.C_drew ?_))); (case side2 => exact (Kd.R_reads' HO_5.out).2.1); rintro e w62 ⟨v364, rfl, ho0, hb⟩; have n0_ := Aside0.mk (Kd.R_elder' (by (with_reducible repeat (first | apply Kd.R_alloc | apply Kd.R_drewN | apply Kd.R_drew)); exact HO_5.out) (Kd.R_base ho0) hb); have n1_ := Aside0.mk (Kd.R_below (by (with_reducible repeat (first | apply Kd.R_alloc | apply Kd.R_drewN | apply Kd.R_drew)); exact HO361.out) hb); have n2_ := Aside0.mk (Kd.R_lower (Kd.R_new' ho0 (Kd.R_lt (by (with_reducible repeat (first | apply Kd.R_alloc | apply Kd.R_drewN | apply Kd.R_drew)); exact HO_5.out))) (below_size (hbx))); have n3_ := Aside0.mk (below_step (hbx) hb); clear HO_5; clear HO361; clear HB; have HO_5 := n0_; have HO361 := n1_; have HO365 := n2_; have HB := n3_; clear n0_ n1_ n2_ n3_; (try clear hb); (try clear hb2); (try clear hk); (try clear hi); (try clear ho0); (try simp only [errW_none, errW_some])) | (go_at_call 5; (with_reducible refine (halterlaw24_sure.calls kj3  t388 _ A59.out).mono ?_); rintro e w63 ⟨rfl, hb⟩; have n0_ := Aside0.mk (Kd.R_below (by (with_reducible repeat (first | apply Kd.R_alloc | apply Kd.R_drewN | apply Kd.R_drew)); exact HO_5.out) hb); have n1_ := Aside0.mk (Kd.R_below (by (with_reducible repeat (first | apply Kd.R_alloc | apply Kd.R_drewN | apply Kd.R_drew)); exact HO361.out) hb); have n2_ := Aside0.mk (Kd.R_below (by (with_reducible repeat (first | apply Kd.R_alloc | apply Kd.R_drewN | apply Kd.R_drew)); exact HO365.out) hb); have n3_ := Aside0.mk (below_step (hbx) hb); clear HO_5; clear HO361; clear HO365; clear HB; have HO_5 := n0_; have HO361 := n1_; have HO365 := n2_; have HB := n3_; clear n0_ n1_ n2_ n3_; (try clear hb); (try clear hb2); (try clear hk); (try clear hi))); try go_wp2_with (first | (go_at_call 17; (with_reducible refine (family_Children.calls kj3 _ _ t353 a1 t359 _ ?side1 ?side2 A15.out).mono ?_); (case side1 => repeat (first | exact (Kd.R_reads' HO_5.out).2.2 | (with_reducible refine Kd.C_alloc ?_ _) | (with_reducible refine Kd.C_drewN ?_ _) | (with_reducible refine Kd.C_drew ?_))); (case side2 => exact (Kd.R_reads' HO_5.out).2.1); rintro e w61 ⟨v360, rfl, ho0, hb⟩; have n0_ := Aside0.mk (Kd.R_below (by (with_reducible repeat (first | apply Kd.R_alloc | apply Kd.R_drewN | apply Kd.R_drew)); exact HO_5.out) hb); have n1_ := Aside0.mk (Kd.R_lower ho0 (below_size (hbx))); have n2_ := Aside0.mk (below_step (hbx) hb); clear HO_5; clear HB; have HO_5 := n0_; have HO361 := n1_; have HB := n2_; clear n0_ n1_ n2_; (try clear hb); (try clear hb2); (try clear hk); (try clear hi); (try clear ho0)) | (go_at_call 9; (with_reducible refine (family_Exit.calls kj3 _ _ t353 a1 9 t362 (some q366) _ ?side1 ?side2 A16.out).mono ?_); (case side1 => repeat (first | exact (Kd.R_reads' HO_5.out).2.2 | (with_reducible refine Kd.C_alloc ?_ _) | (with_reducible refine Kd.C_drewN ?_ _) | (with_reducible refine Kd.C_drew ?_))); (case side2 => exact (Kd.R_reads' HO_5.out).2.1); rintro e w62 ⟨v364, rfl, ho0, hb⟩; have n0_ := Aside0.mk (Kd.R_elder' (by (with_reducible repeat (first | apply Kd.R_alloc | apply Kd.R_drewN | apply Kd.R_drew)); exact HO_5.out) (Kd.R_base ho0) hb); have n1_ := Aside0.mk (Kd.R_below (by (with_reducible repeat (first | apply Kd.R_alloc | apply Kd.R_drewN | apply Kd.R_drew)); exact HO361.out) hb); have n2_ := Aside0.mk (Kd.R_lower (Kd.R_new' ho0 (Kd.R_lt (by (with_reducible repeat (first | apply Kd.R_alloc | apply Kd.R_drewN | apply Kd.R_drew)); exact HO_5.out))) (below_size (hbx))); have n3_ := Aside0.mk (below_step (hbx) hb); clear HO_5; clear HO361; clear HB; have HO_5 := n0_; have HO361 := n1_; have HO365 := n2_; have HB := n3_; clear n0_ n1_ n2_ n3_; (try clear hb); (try clear hb2); (try clear hk); (try clear hi); (try clear ho0); (try simp only [errW_none, errW_some])) | (go_at_call 5; (with_reducible refine (halterlaw24_sure.calls kj3  t388 _ A59.out).mono ?_); rintro e w63 ⟨rfl, hb⟩; have n0_ := Aside0.mk (Kd.R_below (by (with_reducible repeat (first | apply Kd.R_alloc | apply Kd.R_drewN | apply Kd.R_drew)); exact HO_5.out) hb); have n1_ := Aside0.mk (Kd.R_below (by (with_reducible repeat (first | apply Kd.R_alloc | apply Kd.R_drewN | apply Kd.R_drew)); exact HO361.out) hb); have n2_ := Aside0.mk (Kd.R_below (by (with_reducible repeat (first | apply Kd.R_alloc | apply Kd.R_drewN | apply Kd.R_drew)); exact HO365.out) hb); have n3_ := Aside0.mk (below_step (hbx) hb); clear HO_5; clear HO361; clear HO365; clear HB; have HO_5 := n0_; have HO361 := n1_; have HO365 := n2_; have HB := n3_; clear n0_ n1_ n2_ n3_; (try clear hb); (try clear hb2); (try clear hk); (try clear hi))))
     go_ret
     exact ⟨by first | rfl | (simp [errW_none, errW_some] <;> rfl) | (simp [*, errW_none, errW_some] <;> rfl), hbx⟩

end Go.Proofs.YtddedmdgfakfjaaDoor.FA
