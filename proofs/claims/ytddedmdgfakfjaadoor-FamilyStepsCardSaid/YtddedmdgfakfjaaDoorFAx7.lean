-- written by a program of this session (wip/oprint), after the kit's print
import Derived.Test.YtddedmdgfakfjaaDoorFAx0
import Derived.Test.YtddedmdgfakfjaaDoorFAx5
import Derived.Test.YtddedmdgfakfjaaDoorFAx6
namespace Go.Proofs.YtddedmdgfakfjaaDoor.FA
open Go.RowKit Go.Proofs.YtddedmdgfakfjaaDoorW.PrintWords Go.Proofs.YtddedmdgfakfjaaDoorW.PrintLast Go.Proofs.YtddedmdgfakfjaaDoorW.PrintMore
attribute [local go_sem] max2_int min2_int max_two min_two max_three min_three max_four min_four   -- for this text's walks alone
set_option linter.unusedVariables false
set_option linter.unusedSimpArgs false

/-! ### halterref24_Add: function 8 -/
mutual
def halterref24_Add.j0 : Nat → List (S51) → Int → Int → Bool → Option ((List (S51)) × Int)
 | 0, _, _, _, _ => none
 | k + 1, x0, x1, x2, x21 => if x21 = true then (some (([] : List (S51)), 22)) else ((halterref24_At.f k x0 x1).bind fun t229 => (if t229 ≥ 0 then (some (([] : List (S51)), 17)) else ((halterref24_Alive.f k x0 x2).bind fun t230 => (if t230 = true then (if (x0.length : Int) = 16 then (some (([] : List (S51)), 11)) else (halterref24_Add.l0 k x0 x1 x2 ([] : List (S51)) false 0)) else (some (([] : List (S51)), 3))))))
def halterref24_Add.l0 : Nat → List (S51) → Int → Int → List (S51) → Bool → Int → Option ((List (S51)) × Int)
 | 0, _, _, _, _, _, _ => none
 | k + 1, x0, x1, x2, x8, x9, x10 => if x10 < (x0.length : Int) then (if 0 ≤ x10 then (if ((rd_T51 x0 x10).f0) > x1 then (if x9 = true then (if x8.length < 5864062014805 then (halterref24_Add.l0 k x0 x1 x2 (x8 ++ [(⟨(rd_T51 x0 x10).f0, (rd_T51 x0 x10).f1, (rd_T51 x0 x10).f2, (rd_T51 x0 x10).f3⟩ : S51)]) x9 (wrap64 (x10 + 1))) else (none)) else (if x8.length < 5864062014805 then ((some (x8 ++ [(⟨x1, x2, false, 0⟩ : S51)] : List (S51))).bind fun y236 => (if y236.length < 5864062014805 then (halterref24_Add.l0 k x0 x1 x2 (y236 ++ [(⟨(rd_T51 x0 x10).f0, (rd_T51 x0 x10).f1, (rd_T51 x0 x10).f2, (rd_T51 x0 x10).f3⟩ : S51)]) true (wrap64 (x10 + 1))) else (none))) else (none))) else (if x8.length < 5864062014805 then (halterref24_Add.l0 k x0 x1 x2 (x8 ++ [(⟨(rd_T51 x0 x10).f0, (rd_T51 x0 x10).f1, (rd_T51 x0 x10).f2, (rd_T51 x0 x10).f3⟩ : S51)]) x9 (wrap64 (x10 + 1))) else (none))) else (none)) else (if x9 = true then (some (x8, 0)) else (if x8.length < 5864062014805 then (some ((x8 ++ [(⟨x1, x2, false, 0⟩ : S51)]), 0)) else (none)))
end
def halterref24_Add.f (k : Nat) (l0 : List (S51)) (a1 : Int) (a2 : Int) : Option ((List (S51)) × Int) := (halterref24_May.f k l0).bind fun t228 => (if t228 = true then (if a1 < 1 then (halterref24_Add.j0 k l0 a1 a2 true) else (halterref24_Add.j0 k l0 a1 a2 (decide (a1 > 99)))) else (halterref24_Add.j0 k l0 a1 a2 true))
theorem halterref24_Add.mono_l : ∀ k, (∀ y0 y1 y2 y3, LeO (halterref24_Add.j0 k y0 y1 y2 y3) (halterref24_Add.j0 (k + 1) y0 y1 y2 y3)) ∧ (∀ y0 y1 y2 y3 y4 y5, LeO (halterref24_Add.l0 k y0 y1 y2 y3 y4 y5) (halterref24_Add.l0 (k + 1) y0 y1 y2 y3 y4 y5))
 | 0 => ⟨fun _ _ _ _ r h => by simp [halterref24_Add.j0] at h, fun _ _ _ _ _ _ r h => by simp [halterref24_Add.l0] at h⟩
 | k + 1 => by
  obtain ⟨ih0, ih1⟩ := halterref24_Add.mono_l k
  refine ⟨?_, ?_⟩
  ·intro y0 y1 y2 y3
   unfold halterref24_Add.j0
   repeat' first
   | (with_reducible exact ih0 _ _ _ _)
   | (with_reducible exact ih1 _ _ _ _ _ _)
   | (with_reducible exact halterref24_Alive.mono _ _ _)
   | (with_reducible exact halterref24_At.mono _ _ _)
   | (with_reducible exact halterref24_May.mono _ _)
   | (with_reducible exact LeO.refl _)
   | (with_reducible exact LeO.none _)
   | (with_reducible refine LeO.ite ?_ ?_)
   | (with_reducible refine LeO.bind ?_ (fun _ => ?_))
   | exact ih0 _ _ _ _
   | exact ih1 _ _ _ _ _ _
   | exact halterref24_Alive.mono _ _ _
   | exact halterref24_At.mono _ _ _
   | exact halterref24_May.mono _ _
   | exact LeO.none _
   | refine LeO.ite ?_ ?_
   | refine LeO.bind ?_ (fun _ => ?_)
  ·intro y0 y1 y2 y3 y4 y5
   unfold halterref24_Add.l0
   repeat' first
   | (with_reducible exact ih0 _ _ _ _)
   | (with_reducible exact ih1 _ _ _ _ _ _)
   | (with_reducible exact halterref24_Alive.mono _ _ _)
   | (with_reducible exact halterref24_At.mono _ _ _)
   | (with_reducible exact halterref24_May.mono _ _)
   | (with_reducible exact LeO.refl _)
   | (with_reducible exact LeO.none _)
   | (with_reducible refine LeO.ite ?_ ?_)
   | (with_reducible refine LeO.bind ?_ (fun _ => ?_))
   | exact ih0 _ _ _ _
   | exact ih1 _ _ _ _ _ _
   | exact halterref24_Alive.mono _ _ _
   | exact halterref24_At.mono _ _ _
   | exact halterref24_May.mono _ _
   | exact LeO.none _
   | refine LeO.ite ?_ ?_
   | refine LeO.bind ?_ (fun _ => ?_)
theorem halterref24_Add.mono : ∀ a0 a1 a2 k, LeO (halterref24_Add.f k a0 a1 a2) (halterref24_Add.f (k + 1) a0 a1 a2) := by
 intro a0 a1 a2 k
 obtain ⟨ih0, ih1⟩ := halterref24_Add.mono_l k
 unfold halterref24_Add.f
 repeat' first
   | (with_reducible exact ih0 _ _ _ _)
   | (with_reducible exact ih1 _ _ _ _ _ _)
   | (with_reducible exact halterref24_Alive.mono _ _ _)
   | (with_reducible exact halterref24_At.mono _ _ _)
   | (with_reducible exact halterref24_May.mono _ _)
   | (with_reducible exact LeO.refl _)
   | (with_reducible exact LeO.none _)
   | (with_reducible refine LeO.ite ?_ ?_)
   | (with_reducible refine LeO.bind ?_ (fun _ => ?_))
   | exact ih0 _ _ _ _
   | exact ih1 _ _ _ _ _ _
   | exact halterref24_Alive.mono _ _ _
   | exact halterref24_At.mono _ _ _
   | exact halterref24_May.mono _ _
   | exact LeO.none _
   | refine LeO.ite ?_ ?_
   | refine LeO.bind ?_ (fun _ => ?_)
set_option maxHeartbeats 8000000 in
set_option maxRecDepth 100000 in
theorem halterref24_Add.calls (k : Nat) (A0 : Option Addr) (c0 : Nat) (l0 : List (S51)) (a1 : Int) (a2 : Int) (r1 : List (S51)) (r2 : Int) (w : World) (hr0 : Kd.C k51 w A0 l0.length l0) (hc0 : l0.length ≤ c0) (h : halterref24_Add.f k l0 a1 a2 = some (r1, r2)) :
  Calls Tryd.prog 8 #[.slice A0 l0.length c0, .int .i64 a1, .int .i64 a2] w fun e w' => ∃ v0_ : Value, e = .returned (.tuple #[v0_, .int .i64 r2]) ∧ Kd.R k51 51 w' w.heap.size (fun _ => True) v0_ r1 ∧ Below w.heap.size w w' := by
 have hu51 := Tryd.underlying51
 have HR0 := Aside0.mk hr0
 have HC0 := Aside0.mk hc0
 clear hr0 hc0
 have HB := Aside0.mk (Below.refl w.heap.size w)
 have H : ((halterref24_May.f k l0).bind fun t228 => (if t228 = true then (if a1 < 1 then (halterref24_Add.j0 k l0 a1 a2 true) else (halterref24_Add.j0 k l0 a1 a2 (decide (a1 > 99)))) else (halterref24_Add.j0 k l0 a1 a2 true))) = some (r1, r2) := h
 clear h
 have HC4 := Aside0.mk H
 clear H
 go_enter Tryd.func8, Tryd.ntmps8
 go_upto_region 1 with (fail)
 go_cut [21] (fun v21 wc => ∃ (kq : Nat) (x21_3 : Bool), v21 = .bool x21_3 ∧ Aside0 (halterref24_Add.j0 kq l0 a1 a2 x21_3 = some (r1, r2)) ∧ Aside0 (kq ≤ k) ∧ Aside0 (Below w.heap.size w wc))
 case first =>
  have H := HC4.out
  clear HC4
  replace H := Option.bind_eq_some_iff.mp H
  obtain ⟨t228, A50, H⟩ := H
  replace H : (if t228 = true then (if a1 < 1 then (halterref24_Add.j0 k l0 a1 a2 true) else (halterref24_Add.j0 k l0 a1 a2 (decide (a1 > 99)))) else (halterref24_Add.j0 k l0 a1 a2 true)) = some (r1, r2) := H
  have A5 := Aside0.mk A50
  clear A50
  by_cases c6 : t228 = true
  ·subst c6
   have H1 : (if a1 < 1 then (halterref24_Add.j0 k l0 a1 a2 true) else (halterref24_Add.j0 k l0 a1 a2 (decide (a1 > 99)))) = some (r1, r2) := by rw [if_pos rfl] at H; exact H
   clear H
   have H := H1
   clear H1
   by_cases c7 : a1 < 1
   ·rw [if_pos c7] at H
    have c7b0 : decide (a1 < 1) = true := decide_eq_true c7
    clear c7
    (first | rw [c7b0] | (simp only [i64_w, i32_w]; rw [c7b0]) | skip)
    have H' := Aside0.mk H
    clear H
    go_wp2_with (first | ((with_reducible refine gate_callee (f := 20) rfl ?_); refine goesL_ (some 12) rfl rfl Tryd.func20 (by kernel_rfl) rfl #[.slice A0 l0.length c0] rfl (by (try simp only [List.map_toArray, List.map_cons, List.map_nil]); first | done | rfl | (simp only [List.length_drop, List.length_take]; rfl)) ?_; (with_reducible refine (halterref24_May.calls k _ _ l0 true _ ?side1 ?side2 A5.out).mono ?_); (case side1 => repeat (first | exact (Kd.C_below HR0.out HB.out) | (with_reducible refine Kd.C_alloc ?_ _) | (with_reducible refine Kd.C_drewN ?_ _) | (with_reducible refine Kd.C_drew ?_))); (case side2 => exact HC0.out); rintro e w8 ⟨rfl, hb⟩; refine ⟨_, rfl, ?_⟩; have n0_ := Aside0.mk (below_step (hbx) hb); clear HB; have HB := n0_; clear n0_; (try clear hb); (try clear hb2); (try clear hk); (try clear hi)))
    go_meet
    case rel => (try rw [← Nbq10.out]); exact ⟨_, (true), (by first | rfl | (simp; done) | (simp [*]; done)), H', ⟨by first | omega | exact Nat.le_refl _⟩, ⟨hbx⟩⟩
   ·rw [if_neg c7] at H
    have c7b0 : decide (a1 < 1) = false := decide_eq_false c7
    clear c7
    (first | rw [c7b0] | (simp only [i64_w, i32_w]; rw [c7b0]) | skip)
    have H' := Aside0.mk H
    clear H
    go_wp2_with (first | ((with_reducible refine gate_callee (f := 20) rfl ?_); refine goesL_ (some 12) rfl rfl Tryd.func20 (by kernel_rfl) rfl #[.slice A0 l0.length c0] rfl (by (try simp only [List.map_toArray, List.map_cons, List.map_nil]); first | done | rfl | (simp only [List.length_drop, List.length_take]; rfl)) ?_; (with_reducible refine (halterref24_May.calls k _ _ l0 true _ ?side1 ?side2 A5.out).mono ?_); (case side1 => repeat (first | exact (Kd.C_below HR0.out HB.out) | (with_reducible refine Kd.C_alloc ?_ _) | (with_reducible refine Kd.C_drewN ?_ _) | (with_reducible refine Kd.C_drew ?_))); (case side2 => exact HC0.out); rintro e w9 ⟨rfl, hb⟩; refine ⟨_, rfl, ?_⟩; have n0_ := Aside0.mk (below_step (hbx) hb); clear HB; have HB := n0_; clear n0_; (try clear hb); (try clear hb2); (try clear hk); (try clear hi)))
    go_meet
    case rel => (try rw [← Nbq10.out]); exact ⟨_, (decide (a1 > 99)), (by first | rfl | (simp; done) | (simp [*]; done)), H', ⟨by first | omega | exact Nat.le_refl _⟩, ⟨hbx⟩⟩
  ·replace c6 := Bool.eq_false_iff.mpr c6
   subst c6
   have H1 : (halterref24_Add.j0 k l0 a1 a2 true) = some (r1, r2) := by rw [if_neg (show ¬ (false = true) by decide)] at H; exact H
   clear H
   have H := H1
   clear H1
   have H' := Aside0.mk H
   clear H
   go_wp2_with (first | ((with_reducible refine gate_callee (f := 20) rfl ?_); refine goesL_ (some 12) rfl rfl Tryd.func20 (by kernel_rfl) rfl #[.slice A0 l0.length c0] rfl (by (try simp only [List.map_toArray, List.map_cons, List.map_nil]); first | done | rfl | (simp only [List.length_drop, List.length_take]; rfl)) ?_; (with_reducible refine (halterref24_May.calls k _ _ l0 false _ ?side1 ?side2 A5.out).mono ?_); (case side1 => repeat (first | exact (Kd.C_below HR0.out HB.out) | (with_reducible refine Kd.C_alloc ?_ _) | (with_reducible refine Kd.C_drewN ?_ _) | (with_reducible refine Kd.C_drew ?_))); (case side2 => exact HC0.out); rintro e w10 ⟨rfl, hb⟩; refine ⟨_, rfl, ?_⟩; have n0_ := Aside0.mk (below_step (hbx) hb); clear HB; have HB := n0_; clear n0_; (try clear hb); (try clear hb2); (try clear hk); (try clear hi)))
   go_meet
   case rel => (try rw [← Nbq10.out]); exact ⟨_, (true), (by first | rfl | (simp; done) | (simp [*]; done)), H', ⟨by first | omega | exact Nat.le_refl _⟩, ⟨hbx⟩⟩
 case rest =>
  clear HC4
  try clear c2
  try clear p2
  try clear c6
  try clear c7
  try clear c7b0
  try clear c8
  obtain ⟨kq, x21_3, rfl, HA, HJ3, HB⟩ := hcut
  cases kq with
  | zero => exact absurd HA.out (by simp [halterref24_Add.j0])
  | succ kj3 =>
   have H := HA.out
   clear HA
   simp only [halterref24_Add.j0] at H
   by_cases c11 : x21_3 = true
   ·subst c11
    have H1 : (some (([] : List (S51)), 22)) = some (r1, r2) := by rw [if_pos rfl] at H; exact H
    clear H
    have H := H1
    clear H1
    simp only [Option.some.injEq, Prod.mk.injEq] at H
    obtain ⟨rfl, rfl⟩ := H
    go_wp2
    go_ret2
    exact ⟨_, by first | rfl | (simp [errW_none, errW_some] <;> rfl) | (simp [*, errW_none, errW_some] <;> rfl), by first | exact Kd.R_nil _ _ _ _ _ | exact Kd.N_nil _ _ _ _ _ | exact Kd.V_nil _ _ _ _ _ | exact Kd.Q_nil _ _ _ _ _ | exact Kd.S_nil _ _ _ _ _, hbx⟩
   ·replace c11 := Bool.eq_false_iff.mpr c11
    subst c11
    have H1 : ((halterref24_At.f kj3 l0 a1).bind fun t229 => (if t229 ≥ 0 then (some (([] : List (S51)), 17)) else ((halterref24_Alive.f kj3 l0 a2).bind fun t230 => (if t230 = true then (if (l0.length : Int) = 16 then (some (([] : List (S51)), 11)) else (halterref24_Add.l0 kj3 l0 a1 a2 ([] : List (S51)) false 0)) else (some (([] : List (S51)), 3)))))) = some (r1, r2) := by rw [if_neg (show ¬ (false = true) by decide)] at H; exact H
    clear H
    have H := H1
    clear H1
    replace H := Option.bind_eq_some_iff.mp H
    obtain ⟨t229, A120, H⟩ := H
    replace H : (if t229 ≥ 0 then (some (([] : List (S51)), 17)) else ((halterref24_Alive.f kj3 l0 a2).bind fun t230 => (if t230 = true then (if (l0.length : Int) = 16 then (some (([] : List (S51)), 11)) else (halterref24_Add.l0 kj3 l0 a1 a2 ([] : List (S51)) false 0)) else (some (([] : List (S51)), 3))))) = some (r1, r2) := H
    have A12 := Aside0.mk A120
    clear A120
    by_cases c13 : t229 ≥ 0
    ·rw [if_pos c13] at H
     have c13b0 : decide (0 ≤ t229) = true := decide_eq_true c13
     clear c13
     simp only [Option.some.injEq, Prod.mk.injEq] at H
     obtain ⟨rfl, rfl⟩ := H
     go_wp2_with (first | ((with_reducible refine gate_callee (f := 21) rfl ?_); refine goesL_ (some 24) rfl rfl Tryd.func21 (by kernel_rfl) rfl #[.slice A0 l0.length c0, .int .i64 a1] rfl (by (try simp only [List.map_toArray, List.map_cons, List.map_nil]); first | done | rfl | (simp only [List.length_drop, List.length_take]; rfl)) ?_; (with_reducible refine (halterref24_At.calls kj3 _ _ l0 a1 t229 _ ?side1 ?side2 A12.out).mono ?_); (case side1 => repeat (first | exact (Kd.C_below HR0.out HB.out) | (with_reducible refine Kd.C_alloc ?_ _) | (with_reducible refine Kd.C_drewN ?_ _) | (with_reducible refine Kd.C_drew ?_))); (case side2 => exact HC0.out); rintro e w' ⟨rfl, ⟨nd, rfl⟩⟩; refine ⟨_, rfl, ?_⟩))
     go_ret2
     exact ⟨_, by first | rfl | (simp [errW_none, errW_some] <;> rfl) | (simp [*, errW_none, errW_some] <;> rfl), by first | exact Kd.R_nil _ _ _ _ _ | exact Kd.N_nil _ _ _ _ _ | exact Kd.V_nil _ _ _ _ _ | exact Kd.Q_nil _ _ _ _ _ | exact Kd.S_nil _ _ _ _ _, hbx⟩
    ·rw [if_neg c13] at H
     have c13b0 : decide (0 ≤ t229) = false := decide_eq_false c13
     clear c13
     replace H := Option.bind_eq_some_iff.mp H
     obtain ⟨t230, A140, H⟩ := H
     replace H : (if t230 = true then (if (l0.length : Int) = 16 then (some (([] : List (S51)), 11)) else (halterref24_Add.l0 kj3 l0 a1 a2 ([] : List (S51)) false 0)) else (some (([] : List (S51)), 3))) = some (r1, r2) := H
     have A14 := Aside0.mk A140
     clear A140
     by_cases c15 : t230 = true
     ·subst c15
      have H1 : (if (l0.length : Int) = 16 then (some (([] : List (S51)), 11)) else (halterref24_Add.l0 kj3 l0 a1 a2 ([] : List (S51)) false 0)) = some (r1, r2) := by rw [if_pos rfl] at H; exact H
      clear H
      have H := H1
      clear H1
      by_cases c16 : (l0.length : Int) = 16
      ·rw [if_pos c16] at H
       have c16b0 : ((l0.length : Int) == 16) = true := beq_iff_eq.mpr c16
       have c16b1 : ((l0.length : Int) != 16) = false := bne_eq_false_iff_eq.mpr c16
       clear c16
       simp only [Option.some.injEq, Prod.mk.injEq] at H
       obtain ⟨rfl, rfl⟩ := H
       go_wp2_with (first | ((with_reducible refine gate_callee (f := 21) rfl ?_); refine goesL_ (some 24) rfl rfl Tryd.func21 (by kernel_rfl) rfl #[.slice A0 l0.length c0, .int .i64 a1] rfl (by (try simp only [List.map_toArray, List.map_cons, List.map_nil]); first | done | rfl | (simp only [List.length_drop, List.length_take]; rfl)) ?_; (with_reducible refine (halterref24_At.calls kj3 _ _ l0 a1 t229 _ ?side1 ?side2 A12.out).mono ?_); (case side1 => repeat (first | exact (Kd.C_below HR0.out HB.out) | (with_reducible refine Kd.C_alloc ?_ _) | (with_reducible refine Kd.C_drewN ?_ _) | (with_reducible refine Kd.C_drew ?_))); (case side2 => exact HC0.out); rintro e w' ⟨rfl, ⟨nd, rfl⟩⟩; refine ⟨_, rfl, ?_⟩) | ((with_reducible refine gate_callee (f := 28) rfl ?_); refine goesL_ (some 28) rfl rfl Tryd.func28 (by kernel_rfl) rfl #[.slice A0 l0.length c0, .int .i64 a2] rfl (by (try simp only [List.map_toArray, List.map_cons, List.map_nil]); first | done | rfl | (simp only [List.length_drop, List.length_take]; rfl)) ?_; (with_reducible refine (halterref24_Alive.calls kj3 _ _ l0 a2 true _ ?side1 ?side2 A14.out).mono ?_); (case side1 => repeat (first | exact (Kd.C_below HR0.out (hbx)) | (with_reducible refine Kd.C_alloc ?_ _) | (with_reducible refine Kd.C_drewN ?_ _) | (with_reducible refine Kd.C_drew ?_))); (case side2 => exact HC0.out); rintro e w' ⟨rfl, ⟨nd, rfl⟩⟩; refine ⟨_, rfl, ?_⟩))
       go_ret2
       exact ⟨_, by first | rfl | (simp [errW_none, errW_some] <;> rfl) | (simp [*, errW_none, errW_some] <;> rfl), by first | exact Kd.R_nil _ _ _ _ _ | exact Kd.N_nil _ _ _ _ _ | exact Kd.V_nil _ _ _ _ _ | exact Kd.Q_nil _ _ _ _ _ | exact Kd.S_nil _ _ _ _ _, hbx⟩
      ·rw [if_neg c16] at H
       have c16b0 : ((l0.length : Int) == 16) = false := beq_eq_false_iff_ne.mpr c16
       have c16b1 : ((l0.length : Int) != 16) = true := bne_iff_ne.mpr c16
       have H' := Aside0.mk H
       clear H
       go_wp2_with (first | ((with_reducible refine gate_callee (f := 21) rfl ?_); refine goesL_ (some 24) rfl rfl Tryd.func21 (by kernel_rfl) rfl #[.slice A0 l0.length c0, .int .i64 a1] rfl (by (try simp only [List.map_toArray, List.map_cons, List.map_nil]); first | done | rfl | (simp only [List.length_drop, List.length_take]; rfl)) ?_; (with_reducible refine (halterref24_At.calls kj3 _ _ l0 a1 t229 _ ?side1 ?side2 A12.out).mono ?_); (case side1 => repeat (first | exact (Kd.C_below HR0.out HB.out) | (with_reducible refine Kd.C_alloc ?_ _) | (with_reducible refine Kd.C_drewN ?_ _) | (with_reducible refine Kd.C_drew ?_))); (case side2 => exact HC0.out); rintro e w' ⟨rfl, ⟨nd, rfl⟩⟩; refine ⟨_, rfl, ?_⟩) | ((with_reducible refine gate_callee (f := 28) rfl ?_); refine goesL_ (some 28) rfl rfl Tryd.func28 (by kernel_rfl) rfl #[.slice A0 l0.length c0, .int .i64 a2] rfl (by (try simp only [List.map_toArray, List.map_cons, List.map_nil]); first | done | rfl | (simp only [List.length_drop, List.length_take]; rfl)) ?_; (with_reducible refine (halterref24_Alive.calls kj3 _ _ l0 a2 true _ ?side1 ?side2 A14.out).mono ?_); (case side1 => repeat (first | exact (Kd.C_below HR0.out (hbx)) | (with_reducible refine Kd.C_alloc ?_ _) | (with_reducible refine Kd.C_drewN ?_ _) | (with_reducible refine Kd.C_drew ?_))); (case side2 => exact HC0.out); rintro e w' ⟨rfl, ⟨nd, rfl⟩⟩; refine ⟨_, rfl, ?_⟩))
       go_loopg [8, 9, 10] kj3 (fun kq v8 v9 v10 w' => ∃ (x8_2 : List (S51)) (x9_2 : Bool) (x10_2 : Int), v9 = .bool x9_2 ∧ v10 = .int .i64 x10_2 ∧ Aside0 (halterref24_Add.l0 kq l0 a1 a2 x8_2 x9_2 x10_2 = some (r1, r2)) ∧ Aside0 (kq ≤ kj3) ∧ Aside0 (Kd.R k51 51 w' w.heap.size (fun _ => True) v8 x8_2) ∧ Aside0 (Below w.heap.size w w'))
       case atStart => exact ⟨(([] : List (S51))), (false), (0), (by first | rfl | (simp; done) | (simp [*]; done)), (by first | rfl | (simp; done) | (simp [*]; done)), H', ⟨Nat.le_refl _⟩, ⟨by first | exact Kd.R_nil _ _ _ _ _ | exact Kd.N_nil _ _ _ _ _ | exact Kd.V_nil _ _ _ _ _ | exact Kd.Q_nil _ _ _ _ _ | exact Kd.S_nil _ _ _ _ _⟩, ⟨hbx⟩⟩
       case round =>
        clear H'
        try clear c1
        try clear c2
        try clear p2
        try clear c6
        try clear c7
        try clear c7b0
        try clear c8
        try clear c11
        try clear c13
        try clear c13b0
        try clear c15
        try clear c16
        try clear c16b0
        try clear c16b1
        try clear p2
        obtain ⟨x8_2, x9_2, x10_2, rfl, rfl, HA, HK2, HO_8, HB⟩ := hrel
        cases gk with
        | zero => exact absurd HA.out (by simp [halterref24_Add.l0])
        | succ k2 =>
         have H := HA.out
         clear HA
         simp only [halterref24_Add.l0] at H
         by_cases c17 : x10_2 < (l0.length : Int)
         ·rw [if_pos c17] at H
          have c17b0 : decide (x10_2 < (l0.length : Int)) = true := decide_eq_true c17
          clear c17
          by_cases c18 : 0 ≤ x10_2
          ·rw [if_pos c18] at H
           have c18b0 : decide (0 ≤ x10_2) = true := decide_eq_true c18
           clear c18
           by_cases c19 : ((rd_T51 l0 x10_2).f0) > a1
           ·rw [if_pos c19] at H
            have c19b0 : decide (a1 < ((rd_T51 l0 x10_2).f0)) = true := decide_eq_true c19
            clear c19
            by_cases c20 : x9_2 = true
            ·subst c20
             have H1 : (if x8_2.length < 5864062014805 then (halterref24_Add.l0 k2 l0 a1 a2 (x8_2 ++ [(⟨(rd_T51 l0 x10_2).f0, (rd_T51 l0 x10_2).f1, (rd_T51 l0 x10_2).f2, (rd_T51 l0 x10_2).f3⟩ : S51)]) true (wrap64 (x10_2 + 1))) else (none)) = some (r1, r2) := by rw [if_pos rfl] at H; exact H
             clear H
             have H := H1
             clear H1
             by_cases c21 : x8_2.length < 5864062014805
             ·rw [if_pos c21] at H
              have LMc21 := Aside0.mk c21
              clear c21
              obtain ⟨y233, hy233⟩ : ∃ y_ : List (S51), y_ = (x8_2 ++ [(⟨(rd_T51 l0 x10_2).f0, (rd_T51 l0 x10_2).f1, (rd_T51 l0 x10_2).f2, (rd_T51 l0 x10_2).f3⟩ : S51)]) := ⟨_, rfl⟩
              replace H : (halterref24_Add.l0 k2 l0 a1 a2 y233 true (wrap64 (x10_2 + 1))) = some (r1, r2) := by first | (rw [hy233]; with_reducible exact H) | (have H2_ := (Option.bind_some _ _).symm.trans H; rw [hy233]; with_reducible exact H2_) | (have H2_ := (Option.bind_some _ _).symm.trans H; with_reducible exact H2_) | with_reducible exact H | (rw [hy233]; exact H) | exact H
              have Ny233 := Aside0.mk hy233
              clear hy233
              have H' := Aside0.mk H
              clear H
              have p231 : 0 ≤ (x10_2 : Int) := of_decide_eq_true (by first | (with_reducible assumption) | assumption)
              have q231 : x10_2 < (l0.length : Int) := of_decide_eq_true (by first | (with_reducible assumption) | assumption)
              obtain ⟨ad231, e231, hx231_0, hx231_1, hx231_2, hx231_3⟩ := at_T51 HR0.out x10_2 p231 q231
              cases e231
              replace hx231_0 := (HB.out.cell (World.block_lt_of_cell? w _ hx231_0)).trans hx231_0
              replace hx231_1 := (HB.out.cell (World.block_lt_of_cell? w _ hx231_1)).trans hx231_1
              replace hx231_2 := (HB.out.cell (World.block_lt_of_cell? w _ hx231_2)).trans hx231_2
              replace hx231_3 := (HB.out.cell (World.block_lt_of_cell? w _ hx231_3)).trans hx231_3
              replace p231 := eq_true p231
              replace q231 := eq_true q231
              have p232 : 0 ≤ (x10_2 : Int) := of_decide_eq_true (by first | (with_reducible assumption) | assumption)
              have q232 : x10_2 < (l0.length : Int) := of_decide_eq_true (by first | (with_reducible assumption) | assumption)
              obtain ⟨ad232, e232, hx232_0, hx232_1, hx232_2, hx232_3⟩ := at_T51 HR0.out x10_2 p232 q232
              obtain rfl : ad231 = ad232 := (by injection e232)
              replace hx232_0 := (HB.out.cell (World.block_lt_of_cell? w _ hx232_0)).trans hx232_0
              replace hx232_1 := (HB.out.cell (World.block_lt_of_cell? w _ hx232_1)).trans hx232_1
              replace hx232_2 := (HB.out.cell (World.block_lt_of_cell? w _ hx232_2)).trans hx232_2
              replace hx232_3 := (HB.out.cell (World.block_lt_of_cell? w _ hx232_3)).trans hx232_3
              replace p232 := eq_true p232
              replace q232 := eq_true q232
              go_wp2_with (first | ((with_reducible refine gate_builtin (b := .append) (xs := #[.tmp 56, .tmp 61]) rfl ?_); at_builtin; refine Kd.R_append k51 (w0 := w) w.heap.size rfl (.tmp 56) (.tmp 61) 22 51 (.agg #[(.int .i64 0), (.int .i64 0), (.bool false), (.int .u32 0)]) 24 rfl Tryd.underlying22 info51 rfl (by decide) (by omega) u8 x8_2 (⟨(rd_T51 l0 x10_2).f0, (rd_T51 l0 x10_2).f1, (rd_T51 l0 x10_2).f2, (rd_T51 l0 x10_2).f3⟩ : S51) [.int .i64 ((rd_T51 l0 x10_2).f0), .int .i64 ((rd_T51 l0 x10_2).f1), .bool ((rd_T51 l0 x10_2).f2), .int .u32 ((rd_T51 l0 x10_2).f3)] (fun _ => True) (fun _ => False) rfl rfl ?aP (fun _ hk => hk.elim) ?aF ?aO ?aB ?aS ?aL ?_; (case aP => exact k51_mkM _ _ _ (⟨(rd_T51 l0 x10_2).f0, (rd_T51 l0 x10_2).f1, (rd_T51 l0 x10_2).f2, (rd_T51 l0 x10_2).f3⟩ : S51)); (case aB => exact (hbx)); (case aF => exact (fun _ _ => trivial)); (case aO => exact (by (with_reducible repeat (first | apply Kd.R_alloc | apply Kd.R_drewN | apply Kd.R_drew)); exact HO_8.out)); (case aS => exact (below_size (hbx))); (case aL => have := LMc21.out; omega); intro v234 w22 ho hb hg hat; rw [← Ny233.out] at ho; have n0_ := Aside0.mk (hb); have n1_ := Aside0.mk (ho); clear HB; clear HO_8; have HB := n0_; have HO235 := n1_; clear n0_ n1_; clear ho hb hg hat))
              go_roundg k2
              case measure => have := HJ3.out; have := HK2.out; omega
              case rel => (try rw [← Nbq10.out]); exact ⟨(y233), (true), (wrap64 (x10_2 + 1)), (by first | rfl | (simp; done) | (simp [*]; done)), (by first | rfl | (simp; done) | (simp [*]; done)), H', ⟨by have := HJ3.out; have := HK2.out; omega⟩, ⟨by (with_reducible repeat (first | apply Kd.R_alloc | apply Kd.R_drewN | apply Kd.R_drew)); exact HO235.out⟩, ⟨hbx⟩⟩
             ·rw [if_neg c21] at H
              exact absurd H (by simp)
            ·replace c20 := Bool.eq_false_iff.mpr c20
             subst c20
             have H1 : (if x8_2.length < 5864062014805 then ((some (x8_2 ++ [(⟨a1, a2, false, 0⟩ : S51)] : List (S51))).bind fun y236 => (if y236.length < 5864062014805 then (halterref24_Add.l0 k2 l0 a1 a2 (y236 ++ [(⟨(rd_T51 l0 x10_2).f0, (rd_T51 l0 x10_2).f1, (rd_T51 l0 x10_2).f2, (rd_T51 l0 x10_2).f3⟩ : S51)]) true (wrap64 (x10_2 + 1))) else (none))) else (none)) = some (r1, r2) := by rw [if_neg (show ¬ (false = true) by decide)] at H; exact H
             clear H
             have H := H1
             clear H1
             by_cases c23 : x8_2.length < 5864062014805
             ·rw [if_pos c23] at H
              have LMc23 := Aside0.mk c23
              clear c23
              obtain ⟨y236, hy236⟩ : ∃ y_ : List (S51), y_ = (x8_2 ++ [(⟨a1, a2, false, 0⟩ : S51)]) := ⟨_, rfl⟩
              replace H : (if y236.length < 5864062014805 then (halterref24_Add.l0 k2 l0 a1 a2 (y236 ++ [(⟨(rd_T51 l0 x10_2).f0, (rd_T51 l0 x10_2).f1, (rd_T51 l0 x10_2).f2, (rd_T51 l0 x10_2).f3⟩ : S51)]) true (wrap64 (x10_2 + 1))) else (none)) = some (r1, r2) := by first | (rw [hy236]; with_reducible exact H) | (have H2_ := (Option.bind_some _ _).symm.trans H; rw [hy236]; with_reducible exact H2_) | (have H2_ := (Option.bind_some _ _).symm.trans H; with_reducible exact H2_) | with_reducible exact H | (rw [hy236]; exact H) | exact H
              have Ny236 := Aside0.mk hy236
              clear hy236
              by_cases c24 : y236.length < 5864062014805
              ·rw [if_pos c24] at H
               have LMc24 := Aside0.mk c24
               clear c24
               obtain ⟨y240, hy240⟩ : ∃ y_ : List (S51), y_ = (y236 ++ [(⟨(rd_T51 l0 x10_2).f0, (rd_T51 l0 x10_2).f1, (rd_T51 l0 x10_2).f2, (rd_T51 l0 x10_2).f3⟩ : S51)]) := ⟨_, rfl⟩
               replace H : (halterref24_Add.l0 k2 l0 a1 a2 y240 true (wrap64 (x10_2 + 1))) = some (r1, r2) := by first | (rw [hy240]; with_reducible exact H) | (have H2_ := (Option.bind_some _ _).symm.trans H; rw [hy240]; with_reducible exact H2_) | (have H2_ := (Option.bind_some _ _).symm.trans H; with_reducible exact H2_) | with_reducible exact H | (rw [hy240]; exact H) | exact H
               have Ny240 := Aside0.mk hy240
               clear hy240
               have H' := Aside0.mk H
               clear H
               have p231 : 0 ≤ (x10_2 : Int) := of_decide_eq_true (by first | (with_reducible assumption) | assumption)
               have q231 : x10_2 < (l0.length : Int) := of_decide_eq_true (by first | (with_reducible assumption) | assumption)
               obtain ⟨ad231, e231, hx231_0, hx231_1, hx231_2, hx231_3⟩ := at_T51 HR0.out x10_2 p231 q231
               cases e231
               replace hx231_0 := (HB.out.cell (World.block_lt_of_cell? w _ hx231_0)).trans hx231_0
               replace hx231_1 := (HB.out.cell (World.block_lt_of_cell? w _ hx231_1)).trans hx231_1
               replace hx231_2 := (HB.out.cell (World.block_lt_of_cell? w _ hx231_2)).trans hx231_2
               replace hx231_3 := (HB.out.cell (World.block_lt_of_cell? w _ hx231_3)).trans hx231_3
               replace p231 := eq_true p231
               replace q231 := eq_true q231
               go_wp2_with (first | ((with_reducible refine gate_builtin (b := .append) (xs := #[.tmp 50, .tmp 54]) rfl ?_); at_builtin; refine Kd.R_append k51 (w0 := w) w.heap.size rfl (.tmp 50) (.tmp 54) 22 51 (.agg #[(.int .i64 0), (.int .i64 0), (.bool false), (.int .u32 0)]) 24 rfl Tryd.underlying22 info51 rfl (by decide) (by omega) u8 x8_2 (⟨a1, a2, false, 0⟩ : S51) [.int .i64 a1, .int .i64 a2, .bool false, .int .u32 0] (fun _ => True) (fun _ => False) rfl rfl ?aP (fun _ hk => hk.elim) ?aF ?aO ?aB ?aS ?aL ?_; (case aP => exact k51_mkM _ _ _ (⟨a1, a2, false, 0⟩ : S51)); (case aB => exact (hbx)); (case aF => exact (fun _ _ => trivial)); (case aO => exact (by (with_reducible repeat (first | apply Kd.R_alloc | apply Kd.R_drewN | apply Kd.R_drew)); exact HO_8.out)); (case aS => exact (below_size (hbx))); (case aL => have := LMc23.out; omega); intro v237 w25 ho hb hg hat; rw [← Ny236.out] at ho; have n0_ := Aside0.mk (hb); have n1_ := Aside0.mk (ho); clear HB; clear HO_8; have HB := n0_; have HO238 := n1_; clear n0_ n1_; clear ho hb hg hat; have p239 : 0 ≤ (x10_2 : Int) := of_decide_eq_true (by first | (with_reducible assumption) | assumption); have q239 : x10_2 < (l0.length : Int) := of_decide_eq_true (by first | (with_reducible assumption) | assumption); obtain ⟨ad239, e239, hx239_0, hx239_1, hx239_2, hx239_3⟩ := at_T51 HR0.out x10_2 p239 q239; obtain rfl : ad231 = ad239 := (by injection e239); replace hx239_0 := (HB.out.cell (World.block_lt_of_cell? w _ hx239_0)).trans hx239_0; replace hx239_1 := (HB.out.cell (World.block_lt_of_cell? w _ hx239_1)).trans hx239_1; replace hx239_2 := (HB.out.cell (World.block_lt_of_cell? w _ hx239_2)).trans hx239_2; replace hx239_3 := (HB.out.cell (World.block_lt_of_cell? w _ hx239_3)).trans hx239_3; replace p239 := eq_true p239; replace q239 := eq_true q239) | ((with_reducible refine gate_builtin (b := .append) (xs := #[.tmp 56, .tmp 61]) rfl ?_); at_builtin; refine Kd.R_append k51 (w0 := w) w.heap.size rfl (.tmp 56) (.tmp 61) 22 51 (.agg #[(.int .i64 0), (.int .i64 0), (.bool false), (.int .u32 0)]) 24 rfl Tryd.underlying22 info51 rfl (by decide) (by omega) v237 y236 (⟨(rd_T51 l0 x10_2).f0, (rd_T51 l0 x10_2).f1, (rd_T51 l0 x10_2).f2, (rd_T51 l0 x10_2).f3⟩ : S51) [.int .i64 ((rd_T51 l0 x10_2).f0), .int .i64 ((rd_T51 l0 x10_2).f1), .bool ((rd_T51 l0 x10_2).f2), .int .u32 ((rd_T51 l0 x10_2).f3)] (fun _ => True) (fun _ => False) rfl rfl ?aP (fun _ hk => hk.elim) ?aF ?aO ?aB ?aS ?aL ?_; (case aP => exact k51_mkM _ _ _ (⟨(rd_T51 l0 x10_2).f0, (rd_T51 l0 x10_2).f1, (rd_T51 l0 x10_2).f2, (rd_T51 l0 x10_2).f3⟩ : S51)); (case aB => exact (hbx)); (case aF => exact (fun _ _ => trivial)); (case aO => exact (by (with_reducible repeat (first | apply Kd.R_alloc | apply Kd.R_drewN | apply Kd.R_drew)); exact HO238.out)); (case aS => exact (below_size (hbx))); (case aL => have := LMc24.out; omega); intro v241 w26 ho hb hg hat; rw [← Ny240.out] at ho; have n0_ := Aside0.mk (hb); have n1_ := Aside0.mk (ho); clear HB; clear HO238; have HB := n0_; have HO242 := n1_; clear n0_ n1_; clear ho hb hg hat))
               go_roundg k2
               case measure => have := HJ3.out; have := HK2.out; omega
               case rel => (try rw [← Nbq10.out]); exact ⟨(y240), (true), (wrap64 (x10_2 + 1)), (by first | rfl | (simp; done) | (simp [*]; done)), (by first | rfl | (simp; done) | (simp [*]; done)), H', ⟨by have := HJ3.out; have := HK2.out; omega⟩, ⟨by (with_reducible repeat (first | apply Kd.R_alloc | apply Kd.R_drewN | apply Kd.R_drew)); exact HO242.out⟩, ⟨hbx⟩⟩
              ·rw [if_neg c24] at H
               exact absurd H (by simp)
             ·rw [if_neg c23] at H
              exact absurd H (by simp)
           ·rw [if_neg c19] at H
            have c19b0 : decide (a1 < ((rd_T51 l0 x10_2).f0)) = false := decide_eq_false c19
            clear c19
            by_cases c27 : x8_2.length < 5864062014805
            ·rw [if_pos c27] at H
             have LMc27 := Aside0.mk c27
             clear c27
             obtain ⟨y244, hy244⟩ : ∃ y_ : List (S51), y_ = (x8_2 ++ [(⟨(rd_T51 l0 x10_2).f0, (rd_T51 l0 x10_2).f1, (rd_T51 l0 x10_2).f2, (rd_T51 l0 x10_2).f3⟩ : S51)]) := ⟨_, rfl⟩
             replace H : (halterref24_Add.l0 k2 l0 a1 a2 y244 x9_2 (wrap64 (x10_2 + 1))) = some (r1, r2) := by first | (rw [hy244]; with_reducible exact H) | (have H2_ := (Option.bind_some _ _).symm.trans H; rw [hy244]; with_reducible exact H2_) | (have H2_ := (Option.bind_some _ _).symm.trans H; with_reducible exact H2_) | with_reducible exact H | (rw [hy244]; exact H) | exact H
             have Ny244 := Aside0.mk hy244
             clear hy244
             have H' := Aside0.mk H
             clear H
             have p231 : 0 ≤ (x10_2 : Int) := of_decide_eq_true (by first | (with_reducible assumption) | assumption)
             have q231 : x10_2 < (l0.length : Int) := of_decide_eq_true (by first | (with_reducible assumption) | assumption)
             obtain ⟨ad231, e231, hx231_0, hx231_1, hx231_2, hx231_3⟩ := at_T51 HR0.out x10_2 p231 q231
             cases e231
             replace hx231_0 := (HB.out.cell (World.block_lt_of_cell? w _ hx231_0)).trans hx231_0
             replace hx231_1 := (HB.out.cell (World.block_lt_of_cell? w _ hx231_1)).trans hx231_1
             replace hx231_2 := (HB.out.cell (World.block_lt_of_cell? w _ hx231_2)).trans hx231_2
             replace hx231_3 := (HB.out.cell (World.block_lt_of_cell? w _ hx231_3)).trans hx231_3
             replace p231 := eq_true p231
             replace q231 := eq_true q231
             have p243 : 0 ≤ (x10_2 : Int) := of_decide_eq_true (by first | (with_reducible assumption) | assumption)
             have q243 : x10_2 < (l0.length : Int) := of_decide_eq_true (by first | (with_reducible assumption) | assumption)
             obtain ⟨ad243, e243, hx243_0, hx243_1, hx243_2, hx243_3⟩ := at_T51 HR0.out x10_2 p243 q243
             obtain rfl : ad231 = ad243 := (by injection e243)
             replace hx243_0 := (HB.out.cell (World.block_lt_of_cell? w _ hx243_0)).trans hx243_0
             replace hx243_1 := (HB.out.cell (World.block_lt_of_cell? w _ hx243_1)).trans hx243_1
             replace hx243_2 := (HB.out.cell (World.block_lt_of_cell? w _ hx243_2)).trans hx243_2
             replace hx243_3 := (HB.out.cell (World.block_lt_of_cell? w _ hx243_3)).trans hx243_3
             replace p243 := eq_true p243
             replace q243 := eq_true q243
             go_wp2_with (first | ((with_reducible refine gate_builtin (b := .append) (xs := #[.tmp 56, .tmp 61]) rfl ?_); at_builtin; refine Kd.R_append k51 (w0 := w) w.heap.size rfl (.tmp 56) (.tmp 61) 22 51 (.agg #[(.int .i64 0), (.int .i64 0), (.bool false), (.int .u32 0)]) 24 rfl Tryd.underlying22 info51 rfl (by decide) (by omega) u8 x8_2 (⟨(rd_T51 l0 x10_2).f0, (rd_T51 l0 x10_2).f1, (rd_T51 l0 x10_2).f2, (rd_T51 l0 x10_2).f3⟩ : S51) [.int .i64 ((rd_T51 l0 x10_2).f0), .int .i64 ((rd_T51 l0 x10_2).f1), .bool ((rd_T51 l0 x10_2).f2), .int .u32 ((rd_T51 l0 x10_2).f3)] (fun _ => True) (fun _ => False) rfl rfl ?aP (fun _ hk => hk.elim) ?aF ?aO ?aB ?aS ?aL ?_; (case aP => exact k51_mkM _ _ _ (⟨(rd_T51 l0 x10_2).f0, (rd_T51 l0 x10_2).f1, (rd_T51 l0 x10_2).f2, (rd_T51 l0 x10_2).f3⟩ : S51)); (case aB => exact (hbx)); (case aF => exact (fun _ _ => trivial)); (case aO => exact (by (with_reducible repeat (first | apply Kd.R_alloc | apply Kd.R_drewN | apply Kd.R_drew)); exact HO_8.out)); (case aS => exact (below_size (hbx))); (case aL => have := LMc27.out; omega); intro v245 w28 ho hb hg hat; rw [← Ny244.out] at ho; have n0_ := Aside0.mk (hb); have n1_ := Aside0.mk (ho); clear HB; clear HO_8; have HB := n0_; have HO246 := n1_; clear n0_ n1_; clear ho hb hg hat))
             go_roundg k2
             case measure => have := HJ3.out; have := HK2.out; omega
             case rel => (try rw [← Nbq10.out]); exact ⟨(y244), (x9_2), (wrap64 (x10_2 + 1)), (by first | rfl | (simp; done) | (simp [*]; done)), (by first | rfl | (simp; done) | (simp [*]; done)), H', ⟨by have := HJ3.out; have := HK2.out; omega⟩, ⟨by (with_reducible repeat (first | apply Kd.R_alloc | apply Kd.R_drewN | apply Kd.R_drew)); exact HO246.out⟩, ⟨hbx⟩⟩
            ·rw [if_neg c27] at H
             exact absurd H (by simp)
          ·rw [if_neg c18] at H
           exact absurd H (by simp)
         ·rw [if_neg c17] at H
          have c17b0 : decide (x10_2 < (l0.length : Int)) = false := decide_eq_false c17
          clear c17
          by_cases c29 : x9_2 = true
          ·subst c29
           have H1 : (some (x8_2, 0)) = some (r1, r2) := by rw [if_pos rfl] at H; exact H
           clear H
           have H := H1
           clear H1
           simp only [Option.some.injEq, Prod.mk.injEq] at H
           obtain ⟨rfl, rfl⟩ := H
           go_wp2
           go_ret2
           exact ⟨_, by first | rfl | (simp [errW_none, errW_some] <;> rfl) | (simp [*, errW_none, errW_some] <;> rfl), by (with_reducible repeat (first | apply Kd.R_alloc | apply Kd.R_drewN | apply Kd.R_drew)); exact HO_8.out, hbx⟩
          ·replace c29 := Bool.eq_false_iff.mpr c29
           subst c29
           have H1 : (if x8_2.length < 5864062014805 then (some ((x8_2 ++ [(⟨a1, a2, false, 0⟩ : S51)]), 0)) else (none)) = some (r1, r2) := by rw [if_neg (show ¬ (false = true) by decide)] at H; exact H
           clear H
           have H := H1
           clear H1
           by_cases c30 : x8_2.length < 5864062014805
           ·rw [if_pos c30] at H
            have LMc30 := Aside0.mk c30
            clear c30
            obtain ⟨y247, hy247⟩ : ∃ y_ : List (S51), y_ = (x8_2 ++ [(⟨a1, a2, false, 0⟩ : S51)]) := ⟨_, rfl⟩
            replace H : (some (y247, 0)) = some (r1, r2) := by first | (rw [hy247]; with_reducible exact H) | (have H2_ := (Option.bind_some _ _).symm.trans H; rw [hy247]; with_reducible exact H2_) | (have H2_ := (Option.bind_some _ _).symm.trans H; with_reducible exact H2_) | with_reducible exact H | (rw [hy247]; exact H) | exact H
            have Ny247 := Aside0.mk hy247
            clear hy247
            simp only [Option.some.injEq, Prod.mk.injEq] at H
            obtain ⟨rfl, rfl⟩ := H
            go_wp2_with (first | ((with_reducible refine gate_builtin (b := .append) (xs := #[.tmp 65, .tmp 69]) rfl ?_); at_builtin; refine Kd.R_append k51 (w0 := w) w.heap.size rfl (.tmp 65) (.tmp 69) 22 51 (.agg #[(.int .i64 0), (.int .i64 0), (.bool false), (.int .u32 0)]) 24 rfl Tryd.underlying22 info51 rfl (by decide) (by omega) u8 x8_2 (⟨a1, a2, false, 0⟩ : S51) [.int .i64 a1, .int .i64 a2, .bool false, .int .u32 0] (fun _ => True) (fun _ => False) rfl rfl ?aP (fun _ hk => hk.elim) ?aF ?aO ?aB ?aS ?aL ?_; (case aP => exact k51_mkM _ _ _ (⟨a1, a2, false, 0⟩ : S51)); (case aB => exact (hbx)); (case aF => exact (fun _ _ => trivial)); (case aO => exact (by (with_reducible repeat (first | apply Kd.R_alloc | apply Kd.R_drewN | apply Kd.R_drew)); exact HO_8.out)); (case aS => exact (below_size (hbx))); (case aL => have := LMc30.out; omega); intro v248 w31 ho hb hg hat; rw [← Ny247.out] at ho; have n0_ := Aside0.mk (hb); have n1_ := Aside0.mk (ho); clear HB; clear HO_8; have HB := n0_; have HO249 := n1_; clear n0_ n1_; clear ho hb hg hat))
            go_ret2
            exact ⟨_, by first | rfl | (simp [errW_none, errW_some] <;> rfl) | (simp [*, errW_none, errW_some] <;> rfl), by (with_reducible repeat (first | apply Kd.R_alloc | apply Kd.R_drewN | apply Kd.R_drew)); exact HO249.out, hbx⟩
           ·rw [if_neg c30] at H
            exact absurd H (by simp)
     ·replace c15 := Bool.eq_false_iff.mpr c15
      subst c15
      have H1 : (some (([] : List (S51)), 3)) = some (r1, r2) := by rw [if_neg (show ¬ (false = true) by decide)] at H; exact H
      clear H
      have H := H1
      clear H1
      simp only [Option.some.injEq, Prod.mk.injEq] at H
      obtain ⟨rfl, rfl⟩ := H
      go_wp2_with (first | ((with_reducible refine gate_callee (f := 21) rfl ?_); refine goesL_ (some 24) rfl rfl Tryd.func21 (by kernel_rfl) rfl #[.slice A0 l0.length c0, .int .i64 a1] rfl (by (try simp only [List.map_toArray, List.map_cons, List.map_nil]); first | done | rfl | (simp only [List.length_drop, List.length_take]; rfl)) ?_; (with_reducible refine (halterref24_At.calls kj3 _ _ l0 a1 t229 _ ?side1 ?side2 A12.out).mono ?_); (case side1 => repeat (first | exact (Kd.C_below HR0.out HB.out) | (with_reducible refine Kd.C_alloc ?_ _) | (with_reducible refine Kd.C_drewN ?_ _) | (with_reducible refine Kd.C_drew ?_))); (case side2 => exact HC0.out); rintro e w' ⟨rfl, ⟨nd, rfl⟩⟩; refine ⟨_, rfl, ?_⟩) | ((with_reducible refine gate_callee (f := 28) rfl ?_); refine goesL_ (some 28) rfl rfl Tryd.func28 (by kernel_rfl) rfl #[.slice A0 l0.length c0, .int .i64 a2] rfl (by (try simp only [List.map_toArray, List.map_cons, List.map_nil]); first | done | rfl | (simp only [List.length_drop, List.length_take]; rfl)) ?_; (with_reducible refine (halterref24_Alive.calls kj3 _ _ l0 a2 false _ ?side1 ?side2 A14.out).mono ?_); (case side1 => repeat (first | exact (Kd.C_below HR0.out (hbx)) | (with_reducible refine Kd.C_alloc ?_ _) | (with_reducible refine Kd.C_drewN ?_ _) | (with_reducible refine Kd.C_drew ?_))); (case side2 => exact HC0.out); rintro e w' ⟨rfl, ⟨nd, rfl⟩⟩; refine ⟨_, rfl, ?_⟩))
      go_ret2
      exact ⟨_, by first | rfl | (simp [errW_none, errW_some] <;> rfl) | (simp [*, errW_none, errW_some] <;> rfl), by first | exact Kd.R_nil _ _ _ _ _ | exact Kd.N_nil _ _ _ _ _ | exact Kd.V_nil _ _ _ _ _ | exact Kd.Q_nil _ _ _ _ _ | exact Kd.S_nil _ _ _ _ _, hbx⟩

/-! ### halterref24_Exit: function 10 -/
def halterref24_Exit.l0 : Nat → List (S51) → Int → Int → List (S51) → Int → Option ((List (S51)) × Int)
 | 0, _, _, _, _, _ => none
 | k + 1, x0, x1, x2, x8, x9 => if x9 < (x0.length : Int) then (if 0 ≤ x9 then (if ((rd_T51 x0 x9).f1) = x1 then (if ((rd_T51 x0 x9).f0) = x1 then (if x8.length < 5864062014805 then (halterref24_Exit.l0 k x0 x1 x2 (x8 ++ [(⟨(rd_T51 x0 x9).f0, 1, true, x2⟩ : S51)]) (wrap64 (x9 + 1))) else (none)) else (if x8.length < 5864062014805 then (halterref24_Exit.l0 k x0 x1 x2 (x8 ++ [(⟨(rd_T51 x0 x9).f0, 1, (rd_T51 x0 x9).f2, (rd_T51 x0 x9).f3⟩ : S51)]) (wrap64 (x9 + 1))) else (none))) else (if ((rd_T51 x0 x9).f0) = x1 then (if x8.length < 5864062014805 then (halterref24_Exit.l0 k x0 x1 x2 (x8 ++ [(⟨(rd_T51 x0 x9).f0, (rd_T51 x0 x9).f1, true, x2⟩ : S51)]) (wrap64 (x9 + 1))) else (none)) else (if x8.length < 5864062014805 then (halterref24_Exit.l0 k x0 x1 x2 (x8 ++ [(⟨(rd_T51 x0 x9).f0, (rd_T51 x0 x9).f1, (rd_T51 x0 x9).f2, (rd_T51 x0 x9).f3⟩ : S51)]) (wrap64 (x9 + 1))) else (none)))) else (none)) else (some (x8, 0))
def halterref24_Exit.f (k : Nat) (l0 : List (S51)) (a1 : Int) (a2 : Int) : Option ((List (S51)) × Int) := (halterref24_May.f k l0).bind fun t250 => (if t250 = true then ((halterref24_Alive.f k l0 a1).bind fun t251 => (if t251 = true then (if a1 = 1 then (some (([] : List (S51)), 1)) else (halterref24_Exit.l0 k l0 a1 a2 ([] : List (S51)) 0)) else (some (([] : List (S51)), 3)))) else (some (([] : List (S51)), 22)))
theorem halterref24_Exit.mono_l : ∀ k, (∀ y0 y1 y2 y3 y4, LeO (halterref24_Exit.l0 k y0 y1 y2 y3 y4) (halterref24_Exit.l0 (k + 1) y0 y1 y2 y3 y4))
 | 0 => fun _ _ _ _ _ r h => by simp [halterref24_Exit.l0] at h
 | k + 1 => by
  have ih0 := halterref24_Exit.mono_l k
  ·intro y0 y1 y2 y3 y4
   unfold halterref24_Exit.l0
   repeat' first
   | (with_reducible exact ih0 _ _ _ _ _)
   | (with_reducible exact halterref24_Alive.mono _ _ _)
   | (with_reducible exact halterref24_May.mono _ _)
   | (with_reducible exact LeO.refl _)
   | (with_reducible exact LeO.none _)
   | (with_reducible refine LeO.ite ?_ ?_)
   | (with_reducible refine LeO.bind ?_ (fun _ => ?_))
   | exact ih0 _ _ _ _ _
   | exact halterref24_Alive.mono _ _ _
   | exact halterref24_May.mono _ _
   | exact LeO.none _
   | refine LeO.ite ?_ ?_
   | refine LeO.bind ?_ (fun _ => ?_)
theorem halterref24_Exit.mono : ∀ a0 a1 a2 k, LeO (halterref24_Exit.f k a0 a1 a2) (halterref24_Exit.f (k + 1) a0 a1 a2) := by
 intro a0 a1 a2 k
 have ih0 := halterref24_Exit.mono_l k
 unfold halterref24_Exit.f
 repeat' first
   | (with_reducible exact ih0 _ _ _ _ _)
   | (with_reducible exact halterref24_Alive.mono _ _ _)
   | (with_reducible exact halterref24_May.mono _ _)
   | (with_reducible exact LeO.refl _)
   | (with_reducible exact LeO.none _)
   | (with_reducible refine LeO.ite ?_ ?_)
   | (with_reducible refine LeO.bind ?_ (fun _ => ?_))
   | exact ih0 _ _ _ _ _
   | exact halterref24_Alive.mono _ _ _
   | exact halterref24_May.mono _ _
   | exact LeO.none _
   | refine LeO.ite ?_ ?_
   | refine LeO.bind ?_ (fun _ => ?_)
theorem put_event {P : Program} {ops : Array Oper} {rest : List Oper} {o : Oper} {a : Act} {Q : Exit → Act → World → Prop} {W : World} (W2 : World → World) (g : Nat) (o2 : Obj) (hgd : o.guard = none) (hrun : (execOp a.eval o).run P W = .ok .skip (W2 W)) (hb : (W2 W).heap[g]? = some o2) (hgr : W.grownBy (W2 W) (some g))
    (h : ∀ w1, w1.heap[g]? = some o2 → W.grownBy w1 (some g) → wpList P ops Q rest (a.put o.dst undef) w1) : wpList P ops Q (o :: rest) a W := by
  refine wpList_plain hgd fun K hK => ?_
  unfold Oper.wp
  rw [hrun]
  exact hK _ _ (h _ hb hgr)
theorem grown_set {W X : World} {g : Nat} (h : W.grownBy X (some g)) (j : Nat) (u : Value) : W.grownBy (X.setCell ⟨g, j, none⟩ u) (some g) :=
  ⟨h.os, h.tape, h.output, Nat.le_trans h.size (by simp [World.setCell]), fun k hk hne => (Below.heap_setCell X ⟨g, j, none⟩ u k (fun e => hne (by rw [e]))).trans (h.block k hk hne)⟩
theorem grown_refl (W : World) (g : Nat) : W.grownBy W (some g) := ⟨rfl, rfl, rfl, Nat.le_refl _, fun _ _ _ => rfl⟩
set_option maxHeartbeats 8000000 in
set_option maxRecDepth 100000 in
theorem halterref24_Exit.calls (k : Nat) (A0 : Option Addr) (c0 : Nat) (l0 : List (S51)) (a1 : Int) (a2 : Int) (r1 : List (S51)) (r2 : Int) (w : World) (hr0 : Kd.C k51 w A0 l0.length l0) (hc0 : l0.length ≤ c0) (h : halterref24_Exit.f k l0 a1 a2 = some (r1, r2)) :
  Calls Tryd.prog 10 #[.slice A0 l0.length c0, .int .i64 a1, .int .u32 a2] w fun e w' => ∃ v0_ : Value, e = .returned (.tuple #[v0_, .int .i64 r2]) ∧ Kd.R k51 51 w' w.heap.size (fun _ => True) v0_ r1 ∧ Below w.heap.size w w' := by
 have hu51 := Tryd.underlying51
 have HR0 := Aside0.mk hr0
 have HC0 := Aside0.mk hc0
 clear hr0 hc0
 have HB := Aside0.mk (Below.refl w.heap.size w)
 have H : ((halterref24_May.f k l0).bind fun t250 => (if t250 = true then ((halterref24_Alive.f k l0 a1).bind fun t251 => (if t251 = true then (if a1 = 1 then (some (([] : List (S51)), 1)) else (halterref24_Exit.l0 k l0 a1 a2 ([] : List (S51)) 0)) else (some (([] : List (S51)), 3)))) else (some (([] : List (S51)), 22)))) = some (r1, r2) := h
 clear h
 replace H := Option.bind_eq_some_iff.mp H
 obtain ⟨t250, A40, H⟩ := H
 replace H : (if t250 = true then ((halterref24_Alive.f k l0 a1).bind fun t251 => (if t251 = true then (if a1 = 1 then (some (([] : List (S51)), 1)) else (halterref24_Exit.l0 k l0 a1 a2 ([] : List (S51)) 0)) else (some (([] : List (S51)), 3)))) else (some (([] : List (S51)), 22))) = some (r1, r2) := H
 have A4 := Aside0.mk A40
 clear A40
 by_cases c5 : t250 = true
 ·subst c5
  have H1 : ((halterref24_Alive.f k l0 a1).bind fun t251 => (if t251 = true then (if a1 = 1 then (some (([] : List (S51)), 1)) else (halterref24_Exit.l0 k l0 a1 a2 ([] : List (S51)) 0)) else (some (([] : List (S51)), 3)))) = some (r1, r2) := by rw [if_pos rfl] at H; exact H
  clear H
  have H := H1
  clear H1
  replace H := Option.bind_eq_some_iff.mp H
  obtain ⟨t251, A60, H⟩ := H
  replace H : (if t251 = true then (if a1 = 1 then (some (([] : List (S51)), 1)) else (halterref24_Exit.l0 k l0 a1 a2 ([] : List (S51)) 0)) else (some (([] : List (S51)), 3))) = some (r1, r2) := H
  have A6 := Aside0.mk A60
  clear A60
  by_cases c7 : t251 = true
  ·subst c7
   have H1 : (if a1 = 1 then (some (([] : List (S51)), 1)) else (halterref24_Exit.l0 k l0 a1 a2 ([] : List (S51)) 0)) = some (r1, r2) := by rw [if_pos rfl] at H; exact H
   clear H
   have H := H1
   clear H1
   by_cases c8 : a1 = 1
   ·rw [if_pos c8] at H
    have c8b0 : (a1 == 1) = true := beq_iff_eq.mpr c8
    have c8b1 : (a1 != 1) = false := bne_eq_false_iff_eq.mpr c8
    clear c8
    simp only [Option.some.injEq, Prod.mk.injEq] at H
    obtain ⟨rfl, rfl⟩ := H
    go_enter Tryd.func10, Tryd.ntmps10
    go_wp2_with (first | ((with_reducible refine gate_callee (f := 20) rfl ?_); refine goesL_ (some 12) rfl rfl Tryd.func20 (by kernel_rfl) rfl #[.slice A0 l0.length c0] rfl (by (try simp only [List.map_toArray, List.map_cons, List.map_nil]); first | done | rfl | (simp only [List.length_drop, List.length_take]; rfl)) ?_; (with_reducible refine (halterref24_May.calls k _ _ l0 true _ ?side1 ?side2 A4.out).mono ?_); (case side1 => repeat (first | exact HR0.out | (with_reducible refine Kd.C_alloc ?_ _) | (with_reducible refine Kd.C_drewN ?_ _) | (with_reducible refine Kd.C_drew ?_))); (case side2 => exact HC0.out); rintro e w9 ⟨rfl, hb⟩; refine ⟨_, rfl, ?_⟩; have n0_ := Aside0.mk (below_step (hbx) hb); clear HB; have HB := n0_; clear n0_; (try clear hb); (try clear hb2); (try clear hk); (try clear hi)) | ((with_reducible refine gate_callee (f := 28) rfl ?_); refine goesL_ (some 16) rfl rfl Tryd.func28 (by kernel_rfl) rfl #[.slice A0 l0.length c0, .int .i64 a1] rfl (by (try simp only [List.map_toArray, List.map_cons, List.map_nil]); first | done | rfl | (simp only [List.length_drop, List.length_take]; rfl)) ?_; (with_reducible refine (halterref24_Alive.calls k _ _ l0 a1 true _ ?side1 ?side2 A6.out).mono ?_); (case side1 => repeat (first | exact (Kd.C_below HR0.out HB.out) | (with_reducible refine Kd.C_alloc ?_ _) | (with_reducible refine Kd.C_drewN ?_ _) | (with_reducible refine Kd.C_drew ?_))); (case side2 => exact HC0.out); rintro e w' ⟨rfl, ⟨nd, rfl⟩⟩; refine ⟨_, rfl, ?_⟩))
    go_ret2
    exact ⟨_, by first | rfl | (simp [errW_none, errW_some] <;> rfl) | (simp [*, errW_none, errW_some] <;> rfl), by first | exact Kd.R_nil _ _ _ _ _ | exact Kd.N_nil _ _ _ _ _ | exact Kd.V_nil _ _ _ _ _ | exact Kd.Q_nil _ _ _ _ _ | exact Kd.S_nil _ _ _ _ _, hbx⟩
   ·rw [if_neg c8] at H
    have c8b0 : (a1 == 1) = false := beq_eq_false_iff_ne.mpr c8
    have c8b1 : (a1 != 1) = true := bne_iff_ne.mpr c8
    have H' := Aside0.mk H
    clear H
    go_enter Tryd.func10, Tryd.ntmps10
    go_wp2_with (first | ((with_reducible refine gate_callee (f := 20) rfl ?_); refine goesL_ (some 12) rfl rfl Tryd.func20 (by kernel_rfl) rfl #[.slice A0 l0.length c0] rfl (by (try simp only [List.map_toArray, List.map_cons, List.map_nil]); first | done | rfl | (simp only [List.length_drop, List.length_take]; rfl)) ?_; (with_reducible refine (halterref24_May.calls k _ _ l0 true _ ?side1 ?side2 A4.out).mono ?_); (case side1 => repeat (first | exact HR0.out | (with_reducible refine Kd.C_alloc ?_ _) | (with_reducible refine Kd.C_drewN ?_ _) | (with_reducible refine Kd.C_drew ?_))); (case side2 => exact HC0.out); rintro e w10 ⟨rfl, hb⟩; refine ⟨_, rfl, ?_⟩; have n0_ := Aside0.mk (below_step (hbx) hb); clear HB; have HB := n0_; clear n0_; (try clear hb); (try clear hb2); (try clear hk); (try clear hi)) | ((with_reducible refine gate_callee (f := 28) rfl ?_); refine goesL_ (some 16) rfl rfl Tryd.func28 (by kernel_rfl) rfl #[.slice A0 l0.length c0, .int .i64 a1] rfl (by (try simp only [List.map_toArray, List.map_cons, List.map_nil]); first | done | rfl | (simp only [List.length_drop, List.length_take]; rfl)) ?_; (with_reducible refine (halterref24_Alive.calls k _ _ l0 a1 true _ ?side1 ?side2 A6.out).mono ?_); (case side1 => repeat (first | exact (Kd.C_below HR0.out HB.out) | (with_reducible refine Kd.C_alloc ?_ _) | (with_reducible refine Kd.C_drewN ?_ _) | (with_reducible refine Kd.C_drew ?_))); (case side2 => exact HC0.out); rintro e w' ⟨rfl, ⟨nd, rfl⟩⟩; refine ⟨_, rfl, ?_⟩))
    go_loopg [8, 9] k (fun kq v8 v9 w' => ∃ (x8_1 : List (S51)) (x9_1 : Int), v9 = .int .i64 x9_1 ∧ Aside0 (halterref24_Exit.l0 kq l0 a1 a2 x8_1 x9_1 = some (r1, r2)) ∧ Aside0 (kq ≤ k) ∧ Aside0 (Kd.R k51 51 w' w.heap.size (fun _ => True) v8 x8_1) ∧ Aside0 (Below w.heap.size w w'))
    case atStart => exact ⟨(([] : List (S51))), (0), (by first | rfl | (simp; done) | (simp [*]; done)), H', ⟨Nat.le_refl _⟩, ⟨by first | exact Kd.R_nil _ _ _ _ _ | exact Kd.N_nil _ _ _ _ _ | exact Kd.V_nil _ _ _ _ _ | exact Kd.Q_nil _ _ _ _ _ | exact Kd.S_nil _ _ _ _ _⟩, ⟨hbx⟩⟩
    case round =>
     clear H'
     try clear c1
     try clear c2
     try clear p2
     try clear c5
     try clear c7
     try clear c8
     try clear c8b0
     try clear c8b1
     try clear c10
     obtain ⟨x8_1, x9_1, rfl, HA, HK1, HO_8, HB⟩ := hrel
     cases gk with
     | zero => exact absurd HA.out (by simp [halterref24_Exit.l0])
     | succ k1 =>
      have H := HA.out
      clear HA
      simp only [halterref24_Exit.l0] at H
      by_cases c11 : x9_1 < (l0.length : Int)
      ·rw [if_pos c11] at H
       have c11b0 : decide (x9_1 < (l0.length : Int)) = true := decide_eq_true c11
       clear c11
       by_cases c12 : 0 ≤ x9_1
       ·rw [if_pos c12] at H
        have c12b0 : decide (0 ≤ x9_1) = true := decide_eq_true c12
        clear c12
        by_cases c13 : ((rd_T51 l0 x9_1).f1) = a1
        ·rw [if_pos c13] at H
         have c13b0 : (((rd_T51 l0 x9_1).f1) == a1) = true := beq_iff_eq.mpr c13
         have c13b1 : (((rd_T51 l0 x9_1).f1) != a1) = false := bne_eq_false_iff_eq.mpr c13
         clear c13
         by_cases c14 : ((rd_T51 l0 x9_1).f0) = a1
         ·rw [if_pos c14] at H
          have c14b0 : (((rd_T51 l0 x9_1).f0) == a1) = true := beq_iff_eq.mpr c14
          have c14b1 : (((rd_T51 l0 x9_1).f0) != a1) = false := bne_eq_false_iff_eq.mpr c14
          clear c14
          by_cases c15 : x8_1.length < 5864062014805
          ·rw [if_pos c15] at H
           have LMc15 := Aside0.mk c15
           clear c15
           obtain ⟨y254, hy254⟩ : ∃ y_ : List (S51), y_ = (x8_1 ++ [(⟨(rd_T51 l0 x9_1).f0, 1, true, a2⟩ : S51)]) := ⟨_, rfl⟩
           replace H : (halterref24_Exit.l0 k1 l0 a1 a2 y254 (wrap64 (x9_1 + 1))) = some (r1, r2) := by first | (rw [hy254]; with_reducible exact H) | (have H2_ := (Option.bind_some _ _).symm.trans H; rw [hy254]; with_reducible exact H2_) | (have H2_ := (Option.bind_some _ _).symm.trans H; with_reducible exact H2_) | with_reducible exact H | (rw [hy254]; exact H) | exact H
           have Ny254 := Aside0.mk hy254
           clear hy254
           have H' := Aside0.mk H
           clear H
           have p252 : 0 ≤ (x9_1 : Int) := of_decide_eq_true (by first | (with_reducible assumption) | assumption)
           have q252 : x9_1 < (l0.length : Int) := of_decide_eq_true (by first | (with_reducible assumption) | assumption)
           obtain ⟨ad252, e252, hx252_0, hx252_1, hx252_2, hx252_3⟩ := at_T51 HR0.out x9_1 p252 q252
           cases e252
           replace hx252_0 := (HB.out.cell (World.block_lt_of_cell? w _ hx252_0)).trans hx252_0
           replace hx252_1 := (HB.out.cell (World.block_lt_of_cell? w _ hx252_1)).trans hx252_1
           replace hx252_2 := (HB.out.cell (World.block_lt_of_cell? w _ hx252_2)).trans hx252_2
           replace hx252_3 := (HB.out.cell (World.block_lt_of_cell? w _ hx252_3)).trans hx252_3
           replace p252 := eq_true p252
           replace q252 := eq_true q252
           go_wp2_with (first | ((with_reducible refine gate_dst (N := 10) rfl ?_); refine box_event ?hg (N := 10) ?hd (cs := #[.int .i64 0, .int .i64 0, .bool false, .int .u32 0]) (t := 51) ?hr ?_; (case hd => rfl); (case hg => rfl); (case hr => first | (go_simp; done) | (go_simp; rfl)); intro gb253 hg w16 hbox hb; have n0_ := Aside0.mk (Kd.R_below (Kd.R_elderB (by (with_reducible repeat (first | apply Kd.R_alloc | apply Kd.R_drewN | apply Kd.R_drew)); exact HO_8.out) gb253 (Nat.le_of_eq hg.symm)) hb); have n1_ := Aside0.mk (below_step (hbx) hb); have n2_ := Aside0.mk (hbox); have n3_ := Aside0.mk ((by rw [hg]; exact (below_size (hbx)) : w.heap.size ≤ gb253)); have n4_ := Aside0.mk ((by rw [hg]; exact (below_size (hbx)) : w.heap.size ≤ gb253)); clear HO_8; clear HB; have HO_8 := n0_; have HB := n1_; have BK253 := n2_; have GW253 := n3_; have GE253 := n4_; clear n0_ n1_ n2_ n3_ n4_; clear hb hbox hg; have hcz17_0 : w16.cell? ⟨gb253, 0, none⟩ = some (.int .i64 0) := (blk_cell BK253.out 0).trans rfl; have hcz17_1 : w16.cell? ⟨gb253, 1, none⟩ = some (.int .i64 0) := (blk_cell BK253.out 1).trans rfl; have hcz17_2 : w16.cell? ⟨gb253, 2, none⟩ = some (.bool false) := (blk_cell BK253.out 2).trans rfl; have hcz17_3 : w16.cell? ⟨gb253, 3, none⟩ = some (.int .u32 0) := (blk_cell BK253.out 3).trans rfl; have hfz17_0 := blk_frozen BK253.out 0; have hfz17_1 := blk_frozen BK253.out 1; have hfz17_2 := blk_frozen BK253.out 2; have hfz17_3 := blk_frozen BK253.out 3) | ((with_reducible refine gate_store (t := 51) (p := 10) (v := .tmp 29) rfl ?_); refine put_event (fun W_ => (World.setCell (World.setCell (World.setCell (World.setCell W_ ⟨gb253, 0, none⟩ (.int .i64 ((rd_T51 l0 x9_1).f0))) ⟨gb253, 1, none⟩ (.int .i64 ((rd_T51 l0 x9_1).f1))) ⟨gb253, 2, none⟩ (.bool ((rd_T51 l0 x9_1).f2))) ⟨gb253, 3, none⟩ (.int .u32 ((rd_T51 l0 x9_1).f3)))) gb253 (.cells #[.int .i64 ((rd_T51 l0 x9_1).f0), .int .i64 ((rd_T51 l0 x9_1).f1), .bool ((rd_T51 l0 x9_1).f2), .int .u32 ((rd_T51 l0 x9_1).f3)] 51 (0, 0)) rfl ?hrun ?hbb ?hgg ?_; (case hrun => first | (go_simp; done) | (go_simp; rfl)); (case hbb => refine blk_put (cs := #[.int .i64 ((rd_T51 l0 x9_1).f0), .int .i64 ((rd_T51 l0 x9_1).f1), .bool ((rd_T51 l0 x9_1).f2), .int .u32 0]) ?_ 3 _ rfl; refine blk_put (cs := #[.int .i64 ((rd_T51 l0 x9_1).f0), .int .i64 ((rd_T51 l0 x9_1).f1), .bool false, .int .u32 0]) ?_ 2 _ rfl; refine blk_put (cs := #[.int .i64 ((rd_T51 l0 x9_1).f0), .int .i64 0, .bool false, .int .u32 0]) ?_ 1 _ rfl; refine blk_put (cs := #[.int .i64 0, .int .i64 0, .bool false, .int .u32 0]) ?_ 0 _ rfl; exact BK253.out); (case hgg => refine grown_set ?_ _ _; refine grown_set ?_ _ _; refine grown_set ?_ _ _; refine grown_set ?_ _ _; exact grown_refl _ _); intro w901 hbox hg; have n0_ := Aside0.mk (Kd.R_grown HO_8.out hg (fun k hk e => hk.2 (Option.some.inj e))); have n1_ := Aside0.mk (HB.out.grown hg (below_size HB.out) (fun k e => by cases e; exact GW253.out)); have n2_ := Aside0.mk hbox; clear HO_8; clear HB; clear BK253; have HO_8 := n0_; have HB := n1_; have BK253 := n2_; clear n0_ n1_ n2_; clear hg hbox; have hcp901_0 : w901.cell? ⟨gb253, 0, none⟩ = some (.int .i64 ((rd_T51 l0 x9_1).f0)) := (blk_cell BK253.out 0).trans rfl; have hfp901_0 := blk_frozen BK253.out 0; have hcp901_1 : w901.cell? ⟨gb253, 1, none⟩ = some (.int .i64 ((rd_T51 l0 x9_1).f1)) := (blk_cell BK253.out 1).trans rfl; have hfp901_1 := blk_frozen BK253.out 1; have hcp901_2 : w901.cell? ⟨gb253, 2, none⟩ = some (.bool ((rd_T51 l0 x9_1).f2)) := (blk_cell BK253.out 2).trans rfl; have hfp901_2 := blk_frozen BK253.out 2; have hcp901_3 : w901.cell? ⟨gb253, 3, none⟩ = some (.int .u32 ((rd_T51 l0 x9_1).f3)) := (blk_cell BK253.out 3).trans rfl; have hfp901_3 := blk_frozen BK253.out 3) | ((with_reducible refine gate_store (t := 3) (p := 34) (v := .const (.int .i64 1)) rfl ?_); refine put_event (fun W_ => (World.setCell W_ ⟨gb253, 1, none⟩ (.int .i64 1))) gb253 (.cells #[.int .i64 ((rd_T51 l0 x9_1).f0), .int .i64 1, .bool ((rd_T51 l0 x9_1).f2), .int .u32 ((rd_T51 l0 x9_1).f3)] 51 (0, 0)) rfl ?hrun ?hbb ?hgg ?_; (case hrun => first | (go_simp; done) | (go_simp; rfl)); (case hbb => refine blk_put (cs := #[.int .i64 ((rd_T51 l0 x9_1).f0), .int .i64 ((rd_T51 l0 x9_1).f1), .bool ((rd_T51 l0 x9_1).f2), .int .u32 ((rd_T51 l0 x9_1).f3)]) ?_ 1 _ rfl; exact BK253.out); (case hgg => refine grown_set ?_ _ _; exact grown_refl _ _); intro w902 hbox hg; have n0_ := Aside0.mk (Kd.R_grown HO_8.out hg (fun k hk e => hk.2 (Option.some.inj e))); have n1_ := Aside0.mk (HB.out.grown hg (below_size HB.out) (fun k e => by cases e; exact GW253.out)); have n2_ := Aside0.mk hbox; clear HO_8; clear HB; clear BK253; have HO_8 := n0_; have HB := n1_; have BK253 := n2_; clear n0_ n1_ n2_; clear hg hbox; have hcp902_0 : w902.cell? ⟨gb253, 0, none⟩ = some (.int .i64 ((rd_T51 l0 x9_1).f0)) := (blk_cell BK253.out 0).trans rfl; have hfp902_0 := blk_frozen BK253.out 0; have hcp902_1 : w902.cell? ⟨gb253, 1, none⟩ = some (.int .i64 1) := (blk_cell BK253.out 1).trans rfl; have hfp902_1 := blk_frozen BK253.out 1; have hcp902_2 : w902.cell? ⟨gb253, 2, none⟩ = some (.bool ((rd_T51 l0 x9_1).f2)) := (blk_cell BK253.out 2).trans rfl; have hfp902_2 := blk_frozen BK253.out 2; have hcp902_3 : w902.cell? ⟨gb253, 3, none⟩ = some (.int .u32 ((rd_T51 l0 x9_1).f3)) := (blk_cell BK253.out 3).trans rfl; have hfp902_3 := blk_frozen BK253.out 3) | ((with_reducible refine gate_store (t := 4) (p := 40) (v := .const (.bool true)) rfl ?_); refine put_event (fun W_ => (World.setCell W_ ⟨gb253, 2, none⟩ (.bool true))) gb253 (.cells #[.int .i64 ((rd_T51 l0 x9_1).f0), .int .i64 1, .bool true, .int .u32 ((rd_T51 l0 x9_1).f3)] 51 (0, 0)) rfl ?hrun ?hbb ?hgg ?_; (case hrun => first | (go_simp; done) | (go_simp; rfl)); (case hbb => refine blk_put (cs := #[.int .i64 ((rd_T51 l0 x9_1).f0), .int .i64 1, .bool ((rd_T51 l0 x9_1).f2), .int .u32 ((rd_T51 l0 x9_1).f3)]) ?_ 2 _ rfl; exact BK253.out); (case hgg => refine grown_set ?_ _ _; exact grown_refl _ _); intro w903 hbox hg; have n0_ := Aside0.mk (Kd.R_grown HO_8.out hg (fun k hk e => hk.2 (Option.some.inj e))); have n1_ := Aside0.mk (HB.out.grown hg (below_size HB.out) (fun k e => by cases e; exact GW253.out)); have n2_ := Aside0.mk hbox; clear HO_8; clear HB; clear BK253; have HO_8 := n0_; have HB := n1_; have BK253 := n2_; clear n0_ n1_ n2_; clear hg hbox; have hcp903_0 : w903.cell? ⟨gb253, 0, none⟩ = some (.int .i64 ((rd_T51 l0 x9_1).f0)) := (blk_cell BK253.out 0).trans rfl; have hfp903_0 := blk_frozen BK253.out 0; have hcp903_1 : w903.cell? ⟨gb253, 1, none⟩ = some (.int .i64 1) := (blk_cell BK253.out 1).trans rfl; have hfp903_1 := blk_frozen BK253.out 1; have hcp903_2 : w903.cell? ⟨gb253, 2, none⟩ = some (.bool true) := (blk_cell BK253.out 2).trans rfl; have hfp903_2 := blk_frozen BK253.out 2; have hcp903_3 : w903.cell? ⟨gb253, 3, none⟩ = some (.int .u32 ((rd_T51 l0 x9_1).f3)) := (blk_cell BK253.out 3).trans rfl; have hfp903_3 := blk_frozen BK253.out 3) | ((with_reducible refine gate_store (t := 24) (p := 41) (v := .tmp 39) rfl ?_); refine put_event (fun W_ => (World.setCell W_ ⟨gb253, 3, none⟩ (.int .u32 a2))) gb253 (.cells #[.int .i64 ((rd_T51 l0 x9_1).f0), .int .i64 1, .bool true, .int .u32 a2] 51 (0, 0)) rfl ?hrun ?hbb ?hgg ?_; (case hrun => first | (go_simp; done) | (go_simp; rfl)); (case hbb => refine blk_put (cs := #[.int .i64 ((rd_T51 l0 x9_1).f0), .int .i64 1, .bool true, .int .u32 ((rd_T51 l0 x9_1).f3)]) ?_ 3 _ rfl; exact BK253.out); (case hgg => refine grown_set ?_ _ _; exact grown_refl _ _); intro w904 hbox hg; have n0_ := Aside0.mk (Kd.R_grown HO_8.out hg (fun k hk e => hk.2 (Option.some.inj e))); have n1_ := Aside0.mk (HB.out.grown hg (below_size HB.out) (fun k e => by cases e; exact GW253.out)); have n2_ := Aside0.mk hbox; clear HO_8; clear HB; clear BK253; have HO_8 := n0_; have HB := n1_; have BK253 := n2_; clear n0_ n1_ n2_; clear hg hbox; have hcp904_0 : w904.cell? ⟨gb253, 0, none⟩ = some (.int .i64 ((rd_T51 l0 x9_1).f0)) := (blk_cell BK253.out 0).trans rfl; have hfp904_0 := blk_frozen BK253.out 0; have hcp904_1 : w904.cell? ⟨gb253, 1, none⟩ = some (.int .i64 1) := (blk_cell BK253.out 1).trans rfl; have hfp904_1 := blk_frozen BK253.out 1; have hcp904_2 : w904.cell? ⟨gb253, 2, none⟩ = some (.bool true) := (blk_cell BK253.out 2).trans rfl; have hfp904_2 := blk_frozen BK253.out 2; have hcp904_3 : w904.cell? ⟨gb253, 3, none⟩ = some (.int .u32 a2) := (blk_cell BK253.out 3).trans rfl; have hfp904_3 := blk_frozen BK253.out 3) | ((with_reducible refine gate_builtin (b := .append) (xs := #[.tmp 42, .tmp 44]) rfl ?_); at_builtin; refine Kd.R_append k51 (w0 := w) w.heap.size rfl (.tmp 42) (.tmp 44) 22 51 (.agg #[(.int .i64 0), (.int .i64 0), (.bool false), (.int .u32 0)]) 24 rfl Tryd.underlying22 info51 rfl (by decide) (by omega) u8 x8_1 (⟨(rd_T51 l0 x9_1).f0, 1, true, a2⟩ : S51) [.int .i64 ((rd_T51 l0 x9_1).f0), .int .i64 1, .bool true, .int .u32 a2] (fun k_ => k_ ≠ gb253) (fun _ => False) rfl (by first | (go_simp; done) | (go_simp; rfl)) ?aP (fun _ hk => hk.elim) ?aF ?aO ?aB ?aS ?aL ?_; (case aP => exact k51_mkM _ _ _ (⟨(rd_T51 l0 x9_1).f0, 1, true, a2⟩ : S51)); (case aB => exact (by repeat (first | (with_reducible first | exact HB.out | apply below_alloc | apply pw_below_drewN | apply below_drew1 | refine below_set ?_ GE253.out) | exact HB.out))); (case aF => exact (fun k_ hk => Kd.freshB (g := gb253) (o := .cells #[.int .i64 ((rd_T51 l0 x9_1).f0), .int .i64 1, .bool true, .int .u32 a2] 51 (0, 0)) (by (with_reducible repeat (first | refine blk_drewN ?_ _ | refine blk_drew ?_ | refine blk_alloc ?_ _)); exact BK253.out) k_ hk)); (case aO => exact (by (with_reducible repeat (first | apply Kd.R_alloc | apply Kd.R_drewN | apply Kd.R_drew)); exact Kd.R_mono HO_8.out (fun _ hk => hk.2))); (case aS => exact (below_size (by repeat (first | (with_reducible first | exact HB.out | apply below_alloc | apply pw_below_drewN | apply below_drew1 | refine below_set ?_ GE253.out) | exact HB.out)))); (case aL => have := LMc15.out; omega); intro v255 w18 ho hb hg hat; rw [← Ny254.out] at ho; have n0_ := Aside0.mk (blk_grown (g := gb253) (o := .cells #[.int .i64 ((rd_T51 l0 x9_1).f0), .int .i64 1, .bool true, .int .u32 a2] 51 (0, 0)) (by (with_reducible repeat (first | refine blk_drewN ?_ _ | refine blk_drew ?_ | refine blk_alloc ?_ _)); exact BK253.out) hg (Kd.R_away HO_8.out (fun _ hk => hk.2))); have n1_ := Aside0.mk (hb); have n2_ := Aside0.mk (ho); clear BK253; clear HB; clear HO_8; have BK253 := n0_; have HB := n1_; have HO256 := n2_; clear n0_ n1_ n2_; clear ho hb hg hat))
           go_roundg k1
           case measure => have := HK1.out; omega
           case rel => (try rw [← Nbq10.out]); exact ⟨(y254), (wrap64 (x9_1 + 1)), (by first | rfl | (simp; done) | (simp [*]; done)), H', ⟨by have := HK1.out; omega⟩, ⟨by (with_reducible repeat (first | apply Kd.R_alloc | apply Kd.R_drewN | apply Kd.R_drew)); exact Kd.R_mono HO256.out (fun _ hk => trivial)⟩, ⟨by repeat (first | (with_reducible first | exact HB.out | apply below_alloc | apply pw_below_drewN | apply below_drew1 | refine below_set ?_ GE253.out) | exact HB.out)⟩⟩
          ·rw [if_neg c15] at H
           exact absurd H (by simp)
         ·rw [if_neg c14] at H
          have c14b0 : (((rd_T51 l0 x9_1).f0) == a1) = false := beq_eq_false_iff_ne.mpr c14
          have c14b1 : (((rd_T51 l0 x9_1).f0) != a1) = true := bne_iff_ne.mpr c14
          by_cases c19 : x8_1.length < 5864062014805
          ·rw [if_pos c19] at H
           have LMc19 := Aside0.mk c19
           clear c19
           obtain ⟨y257, hy257⟩ : ∃ y_ : List (S51), y_ = (x8_1 ++ [(⟨(rd_T51 l0 x9_1).f0, 1, (rd_T51 l0 x9_1).f2, (rd_T51 l0 x9_1).f3⟩ : S51)]) := ⟨_, rfl⟩
           replace H : (halterref24_Exit.l0 k1 l0 a1 a2 y257 (wrap64 (x9_1 + 1))) = some (r1, r2) := by first | (rw [hy257]; with_reducible exact H) | (have H2_ := (Option.bind_some _ _).symm.trans H; rw [hy257]; with_reducible exact H2_) | (have H2_ := (Option.bind_some _ _).symm.trans H; with_reducible exact H2_) | with_reducible exact H | (rw [hy257]; exact H) | exact H
           have Ny257 := Aside0.mk hy257
           clear hy257
           have H' := Aside0.mk H
           clear H
           have p252 : 0 ≤ (x9_1 : Int) := of_decide_eq_true (by first | (with_reducible assumption) | assumption)
           have q252 : x9_1 < (l0.length : Int) := of_decide_eq_true (by first | (with_reducible assumption) | assumption)
           obtain ⟨ad252, e252, hx252_0, hx252_1, hx252_2, hx252_3⟩ := at_T51 HR0.out x9_1 p252 q252
           cases e252
           replace hx252_0 := (HB.out.cell (World.block_lt_of_cell? w _ hx252_0)).trans hx252_0
           replace hx252_1 := (HB.out.cell (World.block_lt_of_cell? w _ hx252_1)).trans hx252_1
           replace hx252_2 := (HB.out.cell (World.block_lt_of_cell? w _ hx252_2)).trans hx252_2
           replace hx252_3 := (HB.out.cell (World.block_lt_of_cell? w _ hx252_3)).trans hx252_3
           replace p252 := eq_true p252
           replace q252 := eq_true q252
           go_wp2_with (first | ((with_reducible refine gate_dst (N := 10) rfl ?_); refine box_event ?hg (N := 10) ?hd (cs := #[.int .i64 0, .int .i64 0, .bool false, .int .u32 0]) (t := 51) ?hr ?_; (case hd => rfl); (case hg => rfl); (case hr => first | (go_simp; done) | (go_simp; rfl)); intro gb253 hg w20 hbox hb; have n0_ := Aside0.mk (Kd.R_below (Kd.R_elderB (by (with_reducible repeat (first | apply Kd.R_alloc | apply Kd.R_drewN | apply Kd.R_drew)); exact HO_8.out) gb253 (Nat.le_of_eq hg.symm)) hb); have n1_ := Aside0.mk (below_step (hbx) hb); have n2_ := Aside0.mk (hbox); have n3_ := Aside0.mk ((by rw [hg]; exact (below_size (hbx)) : w.heap.size ≤ gb253)); have n4_ := Aside0.mk ((by rw [hg]; exact (below_size (hbx)) : w.heap.size ≤ gb253)); clear HO_8; clear HB; have HO_8 := n0_; have HB := n1_; have BK253 := n2_; have GW253 := n3_; have GE253 := n4_; clear n0_ n1_ n2_ n3_ n4_; clear hb hbox hg; have hcz21_0 : w20.cell? ⟨gb253, 0, none⟩ = some (.int .i64 0) := (blk_cell BK253.out 0).trans rfl; have hcz21_1 : w20.cell? ⟨gb253, 1, none⟩ = some (.int .i64 0) := (blk_cell BK253.out 1).trans rfl; have hcz21_2 : w20.cell? ⟨gb253, 2, none⟩ = some (.bool false) := (blk_cell BK253.out 2).trans rfl; have hcz21_3 : w20.cell? ⟨gb253, 3, none⟩ = some (.int .u32 0) := (blk_cell BK253.out 3).trans rfl; have hfz21_0 := blk_frozen BK253.out 0; have hfz21_1 := blk_frozen BK253.out 1; have hfz21_2 := blk_frozen BK253.out 2; have hfz21_3 := blk_frozen BK253.out 3) | ((with_reducible refine gate_store (t := 51) (p := 10) (v := .tmp 29) rfl ?_); refine put_event (fun W_ => (World.setCell (World.setCell (World.setCell (World.setCell W_ ⟨gb253, 0, none⟩ (.int .i64 ((rd_T51 l0 x9_1).f0))) ⟨gb253, 1, none⟩ (.int .i64 ((rd_T51 l0 x9_1).f1))) ⟨gb253, 2, none⟩ (.bool ((rd_T51 l0 x9_1).f2))) ⟨gb253, 3, none⟩ (.int .u32 ((rd_T51 l0 x9_1).f3)))) gb253 (.cells #[.int .i64 ((rd_T51 l0 x9_1).f0), .int .i64 ((rd_T51 l0 x9_1).f1), .bool ((rd_T51 l0 x9_1).f2), .int .u32 ((rd_T51 l0 x9_1).f3)] 51 (0, 0)) rfl ?hrun ?hbb ?hgg ?_; (case hrun => first | (go_simp; done) | (go_simp; rfl)); (case hbb => refine blk_put (cs := #[.int .i64 ((rd_T51 l0 x9_1).f0), .int .i64 ((rd_T51 l0 x9_1).f1), .bool ((rd_T51 l0 x9_1).f2), .int .u32 0]) ?_ 3 _ rfl; refine blk_put (cs := #[.int .i64 ((rd_T51 l0 x9_1).f0), .int .i64 ((rd_T51 l0 x9_1).f1), .bool false, .int .u32 0]) ?_ 2 _ rfl; refine blk_put (cs := #[.int .i64 ((rd_T51 l0 x9_1).f0), .int .i64 0, .bool false, .int .u32 0]) ?_ 1 _ rfl; refine blk_put (cs := #[.int .i64 0, .int .i64 0, .bool false, .int .u32 0]) ?_ 0 _ rfl; exact BK253.out); (case hgg => refine grown_set ?_ _ _; refine grown_set ?_ _ _; refine grown_set ?_ _ _; refine grown_set ?_ _ _; exact grown_refl _ _); intro w905 hbox hg; have n0_ := Aside0.mk (Kd.R_grown HO_8.out hg (fun k hk e => hk.2 (Option.some.inj e))); have n1_ := Aside0.mk (HB.out.grown hg (below_size HB.out) (fun k e => by cases e; exact GW253.out)); have n2_ := Aside0.mk hbox; clear HO_8; clear HB; clear BK253; have HO_8 := n0_; have HB := n1_; have BK253 := n2_; clear n0_ n1_ n2_; clear hg hbox; have hcp905_0 : w905.cell? ⟨gb253, 0, none⟩ = some (.int .i64 ((rd_T51 l0 x9_1).f0)) := (blk_cell BK253.out 0).trans rfl; have hfp905_0 := blk_frozen BK253.out 0; have hcp905_1 : w905.cell? ⟨gb253, 1, none⟩ = some (.int .i64 ((rd_T51 l0 x9_1).f1)) := (blk_cell BK253.out 1).trans rfl; have hfp905_1 := blk_frozen BK253.out 1; have hcp905_2 : w905.cell? ⟨gb253, 2, none⟩ = some (.bool ((rd_T51 l0 x9_1).f2)) := (blk_cell BK253.out 2).trans rfl; have hfp905_2 := blk_frozen BK253.out 2; have hcp905_3 : w905.cell? ⟨gb253, 3, none⟩ = some (.int .u32 ((rd_T51 l0 x9_1).f3)) := (blk_cell BK253.out 3).trans rfl; have hfp905_3 := blk_frozen BK253.out 3) | ((with_reducible refine gate_store (t := 3) (p := 34) (v := .const (.int .i64 1)) rfl ?_); refine put_event (fun W_ => (World.setCell W_ ⟨gb253, 1, none⟩ (.int .i64 1))) gb253 (.cells #[.int .i64 ((rd_T51 l0 x9_1).f0), .int .i64 1, .bool ((rd_T51 l0 x9_1).f2), .int .u32 ((rd_T51 l0 x9_1).f3)] 51 (0, 0)) rfl ?hrun ?hbb ?hgg ?_; (case hrun => first | (go_simp; done) | (go_simp; rfl)); (case hbb => refine blk_put (cs := #[.int .i64 ((rd_T51 l0 x9_1).f0), .int .i64 ((rd_T51 l0 x9_1).f1), .bool ((rd_T51 l0 x9_1).f2), .int .u32 ((rd_T51 l0 x9_1).f3)]) ?_ 1 _ rfl; exact BK253.out); (case hgg => refine grown_set ?_ _ _; exact grown_refl _ _); intro w906 hbox hg; have n0_ := Aside0.mk (Kd.R_grown HO_8.out hg (fun k hk e => hk.2 (Option.some.inj e))); have n1_ := Aside0.mk (HB.out.grown hg (below_size HB.out) (fun k e => by cases e; exact GW253.out)); have n2_ := Aside0.mk hbox; clear HO_8; clear HB; clear BK253; have HO_8 := n0_; have HB := n1_; have BK253 := n2_; clear n0_ n1_ n2_; clear hg hbox; have hcp906_0 : w906.cell? ⟨gb253, 0, none⟩ = some (.int .i64 ((rd_T51 l0 x9_1).f0)) := (blk_cell BK253.out 0).trans rfl; have hfp906_0 := blk_frozen BK253.out 0; have hcp906_1 : w906.cell? ⟨gb253, 1, none⟩ = some (.int .i64 1) := (blk_cell BK253.out 1).trans rfl; have hfp906_1 := blk_frozen BK253.out 1; have hcp906_2 : w906.cell? ⟨gb253, 2, none⟩ = some (.bool ((rd_T51 l0 x9_1).f2)) := (blk_cell BK253.out 2).trans rfl; have hfp906_2 := blk_frozen BK253.out 2; have hcp906_3 : w906.cell? ⟨gb253, 3, none⟩ = some (.int .u32 ((rd_T51 l0 x9_1).f3)) := (blk_cell BK253.out 3).trans rfl; have hfp906_3 := blk_frozen BK253.out 3) | ((with_reducible refine gate_builtin (b := .append) (xs := #[.tmp 42, .tmp 44]) rfl ?_); at_builtin; refine Kd.R_append k51 (w0 := w) w.heap.size rfl (.tmp 42) (.tmp 44) 22 51 (.agg #[(.int .i64 0), (.int .i64 0), (.bool false), (.int .u32 0)]) 24 rfl Tryd.underlying22 info51 rfl (by decide) (by omega) u8 x8_1 (⟨(rd_T51 l0 x9_1).f0, 1, (rd_T51 l0 x9_1).f2, (rd_T51 l0 x9_1).f3⟩ : S51) [.int .i64 ((rd_T51 l0 x9_1).f0), .int .i64 1, .bool ((rd_T51 l0 x9_1).f2), .int .u32 ((rd_T51 l0 x9_1).f3)] (fun k_ => k_ ≠ gb253) (fun _ => False) rfl (by first | (go_simp; done) | (go_simp; rfl)) ?aP (fun _ hk => hk.elim) ?aF ?aO ?aB ?aS ?aL ?_; (case aP => exact k51_mkM _ _ _ (⟨(rd_T51 l0 x9_1).f0, 1, (rd_T51 l0 x9_1).f2, (rd_T51 l0 x9_1).f3⟩ : S51)); (case aB => exact (by repeat (first | (with_reducible first | exact HB.out | apply below_alloc | apply pw_below_drewN | apply below_drew1 | refine below_set ?_ GE253.out) | exact HB.out))); (case aF => exact (fun k_ hk => Kd.freshB (g := gb253) (o := .cells #[.int .i64 ((rd_T51 l0 x9_1).f0), .int .i64 1, .bool ((rd_T51 l0 x9_1).f2), .int .u32 ((rd_T51 l0 x9_1).f3)] 51 (0, 0)) (by (with_reducible repeat (first | refine blk_drewN ?_ _ | refine blk_drew ?_ | refine blk_alloc ?_ _)); exact BK253.out) k_ hk)); (case aO => exact (by (with_reducible repeat (first | apply Kd.R_alloc | apply Kd.R_drewN | apply Kd.R_drew)); exact Kd.R_mono HO_8.out (fun _ hk => hk.2))); (case aS => exact (below_size (by repeat (first | (with_reducible first | exact HB.out | apply below_alloc | apply pw_below_drewN | apply below_drew1 | refine below_set ?_ GE253.out) | exact HB.out)))); (case aL => have := LMc19.out; omega); intro v258 w22 ho hb hg hat; rw [← Ny257.out] at ho; have n0_ := Aside0.mk (blk_grown (g := gb253) (o := .cells #[.int .i64 ((rd_T51 l0 x9_1).f0), .int .i64 1, .bool ((rd_T51 l0 x9_1).f2), .int .u32 ((rd_T51 l0 x9_1).f3)] 51 (0, 0)) (by (with_reducible repeat (first | refine blk_drewN ?_ _ | refine blk_drew ?_ | refine blk_alloc ?_ _)); exact BK253.out) hg (Kd.R_away HO_8.out (fun _ hk => hk.2))); have n1_ := Aside0.mk (hb); have n2_ := Aside0.mk (ho); clear BK253; clear HB; clear HO_8; have BK253 := n0_; have HB := n1_; have HO259 := n2_; clear n0_ n1_ n2_; clear ho hb hg hat))
           go_roundg k1
           case measure => have := HK1.out; omega
           case rel => (try rw [← Nbq10.out]); exact ⟨(y257), (wrap64 (x9_1 + 1)), (by first | rfl | (simp; done) | (simp [*]; done)), H', ⟨by have := HK1.out; omega⟩, ⟨by (with_reducible repeat (first | apply Kd.R_alloc | apply Kd.R_drewN | apply Kd.R_drew)); exact Kd.R_mono HO259.out (fun _ hk => trivial)⟩, ⟨by repeat (first | (with_reducible first | exact HB.out | apply below_alloc | apply pw_below_drewN | apply below_drew1 | refine below_set ?_ GE253.out) | exact HB.out)⟩⟩
          ·rw [if_neg c19] at H
           exact absurd H (by simp)
        ·rw [if_neg c13] at H
         have c13b0 : (((rd_T51 l0 x9_1).f1) == a1) = false := beq_eq_false_iff_ne.mpr c13
         have c13b1 : (((rd_T51 l0 x9_1).f1) != a1) = true := bne_iff_ne.mpr c13
         by_cases c23 : ((rd_T51 l0 x9_1).f0) = a1
         ·rw [if_pos c23] at H
          have c23b0 : (((rd_T51 l0 x9_1).f0) == a1) = true := beq_iff_eq.mpr c23
          have c23b1 : (((rd_T51 l0 x9_1).f0) != a1) = false := bne_eq_false_iff_eq.mpr c23
          clear c23
          by_cases c24 : x8_1.length < 5864062014805
          ·rw [if_pos c24] at H
           have LMc24 := Aside0.mk c24
           clear c24
           obtain ⟨y260, hy260⟩ : ∃ y_ : List (S51), y_ = (x8_1 ++ [(⟨(rd_T51 l0 x9_1).f0, (rd_T51 l0 x9_1).f1, true, a2⟩ : S51)]) := ⟨_, rfl⟩
           replace H : (halterref24_Exit.l0 k1 l0 a1 a2 y260 (wrap64 (x9_1 + 1))) = some (r1, r2) := by first | (rw [hy260]; with_reducible exact H) | (have H2_ := (Option.bind_some _ _).symm.trans H; rw [hy260]; with_reducible exact H2_) | (have H2_ := (Option.bind_some _ _).symm.trans H; with_reducible exact H2_) | with_reducible exact H | (rw [hy260]; exact H) | exact H
           have Ny260 := Aside0.mk hy260
           clear hy260
           have H' := Aside0.mk H
           clear H
           have p252 : 0 ≤ (x9_1 : Int) := of_decide_eq_true (by first | (with_reducible assumption) | assumption)
           have q252 : x9_1 < (l0.length : Int) := of_decide_eq_true (by first | (with_reducible assumption) | assumption)
           obtain ⟨ad252, e252, hx252_0, hx252_1, hx252_2, hx252_3⟩ := at_T51 HR0.out x9_1 p252 q252
           cases e252
           replace hx252_0 := (HB.out.cell (World.block_lt_of_cell? w _ hx252_0)).trans hx252_0
           replace hx252_1 := (HB.out.cell (World.block_lt_of_cell? w _ hx252_1)).trans hx252_1
           replace hx252_2 := (HB.out.cell (World.block_lt_of_cell? w _ hx252_2)).trans hx252_2
           replace hx252_3 := (HB.out.cell (World.block_lt_of_cell? w _ hx252_3)).trans hx252_3
           replace p252 := eq_true p252
           replace q252 := eq_true q252
           go_wp2_with (first | ((with_reducible refine gate_dst (N := 10) rfl ?_); refine box_event ?hg (N := 10) ?hd (cs := #[.int .i64 0, .int .i64 0, .bool false, .int .u32 0]) (t := 51) ?hr ?_; (case hd => rfl); (case hg => rfl); (case hr => first | (go_simp; done) | (go_simp; rfl)); intro gb253 hg w25 hbox hb; have n0_ := Aside0.mk (Kd.R_below (Kd.R_elderB (by (with_reducible repeat (first | apply Kd.R_alloc | apply Kd.R_drewN | apply Kd.R_drew)); exact HO_8.out) gb253 (Nat.le_of_eq hg.symm)) hb); have n1_ := Aside0.mk (below_step (hbx) hb); have n2_ := Aside0.mk (hbox); have n3_ := Aside0.mk ((by rw [hg]; exact (below_size (hbx)) : w.heap.size ≤ gb253)); have n4_ := Aside0.mk ((by rw [hg]; exact (below_size (hbx)) : w.heap.size ≤ gb253)); clear HO_8; clear HB; have HO_8 := n0_; have HB := n1_; have BK253 := n2_; have GW253 := n3_; have GE253 := n4_; clear n0_ n1_ n2_ n3_ n4_; clear hb hbox hg; have hcz26_0 : w25.cell? ⟨gb253, 0, none⟩ = some (.int .i64 0) := (blk_cell BK253.out 0).trans rfl; have hcz26_1 : w25.cell? ⟨gb253, 1, none⟩ = some (.int .i64 0) := (blk_cell BK253.out 1).trans rfl; have hcz26_2 : w25.cell? ⟨gb253, 2, none⟩ = some (.bool false) := (blk_cell BK253.out 2).trans rfl; have hcz26_3 : w25.cell? ⟨gb253, 3, none⟩ = some (.int .u32 0) := (blk_cell BK253.out 3).trans rfl; have hfz26_0 := blk_frozen BK253.out 0; have hfz26_1 := blk_frozen BK253.out 1; have hfz26_2 := blk_frozen BK253.out 2; have hfz26_3 := blk_frozen BK253.out 3) | ((with_reducible refine gate_store (t := 51) (p := 10) (v := .tmp 29) rfl ?_); refine put_event (fun W_ => (World.setCell (World.setCell (World.setCell (World.setCell W_ ⟨gb253, 0, none⟩ (.int .i64 ((rd_T51 l0 x9_1).f0))) ⟨gb253, 1, none⟩ (.int .i64 ((rd_T51 l0 x9_1).f1))) ⟨gb253, 2, none⟩ (.bool ((rd_T51 l0 x9_1).f2))) ⟨gb253, 3, none⟩ (.int .u32 ((rd_T51 l0 x9_1).f3)))) gb253 (.cells #[.int .i64 ((rd_T51 l0 x9_1).f0), .int .i64 ((rd_T51 l0 x9_1).f1), .bool ((rd_T51 l0 x9_1).f2), .int .u32 ((rd_T51 l0 x9_1).f3)] 51 (0, 0)) rfl ?hrun ?hbb ?hgg ?_; (case hrun => first | (go_simp; done) | (go_simp; rfl)); (case hbb => refine blk_put (cs := #[.int .i64 ((rd_T51 l0 x9_1).f0), .int .i64 ((rd_T51 l0 x9_1).f1), .bool ((rd_T51 l0 x9_1).f2), .int .u32 0]) ?_ 3 _ rfl; refine blk_put (cs := #[.int .i64 ((rd_T51 l0 x9_1).f0), .int .i64 ((rd_T51 l0 x9_1).f1), .bool false, .int .u32 0]) ?_ 2 _ rfl; refine blk_put (cs := #[.int .i64 ((rd_T51 l0 x9_1).f0), .int .i64 0, .bool false, .int .u32 0]) ?_ 1 _ rfl; refine blk_put (cs := #[.int .i64 0, .int .i64 0, .bool false, .int .u32 0]) ?_ 0 _ rfl; exact BK253.out); (case hgg => refine grown_set ?_ _ _; refine grown_set ?_ _ _; refine grown_set ?_ _ _; refine grown_set ?_ _ _; exact grown_refl _ _); intro w907 hbox hg; have n0_ := Aside0.mk (Kd.R_grown HO_8.out hg (fun k hk e => hk.2 (Option.some.inj e))); have n1_ := Aside0.mk (HB.out.grown hg (below_size HB.out) (fun k e => by cases e; exact GW253.out)); have n2_ := Aside0.mk hbox; clear HO_8; clear HB; clear BK253; have HO_8 := n0_; have HB := n1_; have BK253 := n2_; clear n0_ n1_ n2_; clear hg hbox; have hcp907_0 : w907.cell? ⟨gb253, 0, none⟩ = some (.int .i64 ((rd_T51 l0 x9_1).f0)) := (blk_cell BK253.out 0).trans rfl; have hfp907_0 := blk_frozen BK253.out 0; have hcp907_1 : w907.cell? ⟨gb253, 1, none⟩ = some (.int .i64 ((rd_T51 l0 x9_1).f1)) := (blk_cell BK253.out 1).trans rfl; have hfp907_1 := blk_frozen BK253.out 1; have hcp907_2 : w907.cell? ⟨gb253, 2, none⟩ = some (.bool ((rd_T51 l0 x9_1).f2)) := (blk_cell BK253.out 2).trans rfl; have hfp907_2 := blk_frozen BK253.out 2; have hcp907_3 : w907.cell? ⟨gb253, 3, none⟩ = some (.int .u32 ((rd_T51 l0 x9_1).f3)) := (blk_cell BK253.out 3).trans rfl; have hfp907_3 := blk_frozen BK253.out 3) | ((with_reducible refine gate_store (t := 4) (p := 40) (v := .const (.bool true)) rfl ?_); refine put_event (fun W_ => (World.setCell W_ ⟨gb253, 2, none⟩ (.bool true))) gb253 (.cells #[.int .i64 ((rd_T51 l0 x9_1).f0), .int .i64 ((rd_T51 l0 x9_1).f1), .bool true, .int .u32 ((rd_T51 l0 x9_1).f3)] 51 (0, 0)) rfl ?hrun ?hbb ?hgg ?_; (case hrun => first | (go_simp; done) | (go_simp; rfl)); (case hbb => refine blk_put (cs := #[.int .i64 ((rd_T51 l0 x9_1).f0), .int .i64 ((rd_T51 l0 x9_1).f1), .bool ((rd_T51 l0 x9_1).f2), .int .u32 ((rd_T51 l0 x9_1).f3)]) ?_ 2 _ rfl; exact BK253.out); (case hgg => refine grown_set ?_ _ _; exact grown_refl _ _); intro w908 hbox hg; have n0_ := Aside0.mk (Kd.R_grown HO_8.out hg (fun k hk e => hk.2 (Option.some.inj e))); have n1_ := Aside0.mk (HB.out.grown hg (below_size HB.out) (fun k e => by cases e; exact GW253.out)); have n2_ := Aside0.mk hbox; clear HO_8; clear HB; clear BK253; have HO_8 := n0_; have HB := n1_; have BK253 := n2_; clear n0_ n1_ n2_; clear hg hbox; have hcp908_0 : w908.cell? ⟨gb253, 0, none⟩ = some (.int .i64 ((rd_T51 l0 x9_1).f0)) := (blk_cell BK253.out 0).trans rfl; have hfp908_0 := blk_frozen BK253.out 0; have hcp908_1 : w908.cell? ⟨gb253, 1, none⟩ = some (.int .i64 ((rd_T51 l0 x9_1).f1)) := (blk_cell BK253.out 1).trans rfl; have hfp908_1 := blk_frozen BK253.out 1; have hcp908_2 : w908.cell? ⟨gb253, 2, none⟩ = some (.bool true) := (blk_cell BK253.out 2).trans rfl; have hfp908_2 := blk_frozen BK253.out 2; have hcp908_3 : w908.cell? ⟨gb253, 3, none⟩ = some (.int .u32 ((rd_T51 l0 x9_1).f3)) := (blk_cell BK253.out 3).trans rfl; have hfp908_3 := blk_frozen BK253.out 3) | ((with_reducible refine gate_store (t := 24) (p := 41) (v := .tmp 39) rfl ?_); refine put_event (fun W_ => (World.setCell W_ ⟨gb253, 3, none⟩ (.int .u32 a2))) gb253 (.cells #[.int .i64 ((rd_T51 l0 x9_1).f0), .int .i64 ((rd_T51 l0 x9_1).f1), .bool true, .int .u32 a2] 51 (0, 0)) rfl ?hrun ?hbb ?hgg ?_; (case hrun => first | (go_simp; done) | (go_simp; rfl)); (case hbb => refine blk_put (cs := #[.int .i64 ((rd_T51 l0 x9_1).f0), .int .i64 ((rd_T51 l0 x9_1).f1), .bool true, .int .u32 ((rd_T51 l0 x9_1).f3)]) ?_ 3 _ rfl; exact BK253.out); (case hgg => refine grown_set ?_ _ _; exact grown_refl _ _); intro w909 hbox hg; have n0_ := Aside0.mk (Kd.R_grown HO_8.out hg (fun k hk e => hk.2 (Option.some.inj e))); have n1_ := Aside0.mk (HB.out.grown hg (below_size HB.out) (fun k e => by cases e; exact GW253.out)); have n2_ := Aside0.mk hbox; clear HO_8; clear HB; clear BK253; have HO_8 := n0_; have HB := n1_; have BK253 := n2_; clear n0_ n1_ n2_; clear hg hbox; have hcp909_0 : w909.cell? ⟨gb253, 0, none⟩ = some (.int .i64 ((rd_T51 l0 x9_1).f0)) := (blk_cell BK253.out 0).trans rfl; have hfp909_0 := blk_frozen BK253.out 0; have hcp909_1 : w909.cell? ⟨gb253, 1, none⟩ = some (.int .i64 ((rd_T51 l0 x9_1).f1)) := (blk_cell BK253.out 1).trans rfl; have hfp909_1 := blk_frozen BK253.out 1; have hcp909_2 : w909.cell? ⟨gb253, 2, none⟩ = some (.bool true) := (blk_cell BK253.out 2).trans rfl; have hfp909_2 := blk_frozen BK253.out 2; have hcp909_3 : w909.cell? ⟨gb253, 3, none⟩ = some (.int .u32 a2) := (blk_cell BK253.out 3).trans rfl; have hfp909_3 := blk_frozen BK253.out 3) | ((with_reducible refine gate_builtin (b := .append) (xs := #[.tmp 42, .tmp 44]) rfl ?_); at_builtin; refine Kd.R_append k51 (w0 := w) w.heap.size rfl (.tmp 42) (.tmp 44) 22 51 (.agg #[(.int .i64 0), (.int .i64 0), (.bool false), (.int .u32 0)]) 24 rfl Tryd.underlying22 info51 rfl (by decide) (by omega) u8 x8_1 (⟨(rd_T51 l0 x9_1).f0, (rd_T51 l0 x9_1).f1, true, a2⟩ : S51) [.int .i64 ((rd_T51 l0 x9_1).f0), .int .i64 ((rd_T51 l0 x9_1).f1), .bool true, .int .u32 a2] (fun k_ => k_ ≠ gb253) (fun _ => False) rfl (by first | (go_simp; done) | (go_simp; rfl)) ?aP (fun _ hk => hk.elim) ?aF ?aO ?aB ?aS ?aL ?_; (case aP => exact k51_mkM _ _ _ (⟨(rd_T51 l0 x9_1).f0, (rd_T51 l0 x9_1).f1, true, a2⟩ : S51)); (case aB => exact (by repeat (first | (with_reducible first | exact HB.out | apply below_alloc | apply pw_below_drewN | apply below_drew1 | refine below_set ?_ GE253.out) | exact HB.out))); (case aF => exact (fun k_ hk => Kd.freshB (g := gb253) (o := .cells #[.int .i64 ((rd_T51 l0 x9_1).f0), .int .i64 ((rd_T51 l0 x9_1).f1), .bool true, .int .u32 a2] 51 (0, 0)) (by (with_reducible repeat (first | refine blk_drewN ?_ _ | refine blk_drew ?_ | refine blk_alloc ?_ _)); exact BK253.out) k_ hk)); (case aO => exact (by (with_reducible repeat (first | apply Kd.R_alloc | apply Kd.R_drewN | apply Kd.R_drew)); exact Kd.R_mono HO_8.out (fun _ hk => hk.2))); (case aS => exact (below_size (by repeat (first | (with_reducible first | exact HB.out | apply below_alloc | apply pw_below_drewN | apply below_drew1 | refine below_set ?_ GE253.out) | exact HB.out)))); (case aL => have := LMc24.out; omega); intro v261 w27 ho hb hg hat; rw [← Ny260.out] at ho; have n0_ := Aside0.mk (blk_grown (g := gb253) (o := .cells #[.int .i64 ((rd_T51 l0 x9_1).f0), .int .i64 ((rd_T51 l0 x9_1).f1), .bool true, .int .u32 a2] 51 (0, 0)) (by (with_reducible repeat (first | refine blk_drewN ?_ _ | refine blk_drew ?_ | refine blk_alloc ?_ _)); exact BK253.out) hg (Kd.R_away HO_8.out (fun _ hk => hk.2))); have n1_ := Aside0.mk (hb); have n2_ := Aside0.mk (ho); clear BK253; clear HB; clear HO_8; have BK253 := n0_; have HB := n1_; have HO262 := n2_; clear n0_ n1_ n2_; clear ho hb hg hat))
           go_roundg k1
           case measure => have := HK1.out; omega
           case rel => (try rw [← Nbq10.out]); exact ⟨(y260), (wrap64 (x9_1 + 1)), (by first | rfl | (simp; done) | (simp [*]; done)), H', ⟨by have := HK1.out; omega⟩, ⟨by (with_reducible repeat (first | apply Kd.R_alloc | apply Kd.R_drewN | apply Kd.R_drew)); exact Kd.R_mono HO262.out (fun _ hk => trivial)⟩, ⟨by repeat (first | (with_reducible first | exact HB.out | apply below_alloc | apply pw_below_drewN | apply below_drew1 | refine below_set ?_ GE253.out) | exact HB.out)⟩⟩
          ·rw [if_neg c24] at H
           exact absurd H (by simp)
         ·rw [if_neg c23] at H
          have c23b0 : (((rd_T51 l0 x9_1).f0) == a1) = false := beq_eq_false_iff_ne.mpr c23
          have c23b1 : (((rd_T51 l0 x9_1).f0) != a1) = true := bne_iff_ne.mpr c23
          by_cases c28 : x8_1.length < 5864062014805
          ·rw [if_pos c28] at H
           have LMc28 := Aside0.mk c28
           clear c28
           obtain ⟨y263, hy263⟩ : ∃ y_ : List (S51), y_ = (x8_1 ++ [(⟨(rd_T51 l0 x9_1).f0, (rd_T51 l0 x9_1).f1, (rd_T51 l0 x9_1).f2, (rd_T51 l0 x9_1).f3⟩ : S51)]) := ⟨_, rfl⟩
           replace H : (halterref24_Exit.l0 k1 l0 a1 a2 y263 (wrap64 (x9_1 + 1))) = some (r1, r2) := by first | (rw [hy263]; with_reducible exact H) | (have H2_ := (Option.bind_some _ _).symm.trans H; rw [hy263]; with_reducible exact H2_) | (have H2_ := (Option.bind_some _ _).symm.trans H; with_reducible exact H2_) | with_reducible exact H | (rw [hy263]; exact H) | exact H
           have Ny263 := Aside0.mk hy263
           clear hy263
           have H' := Aside0.mk H
           clear H
           have p252 : 0 ≤ (x9_1 : Int) := of_decide_eq_true (by first | (with_reducible assumption) | assumption)
           have q252 : x9_1 < (l0.length : Int) := of_decide_eq_true (by first | (with_reducible assumption) | assumption)
           obtain ⟨ad252, e252, hx252_0, hx252_1, hx252_2, hx252_3⟩ := at_T51 HR0.out x9_1 p252 q252
           cases e252
           replace hx252_0 := (HB.out.cell (World.block_lt_of_cell? w _ hx252_0)).trans hx252_0
           replace hx252_1 := (HB.out.cell (World.block_lt_of_cell? w _ hx252_1)).trans hx252_1
           replace hx252_2 := (HB.out.cell (World.block_lt_of_cell? w _ hx252_2)).trans hx252_2
           replace hx252_3 := (HB.out.cell (World.block_lt_of_cell? w _ hx252_3)).trans hx252_3
           replace p252 := eq_true p252
           replace q252 := eq_true q252
           go_wp2_with (first | ((with_reducible refine gate_dst (N := 10) rfl ?_); refine box_event ?hg (N := 10) ?hd (cs := #[.int .i64 0, .int .i64 0, .bool false, .int .u32 0]) (t := 51) ?hr ?_; (case hd => rfl); (case hg => rfl); (case hr => first | (go_simp; done) | (go_simp; rfl)); intro gb253 hg w29 hbox hb; have n0_ := Aside0.mk (Kd.R_below (Kd.R_elderB (by (with_reducible repeat (first | apply Kd.R_alloc | apply Kd.R_drewN | apply Kd.R_drew)); exact HO_8.out) gb253 (Nat.le_of_eq hg.symm)) hb); have n1_ := Aside0.mk (below_step (hbx) hb); have n2_ := Aside0.mk (hbox); have n3_ := Aside0.mk ((by rw [hg]; exact (below_size (hbx)) : w.heap.size ≤ gb253)); have n4_ := Aside0.mk ((by rw [hg]; exact (below_size (hbx)) : w.heap.size ≤ gb253)); clear HO_8; clear HB; have HO_8 := n0_; have HB := n1_; have BK253 := n2_; have GW253 := n3_; have GE253 := n4_; clear n0_ n1_ n2_ n3_ n4_; clear hb hbox hg; have hcz30_0 : w29.cell? ⟨gb253, 0, none⟩ = some (.int .i64 0) := (blk_cell BK253.out 0).trans rfl; have hcz30_1 : w29.cell? ⟨gb253, 1, none⟩ = some (.int .i64 0) := (blk_cell BK253.out 1).trans rfl; have hcz30_2 : w29.cell? ⟨gb253, 2, none⟩ = some (.bool false) := (blk_cell BK253.out 2).trans rfl; have hcz30_3 : w29.cell? ⟨gb253, 3, none⟩ = some (.int .u32 0) := (blk_cell BK253.out 3).trans rfl; have hfz30_0 := blk_frozen BK253.out 0; have hfz30_1 := blk_frozen BK253.out 1; have hfz30_2 := blk_frozen BK253.out 2; have hfz30_3 := blk_frozen BK253.out 3) | ((with_reducible refine gate_store (t := 51) (p := 10) (v := .tmp 29) rfl ?_); refine put_event (fun W_ => (World.setCell (World.setCell (World.setCell (World.setCell W_ ⟨gb253, 0, none⟩ (.int .i64 ((rd_T51 l0 x9_1).f0))) ⟨gb253, 1, none⟩ (.int .i64 ((rd_T51 l0 x9_1).f1))) ⟨gb253, 2, none⟩ (.bool ((rd_T51 l0 x9_1).f2))) ⟨gb253, 3, none⟩ (.int .u32 ((rd_T51 l0 x9_1).f3)))) gb253 (.cells #[.int .i64 ((rd_T51 l0 x9_1).f0), .int .i64 ((rd_T51 l0 x9_1).f1), .bool ((rd_T51 l0 x9_1).f2), .int .u32 ((rd_T51 l0 x9_1).f3)] 51 (0, 0)) rfl ?hrun ?hbb ?hgg ?_; (case hrun => first | (go_simp; done) | (go_simp; rfl)); (case hbb => refine blk_put (cs := #[.int .i64 ((rd_T51 l0 x9_1).f0), .int .i64 ((rd_T51 l0 x9_1).f1), .bool ((rd_T51 l0 x9_1).f2), .int .u32 0]) ?_ 3 _ rfl; refine blk_put (cs := #[.int .i64 ((rd_T51 l0 x9_1).f0), .int .i64 ((rd_T51 l0 x9_1).f1), .bool false, .int .u32 0]) ?_ 2 _ rfl; refine blk_put (cs := #[.int .i64 ((rd_T51 l0 x9_1).f0), .int .i64 0, .bool false, .int .u32 0]) ?_ 1 _ rfl; refine blk_put (cs := #[.int .i64 0, .int .i64 0, .bool false, .int .u32 0]) ?_ 0 _ rfl; exact BK253.out); (case hgg => refine grown_set ?_ _ _; refine grown_set ?_ _ _; refine grown_set ?_ _ _; refine grown_set ?_ _ _; exact grown_refl _ _); intro w910 hbox hg; have n0_ := Aside0.mk (Kd.R_grown HO_8.out hg (fun k hk e => hk.2 (Option.some.inj e))); have n1_ := Aside0.mk (HB.out.grown hg (below_size HB.out) (fun k e => by cases e; exact GW253.out)); have n2_ := Aside0.mk hbox; clear HO_8; clear HB; clear BK253; have HO_8 := n0_; have HB := n1_; have BK253 := n2_; clear n0_ n1_ n2_; clear hg hbox; have hcp910_0 : w910.cell? ⟨gb253, 0, none⟩ = some (.int .i64 ((rd_T51 l0 x9_1).f0)) := (blk_cell BK253.out 0).trans rfl; have hfp910_0 := blk_frozen BK253.out 0; have hcp910_1 : w910.cell? ⟨gb253, 1, none⟩ = some (.int .i64 ((rd_T51 l0 x9_1).f1)) := (blk_cell BK253.out 1).trans rfl; have hfp910_1 := blk_frozen BK253.out 1; have hcp910_2 : w910.cell? ⟨gb253, 2, none⟩ = some (.bool ((rd_T51 l0 x9_1).f2)) := (blk_cell BK253.out 2).trans rfl; have hfp910_2 := blk_frozen BK253.out 2; have hcp910_3 : w910.cell? ⟨gb253, 3, none⟩ = some (.int .u32 ((rd_T51 l0 x9_1).f3)) := (blk_cell BK253.out 3).trans rfl; have hfp910_3 := blk_frozen BK253.out 3) | ((with_reducible refine gate_builtin (b := .append) (xs := #[.tmp 42, .tmp 44]) rfl ?_); at_builtin; refine Kd.R_append k51 (w0 := w) w.heap.size rfl (.tmp 42) (.tmp 44) 22 51 (.agg #[(.int .i64 0), (.int .i64 0), (.bool false), (.int .u32 0)]) 24 rfl Tryd.underlying22 info51 rfl (by decide) (by omega) u8 x8_1 (⟨(rd_T51 l0 x9_1).f0, (rd_T51 l0 x9_1).f1, (rd_T51 l0 x9_1).f2, (rd_T51 l0 x9_1).f3⟩ : S51) [.int .i64 ((rd_T51 l0 x9_1).f0), .int .i64 ((rd_T51 l0 x9_1).f1), .bool ((rd_T51 l0 x9_1).f2), .int .u32 ((rd_T51 l0 x9_1).f3)] (fun k_ => k_ ≠ gb253) (fun _ => False) rfl (by first | (go_simp; done) | (go_simp; rfl)) ?aP (fun _ hk => hk.elim) ?aF ?aO ?aB ?aS ?aL ?_; (case aP => exact k51_mkM _ _ _ (⟨(rd_T51 l0 x9_1).f0, (rd_T51 l0 x9_1).f1, (rd_T51 l0 x9_1).f2, (rd_T51 l0 x9_1).f3⟩ : S51)); (case aB => exact (by repeat (first | (with_reducible first | exact HB.out | apply below_alloc | apply pw_below_drewN | apply below_drew1 | refine below_set ?_ GE253.out) | exact HB.out))); (case aF => exact (fun k_ hk => Kd.freshB (g := gb253) (o := .cells #[.int .i64 ((rd_T51 l0 x9_1).f0), .int .i64 ((rd_T51 l0 x9_1).f1), .bool ((rd_T51 l0 x9_1).f2), .int .u32 ((rd_T51 l0 x9_1).f3)] 51 (0, 0)) (by (with_reducible repeat (first | refine blk_drewN ?_ _ | refine blk_drew ?_ | refine blk_alloc ?_ _)); exact BK253.out) k_ hk)); (case aO => exact (by (with_reducible repeat (first | apply Kd.R_alloc | apply Kd.R_drewN | apply Kd.R_drew)); exact Kd.R_mono HO_8.out (fun _ hk => hk.2))); (case aS => exact (below_size (by repeat (first | (with_reducible first | exact HB.out | apply below_alloc | apply pw_below_drewN | apply below_drew1 | refine below_set ?_ GE253.out) | exact HB.out)))); (case aL => have := LMc28.out; omega); intro v264 w31 ho hb hg hat; rw [← Ny263.out] at ho; have n0_ := Aside0.mk (blk_grown (g := gb253) (o := .cells #[.int .i64 ((rd_T51 l0 x9_1).f0), .int .i64 ((rd_T51 l0 x9_1).f1), .bool ((rd_T51 l0 x9_1).f2), .int .u32 ((rd_T51 l0 x9_1).f3)] 51 (0, 0)) (by (with_reducible repeat (first | refine blk_drewN ?_ _ | refine blk_drew ?_ | refine blk_alloc ?_ _)); exact BK253.out) hg (Kd.R_away HO_8.out (fun _ hk => hk.2))); have n1_ := Aside0.mk (hb); have n2_ := Aside0.mk (ho); clear BK253; clear HB; clear HO_8; have BK253 := n0_; have HB := n1_; have HO265 := n2_; clear n0_ n1_ n2_; clear ho hb hg hat))
           go_roundg k1
           case measure => have := HK1.out; omega
           case rel => (try rw [← Nbq10.out]); exact ⟨(y263), (wrap64 (x9_1 + 1)), (by first | rfl | (simp; done) | (simp [*]; done)), H', ⟨by have := HK1.out; omega⟩, ⟨by (with_reducible repeat (first | apply Kd.R_alloc | apply Kd.R_drewN | apply Kd.R_drew)); exact Kd.R_mono HO265.out (fun _ hk => trivial)⟩, ⟨by repeat (first | (with_reducible first | exact HB.out | apply below_alloc | apply pw_below_drewN | apply below_drew1 | refine below_set ?_ GE253.out) | exact HB.out)⟩⟩
          ·rw [if_neg c28] at H
           exact absurd H (by simp)
       ·rw [if_neg c12] at H
        exact absurd H (by simp)
      ·rw [if_neg c11] at H
       have c11b0 : decide (x9_1 < (l0.length : Int)) = false := decide_eq_false c11
       clear c11
       simp only [Option.some.injEq, Prod.mk.injEq] at H
       obtain ⟨rfl, rfl⟩ := H
       go_wp2
       go_ret2
       exact ⟨_, by first | rfl | (simp [errW_none, errW_some] <;> rfl) | (simp [*, errW_none, errW_some] <;> rfl), by (with_reducible repeat (first | apply Kd.R_alloc | apply Kd.R_drewN | apply Kd.R_drew)); exact HO_8.out, hbx⟩
  ·replace c7 := Bool.eq_false_iff.mpr c7
   subst c7
   have H1 : (some (([] : List (S51)), 3)) = some (r1, r2) := by rw [if_neg (show ¬ (false = true) by decide)] at H; exact H
   clear H
   have H := H1
   clear H1
   simp only [Option.some.injEq, Prod.mk.injEq] at H
   obtain ⟨rfl, rfl⟩ := H
   go_enter Tryd.func10, Tryd.ntmps10
   go_wp2_with (first | ((with_reducible refine gate_callee (f := 20) rfl ?_); refine goesL_ (some 12) rfl rfl Tryd.func20 (by kernel_rfl) rfl #[.slice A0 l0.length c0] rfl (by (try simp only [List.map_toArray, List.map_cons, List.map_nil]); first | done | rfl | (simp only [List.length_drop, List.length_take]; rfl)) ?_; (with_reducible refine (halterref24_May.calls k _ _ l0 true _ ?side1 ?side2 A4.out).mono ?_); (case side1 => repeat (first | exact HR0.out | (with_reducible refine Kd.C_alloc ?_ _) | (with_reducible refine Kd.C_drewN ?_ _) | (with_reducible refine Kd.C_drew ?_))); (case side2 => exact HC0.out); rintro e w32 ⟨rfl, hb⟩; refine ⟨_, rfl, ?_⟩; have n0_ := Aside0.mk (below_step (hbx) hb); clear HB; have HB := n0_; clear n0_; (try clear hb); (try clear hb2); (try clear hk); (try clear hi)) | ((with_reducible refine gate_callee (f := 28) rfl ?_); refine goesL_ (some 16) rfl rfl Tryd.func28 (by kernel_rfl) rfl #[.slice A0 l0.length c0, .int .i64 a1] rfl (by (try simp only [List.map_toArray, List.map_cons, List.map_nil]); first | done | rfl | (simp only [List.length_drop, List.length_take]; rfl)) ?_; (with_reducible refine (halterref24_Alive.calls k _ _ l0 a1 false _ ?side1 ?side2 A6.out).mono ?_); (case side1 => repeat (first | exact (Kd.C_below HR0.out HB.out) | (with_reducible refine Kd.C_alloc ?_ _) | (with_reducible refine Kd.C_drewN ?_ _) | (with_reducible refine Kd.C_drew ?_))); (case side2 => exact HC0.out); rintro e w' ⟨rfl, ⟨nd, rfl⟩⟩; refine ⟨_, rfl, ?_⟩))
   go_ret2
   exact ⟨_, by first | rfl | (simp [errW_none, errW_some] <;> rfl) | (simp [*, errW_none, errW_some] <;> rfl), by first | exact Kd.R_nil _ _ _ _ _ | exact Kd.N_nil _ _ _ _ _ | exact Kd.V_nil _ _ _ _ _ | exact Kd.Q_nil _ _ _ _ _ | exact Kd.S_nil _ _ _ _ _, hbx⟩
 ·replace c5 := Bool.eq_false_iff.mpr c5
  subst c5
  have H1 : (some (([] : List (S51)), 22)) = some (r1, r2) := by rw [if_neg (show ¬ (false = true) by decide)] at H; exact H
  clear H
  have H := H1
  clear H1
  simp only [Option.some.injEq, Prod.mk.injEq] at H
  obtain ⟨rfl, rfl⟩ := H
  go_enter Tryd.func10, Tryd.ntmps10
  go_wp2_with (first | ((with_reducible refine gate_callee (f := 20) rfl ?_); refine goesL_ (some 12) rfl rfl Tryd.func20 (by kernel_rfl) rfl #[.slice A0 l0.length c0] rfl (by (try simp only [List.map_toArray, List.map_cons, List.map_nil]); first | done | rfl | (simp only [List.length_drop, List.length_take]; rfl)) ?_; (with_reducible refine (halterref24_May.calls k _ _ l0 false _ ?side1 ?side2 A4.out).mono ?_); (case side1 => repeat (first | exact HR0.out | (with_reducible refine Kd.C_alloc ?_ _) | (with_reducible refine Kd.C_drewN ?_ _) | (with_reducible refine Kd.C_drew ?_))); (case side2 => exact HC0.out); rintro e w33 ⟨rfl, hb⟩; refine ⟨_, rfl, ?_⟩; have n0_ := Aside0.mk (below_step (hbx) hb); clear HB; have HB := n0_; clear n0_; (try clear hb); (try clear hb2); (try clear hk); (try clear hi)))
  go_ret2
  exact ⟨_, by first | rfl | (simp [errW_none, errW_some] <;> rfl) | (simp [*, errW_none, errW_some] <;> rfl), by first | exact Kd.R_nil _ _ _ _ _ | exact Kd.N_nil _ _ _ _ _ | exact Kd.V_nil _ _ _ _ _ | exact Kd.Q_nil _ _ _ _ _ | exact Kd.S_nil _ _ _ _ _, hbx⟩

/-! ### halterref24_Reap: function 12 -/
def halterref24_Reap.f (k : Nat) (l0 : List (S51)) (a1 : Int) : Option ((List (S51)) × Int) := (halterref24_May.f k l0).bind fun t266 => (if t266 = true then ((halterref24_At.f k l0 a1).bind fun t267 => (if t267 < 0 then (some (([] : List (S51)), 3)) else (if 0 ≤ t267 then (if t267 < (l0.length : Int) then (if ((rd_T51 l0 t267).f2 = true) then (if t267 ≤ (l0.length : Int) then ((some (l0.take (t267 : Int).toNat : List (S51))).bind fun y269 => (if ([] : List (S51)).length + y269.length < 5864062014805 then ((some (([] : List (S51)) ++ y269 : List (S51))).bind fun y273 => (if 0 ≤ (wrap64 (t267 + 1)) then (if (wrap64 (t267 + 1)) ≤ (l0.length : Int) then ((some (l0.drop ((wrap64 (t267 + 1)) : Int).toNat : List (S51))).bind fun y276 => (if y273.length + y276.length < 5864062014805 then (some ((y273 ++ y276), 0)) else (none))) else (none)) else (none))) else (none))) else (none)) else (some (([] : List (S51)), 22))) else (none)) else (none)))) else (some (([] : List (S51)), 22)))
theorem halterref24_Reap.mono : ∀ a0 a1 k, LeO (halterref24_Reap.f k a0 a1) (halterref24_Reap.f (k + 1) a0 a1) := by
 intro a0 a1 k
 unfold halterref24_Reap.f
 repeat' first
   | (with_reducible exact halterref24_At.mono _ _ _)
   | (with_reducible exact halterref24_May.mono _ _)
   | (with_reducible exact LeO.refl _)
   | (with_reducible exact LeO.none _)
   | (with_reducible refine LeO.ite ?_ ?_)
   | (with_reducible refine LeO.bind ?_ (fun _ => ?_))
   | exact halterref24_At.mono _ _ _
   | exact halterref24_May.mono _ _
   | exact LeO.none _
   | refine LeO.ite ?_ ?_
   | refine LeO.bind ?_ (fun _ => ?_)
set_option maxHeartbeats 8000000 in
set_option maxRecDepth 100000 in
theorem halterref24_Reap.calls (k : Nat) (A0 : Option Addr) (c0 : Nat) (l0 : List (S51)) (a1 : Int) (r1 : List (S51)) (r2 : Int) (w : World) (hr0 : Kd.C k51 w A0 l0.length l0) (hc0 : l0.length ≤ c0) (h : halterref24_Reap.f k l0 a1 = some (r1, r2)) :
  Calls Tryd.prog 12 #[.slice A0 l0.length c0, .int .i64 a1] w fun e w' => ∃ v0_ : Value, e = .returned (.tuple #[v0_, .int .i64 r2]) ∧ Kd.R k51 51 w' w.heap.size (fun _ => True) v0_ r1 ∧ Below w.heap.size w w' := by
 have HR0 := Aside0.mk hr0
 have HC0 := Aside0.mk hc0
 clear hr0 hc0
 have HB := Aside0.mk (Below.refl w.heap.size w)
 have H : ((halterref24_May.f k l0).bind fun t266 => (if t266 = true then ((halterref24_At.f k l0 a1).bind fun t267 => (if t267 < 0 then (some (([] : List (S51)), 3)) else (if 0 ≤ t267 then (if t267 < (l0.length : Int) then (if ((rd_T51 l0 t267).f2 = true) then (if t267 ≤ (l0.length : Int) then ((some (l0.take (t267 : Int).toNat : List (S51))).bind fun y269 => (if ([] : List (S51)).length + y269.length < 5864062014805 then ((some (([] : List (S51)) ++ y269 : List (S51))).bind fun y273 => (if 0 ≤ (wrap64 (t267 + 1)) then (if (wrap64 (t267 + 1)) ≤ (l0.length : Int) then ((some (l0.drop ((wrap64 (t267 + 1)) : Int).toNat : List (S51))).bind fun y276 => (if y273.length + y276.length < 5864062014805 then (some ((y273 ++ y276), 0)) else (none))) else (none)) else (none))) else (none))) else (none)) else (some (([] : List (S51)), 22))) else (none)) else (none)))) else (some (([] : List (S51)), 22)))) = some (r1, r2) := h
 clear h
 replace H := Option.bind_eq_some_iff.mp H
 obtain ⟨t266, A30, H⟩ := H
 replace H : (if t266 = true then ((halterref24_At.f k l0 a1).bind fun t267 => (if t267 < 0 then (some (([] : List (S51)), 3)) else (if 0 ≤ t267 then (if t267 < (l0.length : Int) then (if ((rd_T51 l0 t267).f2 = true) then (if t267 ≤ (l0.length : Int) then ((some (l0.take (t267 : Int).toNat : List (S51))).bind fun y269 => (if ([] : List (S51)).length + y269.length < 5864062014805 then ((some (([] : List (S51)) ++ y269 : List (S51))).bind fun y273 => (if 0 ≤ (wrap64 (t267 + 1)) then (if (wrap64 (t267 + 1)) ≤ (l0.length : Int) then ((some (l0.drop ((wrap64 (t267 + 1)) : Int).toNat : List (S51))).bind fun y276 => (if y273.length + y276.length < 5864062014805 then (some ((y273 ++ y276), 0)) else (none))) else (none)) else (none))) else (none))) else (none)) else (some (([] : List (S51)), 22))) else (none)) else (none)))) else (some (([] : List (S51)), 22))) = some (r1, r2) := H
 have A3 := Aside0.mk A30
 clear A30
 by_cases c4 : t266 = true
 ·subst c4
  have H1 : ((halterref24_At.f k l0 a1).bind fun t267 => (if t267 < 0 then (some (([] : List (S51)), 3)) else (if 0 ≤ t267 then (if t267 < (l0.length : Int) then (if ((rd_T51 l0 t267).f2 = true) then (if t267 ≤ (l0.length : Int) then ((some (l0.take (t267 : Int).toNat : List (S51))).bind fun y269 => (if ([] : List (S51)).length + y269.length < 5864062014805 then ((some (([] : List (S51)) ++ y269 : List (S51))).bind fun y273 => (if 0 ≤ (wrap64 (t267 + 1)) then (if (wrap64 (t267 + 1)) ≤ (l0.length : Int) then ((some (l0.drop ((wrap64 (t267 + 1)) : Int).toNat : List (S51))).bind fun y276 => (if y273.length + y276.length < 5864062014805 then (some ((y273 ++ y276), 0)) else (none))) else (none)) else (none))) else (none))) else (none)) else (some (([] : List (S51)), 22))) else (none)) else (none)))) = some (r1, r2) := by rw [if_pos rfl] at H; exact H
  clear H
  have H := H1
  clear H1
  replace H := Option.bind_eq_some_iff.mp H
  obtain ⟨t267, A50, H⟩ := H
  replace H : (if t267 < 0 then (some (([] : List (S51)), 3)) else (if 0 ≤ t267 then (if t267 < (l0.length : Int) then (if ((rd_T51 l0 t267).f2 = true) then (if t267 ≤ (l0.length : Int) then ((some (l0.take (t267 : Int).toNat : List (S51))).bind fun y269 => (if ([] : List (S51)).length + y269.length < 5864062014805 then ((some (([] : List (S51)) ++ y269 : List (S51))).bind fun y273 => (if 0 ≤ (wrap64 (t267 + 1)) then (if (wrap64 (t267 + 1)) ≤ (l0.length : Int) then ((some (l0.drop ((wrap64 (t267 + 1)) : Int).toNat : List (S51))).bind fun y276 => (if y273.length + y276.length < 5864062014805 then (some ((y273 ++ y276), 0)) else (none))) else (none)) else (none))) else (none))) else (none)) else (some (([] : List (S51)), 22))) else (none)) else (none))) = some (r1, r2) := H
  have A5 := Aside0.mk A50
  clear A50
  by_cases c6 : t267 < 0
  ·rw [if_pos c6] at H
   have c6b0 : decide (t267 < 0) = true := decide_eq_true c6
   clear c6
   simp only [Option.some.injEq, Prod.mk.injEq] at H
   obtain ⟨rfl, rfl⟩ := H
   go_enter Tryd.func12, Tryd.ntmps12
   go_wp2_with (first | ((with_reducible refine gate_callee (f := 20) rfl ?_); refine goesL_ (some 9) rfl rfl Tryd.func20 (by kernel_rfl) rfl #[.slice A0 l0.length c0] rfl (by (try simp only [List.map_toArray, List.map_cons, List.map_nil]); first | done | rfl | (simp only [List.length_drop, List.length_take]; rfl)) ?_; (with_reducible refine (halterref24_May.calls k _ _ l0 true _ ?side1 ?side2 A3.out).mono ?_); (case side1 => repeat (first | exact HR0.out | (with_reducible refine Kd.C_alloc ?_ _) | (with_reducible refine Kd.C_drewN ?_ _) | (with_reducible refine Kd.C_drew ?_))); (case side2 => exact HC0.out); rintro e w7 ⟨rfl, hb⟩; refine ⟨_, rfl, ?_⟩; have n0_ := Aside0.mk (below_step (hbx) hb); clear HB; have HB := n0_; clear n0_; (try clear hb); (try clear hb2); (try clear hk); (try clear hi)) | ((with_reducible refine gate_callee (f := 21) rfl ?_); refine goesL_ (some 13) rfl rfl Tryd.func21 (by kernel_rfl) rfl #[.slice A0 l0.length c0, .int .i64 a1] rfl (by (try simp only [List.map_toArray, List.map_cons, List.map_nil]); first | done | rfl | (simp only [List.length_drop, List.length_take]; rfl)) ?_; (with_reducible refine (halterref24_At.calls k _ _ l0 a1 t267 _ ?side1 ?side2 A5.out).mono ?_); (case side1 => repeat (first | exact (Kd.C_below HR0.out HB.out) | (with_reducible refine Kd.C_alloc ?_ _) | (with_reducible refine Kd.C_drewN ?_ _) | (with_reducible refine Kd.C_drew ?_))); (case side2 => exact HC0.out); rintro e w' ⟨rfl, ⟨nd, rfl⟩⟩; refine ⟨_, rfl, ?_⟩))
   go_ret2
   exact ⟨_, by first | rfl | (simp [errW_none, errW_some] <;> rfl) | (simp [*, errW_none, errW_some] <;> rfl), by first | exact Kd.R_nil _ _ _ _ _ | exact Kd.N_nil _ _ _ _ _ | exact Kd.V_nil _ _ _ _ _ | exact Kd.Q_nil _ _ _ _ _ | exact Kd.S_nil _ _ _ _ _, hbx⟩
  ·rw [if_neg c6] at H
   have c6b0 : decide (t267 < 0) = false := decide_eq_false c6
   clear c6
   by_cases c8 : 0 ≤ t267
   ·rw [if_pos c8] at H
    have c8b0 : decide (0 ≤ t267) = true := decide_eq_true c8
    clear c8
    by_cases c9 : t267 < (l0.length : Int)
    ·rw [if_pos c9] at H
     have c9b0 : decide (t267 < (l0.length : Int)) = true := decide_eq_true c9
     clear c9
     obtain ⟨bq10, hbq10⟩ : ∃ b_ : Bool, b_ = ((rd_T51 l0 t267).f2) := ⟨_, rfl⟩
     replace H : (if (bq10 = true) then (if t267 ≤ (l0.length : Int) then ((some (l0.take (t267 : Int).toNat : List (S51))).bind fun y269 => (if ([] : List (S51)).length + y269.length < 5864062014805 then ((some (([] : List (S51)) ++ y269 : List (S51))).bind fun y273 => (if 0 ≤ (wrap64 (t267 + 1)) then (if (wrap64 (t267 + 1)) ≤ (l0.length : Int) then ((some (l0.drop ((wrap64 (t267 + 1)) : Int).toNat : List (S51))).bind fun y276 => (if y273.length + y276.length < 5864062014805 then (some ((y273 ++ y276), 0)) else (none))) else (none)) else (none))) else (none))) else (none)) else (some (([] : List (S51)), 22))) = some (r1, r2) := by rw [← hbq10] at H; exact H
     (try rw [← hbq10])
     have Nbq10 := Aside0.mk hbq10
     clear hbq10
     by_cases c11 : (bq10 = true)
     ·subst c11
      have H1 : (if t267 ≤ (l0.length : Int) then ((some (l0.take (t267 : Int).toNat : List (S51))).bind fun y269 => (if ([] : List (S51)).length + y269.length < 5864062014805 then ((some (([] : List (S51)) ++ y269 : List (S51))).bind fun y273 => (if 0 ≤ (wrap64 (t267 + 1)) then (if (wrap64 (t267 + 1)) ≤ (l0.length : Int) then ((some (l0.drop ((wrap64 (t267 + 1)) : Int).toNat : List (S51))).bind fun y276 => (if y273.length + y276.length < 5864062014805 then (some ((y273 ++ y276), 0)) else (none))) else (none)) else (none))) else (none))) else (none)) = some (r1, r2) := by rw [if_pos rfl] at H; exact H
      clear H
      have H := H1
      clear H1
      have c12b0 := eq_true (of_decide_eq_true (by first | (with_reducible assumption) | assumption) : 0 ≤ t267)
      by_cases c13 : t267 ≤ (l0.length : Int)
      ·rw [if_pos c13] at H
       have c13b0 := eq_true c13
       have c13b1 : decide (t267 ≤ (l0.length : Int)) = true := decide_eq_true c13
       clear c13
       obtain ⟨y269, hy269⟩ : ∃ y_ : List (S51), y_ = (l0.take (t267 : Int).toNat) := ⟨_, rfl⟩
       replace H : (if ([] : List (S51)).length + y269.length < 5864062014805 then ((some (([] : List (S51)) ++ y269 : List (S51))).bind fun y273 => (if 0 ≤ (wrap64 (t267 + 1)) then (if (wrap64 (t267 + 1)) ≤ (l0.length : Int) then ((some (l0.drop ((wrap64 (t267 + 1)) : Int).toNat : List (S51))).bind fun y276 => (if y273.length + y276.length < 5864062014805 then (some ((y273 ++ y276), 0)) else (none))) else (none)) else (none))) else (none)) = some (r1, r2) := by first | (rw [hy269]; with_reducible exact H) | (have H2_ := (Option.bind_some _ _).symm.trans H; rw [hy269]; with_reducible exact H2_) | (have H2_ := (Option.bind_some _ _).symm.trans H; with_reducible exact H2_) | with_reducible exact H | (rw [hy269]; exact H) | exact H
       have Ny269 := Aside0.mk hy269
       clear hy269
       by_cases c14 : ([] : List (S51)).length + y269.length < 5864062014805
       ·rw [if_pos c14] at H
        have LMc14 := Aside0.mk c14
        clear c14
        obtain ⟨y273, hy273⟩ : ∃ y_ : List (S51), y_ = (([] : List (S51)) ++ y269) := ⟨_, rfl⟩
        replace H : (if 0 ≤ (wrap64 (t267 + 1)) then (if (wrap64 (t267 + 1)) ≤ (l0.length : Int) then ((some (l0.drop ((wrap64 (t267 + 1)) : Int).toNat : List (S51))).bind fun y276 => (if y273.length + y276.length < 5864062014805 then (some ((y273 ++ y276), 0)) else (none))) else (none)) else (none)) = some (r1, r2) := by first | (rw [hy273]; with_reducible exact H) | (have H2_ := (Option.bind_some _ _).symm.trans H; rw [hy273]; with_reducible exact H2_) | (have H2_ := (Option.bind_some _ _).symm.trans H; with_reducible exact H2_) | with_reducible exact H | (rw [hy273]; exact H) | exact H
        have Ny273 := Aside0.mk hy273
        clear hy273
        obtain ⟨ji15, hji15⟩ : ∃ j_ : Int, (wrap64 (t267 + 1)) = j_ := ⟨_, rfl⟩
        replace H : (if 0 ≤ (ji15) then (if (ji15) ≤ (l0.length : Int) then ((some (l0.drop ((ji15) : Int).toNat : List (S51))).bind fun y276 => (if y273.length + y276.length < 5864062014805 then (some ((y273 ++ y276), 0)) else (none))) else (none)) else (none)) = some (r1, r2) := by first | (rw [hji15] at H; exact H) | (simp only [hji15] at H ⊢; exact H)
        (try rw [hji15] at A3)
        (try rw [hji15] at A5)
        have hji15w : (IntKind.i64.wrap (t267 + 1)) = ji15 := (i64_w _).trans hji15
        by_cases c16 : 0 ≤ (ji15)
        ·rw [if_pos c16] at H
         have c16b0 := eq_true c16
         have c16b1 : decide (0 ≤ (ji15)) = true := decide_eq_true c16
         clear c16
         by_cases c17 : (ji15) ≤ (l0.length : Int)
         ·rw [if_pos c17] at H
          have c17b0 := eq_true c17
          have c17b1 : decide ((ji15) ≤ (l0.length : Int)) = true := decide_eq_true c17
          clear c17
          obtain ⟨y276, hy276⟩ : ∃ y_ : List (S51), y_ = (l0.drop ((ji15) : Int).toNat) := ⟨_, rfl⟩
          replace H : (if y273.length + y276.length < 5864062014805 then (some ((y273 ++ y276), 0)) else (none)) = some (r1, r2) := by first | (rw [hy276]; with_reducible exact H) | (have H2_ := (Option.bind_some _ _).symm.trans H; rw [hy276]; with_reducible exact H2_) | (have H2_ := (Option.bind_some _ _).symm.trans H; with_reducible exact H2_) | with_reducible exact H | (rw [hy276]; exact H) | exact H
          have Ny276 := Aside0.mk hy276
          clear hy276
          by_cases c18 : y273.length + y276.length < 5864062014805
          ·rw [if_pos c18] at H
           have LMc18 := Aside0.mk c18
           clear c18
           obtain ⟨y280, hy280⟩ : ∃ y_ : List (S51), y_ = (y273 ++ y276) := ⟨_, rfl⟩
           replace H : (some (y280, 0)) = some (r1, r2) := by first | (rw [hy280]; with_reducible exact H) | (have H2_ := (Option.bind_some _ _).symm.trans H; rw [hy280]; with_reducible exact H2_) | (have H2_ := (Option.bind_some _ _).symm.trans H; with_reducible exact H2_) | with_reducible exact H | (rw [hy280]; exact H) | exact H
           have Ny280 := Aside0.mk hy280
           clear hy280
           simp only [Option.some.injEq, Prod.mk.injEq] at H
           obtain ⟨rfl, rfl⟩ := H
           go_enter Tryd.func12, Tryd.ntmps12
           go_wp2_with (first | ((with_reducible refine gate_callee (f := 20) rfl ?_); refine goesL_ (some 9) rfl rfl Tryd.func20 (by kernel_rfl) rfl #[.slice A0 l0.length c0] rfl (by (try simp only [List.map_toArray, List.map_cons, List.map_nil]); first | done | rfl | (simp only [List.length_drop, List.length_take]; rfl)) ?_; (with_reducible refine (halterref24_May.calls k _ _ l0 true _ ?side1 ?side2 A3.out).mono ?_); (case side1 => repeat (first | exact HR0.out | (with_reducible refine Kd.C_alloc ?_ _) | (with_reducible refine Kd.C_drewN ?_ _) | (with_reducible refine Kd.C_drew ?_))); (case side2 => exact HC0.out); rintro e w19 ⟨rfl, hb⟩; refine ⟨_, rfl, ?_⟩; have n0_ := Aside0.mk (below_step (hbx) hb); clear HB; have HB := n0_; clear n0_; (try clear hb); (try clear hb2); (try clear hk); (try clear hi)) | ((with_reducible refine gate_callee (f := 21) rfl ?_); refine goesL_ (some 13) rfl rfl Tryd.func21 (by kernel_rfl) rfl #[.slice A0 l0.length c0, .int .i64 a1] rfl (by (try simp only [List.map_toArray, List.map_cons, List.map_nil]); first | done | rfl | (simp only [List.length_drop, List.length_take]; rfl)) ?_; (with_reducible refine (halterref24_At.calls k _ _ l0 a1 t267 _ ?side1 ?side2 A5.out).mono ?_); (case side1 => repeat (first | exact (Kd.C_below HR0.out HB.out) | (with_reducible refine Kd.C_alloc ?_ _) | (with_reducible refine Kd.C_drewN ?_ _) | (with_reducible refine Kd.C_drew ?_))); (case side2 => exact HC0.out); rintro e w' ⟨rfl, ⟨nd, rfl⟩⟩; refine ⟨_, rfl, ?_⟩; have p268 : 0 ≤ (t267 : Int) := of_decide_eq_true (by first | (with_reducible assumption) | assumption); have q268 : t267 < (l0.length : Int) := of_decide_eq_true (by first | (with_reducible assumption) | assumption); obtain ⟨ad268, e268, hx268_0, hx268_1, hx268_2, hx268_3⟩ := at_T51 HR0.out t267 p268 q268; (try rw [← Nbq10.out] at hx268_2); cases e268; replace hx268_0 := (HB.out.cell (World.block_lt_of_cell? w _ hx268_0)).trans hx268_0; replace hx268_1 := (HB.out.cell (World.block_lt_of_cell? w _ hx268_1)).trans hx268_1; replace hx268_2 := (HB.out.cell (World.block_lt_of_cell? w _ hx268_2)).trans hx268_2; replace hx268_3 := (HB.out.cell (World.block_lt_of_cell? w _ hx268_3)).trans hx268_3; replace p268 := eq_true p268; replace q268 := eq_true q268; have q20 : (t267 : Int) ≤ ((l0.length : Int) : Int) := of_decide_eq_true (by first | (with_reducible assumption) | assumption); obtain ⟨i020, hi020, _, hsz20, _⟩ := info_parts info51; have hroom20 : l0.length ≤ c0 := HC0.out; have hC20 : Kd.C k51 _ (some ad268) l0.length l0 := HR0.out; have hcut20 := cut_to (P := Tryd.prog) 22 51 .i64 Tryd.underlying22 hi020 (some ad268) l0.length c0 t267 (of_decide_eq_true (by first | (with_reducible assumption) | assumption)) q20 hroom20; have hr20 := Kd.C_take (m := (t267 : Int).toNat) hC20 (by omega); have hy20 : y269.length = (t267 : Int).toNat := (by rw [Ny269.out, List.length_take]; omega); rw [← Ny269.out] at hr20; rw [← hy20] at hcut20; have HR272 := Aside0.mk hr20; have HC272 := Aside0.mk (show y269.length ≤ c0 from by omega); clear hr20 hC20 hroom20 hi020 hsz20; have KY20 := Aside0.mk hy20; clear hy20; replace q20 := eq_true q20) | ((with_reducible refine gate_builtin (b := .append) (xs := #[.tmp 22, .tmp 25]) rfl ?_); at_builtin; refine Kd.R_append_rows k51 (w0 := w) w.heap.size rfl (.tmp 22) (.tmp 25) 22 51 (.agg #[(.int .i64 0), (.int .i64 0), (.bool false), (.int .u32 0)]) 24 rfl Tryd.underlying22 info51 rfl (by decide) (by omega) (.slice none 0 0) ([] : List (S51)) y269 _ _ _ (fun _ => True) (fun _ => False) rfl rfl ?aO ?aR (fun _ _ h => h) (fun _ h => h.elim) ?aF ?aB ?aS ?aL ?_; (case aR => repeat (first | exact (Kd.C_below HR272.out (hbx)) | (with_reducible refine Kd.C_alloc ?_ _) | (with_reducible refine Kd.C_drewN ?_ _) | (with_reducible refine Kd.C_drew ?_))); (case aB => exact (hbx)); (case aF => exact (fun _ _ => trivial)); (case aO => exact ((Kd.R_nil _ _ _ _ (fun _ => True)))); (case aS => exact (below_size (hbx))); (case aL => have := LMc14.out; omega); intro v274 w21 ho hb hg hat; rw [← Ny273.out] at ho; have n0_ := Aside0.mk (hb); have n1_ := Aside0.mk (ho); clear HB; have HB := n0_; have HO275 := n1_; clear n0_ n1_; clear ho hb hg hat; have q22 : ((ji15) : Int) ≤ ((l0.length : Int) : Int) := of_decide_eq_true (by first | (with_reducible assumption) | assumption); obtain ⟨i022, hi022, _, hsz22, _⟩ := info_parts info51; have hroom22 : l0.length ≤ c0 := HC0.out; have hC22 : Kd.C k51 _ (some ad268) l0.length l0 := HR0.out; have q022 : (0 : Int) ≤ ((ji15) : Int) := of_decide_eq_true (by first | (with_reducible assumption) | assumption); have hcut22 := cut_from (P := Tryd.prog) 22 51 .i64 Tryd.underlying22 hi022 4 hsz22 (some ad268) l0.length c0 (ji15) q022 q22; have hr22 := Kd.C_drop (m := ((ji15) : Int).toNat) (c := c0) hC22 (by omega) hroom22; obtain ⟨A22, hA22⟩ : ∃ A1, A1 = (if c0 = ((ji15) : Int).toNat then (some ad268) else ((some ad268) : Option Addr).map (·.add (((ji15) : Int).toNat * 4))) := ⟨_, rfl⟩; obtain ⟨c22, hc22⟩ : ∃ c1, c1 = c0 - ((ji15) : Int).toNat := ⟨_, rfl⟩; have hy22 : y276.length = l0.length - ((ji15) : Int).toNat := (by rw [Ny276.out, List.length_drop] <;> omega); rw [show (l0).drop ((ji15) : Int).toNat = y276 from Ny276.out.symm] at hr22; replace hr22 : Kd.C k51 _ A22 y276.length y276 := (by rw [hA22]; exact hr22); rw [← hy22, ← hA22, ← hc22] at hcut22; have HR279 := Aside0.mk hr22; have HC279 := Aside0.mk (show y276.length ≤ c22 from by rw [hy22, hc22]; exact Nat.sub_le_sub_right hroom22 _); clear hr22 hC22 hroom22 hi022 hsz22 hc22; have KY22 := Aside0.mk hy22; have KA22 := Aside0.mk hA22; clear hy22 hA22; replace q22 := eq_true q22) | ((with_reducible refine gate_builtin (b := .append) (xs := #[.tmp 27, .tmp 31]) rfl ?_); at_builtin; refine Kd.R_append_rows k51 (w0 := w) w.heap.size rfl (.tmp 27) (.tmp 31) 22 51 (.agg #[(.int .i64 0), (.int .i64 0), (.bool false), (.int .u32 0)]) 24 rfl Tryd.underlying22 info51 rfl (by decide) (by omega) v274 y273 y276 _ _ _ (fun _ => True) (fun _ => False) rfl rfl ?aO ?aR (fun _ _ h => h) (fun _ h => h.elim) ?aF ?aB ?aS ?aL ?_; (case aR => repeat (first | exact (Kd.C_below HR279.out HB.out) | (with_reducible refine Kd.C_alloc ?_ _) | (with_reducible refine Kd.C_drewN ?_ _) | (with_reducible refine Kd.C_drew ?_))); (case aB => exact (hbx)); (case aF => exact (fun _ _ => trivial)); (case aO => exact (by (with_reducible repeat (first | apply Kd.R_alloc | apply Kd.R_drewN | apply Kd.R_drew)); exact HO275.out)); (case aS => exact (below_size (hbx))); (case aL => have := LMc18.out; omega); intro v281 w23 ho hb hg hat; rw [← Ny280.out] at ho; have n0_ := Aside0.mk (hb); have n1_ := Aside0.mk (ho); clear HB; clear HO275; have HB := n0_; have HO282 := n1_; clear n0_ n1_; clear ho hb hg hat))
           go_ret2
           exact ⟨_, by first | rfl | (simp [errW_none, errW_some] <;> rfl) | (simp only [← hji15]; first | rfl | (simp [errW_none, errW_some] <;> rfl)) | (simp [*, errW_none, errW_some] <;> rfl), by (with_reducible repeat (first | apply Kd.R_alloc | apply Kd.R_drewN | apply Kd.R_drew)); exact HO282.out, hbx⟩
          ·rw [if_neg c18] at H
           exact absurd H (by simp)
         ·rw [if_neg c17] at H
          exact absurd H (by simp)
        ·rw [if_neg c16] at H
         exact absurd H (by simp)
       ·rw [if_neg c14] at H
        exact absurd H (by simp)
      ·rw [if_neg c13] at H
       exact absurd H (by simp)
     ·replace c11 := Bool.eq_false_iff.mpr c11
      subst c11
      have H1 : (some (([] : List (S51)), 22)) = some (r1, r2) := by rw [if_neg (show ¬ (false = true) by decide)] at H; exact H
      clear H
      have H := H1
      clear H1
      simp only [Option.some.injEq, Prod.mk.injEq] at H
      obtain ⟨rfl, rfl⟩ := H
      go_enter Tryd.func12, Tryd.ntmps12
      go_wp2_with (first | ((with_reducible refine gate_callee (f := 20) rfl ?_); refine goesL_ (some 9) rfl rfl Tryd.func20 (by kernel_rfl) rfl #[.slice A0 l0.length c0] rfl (by (try simp only [List.map_toArray, List.map_cons, List.map_nil]); first | done | rfl | (simp only [List.length_drop, List.length_take]; rfl)) ?_; (with_reducible refine (halterref24_May.calls k _ _ l0 true _ ?side1 ?side2 A3.out).mono ?_); (case side1 => repeat (first | exact HR0.out | (with_reducible refine Kd.C_alloc ?_ _) | (with_reducible refine Kd.C_drewN ?_ _) | (with_reducible refine Kd.C_drew ?_))); (case side2 => exact HC0.out); rintro e w24 ⟨rfl, hb⟩; refine ⟨_, rfl, ?_⟩; have n0_ := Aside0.mk (below_step (hbx) hb); clear HB; have HB := n0_; clear n0_; (try clear hb); (try clear hb2); (try clear hk); (try clear hi)) | ((with_reducible refine gate_callee (f := 21) rfl ?_); refine goesL_ (some 13) rfl rfl Tryd.func21 (by kernel_rfl) rfl #[.slice A0 l0.length c0, .int .i64 a1] rfl (by (try simp only [List.map_toArray, List.map_cons, List.map_nil]); first | done | rfl | (simp only [List.length_drop, List.length_take]; rfl)) ?_; (with_reducible refine (halterref24_At.calls k _ _ l0 a1 t267 _ ?side1 ?side2 A5.out).mono ?_); (case side1 => repeat (first | exact (Kd.C_below HR0.out HB.out) | (with_reducible refine Kd.C_alloc ?_ _) | (with_reducible refine Kd.C_drewN ?_ _) | (with_reducible refine Kd.C_drew ?_))); (case side2 => exact HC0.out); rintro e w' ⟨rfl, ⟨nd, rfl⟩⟩; refine ⟨_, rfl, ?_⟩; have p268 : 0 ≤ (t267 : Int) := of_decide_eq_true (by first | (with_reducible assumption) | assumption); have q268 : t267 < (l0.length : Int) := of_decide_eq_true (by first | (with_reducible assumption) | assumption); obtain ⟨ad268, e268, hx268_0, hx268_1, hx268_2, hx268_3⟩ := at_T51 HR0.out t267 p268 q268; (try rw [← Nbq10.out] at hx268_2); cases e268; replace hx268_0 := (HB.out.cell (World.block_lt_of_cell? w _ hx268_0)).trans hx268_0; replace hx268_1 := (HB.out.cell (World.block_lt_of_cell? w _ hx268_1)).trans hx268_1; replace hx268_2 := (HB.out.cell (World.block_lt_of_cell? w _ hx268_2)).trans hx268_2; replace hx268_3 := (HB.out.cell (World.block_lt_of_cell? w _ hx268_3)).trans hx268_3; replace p268 := eq_true p268; replace q268 := eq_true q268))
      go_ret2
      exact ⟨_, by first | rfl | (simp [errW_none, errW_some] <;> rfl) | (simp [*, errW_none, errW_some] <;> rfl), by first | exact Kd.R_nil _ _ _ _ _ | exact Kd.N_nil _ _ _ _ _ | exact Kd.V_nil _ _ _ _ _ | exact Kd.Q_nil _ _ _ _ _ | exact Kd.S_nil _ _ _ _ _, hbx⟩
    ·rw [if_neg c9] at H
     exact absurd H (by simp)
   ·rw [if_neg c8] at H
    exact absurd H (by simp)
 ·replace c4 := Bool.eq_false_iff.mpr c4
  subst c4
  have H1 : (some (([] : List (S51)), 22)) = some (r1, r2) := by rw [if_neg (show ¬ (false = true) by decide)] at H; exact H
  clear H
  have H := H1
  clear H1
  simp only [Option.some.injEq, Prod.mk.injEq] at H
  obtain ⟨rfl, rfl⟩ := H
  go_enter Tryd.func12, Tryd.ntmps12
  go_wp2_with (first | ((with_reducible refine gate_callee (f := 20) rfl ?_); refine goesL_ (some 9) rfl rfl Tryd.func20 (by kernel_rfl) rfl #[.slice A0 l0.length c0] rfl (by (try simp only [List.map_toArray, List.map_cons, List.map_nil]); first | done | rfl | (simp only [List.length_drop, List.length_take]; rfl)) ?_; (with_reducible refine (halterref24_May.calls k _ _ l0 false _ ?side1 ?side2 A3.out).mono ?_); (case side1 => repeat (first | exact HR0.out | (with_reducible refine Kd.C_alloc ?_ _) | (with_reducible refine Kd.C_drewN ?_ _) | (with_reducible refine Kd.C_drew ?_))); (case side2 => exact HC0.out); rintro e w25 ⟨rfl, hb⟩; refine ⟨_, rfl, ?_⟩; have n0_ := Aside0.mk (below_step (hbx) hb); clear HB; have HB := n0_; clear n0_; (try clear hb); (try clear hb2); (try clear hk); (try clear hi)))
  go_ret2
  exact ⟨_, by first | rfl | (simp [errW_none, errW_some] <;> rfl) | (simp [*, errW_none, errW_some] <;> rfl), by first | exact Kd.R_nil _ _ _ _ _ | exact Kd.N_nil _ _ _ _ _ | exact Kd.V_nil _ _ _ _ _ | exact Kd.Q_nil _ _ _ _ _ | exact Kd.S_nil _ _ _ _ _, hbx⟩

end Go.Proofs.YtddedmdgfakfjaaDoor.FA
