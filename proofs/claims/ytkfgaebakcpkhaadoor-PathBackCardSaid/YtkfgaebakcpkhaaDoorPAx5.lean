-- written by a program of this session (wip/oprint), after the kit's print
import Derived.Test.YtkfgaebakcpkhaaDoorPAx0
import Derived.Test.YtkfgaebakcpkhaaDoorPAx1
import Derived.Test.YtkfgaebakcpkhaaDoorPAx2
import Derived.Test.YtkfgaebakcpkhaaDoorONum
namespace Go.Proofs.YtkfgaebakcpkhaaDoor.PA
open Go.RowKit Go.Proofs.YtkfgaebakcpkhaaDoorW.PrintWords Go.Proofs.YtkfgaebakcpkhaaDoorW.PrintLast Go.Proofs.YtkfgaebakcpkhaaDoorW.PrintMore
attribute [local go_sem] max2_int min2_int max_two min_two max_three min_three max_four min_four   -- for this text's walks alone
set_option linter.unusedVariables false
set_option linter.unusedSimpArgs false

/-! ### halterlaw16_PathLasts: function 5 -/
mutual
def halterlaw16_PathLasts.l0 : Nat → List ByteArray → Int → Option (Bool)
  | 0, _, _ => none
  | k + 1, x0, x3 => if x3 < (x0.length : Int) then (if 0 ≤ x3 then (if ((rdOf ByteArray.empty x0 x3).size : Int) > 40 then ((halterlaw16_sure.f k).bind fun t239 => (some t239)) else (halterlaw16_PathLasts.l0 k x0 (wrap64 (x3 + 1)))) else (none)) else ((path_Join.f k x0).bind fun bt240 => (if bt240.2.isNone = true then (halterlaw16_PathLasts.j1 k x0 bt240.1 ((x0.length : Int) == 0)) else (halterlaw16_PathLasts.j1 k x0 bt240.1 true)))
def halterlaw16_PathLasts.j1 : Nat → List ByteArray → ByteArray → Bool → Option (Bool)
  | 0, _, _, _ => none
  | k + 1, x0, x4, x44 => if x44 = true then ((halterlaw16_sure.f k).bind fun t243 => (some t243)) else ((path_Last.f k x4).bind fun bt244 => (if x4.size + 1 ≤ 9223372036854775807 then ((path_Last.f k (x4 ++ (⟨#[47]⟩ : ByteArray))).bind fun bt247 => (if 0 ≤ (wrap64 ((x0.length : Int) - 1)) then (if (wrap64 ((x0.length : Int) - 1)) < (x0.length : Int) then (if (rdOf ByteArray.empty x0 (wrap64 ((x0.length : Int) - 1))).toList = ([46] : List UInt8) then (halterlaw16_PathLasts.j2 k x0 bt244.1 bt244.2.1 bt244.2.2 bt247.1 bt247.2.1 bt247.2.2 (wrap64 ((x0.length : Int) - 1)) true) else (halterlaw16_PathLasts.j2 k x0 bt244.1 bt244.2.1 bt244.2.2 bt247.1 bt247.2.1 bt247.2.2 (wrap64 ((x0.length : Int) - 1)) ((rdOf ByteArray.empty x0 (wrap64 ((x0.length : Int) - 1))).toList == ([46, 46] : List UInt8)))) else (none)) else (none))) else (none)))
def halterlaw16_PathLasts.j2 : Nat → List ByteArray → ByteArray → ByteArray → Option Int → ByteArray → ByteArray → Option Int → Int → Bool → Option (Bool)
  | 0, _, _, _, _, _, _, _, _, _ => none
  | k + 1, x0, x6, x7, x8, x9, x10, x11, x12, x73 => if x73 = true then ((halterlaw16_num.f x8).bind fun t252 => (if t252 = 22 then ((halterlaw16_num.f x11).bind fun t253 => (if t253 = 22 then ((halterlaw16_sure.f k).bind fun t254 => (some t254)) else (some false))) else (some false))) else ((path_Split.f k x7).bind fun bt255 => (if x8.isNone = true then (if x11.isNone = true then (if bt255.2.2.isNone = true then (if 0 ≤ x12 then (if x12 < (x0.length : Int) then (if x6.toList = (rdOf ByteArray.empty x0 x12).toList then (if x9.toList = x6.toList then (if x10.toList = x7.toList then (if bt255.2.1 = true then (if x12 ≤ (x0.length : Int) then ((halterlaw16_texts.f k bt255.1 (x0.take (x12 : Int).toNat)).bind fun t265 => (if t265 = true then ((halterlaw16_sure.f k).bind fun t266 => (some t266)) else (some false))) else (none)) else (some false)) else (some false)) else (some false)) else (some false)) else (none)) else (none)) else (some false)) else (some false)) else (some false)))
end
def halterlaw16_PathLasts.f (k : Nat) (l0 : List ByteArray) : Option (Bool) := if (l0.length : Int) > 20 then ((halterlaw16_sure.f k).bind fun t237 => (some t237)) else (halterlaw16_PathLasts.l0 k l0 0)
theorem halterlaw16_PathLasts.mono_l : ∀ k, (∀ y0 y1, LeO (halterlaw16_PathLasts.l0 k y0 y1) (halterlaw16_PathLasts.l0 (k + 1) y0 y1)) ∧ (∀ y0 y1 y2, LeO (halterlaw16_PathLasts.j1 k y0 y1 y2) (halterlaw16_PathLasts.j1 (k + 1) y0 y1 y2)) ∧ (∀ y0 y1 y2 y3 y4 y5 y6 y7 y8, LeO (halterlaw16_PathLasts.j2 k y0 y1 y2 y3 y4 y5 y6 y7 y8) (halterlaw16_PathLasts.j2 (k + 1) y0 y1 y2 y3 y4 y5 y6 y7 y8))
  | 0 => ⟨fun _ _ r h => by simp [halterlaw16_PathLasts.l0] at h, fun _ _ _ r h => by simp [halterlaw16_PathLasts.j1] at h, fun _ _ _ _ _ _ _ _ _ r h => by simp [halterlaw16_PathLasts.j2] at h⟩
  | k + 1 => by
    obtain ⟨ih0, ih1, ih2⟩ := halterlaw16_PathLasts.mono_l k
    refine ⟨?_, ?_, ?_⟩
    · intro y0 y1
      unfold halterlaw16_PathLasts.l0
      repeat' first
      | (with_reducible exact ih0 _ _)
      | (with_reducible exact ih1 _ _ _)
      | (with_reducible exact ih2 _ _ _ _ _ _ _ _ _)
      | (with_reducible exact halterlaw16_sure.mono _)
      | (with_reducible exact halterlaw16_texts.mono _ _ _)
      | (with_reducible exact path_Join.mono _ _)
      | (with_reducible exact path_Last.mono _ _)
      | (with_reducible exact path_Split.mono _ _)
      | (with_reducible exact LeO.refl _)
      | (with_reducible exact LeO.none _)
      | (with_reducible refine LeO.ite ?_ ?_)
      | (with_reducible refine LeO.bind ?_ (fun _ => ?_))
      | exact ih0 _ _
      | exact ih1 _ _ _
      | exact ih2 _ _ _ _ _ _ _ _ _
      | exact halterlaw16_sure.mono _
      | exact halterlaw16_texts.mono _ _ _
      | exact path_Join.mono _ _
      | exact path_Last.mono _ _
      | exact path_Split.mono _ _
      | exact LeO.none _
      | refine LeO.ite ?_ ?_
      | refine LeO.bind ?_ (fun _ => ?_)
    · intro y0 y1 y2
      unfold halterlaw16_PathLasts.j1
      repeat' first
      | (with_reducible exact ih0 _ _)
      | (with_reducible exact ih1 _ _ _)
      | (with_reducible exact ih2 _ _ _ _ _ _ _ _ _)
      | (with_reducible exact halterlaw16_sure.mono _)
      | (with_reducible exact halterlaw16_texts.mono _ _ _)
      | (with_reducible exact path_Join.mono _ _)
      | (with_reducible exact path_Last.mono _ _)
      | (with_reducible exact path_Split.mono _ _)
      | (with_reducible exact LeO.refl _)
      | (with_reducible exact LeO.none _)
      | (with_reducible refine LeO.ite ?_ ?_)
      | (with_reducible refine LeO.bind ?_ (fun _ => ?_))
      | exact ih0 _ _
      | exact ih1 _ _ _
      | exact ih2 _ _ _ _ _ _ _ _ _
      | exact halterlaw16_sure.mono _
      | exact halterlaw16_texts.mono _ _ _
      | exact path_Join.mono _ _
      | exact path_Last.mono _ _
      | exact path_Split.mono _ _
      | exact LeO.none _
      | refine LeO.ite ?_ ?_
      | refine LeO.bind ?_ (fun _ => ?_)
    · intro y0 y1 y2 y3 y4 y5 y6 y7 y8
      unfold halterlaw16_PathLasts.j2
      repeat' first
      | (with_reducible exact ih0 _ _)
      | (with_reducible exact ih1 _ _ _)
      | (with_reducible exact ih2 _ _ _ _ _ _ _ _ _)
      | (with_reducible exact halterlaw16_sure.mono _)
      | (with_reducible exact halterlaw16_texts.mono _ _ _)
      | (with_reducible exact path_Join.mono _ _)
      | (with_reducible exact path_Last.mono _ _)
      | (with_reducible exact path_Split.mono _ _)
      | (with_reducible exact LeO.refl _)
      | (with_reducible exact LeO.none _)
      | (with_reducible refine LeO.ite ?_ ?_)
      | (with_reducible refine LeO.bind ?_ (fun _ => ?_))
      | exact ih0 _ _
      | exact ih1 _ _ _
      | exact ih2 _ _ _ _ _ _ _ _ _
      | exact halterlaw16_sure.mono _
      | exact halterlaw16_texts.mono _ _ _
      | exact path_Join.mono _ _
      | exact path_Last.mono _ _
      | exact path_Split.mono _ _
      | exact LeO.none _
      | refine LeO.ite ?_ ?_
      | refine LeO.bind ?_ (fun _ => ?_)
theorem halterlaw16_PathLasts.mono : ∀ a0 k, LeO (halterlaw16_PathLasts.f k a0) (halterlaw16_PathLasts.f (k + 1) a0) := by
  intro a0 k
  obtain ⟨ih0, ih1, ih2⟩ := halterlaw16_PathLasts.mono_l k
  unfold halterlaw16_PathLasts.f
  repeat' first
      | (with_reducible exact ih0 _ _)
      | (with_reducible exact ih1 _ _ _)
      | (with_reducible exact ih2 _ _ _ _ _ _ _ _ _)
      | (with_reducible exact halterlaw16_sure.mono _)
      | (with_reducible exact halterlaw16_texts.mono _ _ _)
      | (with_reducible exact path_Join.mono _ _)
      | (with_reducible exact path_Last.mono _ _)
      | (with_reducible exact path_Split.mono _ _)
      | (with_reducible exact LeO.refl _)
      | (with_reducible exact LeO.none _)
      | (with_reducible refine LeO.ite ?_ ?_)
      | (with_reducible refine LeO.bind ?_ (fun _ => ?_))
      | exact ih0 _ _
      | exact ih1 _ _ _
      | exact ih2 _ _ _ _ _ _ _ _ _
      | exact halterlaw16_sure.mono _
      | exact halterlaw16_texts.mono _ _ _
      | exact path_Join.mono _ _
      | exact path_Last.mono _ _
      | exact path_Split.mono _ _
      | exact LeO.none _
      | refine LeO.ite ?_ ?_
      | refine LeO.bind ?_ (fun _ => ?_)
set_option maxHeartbeats 8000000 in
set_option maxRecDepth 100000 in
theorem halterlaw16_PathLasts.calls (k : Nat) (A0 : Option Addr) (c0 : Nat) (l0 : List ByteArray) (r : Bool) (w : World) (hr0 : Kd.C Kd.string w A0 l0.length l0) (hc0 : l0.length ≤ c0) (h : halterlaw16_PathLasts.f k l0 = some r) (hTrue : Aside0 (r = true)) (hG : GOK w := by first | assumption | exact hG | exact GOK.below hG (by repeat (first | (with_reducible first | exact HB.out | apply below_alloc | apply pw_below_drewN | apply below_drew1) | exact HB.out))) :
    Calls Tryd.prog 5 #[.slice A0 l0.length c0] w fun e w' => e = .returned (.bool r) ∧ Below w.heap.size w w' := by
  have hu25 := Tryd.underlying25
  have hu44 := Tryd.underlying44
  have HR0 := Aside0.mk hr0
  have HC0 := Aside0.mk hc0
  clear hr0 hc0
  have HB := Aside0.mk (Below.refl w.heap.size w)
  have H : (if (l0.length : Int) > 20 then ((halterlaw16_sure.f k).bind fun t237 => (some t237)) else (halterlaw16_PathLasts.l0 k l0 0)) = some r := h
  clear h
  by_cases c2 : (l0.length : Int) > 20
  · rw [if_pos c2] at H
    have c2b0 : decide (20 < (l0.length : Int)) = true := decide_eq_true c2
    have c2b1 : decide (20 < l0.length) = true := decide_eq_true (by omega)
    clear c2
    replace H := Option.bind_eq_some_iff.mp H
    obtain ⟨t237, A30, H⟩ := H
    replace H : (some t237) = some r := H
    have A3 := Aside0.mk A30
    clear A30
    obtain rfl := Option.some.inj H
    go_enter Tryd.func5, Tryd.ntmps5
    go_wp2_with (first | ((with_reducible refine gate_callee (f := 6) rfl ?_); refine goesL_ (some 19) rfl rfl Tryd.func6 (by kernel_rfl) rfl #[] rfl (by (try simp only [List.map_toArray, List.map_cons, List.map_nil]); first | done | rfl | (simp only [List.length_drop, List.length_take]; rfl)) ?_; (with_reducible refine (halterlaw16_sure.calls k  t237 _ A3.out).mono ?_); rintro e w4 ⟨rfl, hb⟩; refine ⟨_, rfl, ?_⟩; have n0_ := Aside0.mk (below_step (by repeat (first | (with_reducible first | exact HB.out | apply below_alloc | apply pw_below_drewN | apply below_drew1) | exact HB.out)) hb); clear HB; have HB := n0_; clear n0_; (try clear hb); (try clear hb2); (try clear hk); (try clear hi)))
    go_ret
    exact ⟨by first | rfl | (simp [errW_none, errW_some] <;> rfl) | (simp [*, errW_none, errW_some] <;> rfl), by repeat (first | (with_reducible first | exact HB.out | apply below_alloc | apply pw_below_drewN | apply below_drew1) | exact HB.out)⟩
  · rw [if_neg c2] at H
    have c2b0 : decide (20 < (l0.length : Int)) = false := decide_eq_false c2
    have c2b1 : decide (20 < l0.length) = false := decide_eq_false (by omega)
    clear c2
    have H' := Aside0.mk H
    clear H
    go_enter Tryd.func5, Tryd.ntmps5
    go_wp2
    go_loopg [3] k (fun kq v3 w' => ∃ (x3_1 : Int), v3 = .int .i64 x3_1 ∧ Aside0 (halterlaw16_PathLasts.l0 kq l0 x3_1 = some r) ∧ Aside0 (kq ≤ k) ∧ Aside0 (Below w.heap.size w w'))
    case atStart => exact ⟨(0), (by first | rfl | (simp; done) | (simp [*]; done)), H', ⟨Nat.le_refl _⟩, ⟨by repeat (first | (with_reducible first | exact HB.out | apply below_alloc | apply pw_below_drewN | apply below_drew1) | exact HB.out)⟩⟩
    case round =>
      clear H'
      try clear c2
      try clear c2b0
      try clear c2b1
      try clear p2
      obtain ⟨x3_1, rfl, HA, HK1, HB⟩ := hrel
      cases gk with
      | zero => exact absurd HA.out (by simp [halterlaw16_PathLasts.l0])
      | succ k1 =>
        have H := HA.out
        clear HA
        simp only [halterlaw16_PathLasts.l0] at H
        by_cases c5 : x3_1 < (l0.length : Int)
        · rw [if_pos c5] at H
          have c5b0 : decide (x3_1 < (l0.length : Int)) = true := decide_eq_true c5
          clear c5
          by_cases c6 : 0 ≤ x3_1
          · rw [if_pos c6] at H
            have c6b0 : decide (0 ≤ x3_1) = true := decide_eq_true c6
            clear c6
            by_cases c7 : ((rdOf ByteArray.empty l0 x3_1).size : Int) > 40
            · rw [if_pos c7] at H
              have c7b0 : decide (40 < ((rdOf ByteArray.empty l0 x3_1).size : Int)) = true := decide_eq_true c7
              have c7b1 : decide (40 < (rdOf ByteArray.empty l0 x3_1).size) = true := decide_eq_true (by omega)
              clear c7
              replace H := Option.bind_eq_some_iff.mp H
              obtain ⟨t239, A80, H⟩ := H
              replace H : (some t239) = some r := H
              have A8 := Aside0.mk A80
              clear A80
              obtain rfl := Option.some.inj H
              have p238 : 0 ≤ (x3_1 : Int) := of_decide_eq_true (by first | (with_reducible assumption) | assumption)
              have q238 : x3_1 < (l0.length : Int) := of_decide_eq_true (by first | (with_reducible assumption) | assumption)
              obtain ⟨ad238, e238, hx238_0⟩ := Kd.at_string HR0.out x3_1 p238 q238
              cases e238
              replace hx238_0 := (HB.out.cell (World.block_lt_of_cell? w _ hx238_0)).trans hx238_0
              replace p238 := eq_true p238
              replace q238 := eq_true q238
              go_wp2_with (first | ((with_reducible refine gate_callee (f := 6) rfl ?_); refine goesL_ (some 32) rfl rfl Tryd.func6 (by kernel_rfl) rfl #[] rfl (by (try simp only [List.map_toArray, List.map_cons, List.map_nil]); first | done | rfl | (simp only [List.length_drop, List.length_take]; rfl)) ?_; (with_reducible refine (halterlaw16_sure.calls k1  t239 _ A8.out).mono ?_); rintro e w9 ⟨rfl, hb⟩; refine ⟨_, rfl, ?_⟩; have n0_ := Aside0.mk (below_step (by repeat (first | (with_reducible first | exact HB.out | apply below_alloc | apply pw_below_drewN | apply below_drew1) | exact HB.out)) hb); clear HB; have HB := n0_; clear n0_; (try clear hb); (try clear hb2); (try clear hk); (try clear hi)))
              go_ret
              exact ⟨by first | rfl | (simp [errW_none, errW_some] <;> rfl) | (simp [*, errW_none, errW_some] <;> rfl), by repeat (first | (with_reducible first | exact HB.out | apply below_alloc | apply pw_below_drewN | apply below_drew1) | exact HB.out)⟩
            · rw [if_neg c7] at H
              have c7b0 : decide (40 < ((rdOf ByteArray.empty l0 x3_1).size : Int)) = false := decide_eq_false c7
              have c7b1 : decide (40 < (rdOf ByteArray.empty l0 x3_1).size) = false := decide_eq_false (by omega)
              clear c7
              have H' := Aside0.mk H
              clear H
              have p238 : 0 ≤ (x3_1 : Int) := of_decide_eq_true (by first | (with_reducible assumption) | assumption)
              have q238 : x3_1 < (l0.length : Int) := of_decide_eq_true (by first | (with_reducible assumption) | assumption)
              obtain ⟨ad238, e238, hx238_0⟩ := Kd.at_string HR0.out x3_1 p238 q238
              cases e238
              replace hx238_0 := (HB.out.cell (World.block_lt_of_cell? w _ hx238_0)).trans hx238_0
              replace p238 := eq_true p238
              replace q238 := eq_true q238
              go_wp2
              go_roundg k1
              case measure => have := HK1.out; omega
              case rel => (try simp only [hji22]); (try simp only [hji36]); exact ⟨(wrap64 (x3_1 + 1)), (by first | rfl | (simp; done) | (simp [*]; done)), H', ⟨by have := HK1.out; omega⟩, ⟨by repeat (first | (with_reducible first | exact HB.out | apply below_alloc | apply pw_below_drewN | apply below_drew1) | exact HB.out)⟩⟩
          · rw [if_neg c6] at H
            exact absurd H (by simp)
        · rw [if_neg c5] at H
          have c5b0 : decide (x3_1 < (l0.length : Int)) = false := decide_eq_false c5
          clear c5
          replace H := Option.bind_eq_some_iff.mp H
          obtain ⟨⟨t240, t241⟩, A100, H⟩ := H
          replace H : (if t241.isNone = true then (halterlaw16_PathLasts.j1 k1 l0 t240 ((l0.length : Int) == 0)) else (halterlaw16_PathLasts.j1 k1 l0 t240 true)) = some r := H
          have A10 := Aside0.mk A100
          clear A100
          have HC11 := Aside0.mk H
          clear H
          go_upto_region 9 with (first | ((with_reducible refine gate_callee (f := 15) rfl ?_); refine goesL_ (some 35) rfl rfl Tryd.func15 (by kernel_rfl) rfl #[.slice A0 l0.length c0] rfl (by (try simp only [List.map_toArray, List.map_cons, List.map_nil]); first | done | rfl | (simp only [List.length_drop, List.length_take]; rfl)) ?_; (with_reducible refine (path_Join.calls k1 _ _ l0 t240 t241 _ ?side1 ?side2 A10.out).mono ?_); (case side1 => repeat (first | exact (Kd.C_below HR0.out HB.out) | (with_reducible refine Kd.C_alloc ?_ _) | (with_reducible refine Kd.C_drewN ?_ _) | (with_reducible refine Kd.C_drew ?_))); (case side2 => exact HC0.out); rintro e w12 ⟨rfl, hb⟩; refine ⟨_, rfl, ?_⟩; have n0_ := Aside0.mk (below_step (by repeat (first | (with_reducible first | exact HB.out | apply below_alloc | apply pw_below_drewN | apply below_drew1) | exact HB.out)) hb); clear HB; have HB := n0_; clear n0_; (try clear hb); (try clear hb2); (try clear hk); (try clear hi); (try simp only [errW_none, errW_some])))
          (try simp only [Act.put, List.setIfInBounds_toArray, List.set_cons_zero, List.set_cons_succ])
          go_cut [44] (fun v44 wc => ∃ (kq : Nat) (x44_10 : Bool), v44 = .bool x44_10 ∧ Aside0 (halterlaw16_PathLasts.j1 kq l0 t240 x44_10 = some r) ∧ Aside0 (kq ≤ k1) ∧ Aside0 (Below w.heap.size w wc))
          case first =>
            have H := HC11.out
            clear HC11
            rcases t241 with _ | q242
            · have H1 : (halterlaw16_PathLasts.j1 k1 l0 t240 ((l0.length : Int) == 0)) = some r := by rw [if_pos (show (none : Option Int).isNone = true by rfl)] at H; exact H
              clear H
              have H := H1
              clear H1
              try simp only [errW_none, errW_some]
              have H' := Aside0.mk H
              clear H
              go_wp2
              go_meet
              case rel => (try simp only [hji22]); (try simp only [hji36]); exact ⟨_, (((l0.length : Int) == 0)), (by first | rfl | (simp; done) | (simp [*]; done)), H', ⟨by have := HK1.out; first | omega | exact Nat.le_refl _⟩, ⟨by repeat (first | (with_reducible first | exact HB.out | apply below_alloc | apply pw_below_drewN | apply below_drew1) | exact HB.out)⟩⟩
            · have H1 : (halterlaw16_PathLasts.j1 k1 l0 t240 true) = some r := by rw [if_neg (show ¬ (some q242).isNone = true by simp)] at H; exact H
              clear H
              have H := H1
              clear H1
              try simp only [errW_none, errW_some]
              have H' := Aside0.mk H
              clear H
              go_wp2
              go_meet
              case rel => (try simp only [hji22]); (try simp only [hji36]); exact ⟨_, (true), (by first | rfl | (simp; done) | (simp [*]; done)), H', ⟨by have := HK1.out; first | omega | exact Nat.le_refl _⟩, ⟨by repeat (first | (with_reducible first | exact HB.out | apply below_alloc | apply pw_below_drewN | apply below_drew1) | exact HB.out)⟩⟩
          case rest =>
            clear HC11
            try clear c1
            try clear c2
            try clear c2b0
            try clear c2b1
            try clear p2
            try clear q2
            try clear hx2
            try clear c5
            try clear c5b0
            try clear c6
            try clear c6b0
            try clear p6
            try clear c7
            try clear c7b0
            try clear c7b1
            try clear hx238_0
            try clear p2
            try clear p238
            try clear q238
            try clear q242
            obtain ⟨kq, x44_10, rfl, HA, HJ10, HB⟩ := hcut
            cases kq with
            | zero => exact absurd HA.out (by simp [halterlaw16_PathLasts.j1])
            | succ kj10 =>
              have H := HA.out
              clear HA
              simp only [halterlaw16_PathLasts.j1] at H
              by_cases c13 : x44_10 = true
              · subst c13
                have H1 : ((halterlaw16_sure.f kj10).bind fun t243 => (some t243)) = some r := by rw [if_pos rfl] at H; exact H
                clear H
                have H := H1
                clear H1
                replace H := Option.bind_eq_some_iff.mp H
                obtain ⟨t243, A140, H⟩ := H
                replace H : (some t243) = some r := H
                have A14 := Aside0.mk A140
                clear A140
                obtain rfl := Option.some.inj H
                go_wp2_with (first | ((with_reducible refine gate_callee (f := 6) rfl ?_); refine goesL_ (some 45) rfl rfl Tryd.func6 (by kernel_rfl) rfl #[] rfl (by (try simp only [List.map_toArray, List.map_cons, List.map_nil]); first | done | rfl | (simp only [List.length_drop, List.length_take]; rfl)) ?_; (with_reducible refine (halterlaw16_sure.calls kj10  t243 _ A14.out).mono ?_); rintro e w15 ⟨rfl, hb⟩; refine ⟨_, rfl, ?_⟩; have n0_ := Aside0.mk (below_step (by repeat (first | (with_reducible first | exact HB.out | apply below_alloc | apply pw_below_drewN | apply below_drew1) | exact HB.out)) hb); clear HB; have HB := n0_; clear n0_; (try clear hb); (try clear hb2); (try clear hk); (try clear hi)))
                go_ret
                exact ⟨by first | rfl | (simp [errW_none, errW_some] <;> rfl) | (simp [*, errW_none, errW_some] <;> rfl), by repeat (first | (with_reducible first | exact HB.out | apply below_alloc | apply pw_below_drewN | apply below_drew1) | exact HB.out)⟩
              · replace c13 := Bool.eq_false_iff.mpr c13
                subst c13
                have H1 : ((path_Last.f kj10 t240).bind fun bt244 => (if t240.size + 1 ≤ 9223372036854775807 then ((path_Last.f kj10 (t240 ++ (⟨#[47]⟩ : ByteArray))).bind fun bt247 => (if 0 ≤ (wrap64 ((l0.length : Int) - 1)) then (if (wrap64 ((l0.length : Int) - 1)) < (l0.length : Int) then (if (rdOf ByteArray.empty l0 (wrap64 ((l0.length : Int) - 1))).toList = ([46] : List UInt8) then (halterlaw16_PathLasts.j2 kj10 l0 bt244.1 bt244.2.1 bt244.2.2 bt247.1 bt247.2.1 bt247.2.2 (wrap64 ((l0.length : Int) - 1)) true) else (halterlaw16_PathLasts.j2 kj10 l0 bt244.1 bt244.2.1 bt244.2.2 bt247.1 bt247.2.1 bt247.2.2 (wrap64 ((l0.length : Int) - 1)) ((rdOf ByteArray.empty l0 (wrap64 ((l0.length : Int) - 1))).toList == ([46, 46] : List UInt8)))) else (none)) else (none))) else (none))) = some r := by rw [if_neg (show ¬ (false = true) by decide)] at H; exact H
                clear H
                have H := H1
                clear H1
                replace H := Option.bind_eq_some_iff.mp H
                obtain ⟨⟨t244, t245, t246⟩, A160, H⟩ := H
                replace H : (if t240.size + 1 ≤ 9223372036854775807 then ((path_Last.f kj10 (t240 ++ (⟨#[47]⟩ : ByteArray))).bind fun bt247 => (if 0 ≤ (wrap64 ((l0.length : Int) - 1)) then (if (wrap64 ((l0.length : Int) - 1)) < (l0.length : Int) then (if (rdOf ByteArray.empty l0 (wrap64 ((l0.length : Int) - 1))).toList = ([46] : List UInt8) then (halterlaw16_PathLasts.j2 kj10 l0 t244 t245 t246 bt247.1 bt247.2.1 bt247.2.2 (wrap64 ((l0.length : Int) - 1)) true) else (halterlaw16_PathLasts.j2 kj10 l0 t244 t245 t246 bt247.1 bt247.2.1 bt247.2.2 (wrap64 ((l0.length : Int) - 1)) ((rdOf ByteArray.empty l0 (wrap64 ((l0.length : Int) - 1))).toList == ([46, 46] : List UInt8)))) else (none)) else (none))) else (none)) = some r := H
                have A16 := Aside0.mk A160
                clear A160
                by_cases c17 : t240.size + 1 ≤ 9223372036854775807
                · rw [if_pos c17] at H
                  have c17b0 := eq_true c17
                  have c17b1 : decide (t240.size + 1 ≤ 9223372036854775807) = true := decide_eq_true c17
                  try have c17b2 : (9223372036854775807 < t240.size + 1) = False := eq_false (Nat.not_lt.2 c17)
                  replace H := Option.bind_eq_some_iff.mp H
                  obtain ⟨⟨t247, t248, t249⟩, A180, H⟩ := H
                  replace H : (if 0 ≤ (wrap64 ((l0.length : Int) - 1)) then (if (wrap64 ((l0.length : Int) - 1)) < (l0.length : Int) then (if (rdOf ByteArray.empty l0 (wrap64 ((l0.length : Int) - 1))).toList = ([46] : List UInt8) then (halterlaw16_PathLasts.j2 kj10 l0 t244 t245 t246 t247 t248 t249 (wrap64 ((l0.length : Int) - 1)) true) else (halterlaw16_PathLasts.j2 kj10 l0 t244 t245 t246 t247 t248 t249 (wrap64 ((l0.length : Int) - 1)) ((rdOf ByteArray.empty l0 (wrap64 ((l0.length : Int) - 1))).toList == ([46, 46] : List UInt8)))) else (none)) else (none)) = some r := H
                  have A18 := Aside0.mk A180
                  clear A180
                  have HC19 := Aside0.mk H
                  clear H
                  go_upto_region 14 with (first | ((with_reducible refine gate_callee (f := 9) rfl ?_); refine goesL_ (some 48) rfl rfl Tryd.func9 (by kernel_rfl) rfl #[.string t240] rfl (by (try simp only [List.map_toArray, List.map_cons, List.map_nil]); first | done | rfl | (simp only [List.length_drop, List.length_take]; rfl)) ?_; (with_reducible refine (path_Last.calls kj10 t240 t244 t245 t246 _ A16.out).mono ?_); rintro e w20 ⟨rfl, hb⟩; refine ⟨_, rfl, ?_⟩; have n0_ := Aside0.mk (below_step (by repeat (first | (with_reducible first | exact HB.out | apply below_alloc | apply pw_below_drewN | apply below_drew1) | exact HB.out)) hb); clear HB; have HB := n0_; clear n0_; (try clear hb); (try clear hb2); (try clear hk); (try clear hi); (try simp only [errW_none, errW_some])) | ((with_reducible refine gate_callee (f := 9) rfl ?_); refine goesL_ (some 55) rfl rfl Tryd.func9 (by kernel_rfl) rfl #[.string (t240 ++ (⟨#[47]⟩ : ByteArray))] rfl (by (try simp only [List.map_toArray, List.map_cons, List.map_nil]); first | done | rfl | (simp only [List.length_drop, List.length_take]; rfl)) ?_; (with_reducible refine (path_Last.calls kj10 (t240 ++ (⟨#[47]⟩ : ByteArray)) t247 t248 t249 _ A18.out).mono ?_); rintro e w21 ⟨rfl, hb⟩; refine ⟨_, rfl, ?_⟩; have n0_ := Aside0.mk (below_step (by repeat (first | (with_reducible first | exact HB.out | apply below_alloc | apply pw_below_drewN | apply below_drew1) | exact HB.out)) hb); clear HB; have HB := n0_; clear n0_; (try clear hb); (try clear hb2); (try clear hk); (try clear hi); (try simp only [errW_none, errW_some])))
                  (try simp only [Act.put, List.setIfInBounds_toArray, List.set_cons_zero, List.set_cons_succ])
                  go_cut [73] (fun v73 wc => ∃ (kq : Nat) (x73_18 : Bool), v73 = .bool x73_18 ∧ Aside0 (halterlaw16_PathLasts.j2 kq l0 t244 t245 t246 t247 t248 t249 (wrap64 ((l0.length : Int) - 1)) x73_18 = some r) ∧ Aside0 (kq ≤ kj10) ∧ Aside0 (Below w.heap.size w wc))
                  case first =>
                    have H := HC19.out
                    clear HC19
                    obtain ⟨ji22, hji22⟩ : ∃ j_ : Int, (wrap64 ((l0.length : Int) - 1)) = j_ := ⟨_, rfl⟩
                    replace H : (if 0 ≤ (ji22) then (if (ji22) < (l0.length : Int) then (if (rdOf ByteArray.empty l0 (ji22)).toList = ([46] : List UInt8) then (halterlaw16_PathLasts.j2 kj10 l0 t244 t245 t246 t247 t248 t249 ji22 true) else (halterlaw16_PathLasts.j2 kj10 l0 t244 t245 t246 t247 t248 t249 ji22 ((rdOf ByteArray.empty l0 (ji22)).toList == ([46, 46] : List UInt8)))) else (none)) else (none)) = some r := by first | (rw [hji22] at H; exact H) | (simp only [hji22] at H ⊢; exact H)
                    have hji22w : (IntKind.i64.wrap ((l0.length : Int) - 1)) = ji22 := (i64_w _).trans hji22
                    by_cases c23 : 0 ≤ (ji22)
                    · rw [if_pos c23] at H
                      have c23b0 : decide (0 ≤ (ji22)) = true := decide_eq_true c23
                      clear c23
                      (first | rw [c23b0] | (simp only [i64_w, i32_w]; rw [c23b0]) | skip)
                      by_cases c24 : (ji22) < (l0.length : Int)
                      · rw [if_pos c24] at H
                        have c24b0 : decide ((ji22) < (l0.length : Int)) = true := decide_eq_true c24
                        clear c24
                        by_cases c25 : (rdOf ByteArray.empty l0 (ji22)).toList = ([46] : List UInt8)
                        · rw [if_pos c25] at H
                          have c25b0 : ((rdOf ByteArray.empty l0 (ji22)).toList == ([46] : List UInt8)) = true := beq_iff_eq.mpr c25
                          have c25b1 : ((rdOf ByteArray.empty l0 (ji22)).toList != ([46] : List UInt8)) = false := bne_eq_false_iff_eq.mpr c25
                          clear c25
                          have H' := Aside0.mk H
                          clear H
                          have p250 : 0 ≤ ((ji22) : Int) := of_decide_eq_true (by first | (with_reducible assumption) | assumption)
                          have q250 : (ji22) < (l0.length : Int) := of_decide_eq_true (by first | (with_reducible assumption) | assumption)
                          obtain ⟨ad250, e250, hx250_0⟩ := Kd.at_string HR0.out (ji22) p250 q250
                          cases e250
                          replace hx250_0 := (HB.out.cell (World.block_lt_of_cell? w _ hx250_0)).trans hx250_0
                          replace p250 := eq_true p250
                          replace q250 := eq_true q250
                          go_wp2
                          go_meet
                          case rel => (try simp only [hji22]); (try simp only [hji36]); exact ⟨_, (true), (by first | rfl | (simp; done) | (simp [*]; done)), H', ⟨by have := HK1.out; have := HJ10.out; first | omega | exact Nat.le_refl _⟩, ⟨by repeat (first | (with_reducible first | exact HB.out | apply below_alloc | apply pw_below_drewN | apply below_drew1) | exact HB.out)⟩⟩
                        · rw [if_neg c25] at H
                          have c25b0 : ((rdOf ByteArray.empty l0 (ji22)).toList == ([46] : List UInt8)) = false := beq_eq_false_iff_ne.mpr c25
                          have c25b1 : ((rdOf ByteArray.empty l0 (ji22)).toList != ([46] : List UInt8)) = true := bne_iff_ne.mpr c25
                          have H' := Aside0.mk H
                          clear H
                          have p250 : 0 ≤ ((ji22) : Int) := of_decide_eq_true (by first | (with_reducible assumption) | assumption)
                          have q250 : (ji22) < (l0.length : Int) := of_decide_eq_true (by first | (with_reducible assumption) | assumption)
                          obtain ⟨ad250, e250, hx250_0⟩ := Kd.at_string HR0.out (ji22) p250 q250
                          cases e250
                          replace hx250_0 := (HB.out.cell (World.block_lt_of_cell? w _ hx250_0)).trans hx250_0
                          replace p250 := eq_true p250
                          replace q250 := eq_true q250
                          have p251 : 0 ≤ ((ji22) : Int) := of_decide_eq_true (by first | (with_reducible assumption) | assumption)
                          have q251 : (ji22) < (l0.length : Int) := of_decide_eq_true (by first | (with_reducible assumption) | assumption)
                          obtain ⟨ad251, e251, hx251_0⟩ := Kd.at_string HR0.out (ji22) p251 q251
                          obtain rfl : ad250 = ad251 := (by injection e251)
                          replace hx251_0 := (HB.out.cell (World.block_lt_of_cell? w _ hx251_0)).trans hx251_0
                          replace p251 := eq_true p251
                          replace q251 := eq_true q251
                          go_wp2
                          subst hji22; go_meet
                          case rel => (try simp only [hji36]); exact ⟨_, (((rdOf ByteArray.empty l0 ((wrap64 ((l0.length : Int) - 1)))).toList == ([46, 46] : List UInt8))), (by first | rfl | (simp; done) | (simp [*]; done)), H', ⟨by have := HK1.out; have := HJ10.out; first | omega | exact Nat.le_refl _⟩, ⟨by repeat (first | (with_reducible first | exact HB.out | apply below_alloc | apply pw_below_drewN | apply below_drew1) | exact HB.out)⟩⟩
                      · rw [if_neg c24] at H
                        exact absurd H (by simp)
                    · rw [if_neg c23] at H
                      exact absurd H (by simp)
                  case rest =>
                    clear HC19
                    try clear c1
                    try clear c2
                    try clear c2b0
                    try clear c2b1
                    try clear p2
                    try clear q2
                    try clear hx2
                    try clear c5
                    try clear c5b0
                    try clear c6
                    try clear c6b0
                    try clear p6
                    try clear c7
                    try clear c7b0
                    try clear c7b1
                    try clear c9
                    try clear c13
                    try clear c15
                    try clear c17
                    try clear c17b0
                    try clear c17b1
                    try clear c17b2
                    try clear c23
                    try clear c23b0
                    try clear p23
                    try clear q23
                    try clear hx23
                    try clear c24
                    try clear c24b0
                    try clear q24
                    try clear c25
                    try clear c25b0
                    try clear c25b1
                    try clear p25
                    try clear q25
                    try clear hx25
                    try clear hx238_0
                    try clear hx250_0
                    try clear hx251_0
                    try clear p2
                    try clear p238
                    try clear p250
                    try clear p251
                    try clear p6
                    try clear q2
                    try clear q238
                    try clear q242
                    try clear q250
                    try clear q251
                    obtain ⟨kq, x73_18, rfl, HA, HJ18, HB⟩ := hcut
                    cases kq with
                    | zero => exact absurd HA.out (by simp [halterlaw16_PathLasts.j2])
                    | succ kj18 =>
                      have H := HA.out
                      clear HA
                      simp only [halterlaw16_PathLasts.j2] at H
                      by_cases c26 : x73_18 = true
                      · subst c26
                        have H1 : ((halterlaw16_num.f t246).bind fun t252 => (if t252 = 22 then ((halterlaw16_num.f t249).bind fun t253 => (if t253 = 22 then ((halterlaw16_sure.f kj18).bind fun t254 => (some t254)) else (some false))) else (some false))) = some r := by rw [if_pos rfl] at H; exact H
                        clear H
                        have H := H1
                        clear H1
                        replace H := Option.bind_eq_some_iff.mp H
                        obtain ⟨t252, A270, H⟩ := H
                        replace H : (if t252 = 22 then ((halterlaw16_num.f t249).bind fun t253 => (if t253 = 22 then ((halterlaw16_sure.f kj18).bind fun t254 => (some t254)) else (some false))) else (some false)) = some r := H
                        have A27 := Aside0.mk A270
                        clear A270
                        by_cases c28 : t252 = 22
                        · rw [if_pos c28] at H
                          have c28b0 : (t252 == 22) = true := beq_iff_eq.mpr c28
                          have c28b1 : (t252 != 22) = false := bne_eq_false_iff_eq.mpr c28
                          clear c28
                          replace H := Option.bind_eq_some_iff.mp H
                          obtain ⟨t253, A290, H⟩ := H
                          replace H : (if t253 = 22 then ((halterlaw16_sure.f kj18).bind fun t254 => (some t254)) else (some false)) = some r := H
                          have A29 := Aside0.mk A290
                          clear A290
                          by_cases c30 : t253 = 22
                          · rw [if_pos c30] at H
                            have c30b0 : (t253 == 22) = true := beq_iff_eq.mpr c30
                            have c30b1 : (t253 != 22) = false := bne_eq_false_iff_eq.mpr c30
                            clear c30
                            replace H := Option.bind_eq_some_iff.mp H
                            obtain ⟨t254, A310, H⟩ := H
                            replace H : (some t254) = some r := H
                            have A31 := Aside0.mk A310
                            clear A310
                            obtain rfl := Option.some.inj H
                            have CA27 := fun W (hG_ : GOK W) => halterlaw16_num.calls t246 t252 W A27.out hG_
                            try simp only [errW_none, errW_some] at CA27
                            go_wp2_with (first | (go_at_call 12; (with_reducible refine (CA27 _ (by first | assumption | exact hG | exact GOK.below hG (by repeat (first | (with_reducible first | exact HB.out | apply below_alloc | apply pw_below_drewN | apply below_drew1) | exact HB.out)))).mono ?_); rintro e w32 ⟨rfl, hb⟩; have n0_ := Aside0.mk (below_step (by repeat (first | (with_reducible first | exact HB.out | apply below_alloc | apply pw_below_drewN | apply below_drew1) | exact HB.out)) hb); clear HB; have HB := n0_; clear n0_; (try clear hb); (try clear hb2); (try clear hk); (try clear hi); have CA29 := fun W (hG_ : GOK W) => halterlaw16_num.calls t249 t253 W A29.out hG_; try simp only [errW_none, errW_some] at CA29) | (go_at_call 12; (with_reducible refine (CA29 _ (by first | assumption | exact hG | exact GOK.below hG (by repeat (first | (with_reducible first | exact HB.out | apply below_alloc | apply pw_below_drewN | apply below_drew1) | exact HB.out)))).mono ?_); rintro e w33 ⟨rfl, hb⟩; have n0_ := Aside0.mk (below_step (by repeat (first | (with_reducible first | exact HB.out | apply below_alloc | apply pw_below_drewN | apply below_drew1) | exact HB.out)) hb); clear HB; have HB := n0_; clear n0_; (try clear hb); (try clear hb2); (try clear hk); (try clear hi)) | (go_at_call 6; (with_reducible refine (halterlaw16_sure.calls kj18  t254 _ A31.out).mono ?_); rintro e w34 ⟨rfl, hb⟩; have n0_ := Aside0.mk (below_step (by repeat (first | (with_reducible first | exact HB.out | apply below_alloc | apply pw_below_drewN | apply below_drew1) | exact HB.out)) hb); clear HB; have HB := n0_; clear n0_; (try clear hb); (try clear hb2); (try clear hk); (try clear hi)))
                            go_ret
                            exact ⟨by first | rfl | (simp [errW_none, errW_some] <;> rfl) | (simp [*, errW_none, errW_some] <;> rfl), by repeat (first | (with_reducible first | exact HB.out | apply below_alloc | apply pw_below_drewN | apply below_drew1) | exact HB.out)⟩
                          · rw [if_neg c30] at H
                            have c30b0 : (t253 == 22) = false := beq_eq_false_iff_ne.mpr c30
                            have c30b1 : (t253 != 22) = true := bne_iff_ne.mpr c30
                            obtain rfl := Option.some.inj H
                            exact absurd hTrue.out (by decide)
                        · rw [if_neg c28] at H
                          have c28b0 : (t252 == 22) = false := beq_eq_false_iff_ne.mpr c28
                          have c28b1 : (t252 != 22) = true := bne_iff_ne.mpr c28
                          obtain rfl := Option.some.inj H
                          exact absurd hTrue.out (by decide)
                      · replace c26 := Bool.eq_false_iff.mpr c26
                        subst c26
                        have H1 : ((path_Split.f kj18 t245).bind fun bt255 => (if t246.isNone = true then (if t249.isNone = true then (if bt255.2.2.isNone = true then (if 0 ≤ (wrap64 ((l0.length : Int) - 1)) then (if (wrap64 ((l0.length : Int) - 1)) < (l0.length : Int) then (if t244.toList = (rdOf ByteArray.empty l0 (wrap64 ((l0.length : Int) - 1))).toList then (if t247.toList = t244.toList then (if t248.toList = t245.toList then (if bt255.2.1 = true then (if (wrap64 ((l0.length : Int) - 1)) ≤ (l0.length : Int) then ((halterlaw16_texts.f kj18 bt255.1 (l0.take ((wrap64 ((l0.length : Int) - 1)) : Int).toNat)).bind fun t265 => (if t265 = true then ((halterlaw16_sure.f kj18).bind fun t266 => (some t266)) else (some false))) else (none)) else (some false)) else (some false)) else (some false)) else (some false)) else (none)) else (none)) else (some false)) else (some false)) else (some false))) = some r := by rw [if_neg (show ¬ (false = true) by decide)] at H; exact H
                        clear H
                        have H := H1
                        clear H1
                        replace H := Option.bind_eq_some_iff.mp H
                        obtain ⟨⟨t255, t256, t257⟩, A350, H⟩ := H
                        replace H : (if t246.isNone = true then (if t249.isNone = true then (if t257.isNone = true then (if 0 ≤ (wrap64 ((l0.length : Int) - 1)) then (if (wrap64 ((l0.length : Int) - 1)) < (l0.length : Int) then (if t244.toList = (rdOf ByteArray.empty l0 (wrap64 ((l0.length : Int) - 1))).toList then (if t247.toList = t244.toList then (if t248.toList = t245.toList then (if t256 = true then (if (wrap64 ((l0.length : Int) - 1)) ≤ (l0.length : Int) then ((halterlaw16_texts.f kj18 t255 (l0.take ((wrap64 ((l0.length : Int) - 1)) : Int).toNat)).bind fun t265 => (if t265 = true then ((halterlaw16_sure.f kj18).bind fun t266 => (some t266)) else (some false))) else (none)) else (some false)) else (some false)) else (some false)) else (some false)) else (none)) else (none)) else (some false)) else (some false)) else (some false)) = some r := H
                        have A35 := Aside0.mk A350
                        clear A350
                        rcases t246 with _ | q260
                        · have H1 : (if t249.isNone = true then (if t257.isNone = true then (if 0 ≤ (wrap64 ((l0.length : Int) - 1)) then (if (wrap64 ((l0.length : Int) - 1)) < (l0.length : Int) then (if t244.toList = (rdOf ByteArray.empty l0 (wrap64 ((l0.length : Int) - 1))).toList then (if t247.toList = t244.toList then (if t248.toList = t245.toList then (if t256 = true then (if (wrap64 ((l0.length : Int) - 1)) ≤ (l0.length : Int) then ((halterlaw16_texts.f kj18 t255 (l0.take ((wrap64 ((l0.length : Int) - 1)) : Int).toNat)).bind fun t265 => (if t265 = true then ((halterlaw16_sure.f kj18).bind fun t266 => (some t266)) else (some false))) else (none)) else (some false)) else (some false)) else (some false)) else (some false)) else (none)) else (none)) else (some false)) else (some false)) = some r := by rw [if_pos (show (none : Option Int).isNone = true by rfl)] at H; exact H
                          clear H
                          have H := H1
                          clear H1
                          try simp only [errW_none, errW_some]
                          rcases t249 with _ | q261
                          · have H1 : (if t257.isNone = true then (if 0 ≤ (wrap64 ((l0.length : Int) - 1)) then (if (wrap64 ((l0.length : Int) - 1)) < (l0.length : Int) then (if t244.toList = (rdOf ByteArray.empty l0 (wrap64 ((l0.length : Int) - 1))).toList then (if t247.toList = t244.toList then (if t248.toList = t245.toList then (if t256 = true then (if (wrap64 ((l0.length : Int) - 1)) ≤ (l0.length : Int) then ((halterlaw16_texts.f kj18 t255 (l0.take ((wrap64 ((l0.length : Int) - 1)) : Int).toNat)).bind fun t265 => (if t265 = true then ((halterlaw16_sure.f kj18).bind fun t266 => (some t266)) else (some false))) else (none)) else (some false)) else (some false)) else (some false)) else (some false)) else (none)) else (none)) else (some false)) = some r := by rw [if_pos (show (none : Option Int).isNone = true by rfl)] at H; exact H
                            clear H
                            have H := H1
                            clear H1
                            try simp only [errW_none, errW_some]
                            rcases t257 with _ | q262
                            · have H1 : (if 0 ≤ (wrap64 ((l0.length : Int) - 1)) then (if (wrap64 ((l0.length : Int) - 1)) < (l0.length : Int) then (if t244.toList = (rdOf ByteArray.empty l0 (wrap64 ((l0.length : Int) - 1))).toList then (if t247.toList = t244.toList then (if t248.toList = t245.toList then (if t256 = true then (if (wrap64 ((l0.length : Int) - 1)) ≤ (l0.length : Int) then ((halterlaw16_texts.f kj18 t255 (l0.take ((wrap64 ((l0.length : Int) - 1)) : Int).toNat)).bind fun t265 => (if t265 = true then ((halterlaw16_sure.f kj18).bind fun t266 => (some t266)) else (some false))) else (none)) else (some false)) else (some false)) else (some false)) else (some false)) else (none)) else (none)) = some r := by rw [if_pos (show (none : Option Int).isNone = true by rfl)] at H; exact H
                              clear H
                              have H := H1
                              clear H1
                              try simp only [errW_none, errW_some]
                              obtain ⟨ji36, hji36⟩ : ∃ j_ : Int, (wrap64 ((l0.length : Int) - 1)) = j_ := ⟨_, rfl⟩
                              replace H : (if 0 ≤ (ji36) then (if (ji36) < (l0.length : Int) then (if t244.toList = (rdOf ByteArray.empty l0 (ji36)).toList then (if t247.toList = t244.toList then (if t248.toList = t245.toList then (if t256 = true then (if (ji36) ≤ (l0.length : Int) then ((halterlaw16_texts.f kj18 t255 (l0.take ((ji36) : Int).toNat)).bind fun t265 => (if t265 = true then ((halterlaw16_sure.f kj18).bind fun t266 => (some t266)) else (some false))) else (none)) else (some false)) else (some false)) else (some false)) else (some false)) else (none)) else (none)) = some r := by first | (rw [hji36] at H; exact H) | (simp only [hji36] at H ⊢; exact H)
                              (try rw [hji36] at A35)
                              have hji36w : (IntKind.i64.wrap ((l0.length : Int) - 1)) = ji36 := (i64_w _).trans hji36
                              by_cases c37 : 0 ≤ (ji36)
                              · rw [if_pos c37] at H
                                have c37b0 : decide (0 ≤ (ji36)) = true := decide_eq_true c37
                                clear c37
                                by_cases c38 : (ji36) < (l0.length : Int)
                                · rw [if_pos c38] at H
                                  have c38b0 : decide ((ji36) < (l0.length : Int)) = true := decide_eq_true c38
                                  clear c38
                                  by_cases c39 : t244.toList = (rdOf ByteArray.empty l0 (ji36)).toList
                                  · rw [if_pos c39] at H
                                    have c39b0 : (t244.toList == (rdOf ByteArray.empty l0 (ji36)).toList) = true := beq_iff_eq.mpr c39
                                    have c39b1 : (t244.toList != (rdOf ByteArray.empty l0 (ji36)).toList) = false := bne_eq_false_iff_eq.mpr c39
                                    clear c39
                                    by_cases c40 : t247.toList = t244.toList
                                    · rw [if_pos c40] at H
                                      have c40b0 : (t247.toList == t244.toList) = true := beq_iff_eq.mpr c40
                                      have c40b1 : (t247.toList != t244.toList) = false := bne_eq_false_iff_eq.mpr c40
                                      clear c40
                                      by_cases c41 : t248.toList = t245.toList
                                      · rw [if_pos c41] at H
                                        have c41b0 : (t248.toList == t245.toList) = true := beq_iff_eq.mpr c41
                                        have c41b1 : (t248.toList != t245.toList) = false := bne_eq_false_iff_eq.mpr c41
                                        clear c41
                                        by_cases c42 : t256 = true
                                        · subst c42
                                          have H1 : (if (ji36) ≤ (l0.length : Int) then ((halterlaw16_texts.f kj18 t255 (l0.take ((ji36) : Int).toNat)).bind fun t265 => (if t265 = true then ((halterlaw16_sure.f kj18).bind fun t266 => (some t266)) else (some false))) else (none)) = some r := by rw [if_pos rfl] at H; exact H
                                          clear H
                                          have H := H1
                                          clear H1
                                          have c43b0 := eq_true (of_decide_eq_true (by first | (with_reducible assumption) | assumption) : 0 ≤ (ji36))
                                          by_cases c44 : (ji36) ≤ (l0.length : Int)
                                          · rw [if_pos c44] at H
                                            have c44b0 := eq_true c44
                                            have c44b1 : decide ((ji36) ≤ (l0.length : Int)) = true := decide_eq_true c44
                                            clear c44
                                            replace H := Option.bind_eq_some_iff.mp H
                                            obtain ⟨t265, A450, H⟩ := H
                                            replace H : (if t265 = true then ((halterlaw16_sure.f kj18).bind fun t266 => (some t266)) else (some false)) = some r := H
                                            have A45 := Aside0.mk A450
                                            clear A450
                                            by_cases c46 : t265 = true
                                            · subst c46
                                              have H1 : ((halterlaw16_sure.f kj18).bind fun t266 => (some t266)) = some r := by rw [if_pos rfl] at H; exact H
                                              clear H
                                              have H := H1
                                              clear H1
                                              replace H := Option.bind_eq_some_iff.mp H
                                              obtain ⟨t266, A470, H⟩ := H
                                              replace H : (some t266) = some r := H
                                              have A47 := Aside0.mk A470
                                              clear A470
                                              obtain rfl := Option.some.inj H
                                              go_wp2_with (first | ((with_reducible refine gate_callee (f := 7) rfl ?_); refine goesL_ (some 87) rfl rfl Tryd.func7 (by kernel_rfl) rfl #[.string t245] rfl (by (try simp only [List.map_toArray, List.map_cons, List.map_nil]); first | done | rfl | (simp only [List.length_drop, List.length_take]; rfl)) ?_; (with_reducible refine (path_Split.calls kj18 t245 t255 true none _ A35.out).mono ?_); rintro e w48 ⟨v258, rfl, ho0, hb⟩; refine ⟨_, rfl, ?_⟩; have n0_ := Aside0.mk (Kd.R_lower ho0 (below_size (by repeat (first | (with_reducible first | exact HB.out | apply below_alloc | apply pw_below_drewN | apply below_drew1) | exact HB.out)))); have n1_ := Aside0.mk (below_step (by repeat (first | (with_reducible first | exact HB.out | apply below_alloc | apply pw_below_drewN | apply below_drew1) | exact HB.out)) hb); clear HB; have HO259 := n0_; have HB := n1_; clear n0_ n1_; (try clear hb); (try clear hb2); (try clear hk); (try clear hi); (try clear ho0); (try simp only [errW_none, errW_some]); have p263 : 0 ≤ ((ji36) : Int) := of_decide_eq_true (by first | (with_reducible assumption) | assumption); have q263 : (ji36) < (l0.length : Int) := of_decide_eq_true (by first | (with_reducible assumption) | assumption); obtain ⟨ad263, e263, hx263_0⟩ := Kd.at_string HR0.out (ji36) p263 q263; cases e263; replace hx263_0 := (HB.out.cell (World.block_lt_of_cell? w _ hx263_0)).trans hx263_0; replace p263 := eq_true p263; replace q263 := eq_true q263; obtain ⟨i049, hi049, _, hsz49, _⟩ := info_parts info9; obtain ⟨hcut49, hA49, hC49⟩ := print_take_of (P := Tryd.prog) Value.string (⟨#[]⟩ : ByteArray) 23 9 .i64 Tryd.underlying23 hi049 hsz49 (some ad263) c0 l0 (ji36) (of_decide_eq_true (by first | (with_reducible assumption) | assumption)) (of_decide_eq_true (by first | (with_reducible assumption) | assumption)) HC0.out; have HR264 := Aside0.mk (Kd.C_of_reads (h1 := fun _ => rfl) (hA49 _ (Kd.reads_of_C HR0.out))); have HC264 := Aside0.mk hC49; clear hA49 hC49 hi049 hsz49; obtain ⟨Ao50, co50, eo50⟩ := Kd.R_slice HO259.out; subst eo50) | (go_at_call 11; (rw [show ji36.toNat = (l0.take ji36.toNat).length by rw [List.length_take]; have h1_ := of_eq_true p263; have h2_ := of_eq_true q263; omega]); (with_reducible refine (halterlaw16_texts.calls kj18 _ _ t255 _ _ (l0.take ((ji36) : Int).toNat) true _ ?side1 ?side2 ?side3 ?side4 A45.out).mono ?_); (case side1 => repeat (first | exact (Kd.R_reads' HO259.out).2.2 | (with_reducible refine Kd.C_alloc ?_ _) | (with_reducible refine Kd.C_drewN ?_ _) | (with_reducible refine Kd.C_drew ?_))); (case side2 => exact (Kd.R_reads' HO259.out).2.1); (case side3 => repeat (first | exact (Kd.C_below HR264.out HB.out) | (with_reducible refine Kd.C_alloc ?_ _) | (with_reducible refine Kd.C_drewN ?_ _) | (with_reducible refine Kd.C_drew ?_))); (case side4 => exact HC264.out); rintro e w' ⟨rfl, ⟨nd, rfl⟩⟩) | (go_at_call 6; (with_reducible refine (halterlaw16_sure.calls kj18  t266 _ A47.out).mono ?_); rintro e w51 ⟨rfl, hb⟩; have n0_ := Aside0.mk (Kd.R_below (by (with_reducible repeat (first | apply Kd.R_alloc | apply Kd.R_drewN | apply Kd.R_drew)); exact HO259.out) hb); have n1_ := Aside0.mk (below_step (by repeat (first | (with_reducible first | exact HB.out | apply below_alloc | apply pw_below_drewN | apply below_drew1) | exact HB.out)) hb); clear HO259; clear HB; have HO259 := n0_; have HB := n1_; clear n0_ n1_; (try clear hb); (try clear hb2); (try clear hk); (try clear hi)))
                                              go_ret
                                              exact ⟨by first | rfl | (simp [errW_none, errW_some] <;> rfl) | (simp only [← hji36]; first | rfl | (simp [errW_none, errW_some] <;> rfl)) | (simp [*, errW_none, errW_some] <;> rfl), by repeat (first | (with_reducible first | exact HB.out | apply below_alloc | apply pw_below_drewN | apply below_drew1) | exact HB.out)⟩
                                            · replace c46 := Bool.eq_false_iff.mpr c46
                                              subst c46
                                              have H1 : (some false) = some r := by rw [if_neg (show ¬ (false = true) by decide)] at H; exact H
                                              clear H
                                              have H := H1
                                              clear H1
                                              obtain rfl := Option.some.inj H
                                              exact absurd hTrue.out (by decide)
                                          · rw [if_neg c44] at H
                                            exact absurd H (by simp)
                                        · replace c42 := Bool.eq_false_iff.mpr c42
                                          subst c42
                                          have H1 : (some false) = some r := by rw [if_neg (show ¬ (false = true) by decide)] at H; exact H
                                          clear H
                                          have H := H1
                                          clear H1
                                          obtain rfl := Option.some.inj H
                                          exact absurd hTrue.out (by decide)
                                      · rw [if_neg c41] at H
                                        have c41b0 : (t248.toList == t245.toList) = false := beq_eq_false_iff_ne.mpr c41
                                        have c41b1 : (t248.toList != t245.toList) = true := bne_iff_ne.mpr c41
                                        obtain rfl := Option.some.inj H
                                        exact absurd hTrue.out (by decide)
                                    · rw [if_neg c40] at H
                                      have c40b0 : (t247.toList == t244.toList) = false := beq_eq_false_iff_ne.mpr c40
                                      have c40b1 : (t247.toList != t244.toList) = true := bne_iff_ne.mpr c40
                                      obtain rfl := Option.some.inj H
                                      exact absurd hTrue.out (by decide)
                                  · rw [if_neg c39] at H
                                    have c39b0 : (t244.toList == (rdOf ByteArray.empty l0 (ji36)).toList) = false := beq_eq_false_iff_ne.mpr c39
                                    have c39b1 : (t244.toList != (rdOf ByteArray.empty l0 (ji36)).toList) = true := bne_iff_ne.mpr c39
                                    obtain rfl := Option.some.inj H
                                    exact absurd hTrue.out (by decide)
                                · rw [if_neg c38] at H
                                  exact absurd H (by simp)
                              · rw [if_neg c37] at H
                                exact absurd H (by simp)
                            · have H1 : (some false) = some r := by rw [if_neg (show ¬ (some q262).isNone = true by simp)] at H; exact H
                              clear H
                              have H := H1
                              clear H1
                              try simp only [errW_none, errW_some]
                              obtain rfl := Option.some.inj H
                              exact absurd hTrue.out (by decide)
                          · have H1 : (some false) = some r := by rw [if_neg (show ¬ (some q261).isNone = true by simp)] at H; exact H
                            clear H
                            have H := H1
                            clear H1
                            try simp only [errW_none, errW_some]
                            obtain rfl := Option.some.inj H
                            exact absurd hTrue.out (by decide)
                        · have H1 : (some false) = some r := by rw [if_neg (show ¬ (some q260).isNone = true by simp)] at H; exact H
                          clear H
                          have H := H1
                          clear H1
                          try simp only [errW_none, errW_some]
                          obtain rfl := Option.some.inj H
                          exact absurd hTrue.out (by decide)
                · rw [if_neg c17] at H
                  exact absurd H (by simp)

end Go.Proofs.YtkfgaebakcpkhaaDoor.PA
