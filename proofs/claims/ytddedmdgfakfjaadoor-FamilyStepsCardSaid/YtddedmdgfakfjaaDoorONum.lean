/-
  halter/halterlaw24.num: the number of an error of type api.Errno, 0 of nil: by errors.As' contract.
-/
import Derived.Test.YtddedmdgfakfjaaDoorFAx0
import Derived.Test.YtddedmdgfakfjaaDoorOAs
namespace Go.Proofs.YtddedmdgfakfjaaDoor.FA
open Go.RowKit

def halterlaw24_num.f (a0 : Option Int) : Option Int := some (a0.getD 0)
theorem num_nil (w : World) : Calls Tryd.prog 15 #[.nilIface] w fun e w' => e = .returned (.int .i64 0) ∧ Below w.heap.size w w' := by
  go_enter Tryd.func15, Tryd.ntmps15
  go_wp2
  go_ret
  exact ⟨rfl, (Below.refl _ _).alloc (Nat.le_refl _) _⟩
set_option maxHeartbeats 1000000 in
theorem num_hit (c : Int) (w : World) (hG : GOK w) : Calls Tryd.prog 15 #[.iface 55 (.int .i64 c)] w fun e w' => e = .returned (.int .i64 c) ∧ Below w.heap.size w w' := by
  have hgA : GOK (w.alloc (.cells #[.int .i64 0] 55)) := hG.below ((Below.refl _ _).alloc (Nat.le_refl _) _)
  have htA : (w.alloc (.cells #[.int .i64 0] 55)).cell? ⟨w.heap.size, 0, none⟩ = some (.int .i64 0) := by simp
  have hfA : (w.alloc (.cells #[.int .i64 0] 55)).frozen? ⟨w.heap.size, 0, none⟩ = false := by simp
  go_enter Tryd.func15, Tryd.ntmps15
  go_wp2_with (go_at_call 31; refine (OAs.as_hit c _ (.int .i64 0) _ hgA htA hfA).mono ?_; rintro e w' ⟨rfl, rfl⟩)
  go_ret
  exact ⟨rfl, ((((((Below.refl _ _).alloc (Nat.le_refl _) _).alloc (by simp) _).alloc (by simp; omega) _).alloc (by simp; omega) _).alloc (by simp; omega) _)⟩
theorem halterlaw24_num.calls (a0 : Option Int) (r : Int) (w : World) (h : halterlaw24_num.f a0 = some r) (hG : GOK w := by first | assumption | exact hG | exact GOK.below hG (by repeat (first | (with_reducible first | exact HB.out | apply below_alloc | apply pw_below_drewN | apply below_drew1) | exact HB.out))) :
    Calls Tryd.prog 15 #[errW a0] w fun e w' => e = .returned (.int .i64 r) ∧ Below w.heap.size w w' := by
  obtain rfl := Option.some.inj h
  cases a0 with
  | none => exact num_nil w
  | some c => exact num_hit c w hG
end Go.Proofs.YtddedmdgfakfjaaDoor.FA
