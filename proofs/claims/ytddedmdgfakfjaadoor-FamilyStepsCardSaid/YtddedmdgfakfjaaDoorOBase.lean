import Derived.Test.YtddedmdgfakfjaaDoorProg
import Derived.Below
namespace Go.Proofs.YtddedmdgfakfjaaDoor
open Go.RowKit

/-- The variable errors.errorType reads as the program's text lays it. -/
def GOK (w : World) : Prop := w.cell? ⟨0, 0, none⟩ = some (.iface 94 (.agg #[.pointer (some ⟨1, 29, none⟩)]))
theorem GOK.lt {w : World} (h : GOK w) : 0 < w.heap.size := by
  rcases Nat.eq_zero_or_pos w.heap.size with h0 | h0
  · unfold GOK at h
    simp [World.cell?, h0] at h
  · exact h0
theorem GOK.below {w W : World} (h : GOK w) (hb : Below w.heap.size w W) : GOK W :=
  (hb.cell (p := ⟨0, 0, none⟩) h.lt).trans h
end Go.Proofs.YtddedmdgfakfjaaDoor
