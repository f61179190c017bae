/-
  strings.TrimRight at one ASCII byte, by the shelf's contract, in the print's form.
-/
import Derived.Test.YtkfgaebakcpkhaaDoorPAx0
import Derived.Test.YtkfgaebakcpkhaaDoorOShelf
namespace Go.Proofs.YtkfgaebakcpkhaaDoor.PA
open Go.RowKit Go.Shelf Go.Lib

def strings_TrimRight.f (a0 a1 : ByteArray) : Option ByteArray :=
  if a0.size ≤ 9223372036854775807 ∧ a1 = ⟨#[47]⟩ then some ⟨(Lib.trimRightB a0.data.toList 47).toArray⟩ else none
theorem strings_TrimRight.calls (a0 a1 : ByteArray) (r : ByteArray) (w : World) (h : strings_TrimRight.f a0 a1 = some r) :
    Calls Tryd.prog 23 #[.string a0, .string a1] w fun e w' => e = .returned (.string r) ∧ Below w.heap.size w w' := by
  unfold strings_TrimRight.f at h
  split at h
  · rename_i hc
    obtain rfl := Option.some.inj h
    obtain ⟨hs, rfl⟩ := hc
    have hcon := Any.strings_TrimRight_one Tryd.lays162 a0 47 (by decide) w hs
    change Calls Tryd.prog 23 _ _ _ at hcon
    exact hcon.mono fun e w' ⟨he, hw⟩ => ⟨he, hw ▸ Below.refl _ _⟩
  · cases h
end Go.Proofs.YtkfgaebakcpkhaaDoor.PA
