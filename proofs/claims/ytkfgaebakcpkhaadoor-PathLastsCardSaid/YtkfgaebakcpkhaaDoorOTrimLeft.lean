/-
  strings.TrimLeft at an ASCII cutset, by the shelf's contract, in the print's form.
-/
import Derived.Test.YtkfgaebakcpkhaaDoorPAx0
import Derived.Test.YtkfgaebakcpkhaaDoorOShelf
import Derived.Shelf.Strings.SlTrimAscii
namespace Go.Proofs.YtkfgaebakcpkhaaDoor.PA
open Go.RowKit Go.Shelf Go.Lib

def strings_TrimLeft.f (a0 a1 : ByteArray) : Option ByteArray :=
  if a1.size < 4294967281 ∧ (a1.data.toList.all fun b => b.toNat < 128) = true then some ⟨(Lib.trimLeftS a0.data.toList a1.data.toList).toArray⟩ else none
theorem strings_TrimLeft.calls (a0 a1 : ByteArray) (r : ByteArray) (w : World) (h : strings_TrimLeft.f a0 a1 = some r) :
    Calls Tryd.prog 25 #[.string a0, .string a1] w fun e w' => e = .returned (.string r) ∧ Below w.heap.size w w' := by
  unfold strings_TrimLeft.f at h
  split at h
  · rename_i hc
    obtain rfl := Option.some.inj h
    have hall := List.all_eq_true.1 hc.2
    have hcon := Any.strings_TrimLeft_laid Tryd.lays161 (by kernel_rfl) a0 a1 w hc.1 (fun j b hj => by simpa using hall b (List.mem_of_getElem? hj))
    change Calls Tryd.prog 25 _ _ _ at hcon
    exact hcon
  · cases h
end Go.Proofs.YtkfgaebakcpkhaaDoor.PA
