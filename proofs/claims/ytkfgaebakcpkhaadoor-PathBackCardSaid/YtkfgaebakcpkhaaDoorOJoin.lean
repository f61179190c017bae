/-
  strings.Join, by the shelf's contract, in the print's form.
-/
import Derived.Test.YtkfgaebakcpkhaaDoorPAx0
import Derived.Test.YtkfgaebakcpkhaaDoorOShelf
namespace Go.Proofs.YtkfgaebakcpkhaaDoor.PA
open Go.RowKit Go.Shelf Go.Lib Go.Proofs.YtkfgaebakcpkhaaDoorW.PrintWords

theorem builderExtra : Builder.Extra Tryd.prog Tryd.lays156_ren where
  sizeBuilder := by kernel_rfl
  liesBuilder := by kernel_rfl
  t5 := Tryd.underlying5
  a5 := Tryd.isAgg5
  z5 := Tryd.sizeOf5
  v5 := Tryd.zeroValue5
  infoByte := by kernel_rfl
  cellsByte := by kernel_rfl
  sizeByte := by kernel_rfl
  neB5 := by decide
/-- The strings of a row, cell by cell. -/
theorem strings_at {w : World} {A : Option Addr} {l : List ByteArray} (h : Kd.C Kd.string w A l.length l) (hp : 0 < l.length) :
    ∃ b o, A = some ⟨b, o, none⟩ ∧ b < w.heap.size ∧ ∀ (j : Nat) x, l[j]? = some x → w.cell? ⟨b, o + j, none⟩ = some (.string x) := by
  obtain ⟨ad, rfl, hc⟩ := h.2.2 hp
  have hcell : ∀ (j : Nat) x, l[j]? = some x → w.cell? (ad.add j) = some (.string x) := fun j x hx => by
    obtain ⟨c, _, hK, hc'⟩ := hc j x hx
    obtain rfl : c = [.string x] := hK
    have := hc' 0 _ rfl
    simpa [show Kd.string.sz = 1 from rfl] using this
  have h0 := hcell 0 _ (List.getElem?_eq_getElem hp)
  rw [show ad.add 0 = ad by simp [Addr.add]] at h0
  have hsp := World.cell?_spot h0
  have hlt := World.block_lt_of_cell? w _ h0
  obtain ⟨b, o, sp⟩ := ad
  obtain rfl : sp = none := hsp
  refine ⟨b, o, rfl, hlt, fun j x hx => ?_⟩
  have := hcell j x hx
  simp only [Addr.add] at this
  split at this
  · rename_i h0
    subst h0
    exact this
  · exact this
def strings_Join.f (l0 : List ByteArray) (a1 : ByteArray) : Option ByteArray :=
  if l0.length ≤ 140737488355328 ∧ (Lib.join (l0.map (·.data.toList)) a1.data.toList).length ≤ 140737488355328 then some ⟨(Lib.join (l0.map (·.data.toList)) a1.data.toList).toArray⟩ else none
theorem strings_Join.calls (A0 : Option Addr) (c0 : Nat) (l0 : List ByteArray) (a1 : ByteArray) (r : ByteArray) (w : World) (hr0 : Kd.C Kd.string w A0 l0.length l0) (hc0 : l0.length ≤ c0) (h : strings_Join.f l0 a1 = some r) :
    Calls Tryd.prog 26 #[.slice A0 l0.length c0, .string a1] w fun e w' => e = .returned (.string r) ∧ Below w.heap.size w w' := by
  unfold strings_Join.f at h
  split at h
  · rename_i hl
    obtain rfl := Option.some.inj h
    rcases Nat.eq_zero_or_pos l0.length with h0 | hp
    · obtain rfl := List.eq_nil_of_length_eq_zero h0
      have hcon := Any.strings_Join_none Tryd.lays156 builderExtra A0 c0 a1 w
      change Calls Tryd.prog 26 _ _ _ at hcon
      exact hcon.mono fun e w' ⟨he, hw⟩ => ⟨he, hw ▸ Below.refl _ _⟩
    · obtain ⟨b, o, rfl, hb, hc⟩ := strings_at hr0 hp
      have hcon := Any.strings_Join Tryd.lays156 builderExtra b o c0 l0 a1 w hc hb hl.1 hc0 hl.2
      change Calls Tryd.prog 26 _ _ _ at hcon
      exact hcon
  · cases h
end Go.Proofs.YtkfgaebakcpkhaaDoor.PA
