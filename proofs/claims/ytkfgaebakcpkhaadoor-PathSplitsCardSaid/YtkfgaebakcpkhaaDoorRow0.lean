/-
  What the rows of this seat share: the listed variables; a slice of strings that came in.
-/
import Derived.Test.YtkfgaebakcpkhaaDoorRows
import Derived.Test.YtkfgaebakcpkhaaDoorCards
import Derived.Test.YtkfgaebakcpkhaaDoorTie
import Derived.Test.YtkfgaebakcpkhaaDoorPAx0
import Derived.ChangeSame
import Derived.ChangeVars
import Derived.ChangeMaps5
import Derived.SliceStrings
import Derived.JoinedOf
import Derived.RowKit
import Derived.RowKitTokens
import Derived.LaidLaws
import Derived.LaidHandle
import Derived.LaidSub
import Derived.Stop.Joined
import Derived.WalkKit
import Derived.ProofKit
import Derived.OpenShut
import Derived.ChangeOld
import Derived.Deep.Slices
import Derived.Deep.Fields
import Derived.Lib.SmallJoins
import Derived.SevenTiedAt
import Derived.SizedLaws
namespace Go.Proofs.YtkfgaebakcpkhaaDoor.PA
open Go.ChangeShapes Go.WideShapes Go.RowKit Go.Deep Go.Joins Go.Proofs.YtkfgaebakcpkhaaDoorW.PrintWords

theorem own : ownKnob Tryd.prog.godebug = none := by kernel_rfl
theorem laidOut : laidOutB Tryd.prog = true := by kernel_rfl
theorem et : Tryd.prog.globalNamed "errors.errorType" = some 0 := by kernel_rfl
theorem rt : (Tryd.prog.cutTypes.find? (·.1 == "internal/reflectlite.rtype")).map (·.2) = some 91 := by kernel_rfl
theorem oneRow : ((List.range Tryd.prog.types.size).filter fun t => Tryd.prog.rowNamed t [101, 114, 114, 111, 114]) = [25] := by kernel_rfl
theorem gok_of_laid {W : World} {l : List (String × DataW Unit)} (hm : ("errors.errorType", Rows.laid_errors_errorType) ∈ l) (h : laidMetH Tryd.prog l W) : GOK W := by
  obtain ⟨name, u, ty, e1, e2, e3, e4, e5⟩ := (laidMetH_iff.1 h).2 _ (List.mem_filter.2 ⟨hm, by rfl⟩)
  have en : name = [101, 114, 114, 111, 114] := (Option.some.inj e1).symm
  subst en
  obtain rfl := Option.some.inj (rt.symm.trans e2)
  have hm : ty ∈ (List.range Tryd.prog.types.size).filter fun t => Tryd.prog.rowNamed t [101, 114, 114, 111, 114] := List.mem_filter.2 ⟨List.mem_range.2 e3, e4⟩
  rw [oneRow] at hm
  obtain rfl := List.mem_singleton.1 hm
  have hh : typeHandle Tryd.prog 25 = .pointer (some ⟨4, 25, none⟩) := by kernel_rfl
  rw [hh] at e5
  unfold GOK
  simpa using World.var?_cell et e5 0

/-- Plain data as cells. -/
def cellOf {H : Type} : DataW H → Value
  | .lit (.int k n) => .int k n
  | .lit (.string s) => .string ⟨s.toArray⟩
  | .lit (.bool b) => .bool b
  | _ => undef
def partsOf {H : Type} : DataW H → List (DataW H)
  | .agg ds => ds
  | d => [d]
/-- A world that holds given cells in given variables. -/
noncomputable def laidWorld (os : Os) (vars : List (Nat × Array Value)) : World :=
  let w0 := World.holding Tryd.prog os ⟨#[], #[], []⟩
  { w0 with heap := vars.foldl (fun h v => h.modify v.1 fun
      | .cells _ t frozen => .cells v.2 t frozen
      | o => o) w0.heap }

/-- The slice of strings that came in, as a list. -/
theorem strings_in {H : Type} {enc : TypeId × Value → H} {W : World} {t : TypeId} (ht : Tryd.prog.underlying t = some (.slice 9)) {a : Option Addr} {len cap : Nat} {d : DataW H} {p : List MemPlace} (h : DataW.Trod enc Tryd.prog W 0 (fun _ => true) true t (.slice a len cap) d p) :
    ∃ l : List ByteArray, l.length = len ∧ Kd.C Kd.string W a l.length l ∧ len ≤ cap ∧ ∀ s ∈ l, s.size ≤ maxLen := by
  obtain ⟨fuel, hf⟩ := h
  rcases open_strings ht Tryd.underlying9 (by kernel_rfl) hf with ⟨hcs, _⟩ | ⟨ad, len', cap', ss, hcs, _, hl, hm, hlen, _, hc, hsz⟩
  · simp [Value.cells] at hcs
    obtain ⟨rfl, rfl, rfl⟩ := hcs
    exact ⟨[], rfl, ⟨rfl, by simp, fun h => absurd h (Nat.lt_irrefl 0)⟩, Nat.le_refl _, fun s hs => absurd hs List.not_mem_nil⟩
  · simp [Value.cells] at hcs
    obtain ⟨rfl, rfl, rfl⟩ := hcs
    have hsl : ss.length = cap := hlen
    refine ⟨ss.take len, by rw [List.length_take]; omega, ⟨rfl, ?_, fun _ => ⟨ad, rfl, fun j x hj => ⟨[.string x], rfl, rfl, fun i u hu => ?_⟩⟩⟩, hl, fun s hs => hsz s (List.mem_of_mem_take hs)⟩
    · rw [List.length_take]
      simp only [maxLen] at hm
      omega
    · obtain rfl : i = 0 := by
        rcases i with _ | i
        · rfl
        · simp at hu
      simp at hu
      subst hu
      have hjl : j < len := by
        rcases Nat.lt_or_ge j len with h | h
        · exact h
        · rw [List.getElem?_eq_none (by rw [List.length_take]; omega)] at hj; cases hj
      rw [List.getElem?_take_of_lt hjl] at hj
      have := hc j (by omega)
      rw [List.getD_eq_getElem?_getD, hj] at this
      simpa [show Kd.string.sz = 1 from rfl] using this
end Go.Proofs.YtkfgaebakcpkhaaDoor.PA
