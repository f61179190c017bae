/-
  slices.IndexFunc at []Member with the closure of at, and slices.Clone at []Member, by the shelf's contracts, in the print's form.
-/
import Derived.Test.YtddedmdgfakfjaaDoorFAx0
import Derived.Test.YtddedmdgfakfjaaDoorOShelf
namespace Go.Proofs.YtddedmdgfakfjaaDoor.FA
open Go.RowKit Go.Shelf Go.Lib Go.Proofs.YtddedmdgfakfjaaDoorW.PrintWords
set_option linter.unusedVariables false

instance : Inhabited S39 := ⟨z39⟩
def isP (a : Int) (o : S39) : Bool := o.f0 == a
def slices_IndexFunc.f (l0 : List S39) (a1 : Int) : Option Int := some (Lib.idxBy (fun _ y => isP a1 y) l0 default)
def slices_Clone.f (l0 : List S39) : Option (List S39) := if l0.length < 1000000 then some l0 else none

def encS (x : S39) : List Value := [.int .i64 x.f0, .int .i64 x.f1, .bool x.f2, .int .u32 x.f3]
theorem isAgg39' (w : World) : (isAgg 39).run Tryd.prog w = .ok true w := by kernel_rfl
theorem sizeOf39' (w : World) : (Go.sizeOf 39).run Tryd.prog w = .ok 4 w := by kernel_rfl
theorem at_cells {w : World} {A : Option Addr} {l : List S39} (h : Kd.C k39 w A l.length l) (hp : 0 < l.length) :
    ∃ b off, A = some ⟨b, off, none⟩ ∧ b < w.heap.size ∧ ∀ j x, l[j]? = some x → ∀ i v, (encS x)[i]? = some v → w.cell? ⟨b, off + j * 4 + i, none⟩ = some v := by
  obtain ⟨ad, rfl, hc⟩ := h.2.2 hp
  have hsp : ad.spot = none ∧ ad.block < w.heap.size := by
    obtain ⟨c, _, hK, hcell⟩ := hc 0 _ (List.getElem?_eq_getElem hp)
    obtain rfl := k39_open hK
    have h0 := hcell 0 _ rfl
    have : ad.add (0 * k39.sz + 0) = ad := by simp [Addr.add]
    rw [this] at h0
    exact ⟨World.cell?_spot h0, World.block_lt_of_cell? w _ h0⟩
  obtain ⟨b, off, sp⟩ := ad
  obtain ⟨rfl, hlt⟩ := hsp
  refine ⟨b, off, rfl, hlt, fun j x hj i v hv => ?_⟩
  obtain ⟨c, _, hK, hcell⟩ := hc j x hj
  obtain rfl := k39_open hK
  have := hcell i v hv
  rw [add_at] at this
  rw [Nat.add_assoc]
  exact this

set_option maxHeartbeats 1000000 in
theorem closure34 (x : S39) (a : Int) (g : Nat) (W : World) (hbk : W.heap[g]? = some (.cells #[.int .i64 a] 3 (0, 0))) :
    Calls Tryd.prog 34 #[.agg #[.int .i64 x.f0, .int .i64 x.f1, .bool x.f2, .int .u32 x.f3], .pointer (some ⟨g, 0, none⟩)] W fun e w' => e = .returned (.bool (isP a x)) ∧ Below W.heap.size W w' := by
  have h0 : W.cell? ⟨g, 0, none⟩ = some (.int .i64 a) := (blk_cell hbk 0).trans rfl
  have hlt : g < W.heap.size := blk_lt hbk
  go_enter Tryd.func34, Tryd.ntmps34
  go_wp2
  go_ret
  exact ⟨by simp [isP], (Below.refl _ _).alloc (Nat.le_refl _) _⟩
set_option maxHeartbeats 1000000 in
theorem closure30 (x : S39) (a : Int) (g : Nat) (W : World) (hbk : W.heap[g]? = some (.cells #[.int .i64 a] 3 (0, 0))) :
    Calls Tryd.prog 30 #[.agg #[.int .i64 x.f0, .int .i64 x.f1, .bool x.f2, .int .u32 x.f3], .pointer (some ⟨g, 0, none⟩)] W fun e w' => e = .returned (.bool (isP a x)) ∧ Below W.heap.size W w' := by
  have h0 : W.cell? ⟨g, 0, none⟩ = some (.int .i64 a) := (blk_cell hbk 0).trans rfl
  have hlt : g < W.heap.size := blk_lt hbk
  go_enter Tryd.func30, Tryd.ntmps30
  go_wp2
  go_ret
  exact ⟨by simp [isP], (Below.refl _ _).alloc (Nat.le_refl _) _⟩

set_option maxHeartbeats 1000000 in
theorem index_none (A : Option Addr) (c : Nat) (fv : Value) (w : World) : Calls Tryd.prog 33 #[.slice A 0 c, fv] w fun e w' => e = .returned (.int .i64 (-1)) ∧ w' = w := by
  go_enter Tryd.func33, Tryd.ntmps33
  go_wp2
  refine wp_loop_rounds 1 ?_
  rw [rounds_succ]
  go_wp2
  go_ret
  exact ⟨rfl, rfl⟩
theorem index_of {fv : Nat} {cl : Nat} (l0 : List S39) (A0 : Option Addr) (c0 : Nat) (a1 : Int) (w : World) (hr0 : Kd.C k39 w A0 l0.length l0) {g : Nat} (hbk : w.heap[g]? = some (.cells #[.int .i64 a1] 3 (0, 0)))
    (ef : ∀ args w, (callFunc cl args).run Tryd.prog w = .ok (.enter cl args) w)
    (hcl : ∀ (x : S39) (W : World), W.heap[g]? = some (.cells #[.int .i64 a1] 3 (0, 0)) → Calls Tryd.prog cl #[.agg #[.int .i64 x.f0, .int .i64 x.f1, .bool x.f2, .int .u32 x.f3], .pointer (some ⟨g, 0, none⟩)] W fun e w' => e = .returned (.bool (isP a1 x)) ∧ Below W.heap.size W w') :
    Calls Tryd.prog 33 #[.slice A0 l0.length c0, .func (.func cl) #[] #[.pointer (some ⟨g, 0, none⟩)]] w fun e w' => e = .returned (.int .i64 (Lib.idxBy (fun _ y => isP a1 y) l0 default)) ∧ Below w.heap.size w w' := by
  rcases Nat.eq_zero_or_pos l0.length with h0 | hp
  · obtain rfl := List.eq_nil_of_length_eq_zero h0
    exact (index_none A0 c0 _ w).mono fun e w' ⟨he, hw⟩ => ⟨he, hw ▸ Below.refl _ _⟩
  · obtain ⟨b, off, rfl, hb, hc⟩ := at_cells hr0 hp
    have hcon := AnyQ.slices_IndexFunc Tryd.indexMem 4 isAgg39' sizeOf39' encS (fun _ => rfl) (isP a1) cl #[.pointer (some ⟨g, 0, none⟩)] ef b off l0.length c0 l0 w
      (fun W x hW => (hcl x W ((hW.block g (blk_lt hbk)).trans hbk)).mono fun e w' ⟨he, hb'⟩ => ⟨he, below_then hW hW.size hb'⟩) (Nat.le_refl _) hr0.2.1 hb
      (fun j hj i v hv => hc j _ (by rw [getElem!_pos l0 j hj]; exact List.getElem?_eq_getElem hj) i v hv)
    change Calls Tryd.prog 33 _ _ _ at hcon
    rw [List.take_length] at hcon
    exact hcon
theorem slices_IndexFunc.calls (A0 : Option Addr) (c0 : Nat) (l0 : List S39) (a1 : Int) (r : Int) (w : World) (hr0 : Kd.C k39 w A0 l0.length l0) (hc0 : l0.length ≤ c0) (h : slices_IndexFunc.f l0 a1 = some r)
    {g : Nat} (hbk : w.heap[g]? = some (.cells #[.int .i64 a1] 3 (0, 0)) := by (with_reducible repeat (first | refine blk_drewN ?_ _ | refine blk_drew ?_ | refine blk_alloc ?_ _)); exact Aside0.out (by assumption)) :
    Calls Tryd.prog 33 #[.slice A0 l0.length c0, .func (.func 34) #[] #[.pointer (some ⟨g, 0, none⟩)]] w fun e w' => e = .returned (.int .i64 r) ∧ Below w.heap.size w w' := by
  obtain rfl := Option.some.inj h
  exact index_of (fv := 0) l0 A0 c0 a1 w hr0 hbk (enters_of Tryd.func34 (by kernel_rfl) rfl) (fun x W hW => closure34 x a1 g W hW)

theorem flat_get {l : List S39} {t : Nat} (ht : t < l.length * 4) : ∃ x, l[t / 4]? = some x ∧ (l.flatMap encS)[t]? = (encS x)[t % 4]? := by
  induction l generalizing t with
  | nil => simp at ht
  | cons a l ih =>
    rw [List.flatMap_cons]
    rcases Nat.lt_or_ge t 4 with h | h
    · refine ⟨a, by rw [show t / 4 = 0 by omega]; rfl, ?_⟩
      rw [List.getElem?_append_left (by simpa [encS] using h), show t % 4 = t by omega]
    · obtain ⟨x, h1, h2⟩ := ih (t := t - 4) (by simp at ht; omega)
      refine ⟨x, ?_, ?_⟩
      · rw [show t / 4 = (t - 4) / 4 + 1 by omega, List.getElem?_cons_succ]; exact h1
      · rw [List.getElem?_append_right (by simpa [encS] using h), show t % 4 = (t - 4) % 4 by omega]
        simpa [encS] using h2
theorem flat_len (l : List S39) : (l.flatMap encS).length = l.length * 4 := by
  induction l with
  | nil => rfl
  | cons a l ih => rw [List.flatMap_cons, List.length_append, ih]; simp [encS]; omega
theorem flat_reps (l : List S39) (w : World) (b : Nat) (ok : Nat → Prop) : Reps (k39.M w b ok) 4 l (l.flatMap encS) := by
  refine ⟨flat_len l, ?_⟩
  induction l with
  | nil => intro j p hj; simp at hj
  | cons a l ih =>
    intro j p hj
    cases j with
    | zero =>
      simp at hj
      subst hj
      exact k39_mkM _ _ _ _
    | succ j =>
      have h1 := ih j p (by simpa using hj)
      rw [List.flatMap_cons, show (j + 1) * 4 = (encS a).length + j * 4 by simp [encS]; omega, List.drop_length_add_append]
      exact h1

theorem clone_empty (ad : Addr) (c : Nat) (w : World) : Calls Tryd.prog 25 #[.slice (some ad) 0 c] w fun e w' => ∃ v0_ : Value, e = .returned v0_ ∧ Kd.R k39 39 w' w.heap.size (fun _ => True) v0_ [] ∧ Below w.heap.size w w' := by
  have q := fun (W : World) a n c n' c' => Lib.run_eql_slice_nil (P := Tryd.prog) W 26 39 a n c n' c' Tryd.underlying26
  go_enter Tryd.func25, Tryd.ntmps25
  go_wp2
  go_ret
  refine ⟨_, rfl, ⟨fun _ _ => trivial, [], World.ownsRow_made w #[] 0 (Nat.le_refl _) (Nat.zero_le _) (by simp), Reps.none _ _⟩, (Below.refl _ _).alloc (Nat.le_refl _) _⟩

theorem slices_Clone.calls (A0 : Option Addr) (c0 : Nat) (l0 : List S39) (r : List S39) (w : World) (hr0 : Kd.C k39 w A0 l0.length l0) (hc0 : l0.length ≤ c0) (h : slices_Clone.f l0 = some r) :
    Calls Tryd.prog 25 #[.slice A0 l0.length c0] w fun e w' => ∃ v0_ : Value, e = .returned v0_ ∧ Kd.R k39 39 w' w.heap.size (fun _ => True) v0_ r ∧ Below w.heap.size w w' := by
  unfold slices_Clone.f at h
  split at h
  · rename_i hl
    obtain rfl := Option.some.inj h
    obtain ⟨i0, hi, hz0, hz1, hz2⟩ := info_parts info39
    rcases A0 with _ | ad
    · have h0 : l0.length = 0 := by
        rcases Nat.eq_zero_or_pos l0.length with h0 | hp
        · exact h0
        · obtain ⟨ad, e, _⟩ := hr0.2.2 hp
          cases e
      obtain rfl := List.eq_nil_of_length_eq_zero h0
      have hcon := AnyE.slices_Clone_nil Tryd.cloneMem 0 c0 w
      change Calls Tryd.prog 25 _ _ _ at hcon
      exact hcon.mono fun e w' ⟨he, hw⟩ => ⟨_, he, Kd.R_nil _ _ _ _ _, hw ▸ Below.refl _ _⟩
    · rcases Nat.eq_zero_or_pos l0.length with h00 | hpp
      · obtain rfl := List.eq_nil_of_length_eq_zero h00
        exact clone_empty ad c0 w
      have key : ∃ b off, ad = ⟨b, off, none⟩ ∧ ∀ j u, (l0.flatMap encS)[j]? = some u → w.cell? ⟨b, off + j, none⟩ = some u := by
        obtain ⟨b, off, e, _, hc⟩ := at_cells hr0 hpp
        injection e with e
        refine ⟨b, off, e, fun j u hu => ?_⟩
        have hj : j < l0.length * 4 := by
          rcases Nat.lt_or_ge j (l0.length * 4) with h | h
          · exact h
          · rw [List.getElem?_eq_none (by rw [flat_len]; exact h)] at hu; cases hu
        obtain ⟨x, hx, hf⟩ := flat_get hj
        have := hc (j / 4) x hx (j % 4) u (hf ▸ hu)
        rwa [show off + j / 4 * 4 + j % 4 = off + j by omega] at this
      obtain ⟨b, off, rfl, hc⟩ := key
      have hcon := AnyE.slices_Clone Tryd.cloneMem i0 _ 4 24 hi hz0 hz1 hz2 rfl (by decide) sizeOf39' b off l0.length c0 (l0.flatMap encS) w (flat_len l0) (by simp only [maxLen]; omega) (by omega) hc
        (fun u hu => by
          obtain ⟨x, _, hx⟩ := List.mem_flatMap.1 hu
          simp [encS] at hx
          rcases hx with rfl | rfl | rfl | rfl <;> rfl)
      change Calls Tryd.prog 25 _ _ _ at hcon
      refine hcon.mono ?_
      rintro e w' ⟨v, rfl, hown, _, hb⟩
      exact ⟨v, rfl, ⟨fun _ _ => trivial, _, hown, flat_reps _ _ _ _⟩, hb⟩
  · cases h
end Go.Proofs.YtddedmdgfakfjaaDoor.FA
