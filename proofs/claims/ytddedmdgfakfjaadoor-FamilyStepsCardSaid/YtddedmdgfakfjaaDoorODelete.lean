/-
  slices.DeleteFunc at []Member with the closure of Reap, over a row of the call's own: what is left is the row without the members of that number; condition: fewer than 1,000,000 members.
-/
import Derived.Test.YtddedmdgfakfjaaDoorOSort
namespace Go.Proofs.YtddedmdgfakfjaaDoor.FA
open Go.RowKit Go.Shelf Go.Lib Go.Proofs.YtddedmdgfakfjaaDoorW.PrintWords
set_option linter.unusedVariables false
def slices_DeleteFunc.f (l0 : List S39) (a1 : Int) : Option (List S39) := if l0.length < 1000000 then some (l0.filter fun x => !isP a1 x) else none

theorem idx_spec (p : S39 → Bool) (z : S39) : ∀ (l : List S39) (i : Nat), (Lib.idxByFrom (fun _ y => p y) z l i = -1 ∧ ∀ x ∈ l, p x = false) ∨ ∃ k x, l[k]? = some x ∧ Lib.idxByFrom (fun _ y => p y) z l i = ((i + k : Nat) : Int) ∧ p x = true ∧ ∀ y ∈ l.take k, p y = false
  | [], i => .inl ⟨rfl, fun x hx => absurd hx List.not_mem_nil⟩
  | a :: l, i => by
    unfold Lib.idxByFrom
    cases ha : p a with
    | true => exact .inr ⟨0, a, rfl, by simp, ha, fun y hy => absurd hy List.not_mem_nil⟩
    | false =>
      rcases idx_spec p z l (i + 1) with ⟨h1, h2⟩ | ⟨k, x, h1, h2, h3, h4⟩
      · refine .inl ⟨by simpa using h1, fun x hx => ?_⟩
        rcases List.mem_cons.1 hx with rfl | hx
        · exact ha
        · exact h2 x hx
      · refine .inr ⟨k + 1, x, h1, ?_, h3, fun y hy => ?_⟩
        · simp [h2]; omega
        · rw [List.take_succ_cons] at hy
          rcases List.mem_cons.1 hy with rfl | hy
          · exact ha
          · exact h4 y hy

/-- The loop's law: so far j have been seen, i are kept. -/
structure KInv (p : S39 → Bool) (l dk : List S39) (i j : Nat) : Prop where
  len : dk.length = l.length
  lt : i < j
  le : j ≤ l.length
  done : dk.take i = (l.take j).filter fun x => !p x
  rest : ∀ t, j ≤ t → dk[t]? = l[t]?
theorem KInv.start {p : S39 → Bool} {l : List S39} {k : Nat} {x : S39} (hk : l[k]? = some x) (hp : p x = true) (ha : ∀ y ∈ l.take k, p y = false) : KInv p l l k (k + 1) := by
  have hlt : k < l.length := by
    rcases Nat.lt_or_ge k l.length with h | h
    · exact h
    · rw [List.getElem?_eq_none h] at hk; cases hk
  refine ⟨rfl, Nat.lt_succ_self _, hlt, ?_, fun _ _ => rfl⟩
  rw [List.take_add_one, hk, List.filter_append, List.filter_eq_self.2 (fun y hy => by simp [ha y hy])]
  simp [hp]
theorem KInv.skip {p : S39 → Bool} {l dk : List S39} {i j : Nat} {x : S39} (h : KInv p l dk i j) (hx : l[j]? = some x) (hp : p x = true) : KInv p l dk i (j + 1) := by
  have hlt : j < l.length := by
    rcases Nat.lt_or_ge j l.length with h | h
    · exact h
    · rw [List.getElem?_eq_none h] at hx; cases hx
  refine ⟨h.len, Nat.lt_succ_of_lt h.lt, hlt, ?_, fun t ht => h.rest t (by omega)⟩
  rw [List.take_add_one, hx, List.filter_append, ← h.done]
  simp [hp]
theorem KInv.keep {p : S39 → Bool} {l dk : List S39} {i j : Nat} {x : S39} (h : KInv p l dk i j) (hx : l[j]? = some x) (hp : p x = false) : KInv p l (dk.set i x) (i + 1) (j + 1) := by
  have hlt : j < l.length := by
    rcases Nat.lt_or_ge j l.length with h | h
    · exact h
    · rw [List.getElem?_eq_none h] at hx; cases hx
  have hi := h.lt
  have hl := h.len
  refine ⟨by simpa using h.len, by omega, hlt, ?_, fun t ht => ?_⟩
  · rw [List.take_add_one, List.take_set_of_le (Nat.le_refl _), List.getElem?_set_self (by omega), h.done, List.take_add_one, hx, List.filter_append]
    simp [hp]
  · rw [List.getElem?_set_ne (by omega)]
    exact h.rest t (by omega)
theorem KInv.kept {p : S39 → Bool} {l dk : List S39} {i j : Nat} (h : KInv p l dk i j) (hj : j = l.length) : dk.take i = l.filter fun x => !p x := by
  rw [h.done, hj, List.take_length]
theorem KInv.count {p : S39 → Bool} {l dk : List S39} {i j : Nat} (h : KInv p l dk i j) (hj : j = l.length) : (l.filter fun x => !p x).length = i := by
  rw [← h.kept hj, List.length_take, h.len]
  have := h.lt
  omega

/-- The row's block. -/
def Blk (w : World) (g cap : Nat) (dk : List S39) : Prop := ∃ cur : Array Value, w.heap[g]? = some (.cells cur 39 (0, 0)) ∧ cur.size = cap * 4 ∧ ∀ j x, dk[j]? = some x → ∀ c v, (encS x)[c]? = some v → w.cell? ⟨g, j * 4 + c, none⟩ = some v
theorem Blk.of_heap {w W : World} {g cap : Nat} {dk : List S39} (h : Blk w g cap dk) (hg : W.heap[g]? = w.heap[g]?) : Blk W g cap dk := by
  obtain ⟨cur, h1, h2, h3⟩ := h
  refine ⟨cur, hg.trans h1, h2, fun j x hj c v hv => ?_⟩
  rw [World.cell?_of_block (w := w) (w' := W) (a := ⟨g, j * 4 + c, none⟩) hg]
  exact h3 j x hj c v hv
theorem Blk.of_R {w : World} {b : Nat} {Pk : Nat → Prop} {g cap : Nat} {l : List S39} (ho : Kd.R k39 39 w b Pk (.slice (some ⟨g, 0, none⟩) l.length cap) l) (hp : 0 < l.length) : Blk w g cap l ∧ cap ≤ maxLen ∧ b ≤ g ∧ Pk g := by
  obtain ⟨_, _, hC⟩ := Kd.R_reads' ho
  obtain ⟨hok, xs, hown, _⟩ := id ho
  obtain ⟨hxs, hn0 | ⟨g', cap', cur, e, hb, hh, hnc, hcm, hcs, htk⟩⟩ := hown
  · exact absurd hn0.2 (by omega)
  · cases e
    refine ⟨⟨cur, hh, hcs, fun j x hj c v hv => ?_⟩, hcm, hb, hok g rfl⟩
    obtain ⟨bb, off, e, _, hcell⟩ := at_cells hC hp
    cases e
    have := hcell j x hj c v hv
    rwa [Nat.zero_add] at this
theorem Blk.set {w : World} {g cap : Nat} {dk : List S39} (h : Blk w g cap dk) {i : Nat} (x : S39) (hi : i < dk.length) (hc : dk.length ≤ cap) : Blk (w.setCells g (i * 4) (encS x)) g cap (dk.set i x) ∧ w.grownBy (w.setCells g (i * 4) (encS x)) (some g) := by
  obtain ⟨cur, h1, h2, h3⟩ := h
  have hfit : i * 4 + (encS x).length ≤ cur.size := by simp [encS]; omega
  obtain ⟨cur', a1, a2, _⟩ := setCells_row (encS x) (i * 4) w cur h1 hfit
  obtain ⟨s1, s2, s3, s4⟩ := setCells_same g (encS x) (i * 4) w
  refine ⟨⟨cur', a1, a2.trans h2, fun j y hj c v hv => ?_⟩, s1, s2, s3, by rw [s4]; exact Nat.le_refl _, fun k _ hk => setCells_far _ _ k (fun e => hk (by rw [e]))⟩
  have hc4 : c < 4 := by
    rcases Nat.lt_or_ge c 4 with h | h
    · exact h
    · rw [List.getElem?_eq_none (by simpa [encS] using h)] at hv; cases hv
  by_cases hij : j = i
  · subst hij
    rw [List.getElem?_set_self hi] at hj
    cases hj
    have := World.cell?_setCells_in g (encS x) (j * 4) w (fun t ht => by
      have ht4 : t < 4 := by simpa [encS] using ht
      rw [h3 j dk[j] (List.getElem?_eq_getElem hi) t _ (List.getElem?_eq_getElem (by simpa [encS] using ht4))]
      rfl) c (by simpa [encS] using hc4)
    rw [this]
    rw [List.getElem?_eq_getElem (by simpa [encS] using hc4)] at hv
    exact hv
  · rw [List.getElem?_set_ne (Ne.symm hij)] at hj
    rw [World.cell?_setCells_out g (encS x) (i * 4) w ⟨g, j * 4 + c, none⟩ (fun _ _ => by simp [encS]; omega)]
    exact h3 j y hj c v hv
theorem Blk.cut {w : World} {g cap : Nat} {dk : List S39} (h : Blk w g cap dk) {i : Nat} (vs : List Value) (hf : i * 4 + vs.length ≤ cap * 4) : Blk (w.setCells g (i * 4) vs) g cap (dk.take i) ∧ w.grownBy (w.setCells g (i * 4) vs) (some g) := by
  obtain ⟨cur, h1, h2, h3⟩ := h
  obtain ⟨cur', a1, a2, _⟩ := setCells_row vs (i * 4) w cur h1 (by omega)
  obtain ⟨s1, s2, s3, s4⟩ := setCells_same g vs (i * 4) w
  refine ⟨⟨cur', a1, a2.trans h2, fun j y hj c v hv => ?_⟩, s1, s2, s3, by rw [s4]; exact Nat.le_refl _, fun k _ hk => setCells_far _ _ k (fun e => hk (by rw [e]))⟩
  have hc4 : c < 4 := by
    rcases Nat.lt_or_ge c 4 with h | h
    · exact h
    · rw [List.getElem?_eq_none (by simpa [encS] using h)] at hv; cases hv
  have hji : j < i := by
    rcases Nat.lt_or_ge j i with h | h
    · exact h
    · rw [List.getElem?_take_eq_none h] at hj; cases hj
  rw [List.getElem?_take_of_lt hji] at hj
  rw [World.cell?_setCells_out g vs (i * 4) w ⟨g, j * 4 + c, none⟩ (fun _ _ => by simp; omega)]
  exact h3 j y hj c v hv

theorem clear4 (w : World) (ty : TypeId) (b o n c : Nat) (hn : 0 < n) (hc : ∀ j, j < n * 4 → (w.cell? ⟨b, o + j, none⟩).isSome = true) (hf : ∀ j, j < n * 4 → w.frozen? ⟨b, o + j, none⟩ = false) :
    (Builtin.clear_ #[26] ty #[.slice (some ⟨b, o, none⟩) n c]).run Tryd.prog w = .ok (.tuple #[]) (w.setCells b o (Builtin.zeroCells #[.int .i64 0, .int .i64 0, .bool false, .int .u32 0] n).toList) := by
  have hl : (Builtin.zeroCells #[.int .i64 0, .int .i64 0, .bool false, .int .u32 0] n).toList.length = n * 4 := by simp [Builtin.zeroCells]
  have hst := run_storeCells_cells (P := Tryd.prog) b o (Builtin.zeroCells #[.int .i64 0, .int .i64 0, .bool false, .int .u32 0] n).toList 0 w (by rw [hl]; simpa using hc) (by rw [hl]; simpa using hf) (by
    intro v hv
    simp [Builtin.zeroCells] at hv
    obtain ⟨t, _, rfl⟩ := hv
    have : t % 4 < 4 := Nat.mod_lt _ (by decide)
    rcases (by omega : t % 4 = 0 ∨ t % 4 = 1 ∨ t % 4 = 2 ∨ t % 4 = 3) with h | h | h | h <;> rw [h] <;> rfl)
  simp only [Nat.add_zero] at hst
  obtain ⟨m, rfl⟩ : ∃ m, n = m + 1 := ⟨n - 1, by omega⟩
  have hv : ∀ w, (zeroValue 39).run Tryd.prog w = .ok (.agg #[.int .i64 0, .int .i64 0, .bool false, .int .u32 0]) w := fun w => by kernel_rfl
  simp [Builtin.clear_, run_underlying Tryd.underlying26, hv, Value.cells, hst]
theorem grown_below {w w1 w2 : World} {row : Option Nat} (h : w.grownBy w1 row) (hb : Below w1.heap.size w1 w2) : w.grownBy w2 row :=
  ⟨hb.os.trans h.os, hb.tape.trans h.tape, hb.output.trans h.output, Nat.le_trans h.size hb.size, fun k hk hn => (hb.block k (Nat.lt_of_lt_of_le hk h.size)).trans (h.block k hk hn)⟩
theorem grown_trans {w w1 w2 : World} {row : Option Nat} (h : w.grownBy w1 row) (h2 : w1.grownBy w2 row) : w.grownBy w2 row :=
  ⟨h2.os.trans h.os, h2.tape.trans h.tape, h2.output.trans h.output, Nat.le_trans h.size h2.size, fun k hk hn => (h2.block k (Nat.lt_of_lt_of_le hk h.size) hn).trans (h.block k hk hn)⟩

set_option maxHeartbeats 4000000 in
set_option maxRecDepth 1000000 in
theorem delete_walk (g cap : Nat) (l0 : List S39) (a1 : Int) (w : World) (hp : 0 < l0.length) (hb : Blk w g cap l0) (hlc : l0.length ≤ cap) (hcm : cap ≤ maxLen) (hC : Kd.C k39 w (some ⟨g, 0, none⟩) l0.length l0)
    {gB : Nat} (hbk : w.heap[gB]? = some (.cells #[.int .i64 a1] 3 (0, 0))) (hne : gB ≠ g) :
    Calls Tryd.prog 29 #[.slice (some ⟨g, 0, none⟩) l0.length cap, .func (.func 30) #[] #[.pointer (some ⟨gB, 0, none⟩)]] w fun e w' => e = .returned (.slice (some ⟨g, 0, none⟩) (l0.filter fun x => !isP a1 x).length cap) ∧ Blk w' g cap (l0.filter fun x => !isP a1 x) ∧ w.grownBy w' (some g) := by
  have hIF := index_of (fv := 0) (cl := 30) l0 (some ⟨g, 0, none⟩) cap a1 w hC hbk (enters_of Tryd.func30 (by kernel_rfl) rfl) (fun x W hW => closure30 x a1 gB W hW)
  have hglt : g < w.heap.size := by obtain ⟨cur, h1, _⟩ := hb; exact blk_lt h1
  have hBlt : gB < w.heap.size := blk_lt hbk
  rcases idx_spec (isP a1) default l0 0 with ⟨e1, hall⟩ | ⟨k0, x0, hk0, e1, ht, hall⟩
  · have e2 : Lib.idxBy (fun _ y => isP a1 y) l0 default = -1 := e1
    rw [e2] at hIF
    have e3 : (l0.filter fun x => !isP a1 x) = l0 := List.filter_eq_self.2 (fun x hx => by simp [hall x hx])
    rw [e3]
    clear e1 e2 e3 hall
    go_enter Tryd.func29, Tryd.ntmps29
    go_wp2_with (go_at_call 33; refine hIF.mono ?_; rintro e w1 ⟨rfl, hb1⟩)
    go_ret
    exact ⟨rfl, hb.of_heap (hb1.block g hglt), ⟨hb1.os, hb1.tape, hb1.output, hb1.size, fun k hk _ => hb1.block k hk⟩⟩
  · have e2 : Lib.idxBy (fun _ y => isP a1 y) l0 default = (k0 : Int) := by unfold Lib.idxBy; rw [e1]; simp
    rw [e2] at hIF
    have hk0' : k0 < l0.length := by
      rcases Nat.lt_or_ge k0 l0.length with h | h
      · exact h
      · rw [List.getElem?_eq_none h] at hk0; cases hk0
    have hne1 : ((k0 : Int) == -1) = false := beq_eq_false_iff_ne.2 (by omega)
    have hmax : l0.length ≤ 9223372036854775807 := hC.2.1
    have K0 := Aside0.mk (KInv.start hk0 ht hall)
    have HBk := Aside0.mk hb
    clear e1 e2 hall ht hk0 hb hC
    go_enter Tryd.func29, Tryd.ntmps29
    go_wp2_with (go_at_call 33; refine hIF.mono ?_; rintro e w1 ⟨rfl, hb1⟩)
    have HB1 := Aside0.mk hb1
    clear hb1 hIF
    go_loopg [5, 6, 7] l0.length (fun gg s5 s6 _ wr => ∃ (i j : Nat) (dk : List S39), s5 = .int .i64 i ∧ s6 = .int .i64 j ∧ j ≤ l0.length ∧ l0.length - j ≤ gg ∧ Aside0 (KInv (isP a1) l0 dk i j) ∧ Aside0 (Blk wr g cap dk) ∧ Aside0 (w.grownBy wr (some g)))
    case atStart => exact ⟨k0, k0 + 1, l0, rfl, by go_num, by omega, by omega, K0, ⟨HBk.out.of_heap (HB1.out.block g hglt)⟩, ⟨HB1.out.os, HB1.out.tape, HB1.out.output, HB1.out.size, fun k hk _ => HB1.out.block k hk⟩⟩
    case round =>
      obtain ⟨i, j, dk, rfl, rfl, hjd, hgg, HK, HBl, HG⟩ := hrel
      have hij := HK.out.lt
      have hdl := HK.out.len
      by_cases hlt : j < l0.length
      · have hltz : (j : Int) < (l0.length : Int) := by omega
        have hiltz : (i : Int) < (l0.length : Int) := by omega
        obtain ⟨x, hx⟩ : ∃ x, l0[j]? = some x := ⟨_, List.getElem?_eq_getElem hlt⟩
        have hdx : dk[j]? = some x := (HK.out.rest j (Nat.le_refl _)).trans hx
        obtain ⟨y, hy⟩ : ∃ y, dk[i]? = some y := ⟨_, List.getElem?_eq_getElem (by omega)⟩
        obtain ⟨cur, h1, h2, h3⟩ := id HBl.out
        have cj0 : wr.cell? ⟨g, j * 4, none⟩ = some (.int .i64 x.f0) := h3 j x hdx 0 _ rfl
        have cj1 : wr.cell? ⟨g, j * 4 + 1, none⟩ = some (.int .i64 x.f1) := h3 j x hdx 1 _ rfl
        have cj2 : wr.cell? ⟨g, j * 4 + 2, none⟩ = some (.bool x.f2) := h3 j x hdx 2 _ rfl
        have cj3 : wr.cell? ⟨g, j * 4 + 3, none⟩ = some (.int .u32 x.f3) := h3 j x hdx 3 _ rfl
        have BR : Aside0 (wr.heap[gB]? = some (.cells #[.int .i64 a1] 3 (0, 0))) := ⟨(HG.out.block gB hBlt (by simp [hne])).trans hbk⟩
        have hgr : g < wr.heap.size := blk_lt h1
        have hBr : gB < wr.heap.size := blk_lt BR.out
        have H1 := Aside0.mk h1
        have H3 := Aside0.mk h3
        have HX := Aside0.mk hx
        clear h1 h2 h3 hx hdx
        cases hq : isP a1 x with
        | false =>
          go_wp2_with (first
            | ((with_reducible refine gate_dst (N := 7) rfl ?_); refine box_event ?hg (N := 7) ?hd (cs := #[.int .i64 0, .int .i64 0, .bool false, .int .u32 0]) (t := 39) ?hr ?_; (case hd => rfl); (case hg => rfl); (case hr => first | (go_simp; done) | (go_simp; rfl)); intro gb hg w2 hbox hb2; have GE : wr.heap.size ≤ gb := (by rw [hg]; exact Nat.le_refl _); have HB2 := Aside0.mk hb2; have BX := Aside0.mk hbox; clear hb2 hbox hg; have hcz0 : w2.cell? ⟨gb, 0, none⟩ = some (.int .i64 0) := (blk_cell BX.out 0).trans rfl; have hcz1 : w2.cell? ⟨gb, 1, none⟩ = some (.int .i64 0) := (blk_cell BX.out 1).trans rfl; have hcz2 : w2.cell? ⟨gb, 2, none⟩ = some (.bool false) := (blk_cell BX.out 2).trans rfl; have hcz3 : w2.cell? ⟨gb, 3, none⟩ = some (.int .u32 0) := (blk_cell BX.out 3).trans rfl; have hfz0 := blk_frozen BX.out 0; have hfz1 := blk_frozen BX.out 1; have hfz2 := blk_frozen BX.out 2; have hfz3 := blk_frozen BX.out 3))
          have hB1 : gB ≠ gb := by omega
          have hG1 : g ≠ gb := by omega
          refine (closure30 x a1 gB _ ?hk).mono ?_
          case hk => refine blk_far ?_ hB1 _; refine blk_far ?_ hB1 _; refine blk_far ?_ hB1 _; refine blk_far ?_ hB1 _; exact blk_below BR.out HB2.out
          rintro e w4 ⟨rfl, hb4⟩
          rw [hq]
          have BX4 := Aside0.mk (blk_below (g := gb) (o := .cells #[.int .i64 x.f0, .int .i64 x.f1, .bool x.f2, .int .u32 x.f3] 39 (0, 0)) (by refine blk_put (cs := #[.int .i64 x.f0, .int .i64 x.f1, .bool x.f2, .int .u32 0]) ?_ 3 _ rfl; refine blk_put (cs := #[.int .i64 x.f0, .int .i64 x.f1, .bool false, .int .u32 0]) ?_ 2 _ rfl; refine blk_put (cs := #[.int .i64 x.f0, .int .i64 0, .bool false, .int .u32 0]) ?_ 1 _ rfl; refine blk_put (cs := #[.int .i64 0, .int .i64 0, .bool false, .int .u32 0]) ?_ 0 _ rfl; exact BX.out) hb4)
          have R4 := Aside0.mk (blk_below (g := g) (o := .cells cur 39 (0, 0)) (by refine blk_far ?_ hG1 _; refine blk_far ?_ hG1 _; refine blk_far ?_ hG1 _; refine blk_far ?_ hG1 _; exact blk_below H1.out HB2.out) hb4)
          have HB4 : Aside0 (Below wr.heap.size wr w4) := ⟨below_then (by refine below_set ?_ GE; refine below_set ?_ GE; refine below_set ?_ GE; refine below_set ?_ GE; exact HB2.out) (by simpa using HB2.out.size) hb4⟩
          clear hb4
          have hcy0 : w4.cell? ⟨gb, 0, none⟩ = some (.int .i64 x.f0) := (blk_cell BX4.out 0).trans rfl
          have hcy1 : w4.cell? ⟨gb, 1, none⟩ = some (.int .i64 x.f1) := (blk_cell BX4.out 1).trans rfl
          have hcy2 : w4.cell? ⟨gb, 2, none⟩ = some (.bool x.f2) := (blk_cell BX4.out 2).trans rfl
          have hcy3 : w4.cell? ⟨gb, 3, none⟩ = some (.int .u32 x.f3) := (blk_cell BX4.out 3).trans rfl
          have ci0 : w4.cell? ⟨g, i * 4, none⟩ = some (.int .i64 y.f0) := (World.cell?_of_block (a := ⟨g, i * 4, none⟩) (R4.out.trans H1.out.symm)).trans (H3.out i y hy 0 _ rfl)
          have ci1 : w4.cell? ⟨g, i * 4 + 1, none⟩ = some (.int .i64 y.f1) := (World.cell?_of_block (a := ⟨g, i * 4 + 1, none⟩) (R4.out.trans H1.out.symm)).trans (H3.out i y hy 1 _ rfl)
          have ci2 : w4.cell? ⟨g, i * 4 + 2, none⟩ = some (.bool y.f2) := (World.cell?_of_block (a := ⟨g, i * 4 + 2, none⟩) (R4.out.trans H1.out.symm)).trans (H3.out i y hy 2 _ rfl)
          have ci3 : w4.cell? ⟨g, i * 4 + 3, none⟩ = some (.int .u32 y.f3) := (World.cell?_of_block (a := ⟨g, i * 4 + 3, none⟩) (R4.out.trans H1.out.symm)).trans (H3.out i y hy 3 _ rfl)
          have fi0 := blk_frozen R4.out (i * 4)
          have fi1 := blk_frozen R4.out (i * 4 + 1)
          have fi2 := blk_frozen R4.out (i * 4 + 2)
          have fi3 := blk_frozen R4.out (i * 4 + 3)
          go_wp2
          go_roundg (l0.length - (j + 1))
          case measure => omega
          case rel =>
            have hB4 : Blk w4 g cap dk := HBl.out.of_heap (R4.out.trans H1.out.symm)
            have hS := hB4.set x (i := i) (by omega) (by omega)
            exact ⟨i + 1, j + 1, dk.set i x, by go_num, by go_num, by omega, Nat.le_refl _, ⟨HK.out.keep HX.out hq⟩, ⟨hS.1⟩, ⟨grown_trans (grown_below HG.out HB4.out) hS.2⟩⟩
        | true =>
          go_wp2_with (first
            | ((with_reducible refine gate_dst (N := 7) rfl ?_); refine box_event ?hg (N := 7) ?hd (cs := #[.int .i64 0, .int .i64 0, .bool false, .int .u32 0]) (t := 39) ?hr ?_; (case hd => rfl); (case hg => rfl); (case hr => first | (go_simp; done) | (go_simp; rfl)); intro gb hg w2 hbox hb2; have GE : wr.heap.size ≤ gb := (by rw [hg]; exact Nat.le_refl _); have HB2 := Aside0.mk hb2; have BX := Aside0.mk hbox; clear hb2 hbox hg; have hcz0 : w2.cell? ⟨gb, 0, none⟩ = some (.int .i64 0) := (blk_cell BX.out 0).trans rfl; have hcz1 : w2.cell? ⟨gb, 1, none⟩ = some (.int .i64 0) := (blk_cell BX.out 1).trans rfl; have hcz2 : w2.cell? ⟨gb, 2, none⟩ = some (.bool false) := (blk_cell BX.out 2).trans rfl; have hcz3 : w2.cell? ⟨gb, 3, none⟩ = some (.int .u32 0) := (blk_cell BX.out 3).trans rfl; have hfz0 := blk_frozen BX.out 0; have hfz1 := blk_frozen BX.out 1; have hfz2 := blk_frozen BX.out 2; have hfz3 := blk_frozen BX.out 3))
          have hB1 : gB ≠ gb := by omega
          have hG1 : g ≠ gb := by omega
          refine (closure30 x a1 gB _ ?hk).mono ?_
          case hk => refine blk_far ?_ hB1 _; refine blk_far ?_ hB1 _; refine blk_far ?_ hB1 _; refine blk_far ?_ hB1 _; exact blk_below BR.out HB2.out
          rintro e w4 ⟨rfl, hb4⟩
          rw [hq]
          have BX4 := Aside0.mk (blk_below (g := gb) (o := .cells #[.int .i64 x.f0, .int .i64 x.f1, .bool x.f2, .int .u32 x.f3] 39 (0, 0)) (by refine blk_put (cs := #[.int .i64 x.f0, .int .i64 x.f1, .bool x.f2, .int .u32 0]) ?_ 3 _ rfl; refine blk_put (cs := #[.int .i64 x.f0, .int .i64 x.f1, .bool false, .int .u32 0]) ?_ 2 _ rfl; refine blk_put (cs := #[.int .i64 x.f0, .int .i64 0, .bool false, .int .u32 0]) ?_ 1 _ rfl; refine blk_put (cs := #[.int .i64 0, .int .i64 0, .bool false, .int .u32 0]) ?_ 0 _ rfl; exact BX.out) hb4)
          have R4 := Aside0.mk (blk_below (g := g) (o := .cells cur 39 (0, 0)) (by refine blk_far ?_ hG1 _; refine blk_far ?_ hG1 _; refine blk_far ?_ hG1 _; refine blk_far ?_ hG1 _; exact blk_below H1.out HB2.out) hb4)
          have HB4 : Aside0 (Below wr.heap.size wr w4) := ⟨below_then (by refine below_set ?_ GE; refine below_set ?_ GE; refine below_set ?_ GE; refine below_set ?_ GE; exact HB2.out) (by simpa using HB2.out.size) hb4⟩
          clear hb4
          have hcy0 : w4.cell? ⟨gb, 0, none⟩ = some (.int .i64 x.f0) := (blk_cell BX4.out 0).trans rfl
          have hcy1 : w4.cell? ⟨gb, 1, none⟩ = some (.int .i64 x.f1) := (blk_cell BX4.out 1).trans rfl
          have hcy2 : w4.cell? ⟨gb, 2, none⟩ = some (.bool x.f2) := (blk_cell BX4.out 2).trans rfl
          have hcy3 : w4.cell? ⟨gb, 3, none⟩ = some (.int .u32 x.f3) := (blk_cell BX4.out 3).trans rfl
          go_wp2
          go_roundg (l0.length - (j + 1))
          case measure => omega
          case rel => exact ⟨i, j + 1, dk, rfl, by go_num, by omega, Nat.le_refl _, ⟨HK.out.skip HX.out hq⟩, ⟨HBl.out.of_heap (R4.out.trans H1.out.symm)⟩, ⟨grown_below HG.out HB4.out⟩⟩
      · obtain rfl : j = l0.length := by omega
        have hltz : ¬ (l0.length : Int) < (l0.length : Int) := by omega
        obtain ⟨cur, h1, h2, h3⟩ := id HBl.out
        have hcl : ∀ ty, (Builtin.clear_ #[26] ty #[.slice (some ⟨g, i * 4, none⟩) (l0.length - i) (cap - i)]).run Tryd.prog wr = .ok (.tuple #[]) (wr.setCells g (i * 4) (Builtin.zeroCells #[.int .i64 0, .int .i64 0, .bool false, .int .u32 0] (l0.length - i)).toList) :=
          fun ty => clear4 wr ty g (i * 4) (l0.length - i) (cap - i) (by omega) (fun t ht => by
            obtain ⟨z, hz⟩ : ∃ z, dk[(i * 4 + t) / 4]? = some z := ⟨_, List.getElem?_eq_getElem (by omega)⟩
            have h4 : (i * 4 + t) % 4 < 4 := Nat.mod_lt _ (by decide)
            have := h3 _ z hz ((i * 4 + t) % 4) _ (List.getElem?_eq_getElem (by simpa [encS] using h4))
            rw [show (i * 4 + t) / 4 * 4 + (i * 4 + t) % 4 = i * 4 + t by omega] at this
            rw [this]
            rfl) (fun t _ => blk_frozen h1 (i * 4 + t))
        have hiz : (i : Int) ≤ (l0.length : Int) := by omega
        clear h1 h2 h3
        go_wp2
        go_ret
        have hS := HBl.out.cut (i := i) (Builtin.zeroCells #[.int .i64 0, .int .i64 0, .bool false, .int .u32 0] (l0.length - i)).toList (by simp [Builtin.zeroCells]; omega)
        rw [HK.out.kept rfl] at hS
        exact ⟨by rw [HK.out.count rfl]; rfl, hS.1, grown_trans HG.out hS.2⟩

set_option maxHeartbeats 1000000 in
theorem delete_none (A : Option Addr) (c : Nat) (fv : Value) (w : World) : Calls Tryd.prog 29 #[.slice A 0 c, fv] w fun e w' => e = .returned (.slice A 0 c) ∧ w' = w := by
  go_enter Tryd.func29, Tryd.ntmps29
  go_wp2_with (go_at_call 33; refine (index_none _ _ _ _).mono ?_; rintro e w1 ⟨rfl, rfl⟩)
  go_ret
  exact ⟨rfl, rfl⟩
theorem slices_DeleteFunc.calls (P0_ : Nat → Prop) (u : Value) (l0 : List S39) (a1 : Int) (r : List S39) (w0 : World) (w : World) (hB : Below w0.heap.size w0 w) (ho : Kd.R k39 39 w w0.heap.size P0_ u l0) (h : slices_DeleteFunc.f l0 a1 = some r)
    {g : Nat} (hbk : w.heap[g]? = some (.cells #[.int .i64 a1] 3 (0, 0)) := by (with_reducible repeat (first | refine blk_drewN ?_ _ | refine blk_drew ?_ | refine blk_alloc ?_ _)); exact Aside0.out (by assumption)) :
    Calls Tryd.prog 29 #[u, .func (.func 30) #[] #[.pointer (some ⟨g, 0, none⟩)]] w fun e w' => ∃ v0_ : Value, e = .returned v0_ ∧ Kd.R k39 39 w' w0.heap.size (fun k_ => P0_ k_ ∨ w.heap.size ≤ k_) v0_ r ∧ Below w0.heap.size w0 w' ∧ Kept w w' (fun k_ => P0_ k_) := by
  unfold slices_DeleteFunc.f at h
  split at h
  · rename_i hl
    obtain rfl := Option.some.inj h
    rcases Nat.eq_zero_or_pos l0.length with h0 | hp
    · obtain rfl := List.eq_nil_of_length_eq_zero h0
      obtain ⟨A, c, rfl⟩ := Kd.R_slice ho
      refine (delete_none A c _ w).mono ?_
      rintro e w' ⟨rfl, rfl⟩
      exact ⟨_, rfl, Kd.R_mono ho (fun k hk => .inl hk), hB, Kept.refl _ _⟩
    · obtain ⟨gr, cap, rfl, _, _, cells, hcells⟩ := Kd.R_form ho hp
      obtain ⟨_, hcap, hC⟩ := Kd.R_reads' ho
      obtain ⟨hBl, hcm, hb, hP⟩ := Blk.of_R ho hp
      have hne : g ≠ gr := by
        rintro rfl
        rw [hbk] at hcells
        injection hcells with e1
        injection e1 with _ e2
        cases e2
      refine (delete_walk gr cap l0 a1 w hp hBl hcap hcm hC hbk hne).mono ?_
      rintro e w' ⟨rfl, ⟨cur, h1, h2, h3⟩, hg⟩
      exact ⟨_, rfl, R_of_block (.inl hP) hb h1 (Nat.le_trans (List.length_filter_le _ _) hcap) hcm h2 h3, hB.grown hg hB.size (fun k e => by cases e; exact hb), Kept.of_grown hg (Kept.refl w _) (fun k e => by cases e; exact .inl hP)⟩
  · cases h
end Go.Proofs.YtddedmdgfakfjaaDoor.FA
