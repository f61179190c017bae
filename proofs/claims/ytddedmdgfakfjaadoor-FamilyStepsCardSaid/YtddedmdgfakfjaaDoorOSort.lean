/-
  slices.SortFunc at []Member with Add's comparison, by the shelf's contract: members whose numbers differ and lie in 0 to 4096 are sorted, in place.
-/
import Derived.Test.YtddedmdgfakfjaaDoorFAx0
import Derived.Test.YtddedmdgfakfjaaDoorOSlices
import Derived.Shelf.SlSortCmp.NoneTotal
namespace Go.Proofs.YtddedmdgfakfjaaDoor.FA
open Go.RowKit Go.Shelf Go.Lib Go.Sort Go.Proofs.YtddedmdgfakfjaaDoorW.PrintWords

def leR (x y : S39) : Bool := decide (x.f0 ≤ y.f0)
def slices_SortFunc.f (l : List S39) : Option (List S39) :=
  if l.isEmpty = false ∧ l.length < 1000000 ∧ (∀ x ∈ l, 0 ≤ x.f0 ∧ x.f0 ≤ 4096) ∧ (l.map (·.f0)).Nodup then some (l.mergeSort leR) else none

def encR {l : List S39} (x : {x : S39 // x ∈ l}) : List Value := [.int .i64 x.1.f0, .int .i64 x.1.f1, .bool x.1.f2, .int .u32 x.1.f3]
def cfR {l : List S39} (x y : {x : S39 // x ∈ l}) : Int := x.1.f0 - y.1.f0

set_option maxHeartbeats 1000000 in
theorem closure27 (x y : S39) (h1 : 0 ≤ x.f0) (h2 : x.f0 ≤ 4096) (h3 : 0 ≤ y.f0) (h4 : y.f0 ≤ 4096) (W : World) :
    Calls Tryd.prog 27 #[.agg #[.int .i64 x.f0, .int .i64 x.f1, .bool x.f2, .int .u32 x.f3], .agg #[.int .i64 y.f0, .int .i64 y.f1, .bool y.f2, .int .u32 y.f3]] W fun e w' => e = .returned (.int .i64 (x.f0 - y.f0)) ∧ ∃ q os', w' = grow (W.drewN q) os' := by
  obtain ⟨a, b, c, d⟩ := x
  obtain ⟨a', b', c', d'⟩ := y
  simp only at h1 h2 h3 h4
  go_enter Tryd.func27, Tryd.ntmps27
  go_wp2
  all_goals (try (go_quiet (fail)))
  all_goals (try go_wp2)
  go_ret
  exact ⟨rfl, 0, _, by rw [alloc_eq_grow, alloc_eq_grow, grow_grow]; rfl⟩

section
variable {l : List S39}
theorem lt_cfR (x y : {x : S39 // x ∈ l}) : ltOf cfR x y = decide (x.1.f0 < y.1.f0) := by
  unfold ltOf cfR
  by_cases h : x.1.f0 < y.1.f0
  · simp [h]; omega
  · simp [h]; omega
theorem swoR : SWO (ltOf (cfR (l := l))) where
  irrefl x := by rw [lt_cfR]; simp
  trans x y z h1 h2 := by rw [lt_cfR] at *; simp at *; omega
  ntrans x y z h1 h2 := by rw [lt_cfR] at *; simp at *; omega
theorem inj_of_nodup (hn : (l.map (·.f0)).Nodup) : ∀ x ∈ l, ∀ y ∈ l, x.f0 = y.f0 → x = y := by
  induction l with
  | nil => intro x hx; cases hx
  | cons a l ih =>
    rw [List.map_cons, List.nodup_cons] at hn
    intro x hx y hy e
    rcases List.mem_cons.1 hx with rfl | hx'
    · rcases List.mem_cons.1 hy with rfl | hy'
      · rfl
      · exact absurd (List.mem_map.2 ⟨y, hy', e.symm⟩) hn.1
    · rcases List.mem_cons.1 hy with rfl | hy'
      · exact absurd (List.mem_map.2 ⟨x, hx', e⟩) hn.1
      · exact ih hn.2 x hx' y hy' e
theorem totR (hn : (l.map (·.f0)).Nodup) (x y : {x : S39 // x ∈ l}) (h1 : ltOf cfR x y = false) (h2 : ltOf cfR y x = false) : x = y := by
  rw [lt_cfR] at h1 h2
  simp at h1 h2
  exact Subtype.ext (inj_of_nodup hn _ x.2 _ y.2 (by omega))
theorem attach_sorted (l : List S39) : ((l.attach.toArray.toList.mergeSort fun x y => !(ltOf cfR) y x)).map (·.1) = l.mergeSort leR := by
  rw [List.map_mergeSort (s := leR)]
  · congr 1
    simp
  · intro a _ b _
    rw [lt_cfR]
    unfold leR
    by_cases h : b.1.f0 < a.1.f0
    · simp [h]
    · simp [h]; omega
end

theorem grown_sort {α : Type} [Inhabited α] {enc : α → List Value} {k : Nat} {w : World} {g n : Nat} {os : Array Obj} (d : Array α) : w.grownBy (sortWorldK enc k w g 0 n d os) (some g) := by
  refine ⟨rfl, rfl, rfl, by simp [sortWorldK, putRowK, putRow, mapBlock, Sort.ahead, grow], fun j hj hne => ?_⟩
  unfold sortWorldK putRowK
  rw [Go.Sort.heap_grow_old _ _ (by simpa [putRow, mapBlock, Sort.ahead] using hj)]
  have : g ≠ j := fun e => hne (by rw [e])
  simp [putRow, mapBlock, Sort.ahead, Array.getElem?_modify, this]

theorem cells_of (w' : World) {g : Nat} {cur : Array Value} {l : List S39} (hh : w'.heap[g]? = some (.cells cur 39 (0, 0))) (hc : ∀ j x, l[j]? = some x → ∀ i v, (encS x)[i]? = some v → w'.cell? ⟨g, j * 4 + i, none⟩ = some v) : cur.toList.take (l.length * 4) = l.flatMap encS := by
  refine List.ext_getElem? fun t => ?_
  rcases Nat.lt_or_ge t (l.length * 4) with h | h
  · obtain ⟨x, hx, hf⟩ := flat_get h
    have h4 : t % 4 < 4 := Nat.mod_lt _ (by decide)
    have hv : (encS x)[t % 4]? = some ((encS x)[t % 4]'(by simpa [encS] using h4)) := List.getElem?_eq_getElem _
    have := hc (t / 4) x hx (t % 4) _ hv
    rw [show t / 4 * 4 + t % 4 = t by omega] at this
    have e2 := (blk_cell hh t).symm.trans this
    rw [List.getElem?_take_of_lt h, hf, hv]
    simpa using e2
  · rw [List.getElem?_eq_none (by simp; omega), List.getElem?_eq_none (by rw [flat_len]; exact h)]
theorem R_of_block {w' : World} {b : Nat} {Pk : Nat → Prop} {g cap : Nat} {cur : Array Value} {l : List S39} (hP : Pk g) (hb : b ≤ g) (hh : w'.heap[g]? = some (.cells cur 39 (0, 0))) (hl : l.length ≤ cap) (hcap : cap ≤ maxLen) (hsz : cur.size = cap * 4)
    (hc : ∀ j x, l[j]? = some x → ∀ i v, (encS x)[i]? = some v → w'.cell? ⟨g, j * 4 + i, none⟩ = some v) : Kd.R k39 39 w' b Pk (.slice (some ⟨g, 0, none⟩) l.length cap) l :=
  ⟨fun k hk => by cases hk; exact hP, _, ⟨flat_len _, .inr ⟨g, cap, cur, rfl, hb, hh, hl, hcap, hsz, cells_of w' hh hc⟩⟩, flat_reps _ _ _ _⟩

set_option maxHeartbeats 1000000 in
theorem slices_SortFunc.calls {Pk : Nat → Prop} {u : Value} {l r : List S39} {b : Nat} {w : World} (ho : Kd.R k39 39 w b Pk u l) (h : slices_SortFunc.f l = some r) :
    ∃ g c, u = .slice (some ⟨g, 0, none⟩) l.length c ∧ Pk g ∧ b ≤ g ∧ r.length = l.length ∧ Calls Tryd.prog 26 #[u, .func (.func 27) #[] #[]] w fun e w' => e = .returned (.tuple #[]) ∧ Kd.R k39 39 w' b Pk u r ∧ w.grownBy w' (some g) := by
  unfold slices_SortFunc.f at h
  split at h
  · rename_i hc
    obtain ⟨hne, hln, hr, hn⟩ := hc
    obtain rfl := Option.some.inj h
    have hpos : 0 < l.length := by cases l with | nil => simp at hne | cons a l => simp
    have hlen : (l.mergeSort leR).length = l.length := List.length_mergeSort l
    obtain ⟨hPk0, xs, hown, hreps⟩ := id ho
    obtain ⟨hxs, hn0 | ⟨g, cap, cur, rfl, hb, hh, hnc, hcm, hcs, htk⟩⟩ := hown
    · exact absurd hn0.2 (by omega)
    have hPk : Pk g := ho.1 g rfl
    have hlt : g < w.heap.size := blk_lt hh
    obtain ⟨_, hcap, hC⟩ := Kd.R_reads' ho
    have hC1 : ∀ i x, l[i]? = some x → ∀ c v, (encS x)[c]? = some v → w.cell? ⟨g, i * 4 + c, none⟩ = some v := by
      intro i x hx c v hv
      obtain ⟨bb, off, e, _, hcell⟩ := at_cells hC hpos
      cases e
      have := hcell i x hx c v hv
      rwa [Nat.zero_add] at this
    have hmax : l.length ≤ 9223372036854775807 := hC.2.1
    have hsz : l.length < 4611686018427387904 := by omega
    let z : {x : S39 // x ∈ l} := ⟨l[0], List.getElem_mem hpos⟩
    haveI : Inhabited {x : S39 // x ∈ l} := ⟨z⟩
    let d : Array {x : S39 // x ∈ l} := l.attach.toArray
    have hds : d.size = l.length := by simp [d]
    have hH : HoldsK encR 4 w g 0 d := by
      intro t ht
      rw [size_flatK, hds] at ht
      have hi : t / 4 < l.length := by omega
      have hfz : w.frozen? ⟨g, 0 + t, none⟩ = false := blk_frozen hh (0 + t)
      refine ⟨?_, hfz⟩
      rw [get_flatK _ _ _ _ (by rw [hds]; exact ht)]
      have hdx : (d[t / 4]!).1 = l[t / 4] := by
        rw [getElem!_pos d (t / 4) (by rw [hds]; exact hi)]
        simp only [d, List.getElem_toArray, List.getElem_attach]
      have h4 : t % 4 < 4 := Nat.mod_lt _ (by decide)
      have hv : (encS l[t / 4])[t % 4]? = some ((encS l[t / 4])[t % 4]'(by simpa [encS] using h4)) := List.getElem?_eq_getElem _
      have := hC1 (t / 4) _ (List.getElem?_eq_getElem hi) (t % 4) _ hv
      rw [show t / 4 * 4 + t % 4 = 0 + t by omega] at this
      rw [this]
      have he : encR (d[t / 4]!) = encS l[t / 4] := by unfold encR encS; rw [hdx]
      rw [he, getElem!_pos (encS l[t / 4]) (t % 4) (by simpa [encS] using h4)]
      rfl
    have eg : ∀ args w, (callFunc 27 args).run Tryd.prog w = .ok (.enter 27 args) w := enters_of Tryd.func27 (by kernel_rfl) rfl
    have hcmp : CmpLays Tryd.prog 27 #[] encR 4 (cfR (l := l)) g 0 d.size w := fun _ _ _ _ x y => closure27 x.1 y.1 (hr _ x.2).1 (hr _ x.2).2 (hr _ y.2).1 (hr _ y.2).2 _
    have hcon := AnyQ.slices_SortFunc_total Tryd.sortMem 4 isAgg39' sizeOf39' encR (fun _ => rfl) (fun x v hv => by simp [encR] at hv; rcases hv with rfl | rfl | rfl | rfl <;> rfl) cfR swoR 27 #[] g 0 cap d w eg hcmp hH hlt (by rw [hds]; exact hsz) (totR hn)
    change Calls Tryd.prog 26 _ _ _ at hcon
    refine ⟨g, cap, rfl, hPk, hb, hlen, ?_⟩
    rw [hds] at hcon
    refine hcon.mono ?_
    rintro e w' ⟨rfl, n, os, rfl⟩
    refine ⟨rfl, ?_, grown_sort _⟩
    have hs := attach_sorted l
    generalize hd' : (l.attach.toArray.toList.mergeSort fun x y => !(ltOf cfR) y x) = d' at hs
    have hd'l : d'.length = l.length := by rw [← hd', List.length_mergeSort]; simp
    rw [← hs]
    have hH' : HoldsK encR 4 (putRowK encR 4 (Sort.ahead w n) g 0 d'.toArray) g 0 d'.toArray := holdsK_putRowK _ _ _ _ _ d _ hH (by rw [hds]; simpa using hd'l)
    have hheap : ∃ cur', (sortWorldK encR 4 w g 0 n d'.toArray os).heap[g]? = some (.cells cur' 39 (0, 0)) ∧ cur'.size = cur.size := by
      refine ⟨putCells id 0 (flatK encR 4 d'.toArray) cur, ?_, by simp [putCells]⟩
      unfold sortWorldK putRowK
      rw [Go.Sort.heap_grow_old _ _ (by simpa [putRow, mapBlock, Sort.ahead] using hlt)]
      simp only [putRow, mapBlock, Sort.ahead, Array.getElem?_modify, if_true]
      rw [show w.heap[g]? = _ from hh]
      rfl
    obtain ⟨cur', hh', hcs'⟩ := hheap
    have hll : (d'.map (·.1)).length = l.length := by simpa using hd'l
    have := R_of_block (w' := sortWorldK encR 4 w g 0 n d'.toArray os) (b := b) (Pk := Pk) (g := g) (cap := cap) (cur := cur') (l := d'.map (·.1)) hPk hb hh' (by rw [hll]; exact hnc) hcm (hcs'.trans hcs) (by
      intro j p hj i v hv
      have hjl : j < d'.length := by
        rcases Nat.lt_or_ge j d'.length with h | h
        · exact h
        · rw [List.getElem?_eq_none (by simpa using h)] at hj; cases hj
      have hp : (d'.toArray[j]!).1 = p := by
        rw [getElem!_pos d'.toArray j (by simpa using hjl)]
        rw [List.getElem?_map, List.getElem?_eq_getElem hjl] at hj
        exact Option.some.inj hj
      have hi4 : i < 4 := by
        rcases Nat.lt_or_ge i 4 with h | h
        · exact h
        · rw [List.getElem?_eq_none (by simpa [encS] using h)] at hv; cases hv
      have hcell := (hH'.cell (i := j) (c := i) (by simpa using hjl) hi4).1
      have hg2 : (sortWorldK encR 4 w g 0 n d'.toArray os).cell? ⟨g, j * 4 + i, none⟩ = (putRowK encR 4 (Sort.ahead w n) g 0 d'.toArray).cell? ⟨g, j * 4 + i, none⟩ :=
        Go.Sort.cell?_grow _ _ _ (by simpa [putRowK, putRow, mapBlock, Sort.ahead] using hlt)
      refine hg2.trans ?_
      have he : encR (d'.toArray[j]!) = encS p := by unfold encR encS; rw [hp]
      rw [he] at hcell
      rw [show j * 4 + i = 0 + j * 4 + i by omega, hcell]
      rw [List.getElem?_eq_some_iff] at hv
      obtain ⟨hvi, rfl⟩ := hv
      rw [getElem!_pos (encS p) i hvi])
    rw [hll] at this
    exact this
  · cases h
theorem slices_SortFunc.callsB {Pk : Nat → Prop} {u : Value} {l r : List S39} {w0 w : World} (hB : Below w0.heap.size w0 w) (ho : Kd.R k39 39 w w0.heap.size Pk u l) (h : slices_SortFunc.f l = some r) :
    Calls Tryd.prog 26 #[u, .func (.func 27) #[] #[]] w fun e w' => e = .returned (.tuple #[]) ∧ Kd.R k39 39 w' w0.heap.size Pk u r ∧ Below w0.heap.size w0 w' := by
  obtain ⟨g, c, rfl, _, hb, _, hs⟩ := slices_SortFunc.calls ho h
  refine hs.mono ?_
  rintro e w' ⟨rfl, hR, hg⟩
  exact ⟨rfl, hR, hB.grown hg hB.size (fun k e => by cases e; exact hb)⟩
end Go.Proofs.YtddedmdgfakfjaaDoor.FA
