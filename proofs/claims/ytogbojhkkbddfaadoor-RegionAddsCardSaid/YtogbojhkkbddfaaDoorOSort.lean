/-
  slices.SortFunc at []Region with joined's comparison, by the shelf's contract: regions whose first pages differ and lie in 0 to 4096 are sorted.
-/
import Derived.Test.YtogbojhkkbddfaaDoorRAx0
import Derived.Test.YtogbojhkkbddfaaDoorOShelf
import Derived.Shelf.SlSortCmp.NoneTotal
namespace Go.Proofs.YtogbojhkkbddfaaDoor.RA
open Go.RowKit Go.Shelf Go.Lib Go.Sort Go.Proofs.YtogbojhkkbddfaaDoorW.PrintWords

def leR (x y : S33) : Bool := decide (x.f0 ≤ y.f0)
def slices_SortFunc.f (l : List S33) : Option (List S33) :=
  if l.isEmpty = false ∧ l.length < 1000000 ∧ (∀ x ∈ l, 0 ≤ x.f0 ∧ x.f0 ≤ 4096) ∧ (l.map (·.f0)).Nodup then some (l.mergeSort leR) else none

def encR {l : List S33} (x : {x : S33 // x ∈ l}) : List Value := [.int .i64 x.1.f0, .int .i64 x.1.f1, .int .u8 x.1.f2]
def cfR {l : List S33} (x y : {x : S33 // x ∈ l}) : Int := x.1.f0 - y.1.f0

set_option maxHeartbeats 1000000 in
theorem closure (a b c a' b' c' : Int) (h1 : 0 ≤ a) (h2 : a ≤ 4096) (h3 : 0 ≤ a') (h4 : a' ≤ 4096) (W : World) :
    Calls Tryd.prog 35 #[.agg #[.int .i64 a, .int .i64 b, .int .u8 c], .agg #[.int .i64 a', .int .i64 b', .int .u8 c']] W fun e w' => e = .returned (.int .i64 (a - a')) ∧ ∃ q os', w' = grow (W.drewN q) os' := by
  go_enter Tryd.func35, Tryd.ntmps35
  go_wp2
  all_goals (try (go_quiet (fail)))
  all_goals (try go_wp2)
  go_ret
  exact ⟨rfl, 0, _, by rw [alloc_eq_grow, alloc_eq_grow, grow_grow]; rfl⟩

theorem isAgg33 (w : World) : (isAgg 33).run Tryd.prog w = .ok true w := by kernel_rfl
theorem sizeOf33 (w : World) : (Go.sizeOf 33).run Tryd.prog w = .ok 3 w := by kernel_rfl

section
variable {l : List S33}
theorem lt_cfR (x y : {x : S33 // x ∈ l}) : ltOf cfR x y = decide (x.1.f0 < y.1.f0) := by
  unfold ltOf cfR
  by_cases h : x.1.f0 < y.1.f0
  · simp [h]; omega
  · simp [h]; omega
theorem swoR : SWO (ltOf (cfR (l := l))) where
  irrefl x := by rw [lt_cfR]; simp
  trans x y z h1 h2 := by rw [lt_cfR] at *; simp at *; omega
  ntrans x y z h1 h2 := by rw [lt_cfR] at *; simp at *; omega
theorem inj_of_nodup (hn : (l.map (·.f0)).Nodup) : ∀ x ∈ l, ∀ y ∈ l, x.f0 = y.f0 → x = y := by
  induction l with
  | nil => intro x hx; cases hx
  | cons a l ih =>
    rw [List.map_cons, List.nodup_cons] at hn
    intro x hx y hy e
    rcases List.mem_cons.1 hx with rfl | hx'
    · rcases List.mem_cons.1 hy with rfl | hy'
      · rfl
      · exact absurd (List.mem_map.2 ⟨y, hy', e.symm⟩) hn.1
    · rcases List.mem_cons.1 hy with rfl | hy'
      · exact absurd (List.mem_map.2 ⟨x, hx', e⟩) hn.1
      · exact ih hn.2 x hx' y hy' e
theorem totR (hn : (l.map (·.f0)).Nodup) (x y : {x : S33 // x ∈ l}) (h1 : ltOf cfR x y = false) (h2 : ltOf cfR y x = false) : x = y := by
  rw [lt_cfR] at h1 h2
  simp at h1 h2
  exact Subtype.ext (inj_of_nodup hn _ x.2 _ y.2 (by omega))
theorem attach_sorted (l : List S33) : ((l.attach.toArray.toList.mergeSort fun x y => !(ltOf cfR) y x)).map (·.1) = l.mergeSort leR := by
  rw [List.map_mergeSort (s := leR)]
  · congr 1
    simp
  · intro a _ b _
    rw [lt_cfR]
    unfold leR
    by_cases h : b.1.f0 < a.1.f0
    · simp [h]
    · simp [h]; omega
end

theorem grown_sort {α : Type} [Inhabited α] {enc : α → List Value} {k : Nat} {w : World} {g n : Nat} {os : Array Obj} (d : Array α) : w.grownBy (sortWorldK enc k w g 0 n d os) (some g) := by
  refine ⟨rfl, rfl, rfl, by simp [sortWorldK, putRowK, putRow, mapBlock, Sort.ahead, grow], fun j hj hne => ?_⟩
  unfold sortWorldK putRowK
  rw [Go.Sort.heap_grow_old _ _ (by simpa [putRow, mapBlock, Sort.ahead] using hj)]
  have : g ≠ j := fun e => hne (by rw [e])
  simp [putRow, mapBlock, Sort.ahead, Array.getElem?_modify, this]

set_option maxHeartbeats 1000000 in
theorem sorts {Pk : Nat → Prop} {u : Value} {l l1 : List S33} {b : Nat} {w : World} (ho : Kd.R k33 33 w b Pk u l) (h : slices_SortFunc.f l = some l1) :
    ∃ g c, u = .slice (some ⟨g, 0, none⟩) l1.length c ∧ Pk g ∧ b ≤ g ∧ l1.length ≤ c ∧ Calls Tryd.prog 34 #[u, .func (.func 35) #[] #[]] w fun e w' => e = .returned (.tuple #[]) ∧ Kd.C k33 w' (some ⟨g, 0, none⟩) l1.length l1 ∧ w.grownBy w' (some g) := by
  unfold slices_SortFunc.f at h
  split at h
  · rename_i hc
    obtain ⟨hne, hln, hr, hn⟩ := hc
    obtain rfl := Option.some.inj h
    have hpos : 0 < l.length := by cases l with | nil => simp at hne | cons a l => simp
    have hlen : (l.mergeSort leR).length = l.length := List.length_mergeSort l
    obtain ⟨g, cap, rfl, hb, hlt, cells, hcells⟩ := Kd.R_form ho hpos
    have hPk : Pk g := ho.1 g rfl
    obtain ⟨_, hcap, hC⟩ := Kd.R_reads' ho
    have hC1 : ∀ i, i < l.length → ∃ x, l[i]? = some x ∧ w.cell? ⟨g, i * 3, none⟩ = some (.int .i64 x.f0) ∧ w.cell? ⟨g, i * 3 + 1, none⟩ = some (.int .i64 x.f1) ∧ w.cell? ⟨g, i * 3 + 2, none⟩ = some (.int .u8 x.f2) := by
      intro i hi
      obtain ⟨ad, e, hc⟩ := hC.2.2 hpos
      injection e with e
      subst e
      obtain ⟨c, _, hK, hcell⟩ := hc i _ (List.getElem?_eq_getElem hi)
      obtain rfl := k33_open hK
      have a0 := hcell 0 _ rfl
      have a1 := hcell 1 _ rfl
      have a2 := hcell 2 _ rfl
      rw [add_plain] at a0 a1 a2
      exact ⟨_, List.getElem?_eq_getElem hi, a0, a1, a2⟩
    have hmax : l.length ≤ 9223372036854775807 := hC.2.1
    have hsz : l.length < 4611686018427387904 := by omega
    let z : {x : S33 // x ∈ l} := ⟨l[0], List.getElem_mem hpos⟩
    haveI : Inhabited {x : S33 // x ∈ l} := ⟨z⟩
    let d : Array {x : S33 // x ∈ l} := l.attach.toArray
    have hds : d.size = l.length := by simp [d]
    have hH : HoldsK encR 3 w g 0 d := by
      intro t ht
      rw [size_flatK, hds] at ht
      have hi : t / 3 < l.length := by omega
      have hfz : w.frozen? ⟨g, 0 + t, none⟩ = false := blk_frozen hcells (0 + t)
      refine ⟨?_, hfz⟩
      rw [get_flatK _ _ _ _ (by rw [hds]; exact ht)]
      obtain ⟨x, hx, c0, c1, c2⟩ := hC1 (t / 3) hi
      have hdx : (d[t / 3]!).1 = x := by
        rw [getElem!_pos d (t / 3) (by rw [hds]; exact hi)]
        simp only [d, List.getElem_toArray, List.getElem_attach]
        rw [List.getElem?_eq_getElem hi] at hx
        exact Option.some.inj hx
      rcases (by omega : t % 3 = 0 ∨ t % 3 = 1 ∨ t % 3 = 2) with e | e | e
      · rw [show 0 + t = t / 3 * 3 by omega, c0, e]; simp [encR, hdx]
      · rw [show 0 + t = t / 3 * 3 + 1 by omega, c1, e]; simp [encR, hdx]
      · rw [show 0 + t = t / 3 * 3 + 2 by omega, c2, e]; simp [encR, hdx]
    have eg : ∀ args w, (callFunc 35 args).run Tryd.prog w = .ok (.enter 35 args) w := enters_of Tryd.func35 (by kernel_rfl) rfl
    have hcmp : CmpLays Tryd.prog 35 #[] encR 3 (cfR (l := l)) g 0 d.size w := fun _ _ _ _ x y => closure _ _ _ _ _ _ (hr _ x.2).1 (hr _ x.2).2 (hr _ y.2).1 (hr _ y.2).2 _
    have hcon := AnyQ.slices_SortFunc_total Tryd.sortReg 3 isAgg33 sizeOf33 encR (fun _ => rfl) (fun x v hv => by simp [encR] at hv; rcases hv with rfl | rfl | rfl <;> rfl) cfR swoR 35 #[] g 0 cap d w eg hcmp hH hlt (by rw [hds]; exact hsz) (totR hn)
    change Calls Tryd.prog 34 _ _ _ at hcon
    refine ⟨g, cap, by rw [hlen], hPk, hb, by rw [hlen]; exact hcap, ?_⟩
    rw [hds] at hcon
    refine hcon.mono ?_
    rintro e w' ⟨rfl, n, os, rfl⟩
    refine ⟨rfl, ?_, grown_sort _⟩
    have hs := attach_sorted l
    generalize hd' : (l.attach.toArray.toList.mergeSort fun x y => !(ltOf cfR) y x) = d' at hs
    have hd'l : d'.length = l.length := by rw [← hd', List.length_mergeSort]; simp
    rw [← hs]
    have hH' : HoldsK encR 3 (putRowK encR 3 (Sort.ahead w n) g 0 d'.toArray) g 0 d'.toArray := holdsK_putRowK _ _ _ _ _ d _ hH (by rw [hds]; simpa using hd'l)
    refine ⟨rfl, by simp [hd'l]; omega, fun _ => ⟨_, rfl, fun j p hj => ?_⟩⟩
    have hjl : j < d'.length := by
      rcases Nat.lt_or_ge j d'.length with h | h
      · exact h
      · rw [List.getElem?_eq_none (by simpa using h)] at hj; cases hj
    have hp : (d'.toArray[j]!).1 = p := by
      rw [getElem!_pos d'.toArray j (by simpa using hjl)]
      rw [List.getElem?_map, List.getElem?_eq_getElem hjl] at hj
      exact Option.some.inj hj
    refine ⟨_, rfl, k33_mk _ p, fun i u hu => ?_⟩
    have hi3 : i < 3 := by
      rcases Nat.lt_or_ge i 3 with h | h
      · exact h
      · rw [List.getElem?_eq_none (by simpa using h)] at hu; cases hu
    have hcell := (hH'.cell (i := j) (c := i) (by simpa using hjl) hi3).1
    rw [add_plain]
    have hg2 : (sortWorldK encR 3 w g 0 n d'.toArray os).cell? ⟨g, j * 3 + i, none⟩ = (putRowK encR 3 (Sort.ahead w n) g 0 d'.toArray).cell? ⟨g, j * 3 + i, none⟩ :=
      Go.Sort.cell?_grow _ _ _ (by simpa [putRowK, putRow, mapBlock, Sort.ahead] using hlt)
    refine hg2.trans ?_
    have he : encR (d'.toArray[j]!) = [.int .i64 p.f0, .int .i64 p.f1, .int .u8 p.f2] := by unfold encR; rw [hp]
    rw [he] at hcell
    show World.cell? _ ⟨g, j * 3 + i, none⟩ = _
    rw [show j * 3 + i = 0 + j * 3 + i by omega, hcell]
    rcases (by omega : i = 0 ∨ i = 1 ∨ i = 2) with rfl | rfl | rfl <;> simpa using hu
  · cases h
end Go.Proofs.YtogbojhkkbddfaaDoor.RA
