/-
  A range over an iterator that writes blocks of its own (strings.SplitSeq's closure turns the string that it has captured): the contract of such an iterator, and the law of the loop over it, whatever the body.
-/
import Derived.RangeFuncBox
import Derived.RangeFuncNested
import Derived.RangeFuncLeaves
import Derived.RangeFuncBound
import Derived.RangeFuncCalls
namespace Go.Proofs.YtkfgaebakcpkhaaDoor.Sq
open Go.RowKit

/-- J stands where the iterator's own blocks are turned. -/
def Stands {β : Type} (own : Nat → Prop) (J : β → World → Prop) : Prop :=
  ∀ s A B row, J s A → A.grownBy B row → (∀ r, row = some r → own r) → J s B

/-- The iterator's contract: each round ends in true (J goes on, Kp is kept) or in false (Jx). -/
def Seq {α : Type} (F : Fence) (n : Nat) (P : Program) (g : Nat) (lb : Array Value) (enc : α → Value) (own : Nat → Prop) (Kp : World → World → Prop) (All Part : List α → Prop) (w : World) : Prop :=
  ∀ (l : Nat) (J Jx : List α → World → Prop) (W : World), Below w.heap.size w W → Stands own J → Stands own Jx →
    (∀ pre x W1, J pre W1 → Part (pre ++ [x]) → YieldAt F (n - 1) P l #[enc x] W1 fun e W2 =>
      (e = .returned (.bool true) ∧ J (pre ++ [x]) W2 ∧ Kp W1 W2) ∨ (e = .returned (.bool false) ∧ Jx (pre ++ [x]) W2)) →
    J [] W →
    CallsIn F n P g (#[.func (.yield l) #[] #[]] ++ lb) W fun e W2 => (∃ v, e = .returned v) ∧ ((∃ xs, All xs ∧ J xs W2) ∨ (∃ pre, Part pre ∧ Jx pre W2))

variable {F : Fence} {n : Nat} {P : Program}

theorem range_own {α : Type} {g : Operand} {ps : Array Tmp} {assign body : Code} {Q : Exit → Act → World → Prop} {a : Act} {w : World}
    (hro : F.round = none) (h1 : 1 ≤ n) {gf : Nat} {lb : Array Value} (hg : a.eval g = .func (.func gf) #[] lb) (hFg : F.fn gf) (eg : ∀ args w, (callFunc gf args).run P w = .ok (.enter gf args) w)
    {enc : α → Value} {own : Nat → Prop} {Kp : World → World → Prop} {All Part : List α → Prop} (hseq : Seq F (n - 1) P gf lb enc own Kp All Part w)
    (hown : ∀ r, own r → r < w.heap.size)
    (hKt : ∀ {A B C : World}, Kp A B → Kp B C → Kp A C) (hKb : ∀ (W : World) (l : Nat) (o o' : Obj), w.heap.size ≤ l → W.heap[l]? = some o → o.isCells = false → o.isWalk = false → Kp W (W.putObj l o')) (hps : ps.size = 1)
    (I : List α → World → Prop) (Ix : Code → List α → World → Prop) (hI : OwnFrom w.heap.size I) (hIx : ∀ c, OwnFrom w.heap.size (Ix c)) (hS : Stands own I) (hSx : ∀ c, Stands own (Ix c)) (h0 : I [] w) (a₁ : α → Act)
    (hassign : ∀ (l : Nat) (x : α) (W : World) (K : Act → World → Prop), K (a₁ x) W →
      assign.wpIn (F.inRound l) (n - 1 - 1) P (Exit.then K (fun _ _ _ => False)) { tmps := (ps.zip #[enc x]).foldl (fun t (p, v) => t.setIfInBounds p v) a.tmps, defers := [] } W)
    (hbody : ∀ (l : Nat) (pre : List α) (x : α) (W : World), I pre W → Part (pre ++ [x]) → body.wpIn (F.inRound l) (n - 1 - 1) P (ownPostG w.heap.size Kp I Ix (pre ++ [x]) W) (a₁ x) W)
    (hdone : ∀ (D : Nat) (xs : List α) (W : World), w.heap.size ≤ D → All xs → I xs W → W.heap[D]? = some (.deferred (some [])) → Q .normal { a with defers := { target := .collected D, args := #[] } :: a.defers } W)
    (hstop : ∀ (D : Nat) (c : Code) (pre : List α) (W : World), w.heap.size ≤ D → Part pre → Ix c pre W → W.heap[D]? = some (.deferred (some [])) → c.wpIn F n P Q { a with defers := { target := .collected D, args := #[] } :: a.defers } W) :
    (Code.rangeFunc g ps assign body).wpIn F n P Q a w := by
  refine wpIn_rangeFunc fun fn hfn => ?_
  rw [hro]
  -- the two blocks of the loop's book-keeping: D for what is deferred, L for the loop itself
  obtain ⟨D, hD⟩ : ∃ D, D = w.heap.size := ⟨_, rfl⟩
  obtain ⟨lp, hlp⟩ : ∃ lp : LoopState → Option Code → Loop, lp = fun st pe => { state := st, pending := pe, fn, tmps := a.tmps, params := ps, assign, body, defers := D } := ⟨_, rfl⟩
  obtain ⟨W0, hW0⟩ : ∃ W0, W0 = (w.alloc (.deferred (some []))).alloc (.loop (lp .ready none)) := ⟨_, rfl⟩
  have b0 : Below w.heap.size w W0 := by rw [hW0]; exact ((Below.refl _ w).alloc (Nat.le_refl _) _).alloc (by simp) _
  have lD : W0.heap[D]? = some (.deferred (some [])) := by
    rw [hW0, hD]; exact (Below.heap_alloc _ _ _ (by simp)).trans (World.alloc_heap_new w _)
  have lL : W0.heap[D + 1]? = some (.loop (lp .ready none)) := by
    have := World.alloc_heap_new (w.alloc (.deferred (some []))) (.loop (lp .ready none))
    rw [World.size_alloc] at this
    rw [hW0, hD]; exact this
  have i0 : I [] W0 := by rw [hW0]; exact hI.alloc _ (hI.alloc _ h0)
  -- a fact of a block at or beyond D stands where a block of the iterator's is turned
  have far : ∀ {A B : World} {row : Option Nat} {k : Nat} {o : Obj}, A.grownBy B row → (∀ r, row = some r → own r) → D ≤ k → A.heap[k]? = some o → B.heap[k]? = some o := fun {A B row k o} hg hr hk hA => by
    refine (hg.block k (Array.getElem?_eq_some_iff.1 hA).1 (fun e => ?_)).trans hA
    have := hown _ (hr k e.symm)
    omega
  refine ⟨D + 1, [{ target := .collected D, args := #[] }], W0, { target := .fn (.func gf) lb, args := #[.func (.yield (D + 1)) #[] #[]] }, W0, gf,
    #[.func (.yield (D + 1)) #[] #[]] ++ lb, W0, ?_, ?_, ?_, ?_, fun _ => h1, ?_⟩
  · subst hD; subst hlp; subst hW0
    exact run_enterLoop_outer _ _ _ _ _
  · simp only [resolve, hg]
    simp [go_sem]
  · intro f' hf'
    simp [Target.leads] at hf'
    subst hf'
    exact hFg
  · simp [invoke, go_sem, eg]
  · refine (hseq (D + 1) (fun pre W => I pre W ∧ W.heap[D + 1]? = some (.loop (lp .ready none)) ∧ W.heap[D]? = some (.deferred (some [])))
      (fun pre W => ∃ c, Ix c pre W ∧ W.heap[D + 1]? = some (.loop (lp .done (some c))) ∧ W.heap[D]? = some (.deferred (some [])))
      W0 b0
      (fun s A B row hs hg hr => ⟨hS s A B row hs.1 hg hr, far hg hr (by omega) hs.2.1, far hg hr (Nat.le_refl _) hs.2.2⟩)
      (fun s A B row hs hg hr => by
        obtain ⟨c, h1, h2, h3⟩ := hs
        exact ⟨c, hSx c s A B row h1 hg hr, far hg hr (by omega) h2, far hg hr (Nat.le_refl _) h3⟩)
      ?round ⟨i0, lL, lD⟩).mono ?rest
    case round =>
      rintro pre x W ⟨hi, hl, hk⟩ hp
      have hy := run_yield (P := P) (args := #[enc x]) hl (by subst hlp; simpa using hps.symm)
      subst hlp
      refine ⟨fn, _, assign, body, hy, roundIn_of_wpIn hfn (hassign _ x W _ ⟨_, run_beginRound hl rfl, ?_⟩)⟩
      obtain ⟨lp, hlp⟩ : ∃ lp : LoopState → Option Code → Loop, lp = fun st pe => { state := st, pending := pe, fn, tmps := a.tmps, params := ps, assign, body, defers := D } := ⟨_, rfl⟩
      have hlt : D + 1 < W.heap.size := (Array.getElem?_eq_some_iff.1 hl).1
      obtain ⟨Wb, hWb⟩ : ∃ Wb, Wb = W.putObj (D + 1) (.loop (lp .busy none)) := ⟨_, rfl⟩
      have bl : Wb.heap[D + 1]? = some (.loop (lp .busy none)) := by rw [hWb]; exact World.putObj_heap_same hlt
      have bk : Wb.heap[D]? = some (.deferred (some [])) := by rw [hWb]; exact (World.putObj_heap_other (by omega)).trans hk
      have bi : I pre Wb := by rw [hWb]; exact hI.putObj _ hi (by omega) hl rfl
      have bK : Kp W Wb := by rw [hWb]; exact hKb _ _ _ _ (by omega) hl rfl rfl
      -- how a round is closed: the loop is ready again, or done
      have close : ∀ (jump : Option Code) (W3 : World), KeepsFrom w.heap.size Wb W3 → ∃ W4, W4 = W3.putObj (D + 1) (.loop (lp (if jump.isNone then .ready else .done) jump)) ∧
          (Instr.endRound (D + 1) jump).run P W3 = .ok (.bool jump.isNone) W4 ∧ W3.heap[D + 1]? = some (.loop (lp .busy none)) ∧
          W4.heap[D + 1]? = some (.loop (lp (if jump.isNone then .ready else .done) jump)) ∧ W4.heap[D]? = some (.deferred (some [])) := fun jump W3 hk3 => by
        have h3 := hk3.same _ _ (by omega) bl rfl
        have hr := run_endRound (P := P) jump h3
        refine ⟨_, rfl, ?_, h3, World.putObj_heap_same (Array.getElem?_eq_some_iff.1 h3).1, (World.putObj_heap_other (by omega)).trans (hk3.same _ _ (by omega) bk rfl)⟩
        rw [hlp] at hr ⊢
        exact hr
      have hb := hbody (D + 1) pre x Wb bi hp
      have hleft : ∀ (c : Code) (W3 : World), KeepsFrom w.heap.size Wb W3 → Ix c (pre ++ [x]) W3 → ∃ v W4, (Instr.endRound (D + 1) (some c)).run P W3 = .ok v W4 ∧
          ((Ending.returned v = .returned (.bool true) ∧ (I (pre ++ [x]) W4 ∧ W4.heap[D + 1]? = some (.loop (lp .ready none)) ∧ W4.heap[D]? = some (.deferred (some []))) ∧ Kp W W4) ∨
           (Ending.returned v = .returned (.bool false) ∧ ∃ c, Ix c (pre ++ [x]) W4 ∧ W4.heap[D + 1]? = some (.loop (lp .done (some c))) ∧ W4.heap[D]? = some (.deferred (some [])))) := fun c W3 hk3 hi3 => by
        obtain ⟨W4, e4, hr, h3, h4, h5⟩ := close (some c) W3 hk3
        subst e4
        exact ⟨_, _, hr, .inr ⟨rfl, c, (hIx c).putObj _ hi3 (by omega) h3 rfl, h4, h5⟩⟩
      rw [hlp] at hWb
      rw [← hWb]
      refine wpIn_mono hb ?_
      rw [hlp] at hleft close
      rintro e a3 W3 hp3
      cases e with
      | normal =>
        obtain ⟨hk3, hkp3, hi3⟩ := hp3
        obtain ⟨W4, e4, hr, h3, h4, h5⟩ := close none W3 hk3
        subst e4
        exact ⟨_, _, hr, .inl ⟨rfl, ⟨hI.putObj _ hi3 (by omega) h3 rfl, h4, h5⟩, hKt (hKt bK hkp3) (hKb _ _ _ _ (by omega) h3 rfl rfl)⟩⟩
      | ret => exact hleft .ret W3 hp3.1 hp3.2
      | exit id => exact hleft (.exit id) W3 hp3.1 hp3.2
      | goto t => exact hleft (.goto t) W3 hp3.1 hp3.2
      | panic ch => exact hp3.elim
      | outgrown => exact hp3.elim
    case rest =>
      rintro e W2 ⟨⟨v, rfl⟩, ⟨xs, hA, hi, hl, hk⟩ | ⟨pre, hP, c, hi, hl, hk⟩⟩
      · have hr := run_endLoop (P := P) hl (by rw [hlp]; simp)
        rw [hlp] at hr
        exact ⟨none, _, hr, hD ▸ hdone D xs _ (by omega) hA (hI.putObj _ hi (by omega) hl rfl) ((World.putObj_heap_other (by omega)).trans hk)⟩
      · have hr := run_endLoop (P := P) hl (by rw [hlp]; simp)
        rw [hlp] at hr
        exact ⟨some c, _, hr, hD ▸ hstop D c pre _ (by omega) hP ((hIx c).putObj _ hi (by omega) hl rfl) ((World.putObj_heap_other (by omega)).trans hk)⟩
end Go.Proofs.YtkfgaebakcpkhaaDoor.Sq
