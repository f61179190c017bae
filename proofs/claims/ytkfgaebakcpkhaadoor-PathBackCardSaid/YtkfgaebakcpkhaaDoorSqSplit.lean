/-
  strings.SplitSeq at a separator of one byte: what its closure hands to a loop's body: the pieces, in order; condition: fewer than 2^47 bytes.
-/
import Derived.Shelf.Abstract
import Derived.Shelf.RegionOpen
import Derived.WalkKit
import Derived.OwnWalkIn
import Derived.TacticsInMore
import Derived.LoopNIn
import Derived.LoopIn
import Derived.Maps.AppendAt
import Derived.Lib.Hide
import Derived.Test.YtkfgaebakcpkhaaDoorSqLaw
import Derived.Test.YtkfgaebakcpkhaaDoorOShelf
namespace Go.Proofs.YtkfgaebakcpkhaaDoor.Sq
open Go.RowKit Go.Shelf Go.Lib
attribute [local go_sem] Oper.semAt_some

/-- What stands between the bytes c. -/
def cutB (c : UInt8) : List UInt8 → List (List UInt8)
  | [] => [[]]
  | b :: l => if b = c then [] :: cutB c l else match cutB c l with
    | [] => [[b]]
    | p :: r => (b :: p) :: r
def pieces (c : UInt8) (s : ByteArray) : List ByteArray := (cutB c s.data.toList).map fun l => ⟨l.toArray⟩
theorem cutB_ne (c : UInt8) : ∀ l, cutB c l ≠ []
  | [] => by simp [cutB]
  | b :: l => by
    unfold cutB
    split
    · simp
    · split <;> simp
theorem cutB_none (c : UInt8) : ∀ l, Lib.indexByte l c < 0 → cutB c l = [l]
  | [], _ => rfl
  | b :: l, h => by
    unfold Lib.indexByte at h
    have hb : ¬ (b = c) := by
      rintro rfl
      simp at h
    have hi : Lib.indexByte l c < 0 := by
      rw [if_neg (by simpa using hb)] at h
      split at h
      · rename_i he; have := eq_of_beq he; omega
      · omega
    unfold cutB
    rw [if_neg hb, cutB_none c l hi]
theorem cutB_some (c : UInt8) : ∀ l, 0 ≤ Lib.indexByte l c → (Lib.indexByte l c).toNat < l.length ∧ cutB c l = l.take (Lib.indexByte l c).toNat :: cutB c (l.drop ((Lib.indexByte l c).toNat + 1))
  | [], h => by simp [Lib.indexByte] at h
  | b :: l, h => by
    unfold Lib.indexByte at h ⊢
    by_cases hb : b = c
    · subst hb
      simp [cutB]
    · have hb' : (b == c) = false := by simpa using hb
      rw [hb'] at h ⊢
      by_cases h1 : (Lib.indexByte l c == -1) = true
      · rw [h1] at h
        simp at h
      · simp only [Bool.false_eq_true, if_false, h1] at h ⊢
        have h0 : -1 ≤ Lib.indexByte l c := by
          have : ∀ l : List UInt8, -1 ≤ Lib.indexByte l c := by
            intro l
            induction l with
            | nil => simp [Lib.indexByte]
            | cons a l ih =>
              unfold Lib.indexByte
              split
              · omega
              · split <;> omega
          exact this l
        have h2 : 0 ≤ Lib.indexByte l c := by
          have : Lib.indexByte l c ≠ -1 := by simpa using h1
          omega
        obtain ⟨h3, h4⟩ := cutB_some c l h2
        have e : (Lib.indexByte l c + 1).toNat = (Lib.indexByte l c).toNat + 1 := by omega
        rw [e]
        refine ⟨by simp; omega, ?_⟩
        conv => lhs; unfold cutB
        rw [if_neg hb, h4]
        simp
theorem toList_extract (s : ByteArray) (a b : Nat) : (s.extract a b).data.toList = (s.data.toList.take b).drop a := by
  rw [ByteArray.data_extract, Array.toList_extract, List.extract_eq_take_drop, List.drop_take]
theorem mk_toList (s : ByteArray) : (⟨s.data.toList.toArray⟩ : ByteArray) = s := by
  cases s
  simp
theorem pieces_none {c : UInt8} {s : ByteArray} (h : Lib.indexByte s.data.toList c < 0) : pieces c s = [s] := by
  unfold pieces
  rw [cutB_none c _ h]
  simp only [List.map_cons, List.map_nil, mk_toList]
theorem pieces_some {c : UInt8} {s : ByteArray} (h : 0 ≤ Lib.indexByte s.data.toList c) : (Lib.indexByte s.data.toList c).toNat < s.size ∧
    pieces c s = s.extract 0 (Lib.indexByte s.data.toList c).toNat :: pieces c (s.extract ((Lib.indexByte s.data.toList c).toNat + 1) s.size) := by
  obtain ⟨h1, h2⟩ := cutB_some c _ h
  have hs : s.data.toList.length = s.size := Array.length_toList
  refine ⟨by omega, ?_⟩
  unfold pieces
  rw [h2, List.map_cons]
  have e1 : s.extract 0 (Lib.indexByte s.data.toList c).toNat = ⟨(s.data.toList.take (Lib.indexByte s.data.toList c).toNat).toArray⟩ := by
    rw [← mk_toList (s.extract 0 _), toList_extract]
    rfl
  have e2 : (s.extract ((Lib.indexByte s.data.toList c).toNat + 1) s.size).data.toList = s.data.toList.drop ((Lib.indexByte s.data.toList c).toNat + 1) := by
    rw [toList_extract, ← hs, List.take_length]
  rw [e1, e2]

/-- A string's box, read as a number: for the loop's measure. -/
def strIn (W : World) (B : Nat) : Nat := match W.cell? ⟨B, 0, none⟩ with
  | some (.string s) => s.size
  | _ => 0

theorem strIn_box {W : World} {B : Nat} {t : TypeId} {s : ByteArray} (h : Boxed W B t (.string s)) : strIn W B = s.size := by
  unfold strIn
  rw [h.cell]
set_option maxRecDepth 100000 in
set_option maxHeartbeats 2000000 in
/-- The closure of SplitSeq: for every loop body that keeps its three boxes. -/
theorem split_seq (c : UInt8) (s0 : ByteArray) (hs0 : s0.size < 140737488355328) (Bs Bp Bv : Nat) (hne : Bp ≠ Bs ∧ Bv ≠ Bs) (w : World) (n : Nat) (hn : 2 ≤ n)
    (bs : Boxed w Bs 9 (.string s0)) (bp : Boxed w Bp 9 (.string ⟨#[c]⟩)) (bv : Boxed w Bv 3 (.int .i64 0)) :
    Seq Fence.wide n Tryd.prog 55 #[.pointer (some ⟨Bp, 0, none⟩), .pointer (some ⟨Bs, 0, none⟩), .pointer (some ⟨Bv, 0, none⟩)] (fun x : ByteArray => Value.string x) (fun r => r = Bs)
      (fun A B => ∀ k, k = Bs ∨ k = Bp ∨ k = Bv → B.heap[k]? = A.heap[k]?) (fun xs => xs = pieces c s0) (fun pre => pre <+: pieces c s0) w := by
  intro l J Jx W hW hJ hJx hY h0
  have keepB : ∀ {B : Nat} {t : TypeId} {v : Value}, Boxed w B t v → Boxed W B t v := fun {B t v} hb => (hW.block B hb.lt).trans hb
  replace bs := keepB bs
  replace bp := keepB bp
  replace bv := keepB bv
  refine callsIn_of_wp Tryd.func55 rfl trivial ?_ rfl
  simp only [Tryd.ntmps55, List.size_toArray, List.length_cons, List.length_nil, Nat.reduceAdd, Nat.reduceSub, Array.replicate_succ, Array.replicate_zero, List.push_toArray, List.append_toArray, List.nil_append, List.cons_append]
  have hn1 : 1 ≤ n := by omega
  have cp := bp.cell
  have hI := fun (s : ByteArray) (W : World) => Any.strings_Index_one Tryd.lays143 s c W
  change ∀ (s : ByteArray) (W : World), Calls Tryd.prog 56 _ _ _ at hI
  gi_wp2
  gi_loopw [7] (fun _ wr => ∃ (pre : List ByteArray) (rest : ByteArray), Boxed wr Bs 9 (.string rest) ∧ Boxed wr Bp 9 (.string ⟨#[c]⟩) ∧ Boxed wr Bv 3 (.int .i64 0) ∧ Hid (pre ++ pieces c rest = pieces c s0) ∧ rest.size ≤ s0.size ∧ J pre wr)
    (fun _ wr => strIn wr Bs)
  case atStart => exact ⟨[], s0, bs, bp, bv, rfl, Nat.le_refl _, h0⟩
  case round =>
    clear h0 bs bp bv cp keepB
    obtain ⟨pre, rest, bs, bp, bv, hp, hr, hj⟩ := hrel
    have cs := bs.cell
    have fs := bs.frozen
    have cp := bp.cell
    have cv := bv.cell
    by_cases hi : 0 ≤ Lib.indexByte rest.data.toList c
    · obtain ⟨hlt, hps⟩ := pieces_some hi
      obtain ⟨i, hIx⟩ : ∃ i : Nat, Lib.indexByte rest.data.toList c = (i : Int) := ⟨_, (Int.toNat_of_nonneg hi).symm⟩
      rw [hIx, Int.toNat_natCast] at hlt hps
      have hI1 := fun W => hI rest W
      rw [hIx] at hI1
      clear hI hi hIx
      have hpre : pre ++ [rest.extract 0 i] <+: pieces c s0 := by
        rw [← hp.out, hps]
        exact ⟨pieces c (rest.extract (i + 1) rest.size), by simp⟩
      have hp2 : Hid ((pre ++ [rest.extract 0 i]) ++ pieces c (rest.extract (i + 1) rest.size) = pieces c s0) := by
        show _ = _
        rw [← hp.out, hps]
        simp
      clear hps hp
      obtain ⟨fn, tmps, assign, body, hy, hR⟩ := hY pre (rest.extract 0 i) wr hj hpre
      replace hpre := Lib.hid hpre
      gi_wp2_with (refine ⟨trivial, ?_⟩; gi_at_call 56; refine (callsIn_wide.2 (hI1 _)).mono ?_; rintro e w' ⟨rfl, rfl⟩)
      refine hR.mono ?_
      rintro e W3 (⟨rfl, hj3, hk3⟩ | ⟨rfl, hx3⟩)
      · have bs3 : Boxed W3 Bs 9 (.string rest) := (hk3 Bs (.inl rfl)).trans bs
        have bp3 : Boxed W3 Bp 9 (.string ⟨#[c]⟩) := (hk3 Bp (.inr (.inl rfl))).trans bp
        have bv3 : Boxed W3 Bv 3 (.int .i64 0) := (hk3 Bv (.inr (.inr rfl))).trans bv
        have cs3 := bs3.cell
        have fs3 := bs3.frozen
        have cp3 := bp3.cell
        gi_wp2
        have b1 := bs3.set (.string (rest.extract (i + 1) rest.size))
        have hsz : (rest.extract (i + 1) rest.size).size < rest.size := by
          rw [ByteArray.size_extract]
          omega
        refine ⟨⟨pre ++ [rest.extract 0 i], rest.extract (i + 1) rest.size, b1, bp3.other hne.1 _, bv3.other hne.2 _, hp2, by omega, ?_⟩, ?_⟩
        · exact hJ _ _ _ (some Bs) hj3 (grownBy_setCell' W3 Bs _) (fun r e => by cases e; rfl)
        · rw [strIn_box b1, strIn_box bs]
          exact hsz
      · gi_wp2
        refine bodyPost_ret (results_none rfl _ _ _) rfl ?_
        exact ⟨⟨_, rfl⟩, .inr ⟨_, hpre.out, hx3⟩⟩
    · have hps := pieces_none (c := c) (s := rest) (by omega)
      obtain ⟨z, hz⟩ : ∃ z, Lib.indexByte rest.data.toList c = z := ⟨_, rfl⟩
      rw [hz] at hi
      have hz0 : z < 0 := by omega
      have hI1 := fun W => hI rest W
      rw [hz] at hI1
      clear hI hi hz
      have hall : Hid (pre ++ [rest] = pieces c s0) := by
        show _ = _
        rw [← hp.out, hps]
      have hpre : pre ++ [rest] <+: pieces c s0 := ⟨[], by rw [List.append_nil]; exact hall.out⟩
      clear hps hp
      obtain ⟨fn, tmps, assign, body, hy, hR⟩ := hY pre rest wr hj hpre
      replace hpre := Lib.hid hpre
      gi_wp2_with (refine ⟨trivial, ?_⟩; gi_at_call 56; refine (callsIn_wide.2 (hI1 _)).mono ?_; rintro e w' ⟨rfl, rfl⟩)
      refine hR.mono ?_
      rintro e W3 (⟨rfl, hj3, hk3⟩ | ⟨rfl, hx3⟩)
      · gi_wp2
        go_end0
        exact ⟨⟨_, rfl⟩, .inl ⟨_, hall.out, hj3⟩⟩
      · gi_wp2
        go_end0
        exact ⟨⟨_, rfl⟩, .inr ⟨_, hpre.out, hx3⟩⟩
end Go.Proofs.YtkfgaebakcpkhaaDoor.Sq
