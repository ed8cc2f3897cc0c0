/- what functions of this program compute: contracts, each a function's own -/
import Derived.Test.YtkpecjbbmadlcaaGreatDoorAbsK3
import Derived.Test.YtkpecjbbmadlcaaGreatDoorAbsFacts
import Derived.Test.YtkpecjbbmadlcaaGreatDoorAbsF5
import Derived.Test.YtkpecjbbmadlcaaGreatDoorAbsShelf
import Derived.Lib.SplitLaws
import Derived.Lib.SlTrimSet
import Derived.Lib.Atoi
import Derived.Lib.Itoa
import Derived.Lib.ItoaNum
import Derived.Lib.ItoaLen
import Derived.Lib.Replace
import Derived.Lib.ReplaceLaws
import Derived.Lib.AtoiErrMem
import Derived.Lib.Overlaps
import Derived.Deep.AppendSrc
import Derived.Laws.NewBlocks
import Derived.WalkKit
import Derived.Lib.Walk
import Derived.Lib.AppendStr
import Derived.Lib.AppendZeros
import Derived.Lib.UnsafeStr
import Derived.Lib.Builder
import Derived.Laws.Externs
import Derived.Lib.Repeat
import Derived.Lib.Join
namespace Go.Abs
open Go Go.Proofs
set_option maxHeartbeats 4000000
set_option maxRecDepth 100000
set_option linter.unusedVariables false
set_option linter.unusedSimpArgs false
def ckRowBad0 : Ck
  | [.str s, .int .u8 c] => some (c = 0 ∧ s.length ≤ 4611686018427387900, .int .i64 (rb0 s))
  | _ => none
theorem row_not0 (c : UInt8) (h : rowB c = true) : ¬ (c.toNat : Int) = 0 := by
  intro e
  have : c = 0 := UInt8.toNat_inj.1 (show c.toNat = 0 by omega)
  rw [this] at h
  revert h; decide
theorem conRowBad0 : Con pg 145 ckRowBad0 := by
  have hct := (ctA_ok conRowByte (ctA_ok conHex2 (ctN_ok _)))
  intro args q r h hq
  unfold ckRowBad0 at h
  split at h
  · cases h
    rename_i s c
    refine w145 (fun _ => false) [] rfl hct rfl rfl ?_
    push_cast (config := { maxSteps := 10000000 })
    obtain ⟨rfl, hs⟩ := hq
    refine LoopW.adj ⟨hct, fol⟩ (by kernel_rfl) [] (fun i : Nat => [(0, .str s), (1, .int .u8 0), (5, .int .i64 i)]) (fun _ => []) (fun i => i ≤ s.length ∧ ∀ j, j < i → cell0 s j = true) (fun i => s.length - i) 0 ?_ fun i hi => ?_
    · push_cast (config := { maxSteps := 10000000 })
      exact Nat.zero_le _
    · obtain ⟨i1, i2⟩ := hi
      push_cast (config := { maxSteps := 10000000 })
      have hc : cell0 s i = true ↔ rowB (s.getD i 0) = true ∧ ((s.getD i 0).toNat = 37 → (i + 2 < s.length ∧ isHex ((s.getD (i + 1) 0).toNat : Int) = true) ∧ isHex ((s.getD (i + 2) 0).toNat : Int) = true) := by
        unfold cell0 pctB
        simp only [Bool.and_eq_true, Bool.or_eq_true, decide_eq_true_eq]
        constructor
        · rintro ⟨a, b⟩
          exact ⟨a, fun e => b.resolve_left (fun x => x e)⟩
        · rintro ⟨a, b⟩
          refine ⟨a, ?_⟩
          by_cases e : (s.getD i 0).toNat = 37
          · exact .inr (b e)
          · exact .inl e
      have c8 := UInt8.toNat_lt (s.getD i 0)
      have n0 := row_not0 (s.getD i 0)
      have e37 : ((s.getD i 0).toNat : Int) = 37 ↔ (s.getD i 0).toNat = 37 := by omega
      rw [e37]
      have bad : cell0 s i ≠ true → i < s.length → (i : Int) = rb0 s := fun h hl => (rb0_at hl i2 (by simpa using h)).symm
      refine ⟨fun hl => ⟨hl, by omega, fun h => ⟨h, hl⟩, fun h => bad (fun x => ?_) hl, fun h => ⟨hl, fun x => ⟨x, by omega, by omega⟩, fun x => ⟨x, by omega, by omega⟩, fun x => ⟨x, by omega, by omega⟩, fun x => ⟨x, fun y => ⟨x, y⟩⟩, fun x => ⟨x, by omega, by omega⟩, fun x => ⟨x, by omega, by omega⟩, fun x => ⟨x, fun y => ⟨x, y⟩⟩, fun x => bad (fun y => ?_) hl, fun x => ⟨⟨by omega, by omega⟩, i + 1, ⟨by omega, fun j hj => ?_⟩, by omega, by omega⟩⟩⟩, fun hl => (rb0_no fun j hj => i2 j (by omega)).symm⟩
      · have := (hc.1 x).1
        rcases h with h | h
        · rw [this] at h; cases h
        · exact n0 this h
      · have y2 := (hc.1 y).2 x.1
        rcases x.2 with (z | z) | z
        · omega
        · rw [y2.1.2] at z; cases z
        · rw [y2.2] at z; cases z
      · by_cases e : j = i
        · subst e
          refine hc.2 ⟨h.1, fun y => ?_⟩
          have := x y
          exact ⟨⟨by omega, this.1.2⟩, this.2⟩
        · exact i2 j (by omega)
  · cases h
attribute [push_cast] ckRowBad0
def ckIsRow1 : Ck
  | [.str s] => some (s.length ≤ 4611686018427387900, .bool (rowR s))
  | _ => none
attribute [push_cast] ckIsRow1
def ckPassed : Ck
  | [.str s, .str w, .int .i64 a] => some (s.length ≤ 2000 ∧ 0 ≤ a ∧ a ≤ 1000 ∧ w.length ≤ 100, .int .i64 (pasL s w a.toNat))
  | _ => none
theorem conPassed : Con pg 139 ckPassed := by
  have hct := (ctA_ok conSmall (ctN_ok _))
  intro args q r h hq
  unfold ckPassed at h
  split at h
  · cases h
    rename_i s w a
    refine w139 (fun _ => false) [] rfl hct rfl rfl ?_
    push_cast (config := { maxSteps := 10000000 })
    obtain ⟨h1, h2, h3, h4⟩ := hq
    obtain ⟨a, rfl⟩ : ∃ k : Nat, a = k := ⟨a.toNat, by omega⟩
    rw [Int.toNat_natCast]
    refine LoopW.adj ⟨hct, fol⟩ (by kernel_rfl) [] (fun i : Nat => [(0, .str s), (1, .str w), (2, .int .i64 a), (7, .int .i64 i)]) (fun _ => []) (fun i => i ≤ w.length ∧ (0 < i → a + i ≤ s.length) ∧ ∀ j, j < i → lowB (s.getD (a + j) 0) = w.getD j 0) (fun i => w.length - i) 0 ?_ fun i hi => ?_
    · push_cast (config := { maxSteps := 10000000 })
      exact Nat.zero_le _
    · obtain ⟨i1, i2, i3⟩ := hi
      push_cast (config := { maxSteps := 10000000 })
      have e1 : ((a : Int) + (i : Int)).toNat = a + i := by omega
      have e2 : ((a : Int) + (i : Int) + 1).toNat - (a + i) = 1 := by omega
      rw [e1, e2]
      have lw : a + i < s.length → i < w.length → (lowL ((s.drop (a + i)).take 1) = (w.drop i).take 1 ↔ lowB (s.getD (a + i) 0) = w.getD i 0) := fun h1 h2 => by
        rw [dropG (d := 0) h1, dropG (d := 0) h2]
        simp [lowL]
      have gd : ∀ j, (s.drop a).getD j 0 = s.getD (a + j) 0 := fun j => by rw [List.getD_eq_getElem?_getD, List.getD_eq_getElem?_getD, List.getElem?_drop]
      have pas : a ≤ s.length ∨ i = 0 → (a + i < s.length → i < w.length → ¬ lowB (s.getD (a + i) 0) = w.getD i 0) → mt (s.drop a) w = i := fun ha hb => by
        refine mt_at (by rw [List.length_drop]; omega) i1 (fun j hj => by rw [gd]; exact i3 j hj) fun h1 h2 => ?_
        rw [List.length_drop] at h1
        rw [gd]
        exact hb (by omega) h2
      have bd : i < w.length → (a + i < s.length → ¬ lowB (s.getD (a + i) 0) = w.getD i 0) → (a : Int) + (i : Int) = pasL s w a := fun hi hb => by
        have := pas (by by_cases e : i = 0; exact .inr e; exact .inl (by have := i2 (by omega); omega)) fun h _ => hb h
        unfold pasL
        rw [this, if_neg (by omega)]
        omega
      refine ⟨fun hl => ⟨⟨by omega, by omega⟩, fun h => ⟨h, by omega, by omega⟩, fun h => ⟨h, by omega, by omega⟩, fun h => ⟨h, by omega, by omega⟩, fun h => ⟨h, ⟨by omega, by omega⟩, ⟨by omega, by omega⟩, by omega⟩, fun h => ⟨h, by omega⟩, fun h => ⟨h, by omega, by omega⟩, fun h => ⟨h, ⟨by omega, by omega⟩, by omega, by omega⟩, fun h => ⟨⟨by omega, by omega⟩, bd hl fun h5 h6 => ?_⟩, fun h => ⟨⟨by omega, by omega⟩, i + 1, ⟨by omega, fun _ => by omega, fun j hj => ?_⟩, by omega, by omega⟩⟩, fun hl => ?_⟩
      · rcases h with h | h
        · omega
        · exact h ((lw h5 hl).2 h6)
      · by_cases e : j = i
        · subst e; exact (lw (by omega) hl).1 h.2
        · exact i3 j (by omega)
      · have hw : i = w.length := by omega
        have := pas (by by_cases e : i = 0; exact .inr e; exact .inl (by have := i2 (by omega); omega)) fun _ h => by omega
        unfold pasL
        rw [this, if_pos hw]
  · cases h
attribute [push_cast] ckPassed
def stB (p z : Int) : Int := if z < 0 then p else z
def ckStop1K : List V → List Blk → Option (Prop × V × List Blk)
  | [.ptr _ 0, .int .i64 p], [.cells [.str s, .int .i64 a, .int .i64 z]] => some (True, .tup [], [.cells [.str s, .int .i64 a, .int .i64 (stB p z)]])
  | _, _ => none
def ckStop1 : Cf := ⟨fun | [.ptr i _, _] => [i] | _ => [], ckStop1K⟩
theorem conStop1 : FCon pg 140 ckStop1 := by
  have hct := ctN_ok pg
  intro args bs q r bs' h hq
  replace h : ckStop1K args bs = some (q, r, bs') := h
  unfold ckStop1K at h
  split at h
  · cases h
    rename_i i p s a z
    refine ⟨rfl, by first | exact Nat.le_refl _ | exact Nat.zero_le _, ?_⟩
    show FCall pg 140 [.ptr (i + 9000) 0, .int .i64 p] [(i + 9000, .cells [.str s, .int .i64 a, .int .i64 z])] (.tup []) [(i + 9000, .cells [.str s, .int .i64 a, .int .i64 (stB p z)])]
    refine fw140 (fun _ => false) [] rfl hct rfl (by simp) (by simp [hlIn, idsIn, Blk.menIn, V.menInL, V.menIn, V.flat, byF, lsF]) (by simp [V.menIn, V.menInL, idsIn]) ?_
    push_cast (config := { maxSteps := 10000000 })
    unfold stB
    exact ⟨fun h => by rw [if_pos h], fun h => by rw [if_neg h]⟩
  · cases h
attribute [push_cast] ckStop1K
@[push_cast] theorem stop1_ids (i o : Nat) (x : V) : ckStop1.ids [.ptr i o, x] = [i] := rfl
@[push_cast] theorem stop1_k (i : Nat) (s : List UInt8) (p a z : Int) : ckStop1.k [.ptr i 0, .int .i64 p] [.cells [.str s, .int .i64 a, .int .i64 z]] = some (True, .tup [], [.cells [.str s, .int .i64 a, .int .i64 (stB p z)]]) := rfl
def ckUntilK : List V → List Blk → Option (Prop × V × List Blk)
  | [.ptr _ 0, .str w], [.cells [.str s, .int .i64 a, .int .i64 z]] => some (s.length ≤ 2000 ∧ 0 ≤ a ∧ a ≤ s.length, .str (cutS s a.toNat (utN s a.toNat w)), [.cells [.str s, .int .i64 (a + utN s a.toNat w), .int .i64 z]])
  | _, _ => none
def ckUntil : Cf := ⟨fun | [.ptr i _, _] => [i] | _ => [], ckUntilK⟩
theorem conUntil : FCon pg 144 ckUntil := by
  have hct := (ctA_ok conIndexByte (ctN_ok _))
  intro args bs q r bs' h hq
  replace h : ckUntilK args bs = some (q, r, bs') := h
  unfold ckUntilK at h
  split at h
  · cases h
    rename_i i w s a z
    refine ⟨rfl, by first | exact Nat.le_refl _ | exact Nat.zero_le _, ?_⟩
    obtain ⟨h1, h2, h3⟩ := hq
    obtain ⟨a, rfl⟩ : ∃ k : Nat, a = k := ⟨a.toNat, by omega⟩
    rw [Int.toNat_natCast]
    show FCall pg 144 [.ptr (i + 9000) 0, .str w] [(i + 9000, .cells [.str s, .int .i64 a, .int .i64 z])] (.str (cutS s a (utN s a w))) [(i + 9000, .cells [.str s, .int .i64 (a + utN s a w), .int .i64 z])]
    refine fw144 (fun _ => false) [] rfl hct rfl (by simp) (by simp [hlIn, idsIn, Blk.menIn, V.menInL, V.menIn, V.flat, byF, lsF]) (by simp [V.menIn, V.menInL, idsIn]) ?_
    push_cast (config := { maxSteps := 10000000 })
    refine LoopW.adj ⟨hct, fol⟩ (by kernel_rfl) [] (fun n : Nat => [(0, .ptr (i + 9000) 0), (1, .str w), (5, .int .i64 a)]) (fun n => [(i + 9000, .cells [.str s, .int .i64 ((a + n : Nat) : Int), .int .i64 z])]) (fun n => a + n ≤ s.length ∧ ∀ j, j < n → stopB w ((s.drop a).getD j 0) = true) (fun n => s.length - n) 0 ?_ fun n hn => ?_
    · push_cast (config := { maxSteps := 10000000 })
      exact ⟨by omega, by omega⟩
    · push_cast (config := { maxSteps := 10000000 })
      obtain ⟨n1, n2⟩ := hn
      have e1 : ((a : Int) + (n : Int)).toNat = a + n := by omega
      have e2 : a + n - a = n := by omega
      have e7 : (s.drop a).getD n 0 = s.getD (a + n) 0 := by rw [List.getD_eq_getElem?_getD, List.getD_eq_getElem?_getD, List.getElem?_drop]
      rw [e1, e2]
      refine ⟨fun h => ⟨h, by omega, h⟩, fun h => ⟨⟨by omega, by omega⟩, n + 1, ⟨by omega, fun j hj => ?_⟩, by omega, by omega⟩, fun h => ?_⟩
      · by_cases e : j = n
        · subst e; rw [e7]; exact decide_eq_true h.2
        · exact n2 j (by omega)
      · have eN : utN s a w = n := by
          unfold utN
          refine runN_at (by rw [List.length_drop]; omega) n2 fun hlt => ?_
          rw [List.length_drop] at hlt
          rw [e7]; exact decide_eq_false (h (by omega))
        rw [eN]
        exact ⟨⟨⟨by omega, by omega⟩, by omega, by omega⟩, rfl, rfl⟩
  · cases h
attribute [push_cast] ckUntilK
@[push_cast] theorem until_ids (i o : Nat) (x : V) : ckUntil.ids [.ptr i o, x] = [i] := rfl
@[push_cast] theorem until_k (i : Nat) (s w : List UInt8) (a z : Int) : ckUntil.k [.ptr i 0, .str w] [.cells [.str s, .int .i64 a, .int .i64 z]] = some (s.length ≤ 2000 ∧ 0 ≤ a ∧ a ≤ s.length, .str (cutS s a.toNat (utN s a.toNat w)), [.cells [.str s, .int .i64 (a + utN s a.toNat w), .int .i64 z]]) := rfl
def rwZ (s : List UInt8) (a : Nat) (w : List UInt8) (z : Int) : Int := if 0 ≤ rb0 (cutS s a (utN s a w)) ∧ z < 0 then a + rb0 (cutS s a (utN s a w)) else z
def ckRow1K : List V → List Blk → Option (Prop × V × List Blk)
  | [.ptr _ 0, .str w], [.cells [.str s, .int .i64 a, .int .i64 z]] => some (s.length ≤ 2000 ∧ 0 ≤ a ∧ a ≤ s.length, .str (cutS s a.toNat (utN s a.toNat w)), [.cells [.str s, .int .i64 (a + utN s a.toNat w), .int .i64 (rwZ s a.toNat w z)]])
  | _, _ => none
def ckRow1 : Cf := ⟨fun | [.ptr i _, _] => [i] | _ => [], ckRow1K⟩
theorem conRow1 : FCon pg 122 ckRow1 := by
  have hct := (ctF_ok conUntil (ctA_ok conRowBad0 (ctN_ok _)))
  intro args bs q r bs' h hq
  replace h : ckRow1K args bs = some (q, r, bs') := h
  unfold ckRow1K at h
  split at h
  · cases h
    rename_i i w s a z
    refine ⟨rfl, by first | exact Nat.le_refl _ | exact Nat.zero_le _, ?_⟩
    obtain ⟨h1, h2, h3⟩ := hq
    obtain ⟨a, rfl⟩ : ∃ k : Nat, a = k := ⟨a.toNat, by omega⟩
    rw [Int.toNat_natCast]
    show FCall pg 122 [.ptr (i + 9000) 0, .str w] [(i + 9000, .cells [.str s, .int .i64 a, .int .i64 z])] (.str (cutS s a (utN s a w))) [(i + 9000, .cells [.str s, .int .i64 (a + utN s a w), .int .i64 (rwZ s a w z)])]
    refine fw122 (fun _ => false) [] rfl hct rfl (by simp) (by simp [hlIn, idsIn, Blk.menIn, V.menInL, V.menIn, V.flat, byF, lsF]) (by simp [V.menIn, V.menInL, idsIn]) ?_
    push_cast (config := { maxSteps := 10000000 })
    have hb := utN_le (s := s) (a := a) (w := w) (by omega)
    have hl : (cutS s a (utN s a w)).length = utN s a w := cutS_len (by omega)
    have hr := rb0_b (cutS s a (utN s a w))
    refine ⟨⟨by omega, by omega⟩, by omega, fun h => ⟨⟨by omega, by omega⟩, by unfold rwZ; rw [if_pos h]⟩, fun h => by unfold rwZ; rw [if_neg (fun x => h x.1 x.2)]⟩
  · cases h
attribute [push_cast] ckRow1K
@[push_cast] theorem row1_ids (i o : Nat) (x : V) : ckRow1.ids [.ptr i o, x] = [i] := rfl
@[push_cast] theorem row1_k (i : Nat) (s w : List UInt8) (a z : Int) : ckRow1.k [.ptr i 0, .str w] [.cells [.str s, .int .i64 a, .int .i64 z]] = some (s.length ≤ 2000 ∧ 0 ≤ a ∧ a ≤ s.length, .str (cutS s a.toNat (utN s a.toNat w)), [.cells [.str s, .int .i64 (a + utN s a.toNat w), .int .i64 (rwZ s a.toNat w z)]]) := rfl
def whN (s : List UInt8) (a : Nat) (p : Bool) : Nat := bif p then poN s a else hoN s a
def ckWholeK : List V → List Blk → Option (Prop × V × List Blk)
  | [.ptr _ 0, .bool p], [.cells [.str s, .int .i64 a, .int .i64 z]] => some (s.length ≤ 2000 ∧ 0 ≤ a ∧ a ≤ s.length, .str (cutS s a.toNat (whN s a.toNat p)), [.cells [.str s, .int .i64 (a + whN s a.toNat p), .int .i64 z]])
  | _, _ => none
def ckWhole : Cf := ⟨fun | [.ptr i _, _] => [i] | _ => [], ckWholeK⟩
theorem conWhole : FCon pg 119 ckWhole := by
  have hct := (ctA_ok conLetter (ctA_ok conDigit (ctN_ok _)))
  intro args bs q r bs' h hq
  replace h : ckWholeK args bs = some (q, r, bs') := h
  unfold ckWholeK at h
  split at h
  · cases h
    rename_i i p s a z
    refine ⟨rfl, by first | exact Nat.le_refl _ | exact Nat.zero_le _, ?_⟩
    obtain ⟨h1, h2, h3⟩ := hq
    obtain ⟨a, rfl⟩ : ∃ k : Nat, a = k := ⟨a.toNat, by omega⟩
    rw [Int.toNat_natCast]
    show FCall pg 119 [.ptr (i + 9000) 0, .bool p] [(i + 9000, .cells [.str s, .int .i64 a, .int .i64 z])] (.str (cutS s a (whN s a p))) [(i + 9000, .cells [.str s, .int .i64 (a + whN s a p), .int .i64 z])]
    refine fw119 (fun _ => false) [] rfl hct rfl (by simp) (by simp [hlIn, idsIn, Blk.menIn, V.menInL, V.menIn, V.flat, byF, lsF]) (by simp [V.menIn, V.menInL, idsIn]) ?_
    push_cast (config := { maxSteps := 10000000 })
    refine LoopW.adj ⟨hct, fol⟩ (by kernel_rfl) [] (fun n : Nat => [(0, .ptr (i + 9000) 0), (1, .bool p), (5, .int .i64 a)]) (fun n => [(i + 9000, .cells [.str s, .int .i64 ((a + n : Nat) : Int), .int .i64 z])]) (fun n => a + n ≤ s.length ∧ ∀ j, j < n → (bif p then digB ((s.drop a).getD j 0) else hostB ((s.drop a).getD j 0)) = true) (fun n => s.length - n) 0 ?_ fun n hn => ?_
    · push_cast (config := { maxSteps := 10000000 })
      exact ⟨by omega, by omega⟩
    · push_cast (config := { maxSteps := 10000000 })
      obtain ⟨n1, n2⟩ := hn
      have e1 : ((a : Int) + (n : Int)).toNat = a + n := by omega
      have e2 : a + n - a = n := by omega
      have e7 : (s.drop a).getD n 0 = s.getD (a + n) 0 := by rw [List.getD_eq_getElem?_getD, List.getD_eq_getElem?_getD, List.getElem?_drop]
      rw [e1, e2]
      have hB : (bif p then digB (s.getD (a + n) 0) else hostB (s.getD (a + n) 0)) = true ↔ (isDig ((s.getD (a + n) 0).toNat : Int) = true ∨ p = false ∧ ((isLet ((s.getD (a + n) 0).toNat : Int) = true ∨ ((s.getD (a + n) 0).toNat : Int) = 45) ∨ ((s.getD (a + n) 0).toNat : Int) = 46)) := by
        have e5 : ((s.getD (a + n) 0).toNat : Int) = 45 ↔ (s.getD (a + n) 0).toNat = 45 := by omega
        have e6 : ((s.getD (a + n) 0).toNat : Int) = 46 ↔ (s.getD (a + n) 0).toNat = 46 := by omega
        rw [e5, e6]
        cases p
        · unfold hostB
          simp only [cond_false, Bool.or_eq_true, decide_eq_true_eq, true_and]
          constructor
          · rintro (((h | h) | h) | h)
            · exact .inr (.inl (.inl h))
            · exact .inl h
            · exact .inr (.inl (.inr h))
            · exact .inr (.inr h)
          · rintro (h | (h | h) | h)
            · exact .inl (.inl (.inr h))
            · exact .inl (.inl (.inl h))
            · exact .inl (.inr h)
            · exact .inr h
        · unfold digB
          simp
      refine ⟨fun h => ⟨h, by omega, h⟩, fun h => ⟨h, by omega, h.1.1⟩, fun h => ⟨h, by omega, h.1.1.1⟩, fun h => ⟨h, fun x => ⟨h, x⟩⟩, fun h => ⟨h, by omega, h.1.1.1⟩, fun h => ⟨h, fun x => ⟨h, x⟩⟩, fun h => ⟨h, fun x => ⟨h, x⟩⟩, fun h => ⟨h, fun x => ⟨h, x⟩⟩, fun h => ⟨⟨by omega, by omega⟩, n + 1, ⟨by omega, fun j hj => ?_⟩, by omega, by omega⟩, fun h => ?_⟩
      · by_cases e : j = n
        · subst e; rw [e7]; exact hB.2 h.2
        · exact n2 j (by omega)
      · have out : n < (s.drop a).length → (bif p then digB ((s.drop a).getD n 0) else hostB ((s.drop a).getD n 0)) = false := fun hlt => by
          rw [List.length_drop] at hlt
          rw [e7]
          have hx := h (by omega)
          cases hc : (bif p then digB (s.getD (a + n) 0) else hostB (s.getD (a + n) 0)) with
          | false => rfl
          | true =>
            rcases hB.1 hc with y | ⟨y1, y2⟩
            · rw [hx.1] at y; cases y
            · have hz := hx.2 y1
              rcases y2 with (y | y) | y
              · rw [hz.1.1] at y; cases y
              · exact absurd y hz.1.2
              · exact absurd y hz.2
        have eN : whN s a p = n := by
          unfold whN poN hoN
          cases p
          · exact runN_at (by rw [List.length_drop]; omega) n2 out
          · exact runN_at (by rw [List.length_drop]; omega) n2 out
        rw [eN]
        exact ⟨⟨⟨by omega, by omega⟩, by omega, by omega⟩, rfl, rfl⟩
  · cases h
attribute [push_cast] ckWholeK
@[push_cast] theorem whole_ids (i o : Nat) (x : V) : ckWhole.ids [.ptr i o, x] = [i] := rfl
@[push_cast] theorem whole_k (i : Nat) (s : List UInt8) (p : Bool) (a z : Int) : ckWhole.k [.ptr i 0, .bool p] [.cells [.str s, .int .i64 a, .int .i64 z]] = some (s.length ≤ 2000 ∧ 0 ≤ a ∧ a ≤ s.length, .str (cutS s a.toNat (whN s a.toNat p)), [.cells [.str s, .int .i64 (a + whN s a.toNat p), .int .i64 z]]) := rfl
def ckSch1K : List V → List Blk → Option (Prop × V × List Blk)
  | [.ptr _ 0], [.cells [.str s, .int .i64 0, .int .i64 (-1)]] => some (s.length ≤ 2000, .str (if sch2K s < 0 then s.take (sch2N s) else []), [.cells [.str s, .int .i64 (if sch2K s < 0 then ((sch2N s : Int) + 3) else 0), .int .i64 (if sch2K s < 0 then -1 else sch2K s)]])
  | _, _ => none
def ckSch1 : Cf := ⟨fun | [.ptr i _] => [i] | _ => [], ckSch1K⟩
theorem conSch1 : FCon pg 118 ckSch1 := by
  have hct := (ctA_ok conPassed (ctF_ok conStop1 (ctN_ok _)))
  intro args bs q r bs' h hq
  replace h : ckSch1K args bs = some (q, r, bs') := h
  unfold ckSch1K at h
  split at h
  · cases h
    rename_i i s
    refine ⟨rfl, by first | exact Nat.le_refl _ | exact Nat.zero_le _, ?_⟩
    show FCall pg 118 [.ptr (i + 9000) 0] [(i + 9000, .cells [.str s, .int .i64 0, .int .i64 (-1)])] (.str (if sch2K s < 0 then s.take (sch2N s) else [])) [(i + 9000, .cells [.str s, .int .i64 (if sch2K s < 0 then ((sch2N s : Int) + 3) else 0), .int .i64 (if sch2K s < 0 then -1 else sch2K s)])]
    refine fw118 (fun _ => false) [] rfl hct rfl (by simp) (by simp [hlIn, idsIn, Blk.menIn, V.menInL, V.menIn, V.flat, byF, lsF]) (by simp [V.menIn, V.menInL, idsIn]) ?_
    push_cast (config := { maxSteps := 10000000 })
    have pH : pasL s [104, 116, 116, 112] 0 = pasL s wHttp 0 := rfl
    have pS : ∀ n, pasL s [58, 47, 47] n = pasL s wSep n := fun n => rfl
    rw [pH, pS, pS]
    have hK : sch2K s = if pasL s wHttp 0 < 0 then pasL s wSep (sch2N s) else pasL s wHttp 0 := rfl
    have hN : sch2N s = if pasL s wHttp 0 < 0 ∧ 4 < s.length ∧ ((s.getD 4 0).toNat = 115 ∨ (s.getD 4 0).toNat = 83) then 5 else 4 := rfl
    have len : ∀ n, pasL s wSep n < 0 → n ≤ s.length := fun n h => by
      have := (mt_le (s.drop n) wSep).1
      rw [List.length_drop] at this
      unfold pasL at h
      split at h
      · rename_i hm
        have e3 : wSep.length = 3 := rfl
        omega
      · omega
    have st : ∀ p : Int, stB p (-1) = p := fun p => by unfold stB; rw [if_pos (by omega)]
    rw [st, st, st]
    generalize pasL s wHttp 0 = H at hK hN ⊢
    have fin : ∀ n : Nat, sch2N s = n → H < 0 → (0 ≤ pasL s wSep n → ([] = if sch2K s < 0 then s.take (sch2N s) else []) ∧ (0 = if sch2K s < 0 then (sch2N s : Int) + 3 else 0) ∧ pasL s wSep n = if sch2K s < 0 then -1 else sch2K s) ∧ (¬ 0 ≤ pasL s wSep n → (n : Int) ≤ s.length ∧ (s.take n = if sch2K s < 0 then s.take (sch2N s) else []) ∧ ((n : Int) + 3 = if sch2K s < 0 then (sch2N s : Int) + 3 else 0) ∧ (-1 = if sch2K s < 0 then -1 else sch2K s)) := fun n hn hH => by
      have hK2 : sch2K s = pasL s wSep n := by rw [hK, if_pos hH, hn]
      rw [hK2, hn]
      refine ⟨fun h => ?_, fun h => ?_⟩
      · rw [if_neg (by omega), if_neg (by omega), if_neg (by omega)]; exact ⟨rfl, rfl, rfl⟩
      · have := len n (by omega)
        rw [if_pos (by omega), if_pos (by omega), if_pos (by omega)]; exact ⟨by omega, rfl, rfl, rfl⟩
    refine ⟨by omega, fun h => ⟨h, h.2⟩, fun h => ⟨h, h.1.2⟩, fun h => ⟨h, fun x => ⟨h, x⟩⟩, fun h => ⟨fun hH => ⟨by omega, ?_⟩, fun hH => absurd h.1.1 hH⟩, fun h => ⟨fun hH => ⟨by omega, ?_⟩, fun hH => ⟨fun h0 => ?_, fun h0 => absurd h0 (by omega)⟩⟩⟩
    · exact fin 5 (by rw [hN, if_pos ⟨hH, by omega, by omega⟩]) hH
    · exact fin 4 (by rw [hN, if_neg (fun x => by have := h ⟨hH, by omega⟩; omega)]) hH
    · have hK2 : sch2K s = H := by rw [hK, if_neg hH]
      rw [hK2, if_neg hH, if_neg hH, if_neg hH]
      exact ⟨rfl, rfl, rfl⟩
  · cases h
attribute [push_cast] ckSch1K
@[push_cast] theorem sch1_ids (i o : Nat) : ckSch1.ids [.ptr i o] = [i] := rfl
@[push_cast] theorem sch1_k (i : Nat) (s : List UInt8) : ckSch1.k [.ptr i 0] [.cells [.str s, .int .i64 0, .int .i64 (-1)]] = some (s.length ≤ 2000, .str (if sch2K s < 0 then s.take (sch2N s) else []), [.cells [.str s, .int .i64 (if sch2K s < 0 then ((sch2N s : Int) + 3) else 0), .int .i64 (if sch2K s < 0 then -1 else sch2K s)]]) := rfl
def ckIsPort1 : Ck
  | [.str s] => some (s.length ≤ 4611686018427387900, .bool (decide (portN s ≠ 0)))
  | _ => none
theorem conIsPort1 : Con pg 121 ckIsPort1 := by
  have hct := (ctA_ok conDigit (ctA_ok conAtoi (ctN_ok _)))
  intro args q r h hq
  unfold ckIsPort1 at h
  split at h
  · cases h
    rename_i s
    refine w121 (fun _ => false) [] rfl hct rfl rfl ?_
    push_cast (config := { maxSteps := 10000000 })
    refine ⟨fun h => ?_, fun h => ?_⟩
    · refine (decide_eq_false fun x => x ?_).symm
      unfold portN
      rw [if_neg fun y => ?_]
      rcases h with h | h
      · rw [h] at y; simp at y
      · omega
    have hne := sne_pos h.1
    refine LoopW.adj ⟨hct, fol⟩ (by kernel_rfl) [] (fun i : Nat => [(0, .str s), (3, .int .i64 i)]) (fun _ => []) (fun i => i ≤ s.length ∧ ∀ j, j < i → digB (s.getD j 0) = true) (fun i => s.length - i) 0 ?_ fun i hi => ?_
    · push_cast (config := { maxSteps := 10000000 })
      exact Nat.zero_le _
    · push_cast (config := { maxSteps := 10000000 })
      obtain ⟨i1, i2⟩ := hi
      refine ⟨fun hl => ⟨hl, fun hd => ?_, fun hd => ⟨⟨by omega, by omega⟩, i + 1, ⟨by omega, fun j hj => ?_⟩, by omega, by omega⟩⟩, fun hl => ?_⟩
      · refine (decide_eq_false fun x => x ?_).symm
        unfold portN
        rw [if_neg fun y => ?_]
        have := List.all_eq_true.1 y.2.2.1 (s.getD i 0) (by rw [List.getD_eq_getElem?_getD, List.getElem?_eq_getElem hl]; exact List.getElem_mem hl)
        unfold digB at this
        rw [hd] at this; cases this
      · by_cases e : j = i
        · subst e; exact hd
        · exact i2 j (by omega)
      · have ha : s.all digB = true := all_at' (d := 0) fun j hj => i2 j (by omega)
        have hv : ((natOf s : Nat) : Int) = portV s := by
          have key : ∀ (t : List UInt8) (a : Nat) (b : Int), t.all digB = true → (a : Int) = b → ((t.foldl (fun a c => a * 10 + (c.toNat - 48)) a : Nat) : Int) = t.foldl (fun n c => 10 * n + ((c.toNat : Int) - 48)) b := by
            intro t
            induction t with
            | nil => intro a b _ e; exact e
            | cons c t ih =>
              intro a b hd e
              rw [List.all_cons, Bool.and_eq_true] at hd
              rw [List.foldl_cons, List.foldl_cons]
              refine ih _ _ hd.2 ?_
              have h0 := hd.1
              unfold digB isDig at h0
              simp only [Bool.and_eq_true, decide_eq_true_eq] at h0
              omega
          exact key s 0 0 ha rfl
        refine ⟨⟨by omega, by omega, by rw [← dig_dg]; exact ha⟩, ?_⟩
        have hN : portN s = if portV s ≤ 65535 then portV s else 0 := by
          unfold portN
          by_cases hv : portV s ≤ 65535
          · rw [if_pos ⟨by omega, by omega, ha, hv⟩, if_pos hv]
          · rw [if_neg (fun x => hv x.2.2.2), if_neg hv]
        rw [hN, ← hv, Bool.eq_iff_iff]
        simp only [Bool.and_eq_true, decide_eq_true_eq]
        by_cases h5 : ((natOf s : Nat) : Int) ≤ 65535
        · rw [if_pos h5]; omega
        · rw [if_neg h5]; omega
  · cases h
attribute [push_cast] ckIsPort1
/-- where a row of the reference's ends -/
theorem row_ref {s w : List UInt8} (hw : okStop w) (a : Nat) : (0 ≤ rb0 (cutS s a (utN s a w)) → rdRow s a w = ((rb0 (cutS s a (utN s a w))).toNat, false)) ∧ (rb0 (cutS s a (utN s a w)) < 0 → rdRow s a w = (utN s a w, true)) := by
  rw [row_same hw]
  exact ⟨fun h => by rw [if_neg (by omega)], fun h => by rw [if_pos h]⟩
def ckRead01 : Ck
  | [.str s] => some (s.length ≤ 2000, .tup [cAdr.enc (readA s).1, .int .i64 (if (readA s).2.2 = 0 then -1 else (readA s).2.1)])
  | _ => none
theorem ut_stop {s w : List UInt8} {a : Nat} (h : a + utN s a w < s.length) : 0 ≤ Lib.indexByte w (s.getD (a + utN s a w) 0) := by
  have := runN_out (p := stopB w) (s := s.drop a) (by rw [List.length_drop]; unfold utN at h; omega)
  have e : (s.drop a).getD (runN (stopB w) (s.drop a)) 0 = s.getD (a + utN s a w) 0 := by rw [List.getD_eq_getElem?_getD, List.getD_eq_getElem?_getD, List.getElem?_drop]; rfl
  rw [e] at this
  unfold stopB at this
  rw [decide_eq_false_iff_not] at this
  omega
theorem idx_two (d e c : UInt8) : 0 ≤ Lib.indexByte [d, e] c → c = d ∨ c = e := by
  intro h
  by_cases h1 : c = d
  · exact .inl h1
  · refine .inr ?_
    have e1 : Lib.indexByte [d, e] c = if d == c then 0 else (if Lib.indexByte [e] c == -1 then -1 else Lib.indexByte [e] c + 1) := by
      simp only [Lib.indexByte]
    rw [e1, if_neg (by simpa using fun x => h1 x.symm)] at h
    have := idx_one e c
    split at h
    · omega
    · rename_i hx
      have hb : Lib.indexByte [e] c = if e == c then 0 else -1 := rfl
      by_cases h2 : e = c
      · exact h2.symm
      · rw [hb, if_neg (by simpa using h2)] at hx
        exact absurd hx (by decide)
theorem conRead01 : Con pg 89 ckRead01 := by
  have hct := (ctF_ok conSch1 (ctF_ok conWhole (ctA_ok conIsHost2 (ctA_ok conIsPort1 (ctA_ok conIndexByte (ctF_ok conRow1 (ctN_ok _)))))))
  intro args q r h hq
  unfold ckRead01 at h
  split at h
  · cases h
    rename_i s
    refine w89 (fun d => decide (d = 20015 ∨ d = 20021)) [] rfl hct rfl rfl ?_
    push_cast (config := { maxSteps := 10000000 })
    obtain ⟨sc1, sc2⟩ := sch_same s
    by_cases hk : 0 ≤ sch2K s
    · have e : readA s = (noAdr, sch2K s, 10) := by
        unfold readA; rw [if_neg (by omega), if_pos (by rw [sc1 hk])]
        rw [sc1 hk]
        show (noAdr, (((sch2K s).toNat : Nat) : Int), (10 : Int)) = _
        rw [Int.toNat_of_nonneg hk]
      have hk' : ¬ sch2K s < 0 := by omega
      rw [e]
      simp only [if_neg hk']
      exact ⟨hq, fun _ => ⟨⟨rfl, rfl, rfl, rfl, rfl, rfl, rfl, rfl⟩, (if_neg (by omega)).symm⟩, fun h => absurd hk h⟩
    have hk' : sch2K s < 0 := by omega
    have hS := sc2 hk'
    simp only [if_pos hk']
    have hb0 := sch_b s
    rw [hS] at hb0
    have hb0 : sch2N s + 3 ≤ s.length := hb0
    have en : ((sch2N s : Int) + 3) = ((sch2N s + 3 : Nat) : Int) := by omega
    have hSc : s.take (sch2N s) = s.take ((schL s).2 - 3) := by rw [hS]; rfl
    rw [en, hSc]
    have hS2 : (schL s).2 = sch2N s + 3 := by rw [hS]
    have hS1 : (schL s).1 = true := by rw [hS]
    have hR : readA s = if (plcL s (sch2N s + 3)).ok = false then (noAdr, ((plcL s (sch2N s + 3)).at' : Int), 10)
      else if (rstL s (plcL s (sch2N s + 3)).at').ok = false then (noAdr, ((rstL s (plcL s (sch2N s + 3)).at').at' : Int), 10)
      else (⟨s.take ((schL s).2 - 3), (plcL s (sch2N s + 3)).ho, (plcL s (sch2N s + 3)).po, (rstL s (plcL s (sch2N s + 3)).at').pa, (rstL s (plcL s (sch2N s + 3)).at').qu, (rstL s (plcL s (sch2N s + 3)).at').hq, (rstL s (plcL s (sch2N s + 3)).at').fr, (rstL s (plcL s (sch2N s + 3)).at').hf⟩, 0, 0) := by
      unfold readA
      rw [if_neg (by omega), if_neg (by rw [hS1]; simp), hS2]
    generalize s.take ((schL s).2 - 3) = SC at hR ⊢
    generalize sch2N s + 3 = a at hb0 hR ⊢
    simp only [Int.toNat_natCast]
    have w0 : whN s a false = hoN s a := rfl
    rw [w0]
    have hb := hoN_le hb0
    have e1 : (a : Int) + (hoN s a : Int) = ((a + hoN s a : Nat) : Int) := by omega
    rw [e1]
    have hcl := cutS_len hb
    have hP : plcL s a = if hostL (cutS s a (hoN s a)) = false then ⟨false, a, cutS s a (hoN s a), []⟩
      else if isAt s (a + hoN s a) 58 = true then
        (if portN (cutS s (a + hoN s a + 1) (poN s (a + hoN s a + 1))) = 0 then ⟨false, a + hoN s a + 1, cutS s a (hoN s a), cutS s (a + hoN s a + 1) (poN s (a + hoN s a + 1))⟩
         else ⟨endB s (a + hoN s a + 1 + poN s (a + hoN s a + 1)), a + hoN s a + 1 + poN s (a + hoN s a + 1), cutS s a (hoN s a), cutS s (a + hoN s a + 1) (poN s (a + hoN s a + 1))⟩)
      else ⟨endB s (a + hoN s a), a + hoN s a, cutS s a (hoN s a), []⟩ := rfl
    generalize cutS s a (hoN s a) = HO at hcl hP ⊢
    refine ⟨hq, fun h => absurd h (by omega), fun _ => ⟨⟨hq, by omega, by omega⟩, by omega, fun hh => ?_, fun hh => ?_⟩⟩
    · rw [hR, hP, if_pos hh]
      exact ⟨⟨rfl, rfl, rfl, rfl, rfl, rfl, rfl, rfl⟩, rfl⟩
    rw [if_neg (by rw [hh]; simp)] at hP
    generalize a + hoN s a = c at hb hP ⊢
    refine SeqW.cut ⟨hct, fol⟩ (by kernel_rfl) (by kernel_rfl) [] (fun t : Nat × List UInt8 => [(0, .str s), (2, .ptr 2 0), (4, .ptr 9 0), (5, .ptr 5 0)]) (fun t => [(2, .cells [.str [], .str [], .str [], .str [], .str [], .bool false, .str [], .bool false]), (5, .cells [.str SC, .str HO, .str t.2, .str [], .str [], .bool false, .str [], .bool false]), (9, .cells [.str s, .int .i64 t.1, .int .i64 (-1)])]) (fun t => t.1 ≤ s.length ∧ plcL s a = ⟨endB s t.1, t.1, HO, t.2⟩) ?_ fun t ht => ?_
    · push_cast (config := { maxSteps := 10000000 })
      have at58 : isAt s c 58 = true ↔ c < s.length ∧ ((s.getD c 0).toNat : Int) = 58 := by rw [isAt_iff]; omega
      refine ⟨fun hc => ?_, fun hc => ?_⟩
      · have h58 := at58.2 hc
        rw [if_pos h58] at hP
        have hb2 := poN_le (s := s) (a := c + 1) (by omega)
        have w1 : whN s (c + 1) true = poN s (c + 1) := rfl
        rw [w1]
        have hl2 := cutS_len hb2
        refine ⟨⟨by omega, by omega⟩, ⟨hq, by omega, by omega⟩, by omega, fun hp => ?_, fun hp => ?_⟩
        · rw [if_pos (Classical.not_not.1 hp)] at hP
          rw [hR, hP]
          exact ⟨⟨rfl, rfl, rfl, rfl, rfl, rfl, rfl, rfl⟩, by show _ = ((c + 1 : Nat) : Int); omega⟩
        · rw [if_neg hp] at hP
          exact ⟨((c + 1 + poN s (c + 1), cutS s (c + 1) (poN s (c + 1))) : Nat × List UInt8), ⟨hb2, hP⟩, rfl, by show _ = ((c + 1 + poN s (c + 1) : Nat) : Int); omega⟩
      · rw [if_neg (fun x => by have := at58.1 x; exact hc this.1 this.2)] at hP
        exact ⟨((c, []) : Nat × List UInt8), ⟨hb, hP⟩, rfl, rfl⟩
    · obtain ⟨b, po⟩ := t
      obtain ⟨b1, b2⟩ : b ≤ s.length ∧ plcL s a = ⟨endB s b, b, HO, po⟩ := ht
      push_cast (config := { maxSteps := 10000000 })
      have hE : endB s b = true ↔ (b < s.length → ¬ Lib.indexByte [47, 63, 35] (s.getD b 0) < 0) := by
        unfold endB
        rw [Bool.or_eq_true, decide_eq_true_eq, decide_eq_true_eq]
        constructor
        · rintro (h | h) hl <;> omega
        · intro h
          by_cases e : b = s.length
          · exact .inl e
          · exact .inr (by have := h (by omega); omega)
      refine ⟨fun h => ?_, fun h => ⟨⟨hq, b1⟩, ?_⟩⟩
      · have : endB s b = false := by
          cases hx : endB s b with
          | false => rfl
          | true => exact absurd h.2 (hE.1 hx h.1)
        rw [hR, b2, this]
        exact ⟨⟨rfl, rfl, rfl, rfl, rfl, rfl, rfl, rfl⟩, rfl⟩
      have hE := hE.2 h
      rw [hE] at b2
      rw [b2] at hR
      rw [if_neg (by simp)] at hR
      obtain ⟨r1, r2⟩ := row_ref ok_1 (s := s) b
      have u1 := utN_le (s := s) (a := b) (w := [63, 35]) b1
      have ust := ut_stop (s := s) (a := b) (w := [63, 35])
      have hL : rstL s b = if (rdRow s b [63, 35]).2 = false then ⟨false, b + (rdRow s b [63, 35]).1, cutS s b (rdRow s b [63, 35]).1, [], false, [], false⟩ else rst2 s (b + (rdRow s b [63, 35]).1) (cutS s b (rdRow s b [63, 35]).1) := rfl
      have hz1 : rwZ s b [63, 35] (-1) = if 0 ≤ rb0 (cutS s b (utN s b [63, 35])) then (b : Int) + rb0 (cutS s b (utN s b [63, 35])) else -1 := by
        unfold rwZ
        by_cases h0 : 0 ≤ rb0 (cutS s b (utN s b [63, 35]))
        · rw [if_pos ⟨h0, by omega⟩, if_pos h0]
        · rw [if_neg (fun x => h0 x.1), if_neg h0]
      generalize hn1 : utN s b [63, 35] = n1 at r1 r2 u1 ust hz1 ⊢
      generalize hPA : cutS s b n1 = PA at r1 r2 hz1 ⊢
      generalize rwZ s b [63, 35] (-1) = z1 at hz1 ⊢
      have hz : (z1 < 0 ∧ rstL s b = rst2 s (b + n1) PA) ∨ (0 ≤ z1 ∧ (rstL s b).ok = false ∧ ((rstL s b).at' : Int) = z1) := by
        by_cases h0 : 0 ≤ rb0 PA
        · right
          rw [hL, r1 h0]
          rw [hz1, if_pos h0]
          refine ⟨by omega, rfl, ?_⟩
          show ((b + (rb0 PA).toNat : Nat) : Int) = _
          omega
        · left
          rw [hL, r2 (by omega), if_neg (by simp)]
          refine ⟨by rw [hz1, if_neg h0]; omega, ?_⟩
          show rst2 s (b + n1) (cutS s b n1) = _
          rw [hPA]
      have ec : (b : Int) + (n1 : Int) = ((b + n1 : Nat) : Int) := by omega
      rw [ec]
      generalize b + n1 = c at u1 ust hz ⊢
      refine SeqW.cut ⟨hct, fol⟩ (by kernel_rfl) (by kernel_rfl) [] (fun t : Nat × Int × List UInt8 × Bool => [(0, .str s), (2, .ptr 2 0), (4, .ptr 9 0), (5, .ptr 5 0)]) (fun t => [(2, .cells [.str [], .str [], .str [], .str [], .str [], .bool false, .str [], .bool false]), (5, .cells [.str SC, .str HO, .str po, .str PA, .str t.2.2.1, .bool t.2.2.2, .str [], .bool false]), (9, .cells [.str s, .int .i64 t.1, .int .i64 t.2.1])]) (fun t => t.1 ≤ s.length ∧ (t.2.1 < 0 → isAt s t.1 35 = decide (t.1 < s.length)) ∧ ((t.2.1 < 0 ∧ rstL s b = rst3 s t.1 PA t.2.2.1 t.2.2.2) ∨ (0 ≤ t.2.1 ∧ (rstL s b).ok = false ∧ ((rstL s b).at' : Int) = t.2.1))) ?_ fun t ht => ?_
      · push_cast (config := { maxSteps := 10000000 })
        have at63 : isAt s c 63 = true ↔ c < s.length ∧ ((s.getD c 0).toNat : Int) = 63 := by rw [isAt_iff]; omega
        refine ⟨fun hc => ?_, fun hc => ?_⟩
        · have h63 := at63.2 hc
          have u2 := utN_le (s := s) (a := c + 1) (w := [35]) (by omega)
          have ust2 := ut_stop (s := s) (a := c + 1) (w := [35])
          obtain ⟨q1, q2⟩ := row_ref ok_2 (s := s) (c + 1)
          have hw : rwZ s (c + 1) [35] z1 = if 0 ≤ rb0 (cutS s (c + 1) (utN s (c + 1) [35])) ∧ z1 < 0 then ((c + 1 : Nat) : Int) + rb0 (cutS s (c + 1) (utN s (c + 1) [35])) else z1 := rfl
          have hS3 : rst2 s c PA = if (rdRow s (c + 1) [35]).2 = false then ⟨false, c + 1 + (rdRow s (c + 1) [35]).1, PA, cutS s (c + 1) (rdRow s (c + 1) [35]).1, true, [], false⟩ else rst3 s (c + 1 + (rdRow s (c + 1) [35]).1) PA (cutS s (c + 1) (rdRow s (c + 1) [35]).1) true := by unfold rst2; rw [if_pos h63]
          generalize hn2 : utN s (c + 1) [35] = n2 at u2 ust2 q1 q2 hw ⊢
          generalize hQU : cutS s (c + 1) n2 = QU at q1 q2 hw ⊢
          refine ⟨⟨by omega, by omega⟩, ⟨hq, by omega, by omega⟩, ((c + 1 + n2, rwZ s (c + 1) [35] z1, QU, true) : Nat × Int × List UInt8 × Bool), ⟨u2, fun hz' => ?_, ?_⟩, ⟨rfl, rfl⟩, by show _ = ((c + 1 + n2 : Nat) : Int); omega, rfl⟩
          · show isAt s (c + 1 + n2) 35 = decide (c + 1 + n2 < s.length)
            unfold isAt
            by_cases hlt : c + 1 + n2 < s.length
            · have := (idx_one 35 _).1 (ust2 hlt)
              rw [this, decide_eq_true hlt]; rfl
            · rw [decide_eq_false hlt]; rfl
          · show (rwZ s (c + 1) [35] z1 < 0 ∧ rstL s b = rst3 s (c + 1 + n2) PA QU true) ∨ (0 ≤ rwZ s (c + 1) [35] z1 ∧ (rstL s b).ok = false ∧ ((rstL s b).at' : Int) = rwZ s (c + 1) [35] z1)
            rw [hw]
            rcases hz with ⟨z0, z2⟩ | ⟨z0, z2, z3⟩
            · by_cases h0 : 0 ≤ rb0 QU
              · right
                rw [if_pos ⟨h0, z0⟩, z2, hS3, q1 h0]
                refine ⟨by omega, rfl, ?_⟩
                show ((c + 1 + (rb0 QU).toNat : Nat) : Int) = _
                omega
              · left
                rw [if_neg (fun x => h0 x.1), z2, hS3, q2 (by omega), if_neg (by simp)]
                refine ⟨z0, ?_⟩
                show rst3 s (c + 1 + n2) PA (cutS s (c + 1) n2) true = _
                rw [hQU]
            · right
              rw [if_neg (by omega)]
              exact ⟨z0, z2, z3⟩
        · refine ⟨((c, z1, [], false) : Nat × Int × List UInt8 × Bool), ⟨u1, fun hz' => ?_, ?_⟩, ⟨rfl, rfl⟩, rfl, rfl⟩
          · show isAt s c 35 = decide (c < s.length)
            unfold isAt
            by_cases hlt : c < s.length
            · rcases idx_two 63 35 _ (ust hlt) with h | h
              · have := hc hlt
                rw [h] at this
                exact absurd rfl this
              · rw [h, decide_eq_true hlt]; rfl
            · rw [decide_eq_false hlt]; rfl
          · rcases hz with ⟨z0, z2⟩ | h
            · left
              refine ⟨z0, ?_⟩
              rw [z2]
              unfold rst2
              rw [if_neg (fun x => by have := at63.1 x; exact hc this.1 this.2)]
            · exact .inr h
      · obtain ⟨d, z, qu, hq1⟩ := t
        obtain ⟨d1, d2, d3⟩ : d ≤ s.length ∧ (z < 0 → isAt s d 35 = decide (d < s.length)) ∧ ((z < 0 ∧ rstL s b = rst3 s d PA qu hq1) ∨ (0 ≤ z ∧ (rstL s b).ok = false ∧ ((rstL s b).at' : Int) = z)) := ht
        push_cast (config := { maxSteps := 10000000 })
        have hR : readA s = if (rstL s b).ok = false then (noAdr, ((rstL s b).at' : Int), 10) else (⟨SC, HO, po, (rstL s b).pa, (rstL s b).qu, (rstL s b).hq, (rstL s b).fr, (rstL s b).hf⟩, 0, 0) := hR
        refine ⟨fun hlt => ⟨⟨by omega, by omega⟩, ⟨hq, by omega, by omega⟩, ?_⟩, fun hge => ⟨fun h0 => ?_, fun h0 => ?_⟩⟩
        · obtain ⟨q1, q2⟩ := row_ref ok_3 (s := s) (d + 1)
          have hw : rwZ s (d + 1) [] z = if 0 ≤ rb0 (cutS s (d + 1) (utN s (d + 1) [])) ∧ z < 0 then ((d + 1 : Nat) : Int) + rb0 (cutS s (d + 1) (utN s (d + 1) [])) else z := rfl
          rcases d3 with ⟨z0, z2⟩ | ⟨z0, z2, z3⟩
          · have h35 : isAt s d 35 = true := by rw [d2 z0]; exact decide_eq_true hlt
            have hL3 : rstL s b = ⟨(rdRow s (d + 1) []).2, d + 1 + (rdRow s (d + 1) []).1, PA, qu, hq1, cutS s (d + 1) (rdRow s (d + 1) []).1, true⟩ := by rw [z2]; unfold rst3; rw [if_pos h35]
            generalize hn3 : utN s (d + 1) [] = n3 at q1 q2 hw ⊢
            generalize hFR : cutS s (d + 1) n3 = FR at q1 q2 hw ⊢
            by_cases h0 : 0 ≤ rb0 FR
            · rw [hw, if_pos ⟨h0, z0⟩]
              refine ⟨fun _ => ?_, fun x => absurd (by omega) x⟩
              rw [hR, hL3, q1 h0]
              refine ⟨⟨rfl, rfl, rfl, rfl, rfl, rfl, rfl, rfl⟩, ?_⟩
              show _ = ((d + 1 + (rb0 FR).toNat : Nat) : Int)
              omega
            · rw [hw, if_neg (fun x => h0 x.1)]
              refine ⟨fun x => absurd x (by omega), fun _ => ?_⟩
              rw [hR, hL3, q2 (by omega)]
              refine ⟨⟨rfl, rfl, rfl, rfl, rfl, rfl, ?_, rfl⟩, rfl⟩
              show FR = cutS s (d + 1) n3
              rw [hFR]
          · rw [hw, if_neg (by omega)]
            refine ⟨fun _ => ?_, fun x => absurd z0 x⟩
            rw [hR, if_pos z2]
            exact ⟨⟨rfl, rfl, rfl, rfl, rfl, rfl, rfl, rfl⟩, z3.symm⟩
        · rcases d3 with ⟨z0, z2⟩ | ⟨z0, z2, z3⟩
          · omega
          · rw [hR, if_pos z2]
            exact ⟨⟨rfl, rfl, rfl, rfl, rfl, rfl, rfl, rfl⟩, z3.symm⟩
        · rcases d3 with ⟨z0, z2⟩ | ⟨z0, z2, z3⟩
          · have h35 : isAt s d 35 = false := by rw [d2 z0]; exact decide_eq_false hge
            have hL3 : rstL s b = ⟨true, d, PA, qu, hq1, [], false⟩ := by rw [z2]; unfold rst3; rw [if_neg (by rw [h35]; simp)]
            rw [hR, hL3]
            exact ⟨⟨rfl, rfl, rfl, rfl, rfl, rfl, rfl, rfl⟩, rfl⟩
          · exact absurd z0 h0
  · cases h
attribute [push_cast] ckRead01
theorem readA_cases {s : List UInt8} (h : s.length ≤ 2000) : ((readA s).2.1 = 0 ∧ (readA s).2.2 = 0) ∨ ((readA s).1 = noAdr ∧ (readA s).2.2 = 10 ∧ 0 ≤ (readA s).2.1) := by
  unfold readA
  rw [if_neg (by omega)]
  split
  · exact .inr ⟨rfl, rfl, Int.natCast_nonneg _⟩
  · split
    · exact .inr ⟨rfl, rfl, Int.natCast_nonneg _⟩
    · split
      · exact .inr ⟨rfl, rfl, Int.natCast_nonneg _⟩
      · exact .inl ⟨rfl, rfl⟩
theorem conReadA2 : Con pg 60 ckReadA := by
  have hct := (ctA_ok conRead01 (ctN_ok _))
  intro args q r h hq
  unfold ckReadA at h
  split at h
  · cases h
    rename_i s
    refine w60 (fun _ => false) [] rfl hct rfl rfl ?_
    push_cast (config := { maxSteps := 10000000 })
    refine ⟨fun h => ?_, fun h => ⟨by omega, fun h1 => ?_, fun h1 => ?_⟩⟩
    · have e : readA s = (noAdr, 0, 2) := by unfold readA; rw [if_pos (by omega)]
      rw [e]; exact ⟨⟨rfl, rfl, rfl, rfl, rfl, rfl, rfl, rfl⟩, rfl, rfl⟩
    · rcases readA_cases (s := s) (by omega) with ⟨a, b⟩ | ⟨a, b, c⟩
      · rw [if_pos b] at h1; omega
      · rw [a, b, if_neg (by omega)]
        exact ⟨⟨rfl, rfl, rfl, rfl, rfl, rfl, rfl, rfl⟩, rfl, rfl⟩
    · rcases readA_cases (s := s) (by omega) with ⟨a, b⟩ | ⟨a, b, c⟩
      · rw [a, b]; exact ⟨rfl, rfl⟩
      · rw [if_neg (by omega)] at h1; exact absurd c h1
  · cases h

end Go.Abs
