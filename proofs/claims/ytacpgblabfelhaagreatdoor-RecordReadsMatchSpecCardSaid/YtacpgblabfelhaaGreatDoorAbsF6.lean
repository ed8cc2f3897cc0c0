/- what functions of this program compute: contracts, each a function's own -/
import Derived.Test.YtacpgblabfelhaaGreatDoorAbsK2
import Derived.Test.YtacpgblabfelhaaGreatDoorAbsFacts
import Derived.Test.YtacpgblabfelhaaGreatDoorAbsF5
import Derived.Test.YtacpgblabfelhaaGreatDoorAbsShelf
import Derived.Lib.SlTrimSet
import Derived.Lib.Atoi
import Derived.Lib.Itoa
import Derived.Lib.ItoaNum
import Derived.Lib.AtoiErrMem
import Derived.Lib.ItoaLen
import Derived.Lib.SplitLaws
import Derived.Shelf.Bytes.SlIndexWhole
import Derived.Lib.Index
import Derived.Lib.IndexBytes
namespace Go.Abs
open Go Go.Proofs
set_option maxHeartbeats 4000000
set_option maxRecDepth 100000
set_option linter.unusedVariables false
set_option linter.unusedSimpArgs false
/- the reference's reader -/
def l6S (B : List UInt8) (a : Nat) : List UInt8 := if laK B a < 0 then [] else (B.drop a).take (laK B a).toNat
theorem l6S_le {B : List UInt8} {a : Nat} (ha : a ≤ B.length) : (l6S B a).length ≤ B.length := by
  unfold l6S
  split
  · simp
  · rw [List.length_take, List.length_drop]; omega
theorem l6S_eq {B : List UInt8} {a : Nat} (h : lnB B a = true) : l6S B a = lnS B a ∧ ((lnS B a).length : Int) + a + 2 = lnN B a := by
  obtain ⟨l1, l2⟩ := la_line B a
  have h1 := l1.1 h
  have h2 := l2 h
  unfold laS laN at *
  unfold l6S
  by_cases hk : laK B a < 0
  · rw [if_pos hk] at h1; omega
  · rw [if_neg hk] at h1 h2 ⊢
    refine ⟨h2.1.symm, ?_⟩
    have hf := laK_fit B a
    have : (lnS B a).length = (laK B a).toNat := by
      rw [h2.1, List.length_take, List.length_drop]; omega
    rw [if_neg hk] at h2
    omega
def ckLn6K : List V → List Blk → Option (Prop × V × List Blk)
  | [.ptr _ 0], [.cells [.sl n f, .int .i64 a, .int .i64 z]] => some (isBy n f ∧ n ≤ 4000000 ∧ 0 ≤ a ∧ a ≤ n, .tup [.str (l6S (bytesOf n f) a.toNat), .bool (lnB (bytesOf n f) a.toNat)], [.cells [.sl n f, .int .i64 a, .int .i64 z]])
  | _, _ => none
def ckLn6 : Cf := ⟨fun | [.ptr i _] => [i] | _ => [], ckLn6K⟩
theorem conLn6 : FCon pg 158 ckLn6 := by
  have hct := (ctA_ok conBIndex (ctA_ok conIndexByte (ctN_ok _)))
  intro args bs q r bs' h hq
  replace h : ckLn6K args bs = some (q, r, bs') := h
  unfold ckLn6K at h
  split at h
  · cases h
    rename_i i n f a z
    refine ⟨rfl, by first | exact Nat.le_refl _ | exact Nat.zero_le _, ?_⟩
    obtain ⟨h1, h2, h3, h4⟩ := hq
    show FCall pg 158 [.ptr (i + 9000) 0] [(i + 9000, .cells [.sl n f, .int .i64 a, .int .i64 z])] (.tup [.str (l6S (bytesOf n f) a.toNat), .bool (lnB (bytesOf n f) a.toNat)]) [(i + 9000, .cells [.sl n f, .int .i64 a, .int .i64 z])]
    refine fw158 (fun d => decide (d = 15)) [] rfl hct rfl (by simp) (by simp [hlIn, idsIn, Blk.menIn, V.menInL, V.menIn, V.flat, byF, lsF]) (by simp [V.menIn, V.menInL, idsIn]) ?_
    push_cast (config := { maxSteps := 10000000 })
    obtain ⟨a, rfl⟩ : ∃ k : Nat, a = k := ⟨a.toNat, by omega⟩
    rw [Int.toNat_natCast]
    have hb := bytesOf_len n f
    have hs := ByI.sh h1 (l := a) (k := n - a) (by omega)
    rw [List.take_of_length_le (by rw [List.length_drop]; omega)] at hs
    have hcr : ByI 2 (fun i => V.kill 15 (litF [V.int IntKind.u8 13, V.int IntKind.u8 10] i)) crlf := ⟨rfl, fun i hi => by
      rcases (by omega : i = 0 ∨ i = 1) with rfl | rfl <;> rfl⟩
    rw [hs.bytes, hcr.bytes]
    have eK : Lib.index ((bytesOf n f).drop a) crlf = laK (bytesOf n f) a := rfl
    rw [eK]
    obtain ⟨l1, l2⟩ := la_line (bytesOf n f) a
    have hf := laK_fit (bytesOf n f) a
    rw [hb] at hf
    have f0 : 0 < n → (f 0).flat.length = 1 := fun h => by rw [h1.2 0 h]; rfl
    refine ⟨⟨⟨by omega, by omega⟩, by omega, f0⟩, ⟨hs.is, hcr.is, by omega⟩, hcr.pure, fun h => ⟨?_, ?_⟩, fun h => ?_⟩
    · unfold l6S; rw [if_pos h]
    · cases hB : lnB (bytesOf n f) a with
      | false => rfl
      | true =>
        have := (l1.1 hB).1
        unfold laN at this
        rw [if_pos h] at this
        omega
    · have hk := ByI.sh h1 (l := a) (k := (laK (bytesOf n f) a).toNat) (by omega)
      have e1 : ((a : Int) + laK (bytesOf n f) a).toNat - a = (laK (bytesOf n f) a).toNat := by omega
      rw [e1, hk.bytes]
      refine ⟨⟨by omega, by omega⟩, ⟨⟨by omega, by omega⟩, ⟨by omega, by omega⟩, by omega, f0⟩, hk.bytesP, ?_, ?_⟩
      · unfold l6S; rw [if_neg h]
      · rw [idx_none, idx_none, all_and]
        unfold laS laN at l1
        rw [if_neg h, if_neg h] at l1
        have e2 : (((bytesOf n f).drop a).take (laK (bytesOf n f) a).toNat).all (fun c => decide (c ≠ 10) && decide (c ≠ 13)) = bareL (((bytesOf n f).drop a).take (laK (bytesOf n f) a).toNat) := by
          unfold bareL
          congr 1
          funext c
          exact Bool.and_comm _ _
        rw [e2, Bool.eq_iff_iff, l1]
        exact ⟨fun x => ⟨by omega, x⟩, fun x => x.2⟩
  · cases h
attribute [push_cast] ckLn6K
@[push_cast] theorem ln6_ids (i o : Nat) : ckLn6.ids [.ptr i o] = [i] := rfl
@[push_cast] theorem ln6_k (i n : Nat) (f : Nat → V) (a z : Int) : ckLn6.k [.ptr i 0] [.cells [.sl n f, .int .i64 a, .int .i64 z]] = some (isBy n f ∧ n ≤ 4000000 ∧ 0 ≤ a ∧ a ≤ n, .tup [.str (l6S (bytesOf n f) a.toNat), .bool (lnB (bytesOf n f) a.toNat)], [.cells [.sl n f, .int .i64 a, .int .i64 z]]) := rfl
def stZ (a z : Int) : Int := if z < 0 then a else z
def ckStopK : List V → List Blk → Option (Prop × V × List Blk)
  | [.ptr _ 0], [.cells [.sl n f, .int .i64 a, .int .i64 z]] => some (True, .tup [], [.cells [.sl n f, .int .i64 a, .int .i64 (stZ a z)]])
  | _, _ => none
def ckStop : Cf := ⟨fun | [.ptr i _] => [i] | _ => [], ckStopK⟩
theorem conStop : FCon pg 151 ckStop := by
  have hct := ctN_ok pg
  intro args bs q r bs' h hq
  replace h : ckStopK args bs = some (q, r, bs') := h
  unfold ckStopK at h
  split at h
  · cases h
    rename_i i n f a z
    refine ⟨rfl, by first | exact Nat.le_refl _ | exact Nat.zero_le _, ?_⟩
    show FCall pg 151 [.ptr (i + 9000) 0] [(i + 9000, .cells [.sl n f, .int .i64 a, .int .i64 z])] (.tup []) [(i + 9000, .cells [.sl n f, .int .i64 a, .int .i64 (stZ a z)])]
    refine fw151 (fun _ => false) [] rfl hct rfl (by simp) (by simp [hlIn, idsIn, Blk.menIn, V.menInL, V.menIn, V.flat, byF, lsF]) (by simp [V.menIn, V.menInL, idsIn]) ?_
    push_cast (config := { maxSteps := 10000000 })
    unfold stZ
    exact ⟨fun h => by rw [if_pos h], fun h => by rw [if_neg h]⟩
  · cases h
attribute [push_cast] ckStopK
@[push_cast] theorem stop_ids (i o : Nat) : ckStop.ids [.ptr i o] = [i] := rfl
@[push_cast] theorem stop_k (i n : Nat) (f : Nat → V) (a z : Int) : ckStop.k [.ptr i 0] [.cells [.sl n f, .int .i64 a, .int .i64 z]] = some (True, .tup [], [.cells [.sl n f, .int .i64 a, .int .i64 (stZ a z)]]) := rfl
def ckNextK : List V → List Blk → Option (Prop × V × List Blk)
  | [.ptr _ 0, .str s], [.cells [.sl n f, .int .i64 a, .int .i64 z]] => some (s.length ≤ 4000000000 ∧ 0 ≤ a ∧ a ≤ 4000000000, .tup [], [.cells [.sl n f, .int .i64 (a + (s.length + 2)), .int .i64 z]])
  | _, _ => none
def ckNext : Cf := ⟨fun | [.ptr i _, _] => [i] | _ => [], ckNextK⟩
theorem conNext : FCon pg 150 ckNext := by
  have hct := ctN_ok pg
  intro args bs q r bs' h hq
  replace h : ckNextK args bs = some (q, r, bs') := h
  unfold ckNextK at h
  split at h
  · cases h
    rename_i i s n f a z
    refine ⟨rfl, by first | exact Nat.le_refl _ | exact Nat.zero_le _, ?_⟩
    show FCall pg 150 [.ptr (i + 9000) 0, .str s] [(i + 9000, .cells [.sl n f, .int .i64 a, .int .i64 z])] (.tup []) [(i + 9000, .cells [.sl n f, .int .i64 (a + (s.length + 2)), .int .i64 z])]
    refine fw150 (fun _ => false) [] rfl hct rfl (by simp) (by simp [hlIn, idsIn, Blk.menIn, V.menInL, V.menIn, V.flat, byF, lsF]) (by simp [V.menIn, V.menInL, idsIn]) ?_
    push_cast (config := { maxSteps := 10000000 })
    exact ⟨⟨by omega, by omega⟩, by omega, by omega⟩
  · cases h
attribute [push_cast] ckNextK
@[push_cast] theorem next_ids (i o : Nat) (x : V) : ckNext.ids [.ptr i o, x] = [i] := rfl
@[push_cast] theorem next_k (i n : Nat) (f : Nat → V) (a z : Int) (s : List UInt8) : ckNext.k [.ptr i 0, .str s] [.cells [.sl n f, .int .i64 a, .int .i64 z]] = some (s.length ≤ 4000000000 ∧ 0 ≤ a ∧ a ≤ 4000000000, .tup [], [.cells [.sl n f, .int .i64 (a + (s.length + 2)), .int .i64 z]]) := rfl
def ckBeginsK : List V → List Blk → Option (Prop × V × List Blk)
  | [.ptr _ 0, .str w], [.cells [.sl n f, .int .i64 a, .int .i64 z]] => some (isBy n f ∧ n ≤ 4000000 ∧ w.length ≤ 1000 ∧ 0 ≤ a ∧ a ≤ n, .bool (hasPre ((bytesOf n f).drop a.toNat) w), [.cells [.sl n f, .int .i64 a, .int .i64 z]])
  | _, _ => none
def ckBegins : Cf := ⟨fun | [.ptr i _, _] => [i] | _ => [], ckBeginsK⟩
theorem conBegins : FCon pg 149 ckBegins := by
  have hct := (ctA_ok conBHasPrefix (ctN_ok _))
  intro args bs q r bs' h hq
  replace h : ckBeginsK args bs = some (q, r, bs') := h
  unfold ckBeginsK at h
  split at h
  · cases h
    rename_i i w n f a z
    refine ⟨rfl, by first | exact Nat.le_refl _ | exact Nat.zero_le _, ?_⟩
    obtain ⟨h1, h2, h3, h4, h5⟩ := hq
    show FCall pg 149 [.ptr (i + 9000) 0, .str w] [(i + 9000, .cells [.sl n f, .int .i64 a, .int .i64 z])] (.bool (hasPre ((bytesOf n f).drop a.toNat) w)) [(i + 9000, .cells [.sl n f, .int .i64 a, .int .i64 z])]
    refine fw149 (fun _ => false) [] rfl hct rfl (by simp) (by simp [hlIn, idsIn, Blk.menIn, V.menInL, V.menIn, V.flat, byF, lsF]) (by simp [V.menIn, V.menInL, idsIn]) ?_
    push_cast (config := { maxSteps := 10000000 })
    obtain ⟨a, rfl⟩ : ∃ k : Nat, a = k := ⟨a.toNat, by omega⟩
    rw [Int.toNat_natCast]
    have hb := bytesOf_len n f
    have hs := ByI.sh h1 (l := a) (k := n - a) (by omega)
    rw [List.take_of_length_le (by rw [List.length_drop]; omega)] at hs
    rw [hs.bytes]
    refine ⟨⟨⟨by omega, by omega⟩, by omega, fun h => by rw [h1.2 0 h]; rfl⟩, ⟨hs.is, by omega, by omega⟩, ?_⟩
    unfold hasPre
    rw [List.length_drop, hb]
  · cases h
attribute [push_cast] ckBeginsK
@[push_cast] theorem begins_ids (i o : Nat) (x : V) : ckBegins.ids [.ptr i o, x] = [i] := rfl
@[push_cast] theorem begins_k (i n : Nat) (f : Nat → V) (a z : Int) (w : List UInt8) : ckBegins.k [.ptr i 0, .str w] [.cells [.sl n f, .int .i64 a, .int .i64 z]] = some (isBy n f ∧ n ≤ 4000000 ∧ w.length ≤ 1000 ∧ 0 ≤ a ∧ a ≤ n, .bool (hasPre ((bytesOf n f).drop a.toNat) w), [.cells [.sl n f, .int .i64 a, .int .i64 z]]) := rfl
def sS (B : List UInt8) (a : Nat) (z : Int) (w : List UInt8) : List UInt8 := if 0 ≤ z then [] else if lineOk B a w = true then lineV B a w else []
def sZ (B : List UInt8) (a : Nat) (z : Int) (w : List UInt8) : Int := if 0 ≤ z then z else if lineOk B a w = true then z else a
def ckSaidK : List V → List Blk → Option (Prop × V × List Blk)
  | [.ptr _ 0, .str w], [.cells [.sl n f, .int .i64 a, .int .i64 z]] => some (isBy n f ∧ n ≤ 4000000 ∧ w.length ≤ 1000 ∧ 0 ≤ a ∧ (z < 0 → a ≤ n), .str (sS (bytesOf n f) a.toNat z w), [.cells [.sl n f, .int .i64 a, .int .i64 (sZ (bytesOf n f) a.toNat z w)]])
  | _, _ => none
def ckSaid : Cf := ⟨fun | [.ptr i _, _] => [i] | _ => [], ckSaidK⟩
theorem conSaid : FCon pg 153 ckSaid := by
  have hct := (ctF_ok conLn6 (ctF_ok conStop (ctA_ok conHasPre (ctN_ok _))))
  intro args bs q r bs' h hq
  replace h : ckSaidK args bs = some (q, r, bs') := h
  unfold ckSaidK at h
  split at h
  · cases h
    rename_i i w n f a z
    refine ⟨rfl, by first | exact Nat.le_refl _ | exact Nat.zero_le _, ?_⟩
    obtain ⟨h1, h2, h3, h4, h5⟩ := hq
    show FCall pg 153 [.ptr (i + 9000) 0, .str w] [(i + 9000, .cells [.sl n f, .int .i64 a, .int .i64 z])] (.str (sS (bytesOf n f) a.toNat z w)) [(i + 9000, .cells [.sl n f, .int .i64 a, .int .i64 (sZ (bytesOf n f) a.toNat z w)])]
    refine fw153 (fun _ => false) [] rfl hct rfl (by simp) (by simp [hlIn, idsIn, Blk.menIn, V.menInL, V.menIn, V.flat, byF, lsF]) (by simp [V.menIn, V.menInL, idsIn]) ?_
    push_cast (config := { maxSteps := 10000000 })
    have hb := bytesOf_len n f
    unfold sS sZ lineOk lineV
    refine ⟨fun h => by rw [if_pos h, if_pos h]; exact ⟨rfl, rfl⟩, fun h => ?_⟩
    rw [if_neg h, if_neg h]
    have ha : a.toNat ≤ (bytesOf n f).length := by omega
    have hl := l6S_le ha
    refine ⟨⟨h1, h2, h4, by omega⟩, fun g => ⟨g, by omega⟩, fun g => ⟨g, by omega⟩, fun g => ?_, fun g => ?_⟩
    · have hn : (lnB (bytesOf n f) a.toNat && hasPre (lnS (bytesOf n f) a.toNat) (w ++ [58, 32])) = false := by
        cases hB : lnB (bytesOf n f) a.toNat with
        | false => rfl
        | true =>
          rw [(l6S_eq hB).1] at g
          rcases g with g | g
          · rw [hB] at g; cases g
          · rw [g]; rfl
      rw [hn]
      refine ⟨rfl, ?_⟩
      unfold stZ
      rw [if_pos (by omega), if_neg (by simp)]
      omega
    · have e := (l6S_eq g.1).1
      rw [e] at g hl ⊢
      rw [g.1, g.2]
      obtain ⟨r, hr⟩ := hasPre_iff.1 g.2
      have hlen := congrArg List.length hr
      simp only [List.length_append, List.length_cons, List.length_nil] at hlen
      exact ⟨⟨by omega, by omega⟩, ⟨⟨by omega, by omega⟩, by omega⟩, rfl, rfl⟩
  · cases h
attribute [push_cast] ckSaidK
@[push_cast] theorem said_ids (i o : Nat) (x : V) : ckSaid.ids [.ptr i o, x] = [i] := rfl
@[push_cast] theorem said_k (i n : Nat) (f : Nat → V) (a z : Int) (w : List UInt8) : ckSaid.k [.ptr i 0, .str w] [.cells [.sl n f, .int .i64 a, .int .i64 z]] = some (isBy n f ∧ n ≤ 4000000 ∧ w.length ≤ 1000 ∧ 0 ≤ a ∧ (z < 0 → a ≤ n), .str (sS (bytesOf n f) a.toNat z w), [.cells [.sl n f, .int .i64 a, .int .i64 (sZ (bytesOf n f) a.toNat z w)]]) := rfl
def tA (B : List UInt8) (a : Nat) (z : Int) (w : List UInt8) : Nat := if 0 ≤ z then a else if lineOk B a w = true then lnN B a else a
def ckToldK : List V → List Blk → Option (Prop × V × List Blk)
  | [.ptr _ 0, .str w], [.cells [.sl n f, .int .i64 a, .int .i64 z]] => some (isBy n f ∧ n ≤ 4000000 ∧ w.length ≤ 1000 ∧ 0 ≤ a ∧ a ≤ 8000000 ∧ (z < 0 → a ≤ n), .str (sS (bytesOf n f) a.toNat z w), [.cells [.sl n f, .int .i64 (tA (bytesOf n f) a.toNat z w), .int .i64 (sZ (bytesOf n f) a.toNat z w)]])
  | _, _ => none
def ckTold : Cf := ⟨fun | [.ptr i _, _] => [i] | _ => [], ckToldK⟩
theorem conTold : FCon pg 152 ckTold := by
  have hct := (ctF_ok conSaid (ctF_ok conNext (ctN_ok _)))
  intro args bs q r bs' h hq
  replace h : ckToldK args bs = some (q, r, bs') := h
  unfold ckToldK at h
  split at h
  · cases h
    rename_i i w n f a z
    refine ⟨rfl, by first | exact Nat.le_refl _ | exact Nat.zero_le _, ?_⟩
    obtain ⟨h1, h2, h3, h4, h40, h5⟩ := hq
    show FCall pg 152 [.ptr (i + 9000) 0, .str w] [(i + 9000, .cells [.sl n f, .int .i64 a, .int .i64 z])] (.str (sS (bytesOf n f) a.toNat z w)) [(i + 9000, .cells [.sl n f, .int .i64 (tA (bytesOf n f) a.toNat z w), .int .i64 (sZ (bytesOf n f) a.toNat z w)])]
    refine fw152 (fun _ => false) [] rfl hct rfl (by simp) (by simp [hlIn, idsIn, Blk.menIn, V.menInL, V.menIn, V.flat, byF, lsF]) (by simp [V.menIn, V.menInL, idsIn]) ?_
    push_cast (config := { maxSteps := 10000000 })
    have hl : (sS (bytesOf n f) a.toNat z w).length ≤ n := by
      unfold sS
      split
      · simp
      split
      · have := lineV_le (B := bytesOf n f) (a := a.toNat) w (by rw [bytesOf_len]; omega)
        rw [bytesOf_len] at this; exact this
      · simp
    refine ⟨⟨h1, h2, h3, h4, h5⟩, fun h => ⟨by omega, by omega, ⟨by omega, by omega, by omega⟩, ?_⟩, fun h => ?_⟩
    · unfold sZ at h
      unfold tA sS
      by_cases hz : 0 ≤ z
      · rw [if_pos hz] at h; omega
      · rw [if_neg hz] at h ⊢
        rw [if_neg hz]
        by_cases hk : lineOk (bytesOf n f) a.toNat w = true
        · rw [if_pos hk, if_pos hk]
          unfold lineOk at hk
          simp only [Bool.and_eq_true] at hk
          have := (l6S_eq hk.1).2
          obtain ⟨r, hr⟩ := hasPre_iff.1 hk.2
          have hlen := congrArg List.length hr
          simp only [List.length_append, List.length_cons, List.length_nil] at hlen
          unfold lineV
          rw [List.length_drop]
          omega
        · rw [if_neg hk] at h; omega
    · unfold sZ at h
      unfold tA
      by_cases hz : 0 ≤ z
      · rw [if_pos hz]; omega
      · rw [if_neg hz] at h ⊢
        by_cases hk : lineOk (bytesOf n f) a.toNat w = true
        · rw [if_pos hk] at h; omega
        · rw [if_neg hk]; omega
  · cases h
attribute [push_cast] ckToldK
@[push_cast] theorem told_ids (i o : Nat) (x : V) : ckTold.ids [.ptr i o, x] = [i] := rfl
@[push_cast] theorem told_k (i n : Nat) (f : Nat → V) (a z : Int) (w : List UInt8) : ckTold.k [.ptr i 0, .str w] [.cells [.sl n f, .int .i64 a, .int .i64 z]] = some (isBy n f ∧ n ≤ 4000000 ∧ w.length ≤ 1000 ∧ 0 ≤ a ∧ a ≤ 8000000 ∧ (z < 0 → a ≤ n), .str (sS (bytesOf n f) a.toNat z w), [.cells [.sl n f, .int .i64 (tA (bytesOf n f) a.toNat z w), .int .i64 (sZ (bytesOf n f) a.toNat z w)]]) := rfl
def ckKindOf : Ck
  | [.str v] => some (True, .int .i64 (kindI v))
  | _ => none
theorem conKindOf : Con pg 154 ckKindOf := by
  have hct := (ctA_ok conKindW (ctN_ok _))
  intro args q r h hq
  unfold ckKindOf at h
  split at h
  · cases h
    rename_i v
    refine w154 (fun _ => false) [] rfl hct rfl rfl ?_
    push_cast (config := { maxSteps := 10000000 })
    refine LoopW.adj ⟨hct, fol⟩ (by kernel_rfl) [] (fun k : Nat => [(0, .str v), (3, .int .i64 (k + 1 : Nat))]) (fun _ => []) (fun k => k ≤ 5 ∧ ∀ j, j < k → ¬ v = kindW.getD j []) (fun k => 5 - k) 0 ?_ fun k hk => ?_
    · push_cast (config := { maxSteps := 10000000 })
      first | done | omega
    · push_cast (config := { maxSteps := 10000000 })
      obtain ⟨k1, k2⟩ := hk
      have hl : kindW.length = 5 := rfl
      have e : ((k : Int) + 1 - 1).toNat = k := by omega
      rw [e]
      refine ⟨fun h => ⟨⟨by omega, by omega⟩, fun g => ?_, fun g => ⟨⟨by omega, by omega⟩, k + 1, ⟨by omega, fun j hj => ?_⟩, by omega, by omega⟩⟩, fun h => ?_⟩
      · unfold kindI
        rw [idxL_at (l := kindW) (i := k) (by omega) g.symm k2]
      · by_cases e : j = k
        · subst e
          exact fun x => g x.symm
        · exact k2 j (by omega)
      · unfold kindI
        have hk5 : k = 5 := by omega
        subst hk5
        rw [idxL_no (l := kindW) fun j hj => k2 j (by omega)]; rfl
  · cases h
attribute [push_cast] ckKindOf
def ckPlainNum : Ck
  | [.str s] => some (s.length ≤ 4611686018427387900, .tup [.int .i64 (if digL s 9 = true then (natOf s : Int) else 0), .bool (digL s 9)])
  | _ => none
theorem pn_no {s : List UInt8} (h : (s = [] ∨ 9 < (s.length : Int)) ∨ 1 < (s.length : Int) ∧ ((s.getD 0 0).toNat : Int) = 48) : digL s 9 = false := by
  unfold digL
  rcases h with (rfl | h) | ⟨h1, h2⟩
  · rfl
  · rw [show decide ((s.length : Int) ≤ 9) = false from decide_eq_false (by omega)]; simp
  · have e1 : decide (s.getD 0 0 ≠ 48) = false := decide_eq_false fun x => x (by
      rw [u8_eq]; exact h2)
    have e2 : (s == [48]) = false := by
      rw [Bool.eq_false_iff]
      intro x
      rw [beq_iff_eq] at x
      subst x
      simp at h1
    rw [e1, e2]; simp
theorem pn_yes {s : List UInt8} (h : (¬ s = [] ∧ ¬ 9 < (s.length : Int)) ∧ (1 < (s.length : Int) → ¬ ((s.getD 0 0).toNat : Int) = 48)) (ha : s.all isDg = true) : digL s 9 = true := by
  unfold digL
  obtain ⟨⟨h1, h2⟩, h3⟩ := h
  have hp : 1 ≤ s.length := by
    cases s with
    | nil => exact absurd rfl h1
    | cons a t => simp
  rw [ha, decide_eq_true hp, decide_eq_true (show (s.length : Int) ≤ 9 by omega)]
  simp only [Bool.and_self, Bool.true_and, Bool.or_eq_true, decide_eq_true_eq, beq_iff_eq]
  by_cases e : s.getD 0 0 = 48
  · right
    have hl : s.length = 1 := by
      rcases Nat.lt_or_ge 1 s.length with h | h
      · exact absurd ((u8_eq _ _).1 e) (h3 (by omega))
      · omega
    match s, hl with
    | [c], _ => simpa using e
  · left; exact e
theorem conPlainNum : Con pg 135 ckPlainNum := by
  have hct := (ctA_ok conAtoi (ctN_ok _))
  intro args q r h hq
  unfold ckPlainNum at h
  split at h
  · cases h
    rename_i s
    refine w135 (fun _ => false) [] rfl hct rfl rfl ?_
    push_cast (config := { maxSteps := 10000000 })
    refine ⟨fun h => ⟨h, by omega⟩, fun h => ⟨h, fun h' => ⟨h, h'⟩⟩, fun h => by rw [pn_no h]; exact ⟨rfl, rfl⟩, fun h => ?_⟩
    refine LoopW.adj ⟨hct, fol⟩ (by kernel_rfl) [] (fun i : Nat => [(0, .str s), (4, .int .i64 i)]) (fun _ => []) (fun i => i ≤ s.length ∧ ∀ j, j < i → isDg (s.getD j 0) = true) (fun i => s.length - i) 0 ?_ fun i hi => ?_
    · push_cast (config := { maxSteps := 10000000 })
      exact Nat.zero_le _
    · push_cast (config := { maxSteps := 10000000 })
      obtain ⟨h1, h2⟩ := hi
      refine ⟨fun h3 => ⟨h3, fun x => ⟨x, h3⟩, fun x => ?_, fun x => ⟨⟨by omega, by omega⟩, i + 1, ⟨by omega, fun j hj => ?_⟩, by omega, by omega⟩⟩, fun h3 => ?_⟩
      · have : digL s 9 = false := by
          unfold digL
          rw [all_no h3 (p := isDg) (decide_eq_false (by omega))]; simp
        rw [this]; exact ⟨rfl, rfl⟩
      · by_cases e : j = i
        · subst e; exact decide_eq_true (by omega)
        · exact h2 j (by omega)
      · have ha := all_at (p := isDg) fun j hj => h2 j (by omega)
        have hy := pn_yes h ha
        rw [hy]
        have hp : 1 ≤ s.length := by
          cases s with
          | nil => exact absurd rfl h.1.1
          | cons a t => simp
        exact ⟨⟨hp, by omega, ha⟩, rfl, rfl⟩
  · cases h
attribute [push_cast] ckPlainNum
def ckIsDigest6 : Ck
  | [.str s] => some (s.length ≤ 4611686018427387900, .bool (dgB s))
  | _ => none
theorem conIsDigest6 : Con pg 157 ckIsDigest6 := by
  have hct := ctN_ok pg
  intro args q r h hq
  unfold ckIsDigest6 at h
  split at h
  · cases h
    rename_i s
    refine w157 (fun _ => false) [] rfl hct rfl rfl ?_
    push_cast (config := { maxSteps := 10000000 })
    refine LoopW.adj ⟨hct, fol⟩ (by kernel_rfl) [] (fun i : Nat => [(0, .str s), (3, .int .i64 i)]) (fun _ => []) (fun i => i ≤ s.length ∧ ∀ j, j < i → dgC (s.getD j 0) = true) (fun i => s.length - i) 0 ?_ fun i hi => ?_
    · push_cast (config := { maxSteps := 10000000 })
      exact Nat.zero_le _
    · push_cast (config := { maxSteps := 10000000 })
      obtain ⟨h1, h2⟩ := hi
      refine ⟨fun h3 => ⟨h3, fun x => ⟨x, h3⟩, fun x => ⟨x, h3⟩, fun x => ⟨x, h3⟩, fun x => ⟨x, fun y => ⟨x, y⟩⟩, fun x => ?_, fun x => ⟨⟨by omega, by omega⟩, i + 1, ⟨by omega, fun j hj => ?_⟩, by omega, by omega⟩⟩, fun h3 => ?_⟩
      · have : s.all dgC = false := all_no h3 (p := dgC) (decide_eq_false (by omega))
        unfold dgB
        rw [this, Bool.and_false]
      · by_cases e : j = i
        · subst e; exact decide_eq_true (by omega)
        · exact h2 j (by omega)
      · have ha := all_at (p := dgC) fun j hj => h2 j (by omega)
        unfold dgB
        rw [ha, Bool.and_true, Bool.eq_iff_iff, beq_iff_eq, decide_eq_true_eq]
        omega
  · cases h
attribute [push_cast] ckIsDigest6

def ckHeadsAt : Ck
  | [.sl n f, .int .i64 a] => some (isBy n f ∧ 0 ≤ a ∧ a ≤ n ∧ n ≤ 4000000, .tup [.sl (rhL (bytesOf n f) (n + 1) a.toNat []).1.length (lsF cHd (rhL (bytesOf n f) (n + 1) a.toNat []).1), .int .i64 (if (rhL (bytesOf n f) (n + 1) a.toNat []).2.2 = true then ((rhL (bytesOf n f) (n + 1) a.toNat []).2.1 : Int) else 0), .int .i64 (if (rhL (bytesOf n f) (n + 1) a.toNat []).2.2 = true then -1 else ((rhL (bytesOf n f) (n + 1) a.toNat []).2.1 : Int))])
  | _ => none
theorem hdB_2 {s : List UInt8} : hdB s = true ↔ (hdCut s).2.2 = true ∧ (hdCut s).1 ≠ [] ∧ Lib.indexByte (hdCut s).1 58 < 0 := by
  unfold hdB
  rw [Bool.and_eq_true, Bool.and_eq_true, bne_iff_ne, and_assoc]
  have : ((!(Lib.contains (hdCut s).1 [58])) = true ↔ Lib.indexByte (hdCut s).1 58 < 0) := by
    unfold Lib.contains
    rw [Lib.index_one]
    simp
  rw [this]
attribute [push_cast] ckHeadsAt
theorem pre_len (B : List UInt8) (i : Nat) : hasPre (B.drop i) [108, 101, 110, 103, 116, 104, 58, 32] = isL B i [108, 101, 110, 103, 116, 104] := by
  unfold isL hasPre
  simp only [List.length_cons, List.length_nil, List.length_drop]
  rw [Bool.eq_iff_iff]
  simp only [Bool.and_eq_true, decide_eq_true_eq, beq_iff_eq]
  constructor
  · exact fun h => h.2
  · intro h
    have hl := congrArg List.length h
    simp only [List.length_take, List.length_drop, List.length_append, List.length_cons, List.length_nil] at hl
    exact ⟨by omega, h⟩
/-- what the reference's heads hand back: the heads, the place, the first fault -/
def rH (B : List UInt8) (a : Nat) (z : Int) : List Hd × Nat × Int :=
  if 0 ≤ z then ([], a, z) else if (hdsR B (B.length + 1) a []).1 = true then ((hdsR B (B.length + 1) a []).2.2, (hdsR B (B.length + 1) a []).2.1, z) else ([], (hdsR B (B.length + 1) a []).2.1, ((hdsR B (B.length + 1) a []).2.1 : Int))
def ckHeads6K : List V → List Blk → Option (Prop × V × List Blk)
  | [.ptr _ 0], [.cells [.sl n f, .int .i64 a, .int .i64 z]] => some (isBy n f ∧ n ≤ 4000000 ∧ 0 ≤ a ∧ (z < 0 → a ≤ n), .sl (rH (bytesOf n f) a.toNat z).1.length (lsF cHd (rH (bytesOf n f) a.toNat z).1), [.cells [.sl n f, .int .i64 (rH (bytesOf n f) a.toNat z).2.1, .int .i64 (rH (bytesOf n f) a.toNat z).2.2]])
  | _, _ => none
def ckHeads6 : Cf := ⟨fun | [.ptr i _] => [i] | _ => [], ckHeads6K⟩
theorem conHeads6 : FCon pg 156 ckHeads6 := by
  have hct := (ctF_ok conLn6 (ctF_ok conStop (ctF_ok conNext (ctF_ok conBegins (ctA_ok conCut (ctA_ok conIndexByte (ctN_ok _)))))))
  intro args bs q r bs' h hq
  replace h : ckHeads6K args bs = some (q, r, bs') := h
  unfold ckHeads6K at h
  split at h
  · cases h
    rename_i i n f a z
    refine ⟨rfl, by first | exact Nat.le_refl _ | exact Nat.zero_le _, ?_⟩
    obtain ⟨h1, h2, h4, h5⟩ := hq
    obtain ⟨a, rfl⟩ : ∃ k : Nat, a = k := ⟨a.toNat, by omega⟩
    rw [Int.toNat_natCast]
    have hb := bytesOf_len n f
    generalize hR : rH (bytesOf n f) a z = R
    show FCall pg 156 [.ptr (i + 9000) 0] [(i + 9000, .cells [.sl n f, .int .i64 (a : Nat), .int .i64 z])] (.sl R.1.length (lsF cHd R.1)) [(i + 9000, .cells [.sl n f, .int .i64 (R.2.1 : Nat), .int .i64 R.2.2])]
    refine fw156 (fun _ => false) [.frz 90] rfl hct rfl (by simp) (by simp [hlIn, idsIn, Blk.menIn, V.menInL, V.menIn, V.flat, byF, lsF]) (by simp [V.menIn, V.menInL, idsIn]) ?_
    push_cast (config := { maxSteps := 10000000 })
    refine LoopW.adj ⟨hct, fol⟩ (by kernel_rfl) [.nv 3 90 2 (lsF cHd [])] (fun t : Nat × List Hd => [(0, .ptr (i + 9000) 0), (3, .vec 90 t.2.length)]) (fun t => [(i + 9000, .cells [.sl n f, .int .i64 t.1, .int .i64 z]), (90, .vec 2 t.2.length (lsF cHd t.2))]) (fun t => (z < 0 → t.1 ≤ n) ∧ (0 ≤ z → t = (a, [])) ∧ t.2.length ≤ t.1 ∧ (z < 0 → ∃ k, n < t.1 + k ∧ hdsR (bytesOf n f) k t.1 t.2 = hdsR (bytesOf n f) (n + 1) a [])) (fun t => n - t.1) (a, []) ?_ fun t ht => ?_
    · push_cast (config := { maxSteps := 10000000 })
      exact ⟨fun h => by have := h5 h; omega, Nat.zero_le _, fun h => ⟨n + 1, by omega, rfl⟩⟩
    · obtain ⟨p, o⟩ := t
      obtain ⟨i1, i2, i3, i4⟩ : (z < 0 → p ≤ n) ∧ (0 ≤ z → (p, o) = (a, [])) ∧ o.length ≤ p ∧ (z < 0 → ∃ k, n < p + k ∧ hdsR (bytesOf n f) k p o = hdsR (bytesOf n f) (n + 1) a []) := ht
      push_cast (config := { maxSteps := 10000000 })
      refine ⟨fun hz => ⟨hz, ⟨h1, h2, i1 hz⟩, fun g => ?_, fun g => ?_⟩, fun hz => ⟨fun x => hz x, fun x => absurd x hz, fun _ => ?_⟩⟩
      · obtain ⟨k, k1, k2⟩ := i4 hz
        have hp := i1 hz
        obtain ⟨k, rfl⟩ : ∃ k', k = k' + 1 := ⟨k - 1, by omega⟩
        rw [pre_len] at g
        rw [hdsR, if_neg (by rw [g.2]; simp)] at k2
        have hl := l6S_le (B := bytesOf n f) (a := p) (by omega)
        unfold rH at hR
        rw [if_neg (by omega), hb] at hR
        refine ⟨⟨h1, h2, hp⟩, by omega, fun bad => ?_, fun good => ?_⟩
        · have hno : (lnB (bytesOf n f) p && hdB (lnS (bytesOf n f) p)) = false := by
            cases hB : lnB (bytesOf n f) p with
            | false => rfl
            | true =>
              rw [(l6S_eq hB).1, hB] at bad
              rw [Bool.true_and, Bool.eq_false_iff]
              intro x
              have := hdB_2.1 x
              unfold hdCut at this
              rcases bad with ((b | b) | b) | b
              · cases b
              · rw [b] at this; exact absurd this.1 (by simp)
              · exact this.2.1 b
              · have := this.2.2; omega
          rw [if_neg (by rw [hno]; simp)] at k2
          rw [← k2, if_neg (by simp)] at hR
          rw [← hR]
          unfold stZ
          rw [if_pos hz]
          exact ⟨rfl, rfl, rfl⟩
        · have hB := good.1.1.1
          obtain ⟨e1, e2⟩ := l6S_eq hB
          rw [e1] at good hl ⊢
          have hy : hdB (lnS (bytesOf n f) p) = true := hdB_2.2 ⟨good.1.1.2, good.1.2, by unfold hdCut; omega⟩
          rw [if_pos (by rw [hB, hy]; rfl)] at k2
          have hf := ln_fit (b := bytesOf n f) (a := p) (by omega) hB
          have hv : hdV (lnS (bytesOf n f) p) = (Hd.mk (Lib.cut (lnS (bytesOf n f) p) [58, 32]).1 (Lib.cut (lnS (bytesOf n f) p) [58, 32]).2.1) := by
            unfold hdV; rw [if_pos hy]; rfl
          rw [hv] at k2
          have app := LsI.app (c := cHd) (f := lsF cHd o) (g := litF [cHd.enc (Hd.mk (Lib.cut (lnS (bytesOf n f) p) [58, 32]).1 (Lib.cut (lnS (bytesOf n f) p) [58, 32]).2.1)]) (LsI.ls o) (LsI.one (c := cHd) (a := (Hd.mk (Lib.cut (lnS (bytesOf n f) p) [58, 32]).1 (Lib.cut (lnS (bytesOf n f) p) [58, 32]).2.1)) rfl) rfl
          exact ⟨⟨by omega, by omega⟩, ⟨by omega, by omega⟩, ((lnN (bytesOf n f) p, o ++ [(Hd.mk (Lib.cut (lnS (bytesOf n f) p) [58, 32]).1 (Lib.cut (lnS (bytesOf n f) p) [58, 32]).2.1)]) : Nat × List Hd), ⟨fun _ => by show lnN _ p ≤ n; omega, fun h => absurd hz (by omega), by show (o ++ [_]).length ≤ lnN _ p; simp; omega, fun _ => ⟨k, by show n < lnN _ p + k; omega, k2⟩⟩, by show n - lnN _ p < n - p; omega, by simp, by omega, by simp, app.2⟩
      · obtain ⟨k, k1, k2⟩ := i4 hz
        obtain ⟨k, rfl⟩ : ∃ k', k = k' + 1 := ⟨k - 1, by omega⟩
        rw [pre_len] at g
        rw [hdsR, if_pos (g hz)] at k2
        unfold rH at hR
        rw [if_neg (by omega), hb, ← k2, if_pos rfl] at hR
        rw [← hR]
        exact ⟨⟨rfl, fun _ _ => rfl⟩, rfl, rfl⟩
      · have e := i2 (by omega)
        cases e
        unfold rH at hR
        rw [if_pos (by omega)] at hR
        rw [← hR]
        exact ⟨⟨rfl, fun _ _ => rfl⟩, rfl, rfl⟩
  · cases h
attribute [push_cast] ckHeads6K
@[push_cast] theorem heads6_ids (i o : Nat) : ckHeads6.ids [.ptr i o] = [i] := rfl
@[push_cast] theorem heads6_k (i n : Nat) (f : Nat → V) (a z : Int) : ckHeads6.k [.ptr i 0] [.cells [.sl n f, .int .i64 a, .int .i64 z]] = some (isBy n f ∧ n ≤ 4000000 ∧ 0 ≤ a ∧ (z < 0 → a ≤ n), .sl (rH (bytesOf n f) a.toNat z).1.length (lsF cHd (rH (bytesOf n f) a.toNat z).1), [.cells [.sl n f, .int .i64 (rH (bytesOf n f) a.toNat z).2.1, .int .i64 (rH (bytesOf n f) a.toNat z).2.2]]) := rfl

def digsL (s : List UInt8) : Bool := s.all isDg && decide (1 ≤ s.length)
theorem digsL_no {s : List UInt8} (h : s.all isDg = false) : false = digsL s := by unfold digsL; rw [h, Bool.false_and]
def ckIsDigits : Ck
  | [.str s] => some (s.length ≤ 4611686018427387904, .bool (digsL s))
  | _ => none
theorem conIsDigits : Con pg 188 ckIsDigits := by
  have hct := ctN_ok pg
  intro args q r h hq
  unfold ckIsDigits at h
  split at h
  · cases h
    rename_i s
    refine w188 (fun _ => false) [] rfl hct rfl rfl ?_
    push_cast (config := { maxSteps := 10000000 })
    refine LoopW.adj ⟨hct, fol⟩ (by kernel_rfl) [] (fun i : Nat => [(0, .str s), (3, .int .i64 i)]) (fun _ => []) (fun i => i ≤ s.length ∧ ∀ j, j < i → isDg (s.getD j 0) = true) (fun i => s.length - i) 0 ?_ fun i hi => ?_
    · push_cast (config := { maxSteps := 10000000 })
      exact Nat.zero_le _
    · push_cast (config := { maxSteps := 10000000 })
      obtain ⟨h1, h2⟩ := hi
      (repeat' (first | apply And.intro | intro _)) <;> (try first | assumption | contradiction | omega | exact rfl | exact trivial)
      · rename_i a b
        exact digsL_no (all_no' (d := 0) a (by unfold isDg; exact decide_eq_false (by omega)))
      · rename_i a b
        refine ⟨i + 1, ⟨by omega, fun j hj => ?_⟩, by omega, by omega⟩
        by_cases e : j = i
        · subst e; exact decide_eq_true (by omega)
        · exact h2 j (by omega)
      · unfold digsL
        rw [all_at' fun j hj => h2 j (by omega), Bool.true_and]
        cases s <;> simp
  · cases h
attribute [push_cast] ckIsDigits
def plainL (s : List UInt8) : Bool := digsL s && (decide (s.length = 1) || decide (s.getD 0 0 ≠ 48))
/-- of digits: the number, or a limit -/
def capL (s : List UInt8) (n : Int) : Int := if 15 < s.length then n else min (natOf s : Int) n
/-- without 0s at its head, but for the last byte -/
def stripZ : List UInt8 → List UInt8
  | c :: d :: t => if c = 48 then stripZ (d :: t) else c :: d :: t
  | s => s
theorem stripZ_hit {s : List UInt8} (h1 : 1 < s.length) (h2 : s.getD 0 0 = 48) : stripZ s = stripZ (s.drop 1) := by
  match s, h1, h2 with
  | c :: d :: t, _, h2 => simp only [List.getD_cons_zero] at h2; rw [stripZ, if_pos h2]; rfl
theorem stripZ_miss {s : List UInt8} (h : 1 < s.length → ¬ s.getD 0 0 = 48) : stripZ s = s := by
  match s, h with
  | [], _ => rfl
  | [c], _ => rfl
  | c :: d :: t, h => rw [stripZ, if_neg (by simpa using h (by simp))]
theorem natOf_zero (s : List UInt8) : natOf (48 :: s) = natOf s := rfl
theorem natOf_strip (s : List UInt8) : natOf (stripZ s) = natOf s := by
  fun_induction stripZ s with
  | case1 d t ih => rw [ih, natOf_zero]
  | case2 c d t h => rfl
  | case3 s h => rfl
theorem stripZ_len (s : List UInt8) : (stripZ s).length ≤ s.length := by
  fun_induction stripZ s with
  | case1 d t ih => simp only [List.length_cons] at ih ⊢; omega
  | case2 c d t h => exact Nat.le_refl _
  | case3 s h => exact Nat.le_refl _
def ckCap : Ck
  | [.str s, .int .i64 n] => some (digsL s = true ∧ s.length ≤ 4611686018427387904, .int .i64 (capL (stripZ s) n))
  | _ => none
theorem digs_all {s : List UInt8} (h : digsL s = true) : 1 ≤ s.length ∧ s.all isDg = true := by
  simp only [digsL, Bool.and_eq_true, decide_eq_true_eq] at h
  exact ⟨h.2, h.1⟩
theorem plain_digs {s : List UInt8} (h : plainL s = true) : digsL s = true ∧ stripZ s = s := by
  simp only [plainL, Bool.and_eq_true, Bool.or_eq_true, decide_eq_true_eq] at h
  refine ⟨h.1, stripZ_miss fun h1 => ?_⟩
  rcases h.2 with h2 | h2
  · omega
  · exact h2
theorem plain_all {s : List UInt8} (h : plainL s = true) : 1 ≤ s.length ∧ s.all isDg = true ∧ (s.length = 1 ∨ s.getD 0 0 ≠ 48) := by
  simp only [plainL, digsL, Bool.and_eq_true, Bool.or_eq_true, decide_eq_true_eq] at h
  exact ⟨h.1.2, h.1.1, h.2⟩
theorem cap_small {s : List UInt8} {n : Int} (h : s.length ≤ 15) (hn : (natOf s : Int) ≤ n) : capL (stripZ s) n = natOf s := by
  have := stripZ_len s
  unfold capL
  rw [if_neg (by omega), natOf_strip]; omega
theorem conCap : Con pg 189 ckCap := by
  have hct := (ctA_ok conAtoi (ctN_ok _))
  intro args q r h hq
  unfold ckCap at h
  split at h
  · cases h
    rename_i s n
    refine w189 (fun _ => false) [] rfl hct rfl rfl ?_
    push_cast (config := { maxSteps := 10000000 })
    refine LoopW.adj ⟨hct, fol⟩ (by kernel_rfl) [] (fun t : List UInt8 => [(0, .str t), (1, .int .i64 n)]) (fun _ => []) (fun t => t.length ≤ s.length ∧ digsL t = true ∧ stripZ t = stripZ s) (fun t => t.length) s ?_ fun t hi => ?_
    · push_cast (config := { maxSteps := 10000000 })
      exact ⟨Nat.le_refl _, hq.1⟩
    · push_cast (config := { maxSteps := 10000000 })
      obtain ⟨i1, i2, i3⟩ := hi
      obtain ⟨p1, p2⟩ := digs_all i2
      refine ⟨fun h => ⟨h, by omega⟩, fun h => ⟨by omega, t.drop 1, ⟨by simp; omega, ?_, ?_⟩, by simp; omega, ?_⟩, fun h => ?_⟩
      · have hc : 1 < t.length ∧ _ := ⟨by omega, h.2⟩
        unfold digsL
        rw [Bool.and_eq_true, decide_eq_true_eq]
        refine ⟨?_, by simp; omega⟩
        rw [List.all_eq_true] at p2 ⊢
        exact fun x hx => p2 x (List.mem_of_mem_drop hx)
      · rw [← i3, stripZ_hit (by omega) ((u8_eq _ _).2 h.2)]
      · rfl
      · have hz : stripZ s = t := by rw [← i3]; exact stripZ_miss fun h1 e => h (by omega) ((u8_eq _ _).1 e)
        rw [hz]
        refine ⟨fun h5 => ?_, fun h5 => ⟨⟨p1, by omega, p2⟩, ?_⟩⟩
        · unfold capL; rw [if_pos (by omega)]
        · unfold capL; rw [if_neg (by omega)]
  · cases h
attribute [push_cast] ckCap

theorem digs_fld {s : List UInt8} {a n : Nat} (h : (fld s a n).all isDg = true) (hl : a < s.length) (hn : 1 ≤ n) : digsL (List.take n (List.drop a s)) = true := by
  unfold fld at h
  unfold digsL
  rw [h, Bool.true_and, decide_eq_true_eq, List.length_take, List.length_drop]
  omega
theorem cap_fld {s : List UInt8} {a n : Nat} (h : digsL (fld s a n) = true) (hn : n ≤ 4) : capL (stripZ (fld s a n)) 9999 = natOf (fld s a n) := by
  have hl : (fld s a n).length ≤ 4 := by unfold fld; rw [List.length_take]; omega
  have hb := natOf_le (digs_all h).2 hl
  exact cap_small (by omega) (by omega)
def clD (s : List UInt8) : Nat → List V
  | 0 => [.int .i64 0, .int .i64 0, .int .i64 0, .int .i64 0, .int .i64 0]
  | 1 => [.int .i64 (natOf (fld s 5 2)), .int .i64 0, .int .i64 0, .int .i64 0, .int .i64 0]
  | 2 => [.int .i64 (natOf (fld s 5 2)), .int .i64 (natOf (fld s 12 4)), .int .i64 0, .int .i64 0, .int .i64 0]
  | 3 => [.int .i64 (natOf (fld s 5 2)), .int .i64 (natOf (fld s 12 4)), .int .i64 (natOf (fld s 17 2)), .int .i64 0, .int .i64 0]
  | 4 => [.int .i64 (natOf (fld s 5 2)), .int .i64 (natOf (fld s 12 4)), .int .i64 (natOf (fld s 17 2)), .int .i64 (natOf (fld s 20 2)), .int .i64 0]
  | _ => [.int .i64 (natOf (fld s 5 2)), .int .i64 (natOf (fld s 12 4)), .int .i64 (natOf (fld s 17 2)), .int .i64 (natOf (fld s 20 2)), .int .i64 (natOf (fld s 23 2))]
@[push_cast] theorem clD0 (s : List UInt8) : clD s 0 = [.int .i64 0, .int .i64 0, .int .i64 0, .int .i64 0, .int .i64 0] := rfl
@[push_cast] theorem clD1 (s : List UInt8) : clD s 1 = [.int .i64 (natOf (fld s 5 2)), .int .i64 0, .int .i64 0, .int .i64 0, .int .i64 0] := rfl
@[push_cast] theorem clD2 (s : List UInt8) : clD s 2 = [.int .i64 (natOf (fld s 5 2)), .int .i64 (natOf (fld s 12 4)), .int .i64 0, .int .i64 0, .int .i64 0] := rfl
@[push_cast] theorem clD3 (s : List UInt8) : clD s 3 = [.int .i64 (natOf (fld s 5 2)), .int .i64 (natOf (fld s 12 4)), .int .i64 (natOf (fld s 17 2)), .int .i64 0, .int .i64 0] := rfl
@[push_cast] theorem clD4 (s : List UInt8) : clD s 4 = [.int .i64 (natOf (fld s 5 2)), .int .i64 (natOf (fld s 12 4)), .int .i64 (natOf (fld s 17 2)), .int .i64 (natOf (fld s 20 2)), .int .i64 0] := rfl
@[push_cast] theorem clD5 (s : List UInt8) : clD s 5 = [.int .i64 (natOf (fld s 5 2)), .int .i64 (natOf (fld s 12 4)), .int .i64 (natOf (fld s 17 2)), .int .i64 (natOf (fld s 20 2)), .int .i64 (natOf (fld s 23 2))] := rfl
theorem mIdx_at {w : List UInt8} {t : Nat} (h : t < 12) (e : mnN.getD t [] = w) (hn : ∀ j, j < t → mnN.getD j [] ≠ w) : mIdx w = t :=
  idxL_at (l := mnN) h e.symm fun j hj e2 => hn j hj e2.symm
theorem mIdx_no {w : List UInt8} (hn : ∀ j, j < 12 → mnN.getD j [] ≠ w) : mIdx w = -1 :=
  idxL_no (l := mnN) fun j hj e2 => hn j hj e2.symm
theorem conReadDate2 : Con pg 155 ckReadDate := by
  have hct := (ctA_ok conIsDigits (ctA_ok conCap (ctA_ok conMonthName (ctA_ok conMonthDays (ctA_ok conWithin2b (ctA_ok conYearDays (ctA_ok conDateOf2 (ctN_ok _))))))))
  intro args q r h hq
  unfold ckReadDate at h
  split at h
  · cases h
    rename_i s
    refine w155 (fun _ => false) [] rfl hct rfl rfl ?_
    push_cast (config := { maxSteps := 10000000 })
    have hno : ¬ rdB s = true → 0 = rdV s ∧ (10 : Int) = if rdB s = true then 0 else 10 := fun h => by
      have : rdB s = false := by simpa using h
      unfold rdV; rw [this]; exact ⟨rfl, rfl⟩
    have rd29 : rdB s = true → s.length = 29 := fun h => (rdB_fields h).1
    refine ⟨fun h => hno fun hr => h (by have := rd29 hr; omega), fun h29 => ?_⟩
    refine LoopW.adj ⟨hct, fol⟩ (by kernel_rfl) [] (fun i : Nat => [(0, .str s), (4, .ptr 4 0), (16, .sl 5 (lsF cInt [5, 12, 17, 20, 23])), (17, .int .i64 5), (18, .int .i64 i)]) (fun i => [(4, .cells (clD s i))]) (fun i => i ≤ 5 ∧ ∀ j, j < i → ((fL s).getD j []).all isDg = true) (fun i => 5 - i) 0 ?_ fun i hi => ?_
    · push_cast (config := { maxSteps := 10000000 })
      intro i hi
      rcases (by omega : i = 0 ∨ i = 1 ∨ i = 2 ∨ i = 3 ∨ i = 4) with rfl | rfl | rfl | rfl | rfl <;> rfl
    · obtain ⟨h1, h2⟩ := hi
      rcases (by omega : i = 0 ∨ i = 1 ∨ i = 2 ∨ i = 3 ∨ i = 4 ∨ i = 5) with rfl | rfl | rfl | rfl | rfl | rfl
      · push_cast (config := { maxSteps := 10000000 })
        refine ⟨⟨by omega, by omega⟩, by omega, fun h => hno fun hr => ?_, fun h => ⟨⟨by omega, by omega⟩, ⟨h, by omega⟩, 1, ⟨by omega, fun j hj => ?_⟩, by omega, rfl, ?_⟩⟩
        · have hf := rdB_fields hr
          rw [digs_fld (s := s) (a := 5) (n := 2) hf.2.1 (by omega) (by omega)] at h; cases h
        · by_cases e : j = 0
          · subst e; exact (digs_all h).2
          · exact h2 j (by omega)
        · rw [show capL (stripZ (List.take 2 (List.drop 5 s))) 9999 = _ from cap_fld (s := s) (a := 5) (n := 2) h (by omega)]
          push_cast (config := { maxSteps := 10000000 })
      · push_cast (config := { maxSteps := 10000000 })
        refine ⟨⟨by omega, by omega⟩, by omega, fun h => hno fun hr => ?_, fun h => ⟨⟨by omega, by omega⟩, ⟨h, by omega⟩, 2, ⟨by omega, fun j hj => ?_⟩, by omega, rfl, ?_⟩⟩
        · have hf := rdB_fields hr
          rw [digs_fld (s := s) (a := 12) (n := 4) hf.2.2.1 (by omega) (by omega)] at h; cases h
        · by_cases e : j = 1
          · subst e; exact (digs_all h).2
          · exact h2 j (by omega)
        · rw [show capL (stripZ (List.take 4 (List.drop 12 s))) 9999 = _ from cap_fld (s := s) (a := 12) (n := 4) h (by omega)]
          push_cast (config := { maxSteps := 10000000 })
      · push_cast (config := { maxSteps := 10000000 })
        refine ⟨⟨by omega, by omega⟩, by omega, fun h => hno fun hr => ?_, fun h => ⟨⟨by omega, by omega⟩, ⟨h, by omega⟩, 3, ⟨by omega, fun j hj => ?_⟩, by omega, rfl, ?_⟩⟩
        · have hf := rdB_fields hr
          rw [digs_fld (s := s) (a := 17) (n := 2) hf.2.2.2.1 (by omega) (by omega)] at h; cases h
        · by_cases e : j = 2
          · subst e; exact (digs_all h).2
          · exact h2 j (by omega)
        · rw [show capL (stripZ (List.take 2 (List.drop 17 s))) 9999 = _ from cap_fld (s := s) (a := 17) (n := 2) h (by omega)]
          push_cast (config := { maxSteps := 10000000 })
      · push_cast (config := { maxSteps := 10000000 })
        refine ⟨⟨by omega, by omega⟩, by omega, fun h => hno fun hr => ?_, fun h => ⟨⟨by omega, by omega⟩, ⟨h, by omega⟩, 4, ⟨by omega, fun j hj => ?_⟩, by omega, rfl, ?_⟩⟩
        · have hf := rdB_fields hr
          rw [digs_fld (s := s) (a := 20) (n := 2) hf.2.2.2.2.1 (by omega) (by omega)] at h; cases h
        · by_cases e : j = 3
          · subst e; exact (digs_all h).2
          · exact h2 j (by omega)
        · rw [show capL (stripZ (List.take 2 (List.drop 20 s))) 9999 = _ from cap_fld (s := s) (a := 20) (n := 2) h (by omega)]
          push_cast (config := { maxSteps := 10000000 })
      · push_cast (config := { maxSteps := 10000000 })
        refine ⟨⟨by omega, by omega⟩, by omega, fun h => hno fun hr => ?_, fun h => ⟨⟨by omega, by omega⟩, ⟨h, by omega⟩, 5, ⟨by omega, fun j hj => ?_⟩, by omega, rfl, ?_⟩⟩
        · have hf := rdB_fields hr
          rw [digs_fld (s := s) (a := 23) (n := 2) hf.2.2.2.2.2.1 (by omega) (by omega)] at h; cases h
        · by_cases e : j = 4
          · subst e; exact (digs_all h).2
          · exact h2 j (by omega)
        · rw [show capL (stripZ (List.take 2 (List.drop 23 s))) 9999 = _ from cap_fld (s := s) (a := 23) (n := 2) h (by omega)]
          push_cast (config := { maxSteps := 10000000 })
      · push_cast (config := { maxSteps := 10000000 })
        have g0 : (fld s 5 2).all isDg = true := h2 0 (by omega)
        have g1 : (fld s 12 4).all isDg = true := h2 1 (by omega)
        have g2 : (fld s 17 2).all isDg = true := h2 2 (by omega)
        have g3 : (fld s 20 2).all isDg = true := h2 3 (by omega)
        have g4 : (fld s 23 2).all isDg = true := h2 4 (by omega)
        have b0 := natOf_le g0 (k := 2) (by simp [fld]; omega)
        have b1 := natOf_le g1 (k := 4) (by simp [fld]; omega)
        have b2 := natOf_le g2 (k := 2) (by simp [fld]; omega)
        have b3 := natOf_le g3 (k := 2) (by simp [fld]; omega)
        have b4 := natOf_le g4 (k := 2) (by simp [fld]; omega)
        have hM : (daysI (natOf (fld s 12 4)) (mIdx (fld s 8 3) + 1) + natOf (fld s 5 2) - 1) * 86400 + (natOf (fld s 17 2) : Int) * 3600 + (natOf (fld s 20 2) : Int) * 60 + natOf (fld s 23 2) = momF s := rfl
        have hf := fun hr => rdB_fields (s := s) hr
        generalize natOf (fld s 5 2) = n0 at *
        generalize natOf (fld s 12 4) = n1 at *
        generalize natOf (fld s 17 2) = n2 at *
        generalize natOf (fld s 20 2) = n3 at *
        generalize natOf (fld s 23 2) = n4 at *
        refine LoopW.adj ⟨hct, fol⟩ (by kernel_rfl) [] (fun t : Nat => [(0, .str s), (4, .ptr 4 0), (8, .int .i64 (1 + t))]) (fun t => [(4, .cells [.int .i64 n0, .int .i64 n1, .int .i64 n2, .int .i64 n3, .int .i64 n4])]) (fun t => t ≤ 12 ∧ ∀ j, j < t → mnN.getD j [] ≠ fld s 8 3) (fun t => 12 - t) 0 ?_ fun t ht => ?_
        · push_cast (config := { maxSteps := 10000000 })
        · push_cast (config := { maxSteps := 10000000 })
          obtain ⟨t1, t2⟩ := ht
          have e1 : (1 + (t : Int) - 1).toNat = t := by omega
          rw [e1]
          refine ⟨fun h => ⟨h, by omega, h⟩, fun h => ⟨h, by omega, by omega⟩, fun h => ⟨⟨by omega, by omega⟩, t + 1, ⟨by omega, fun j hj => ?_⟩, by omega, by omega⟩, fun hx => ?_⟩
          · by_cases e : j = t
            · subst e; exact h.2
            · exact t2 j (by omega)
          have hmi : t < 12 → mIdx (fld s 8 3) = t := fun h => mIdx_at h (hx (by omega)) t2
          have hmn : ¬ t < 12 → mIdx (fld s 8 3) = -1 := fun h => mIdx_no fun j hj => t2 j (by omega)
          refine ⟨fun h => ⟨h, by omega, by omega, by omega⟩, fun h => hno fun hr => ?_, fun h => ⟨⟨by omega, by omega⟩, ?_⟩⟩
          · have hq := hf hr
            by_cases ht : t < 12
            · rw [hmi ht, show (t : Int) + 1 = 1 + t by omega] at hq
              omega
            · rw [hmn ht] at hq; omega
          have ht12 : t < 12 := by omega
          rw [hmi ht12, show (t : Int) + 1 = 1 + t by omega] at hM
          have ml := monthLongI_b (n1 : Int) (1 + t)
          have hdb := daysI_bb (y := n1) (m := 1 + t) (by omega) (by omega) (by omega)
          refine LoopW.adj ⟨hct, fol⟩ (by kernel_rfl) [] (fun k : Nat => [(0, .str s), (4, .ptr 4 0), (8, .int .i64 (1 + t)), (9, .int .i64 (n0 - 1 + daysI (1970 + k) 1)), (10, .int .i64 (1970 + k))]) (fun k => [(4, .cells [.int .i64 n0, .int .i64 n1, .int .i64 n2, .int .i64 n3, .int .i64 n4])]) (fun k => 1970 + (k : Int) ≤ n1) (fun k => n1 - k) 0 ?_ fun k hk => ?_
          · push_cast (config := { maxSteps := 10000000 })
            have e : daysI 1970 1 = 0 := by rw [daysI_1]; omega
            simp [e]; omega
          · push_cast (config := { maxSteps := 10000000 })
            have hk2 := daysI_bb (y := 1970 + k) (m := 1) (by omega) (by omega) (by omega)
            have hnx := daysI_next (1970 + k)
            have hyl : yearLong (1970 + k) = 365 ∨ yearLong (1970 + k) = 366 := by unfold yearLong; split <;> simp
            refine ⟨fun h => ⟨⟨by omega, by omega⟩, ⟨by omega, by omega⟩, ⟨by omega, by omega⟩, k + 1, by omega, by omega, ?_, by omega⟩, fun h => ?_⟩
            · rw [show 1970 + ((k + 1 : Nat) : Int) = 1970 + (k : Int) + 1 by omega]; omega
            have ek : 1970 + (k : Int) = n1 := by omega
            rw [ek]
            refine LoopW.adj ⟨hct, fol⟩ (by kernel_rfl) [] (fun k : Nat => [(0, .str s), (4, .ptr 4 0), (8, .int .i64 (1 + t)), (9, .int .i64 (n0 - 1 + daysI n1 (1 + k))), (11, .int .i64 (1 + k))]) (fun k => [(4, .cells [.int .i64 n0, .int .i64 n1, .int .i64 n2, .int .i64 n3, .int .i64 n4])]) (fun k => k ≤ t) (fun k => t - k) 0 ?_ fun k hk3 => ?_
            · push_cast (config := { maxSteps := 10000000 })
              simp
            · push_cast (config := { maxSteps := 10000000 })
              have hk4 := daysI_bb (y := n1) (m := 1 + k) (by omega) (by omega) (by omega)
              have hnm := daysI_month (y := n1) (m := 1 + k) (by omega)
              have mlk := monthLongI_b (n1 : Int) (1 + k)
              refine ⟨fun h => ⟨⟨by omega, by omega, by omega⟩, ⟨by omega, by omega⟩, ⟨by omega, by omega⟩, k + 1, by omega, by omega, ?_, by omega⟩, fun h => ?_⟩
              · rw [show 1 + ((k + 1 : Nat) : Int) = 1 + (k : Int) + 1 by omega]; omega
              obtain rfl : k = t := by omega
              have hM2 : (n0 - 1 + daysI n1 (1 + k)) * 86400 + (n2 : Int) * 3600 + (n3 : Int) * 60 + n4 = momF s := by rw [← hM]; omega
              have hup : daysI n1 (1 + k + 1) ≤ 2932897 := by
                have a1 := daysI_mmono (y := n1) (m := 1 + k + 1) (k := 13) (by omega) (by omega)
                rw [daysI_13] at a1
                have a2 : daysI ((n1 : Int) + 1) 1 ≤ 2932897 := by rw [daysI_1]; omega
                omega
              refine ⟨⟨by omega, by omega⟩, ⟨by omega, by omega⟩, ⟨by omega, by omega⟩, ⟨by omega, by omega⟩, ⟨by omega, by omega⟩, ⟨by omega, by omega⟩, ⟨by omega, by omega⟩, ?_⟩
              have hr1 : 0 ≤ momF s ∧ momF s ≤ 253402300799 := by rw [← hM2]; constructor <;> omega
              rw [hM2]
              refine ⟨fun h => hno fun hr => ?_, fun h => ?_⟩
              · exact h (of_decide_eq_true hr).2.2
              · have hr : rdB s = true := decide_eq_true ⟨hr1.1, hr1.2, h⟩
                unfold rdV; rw [hr]; exact ⟨rfl, rfl⟩
  · cases h

end Go.Abs
