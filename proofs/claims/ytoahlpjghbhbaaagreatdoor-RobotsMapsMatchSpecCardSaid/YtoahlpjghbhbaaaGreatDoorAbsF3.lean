/- what functions of this program compute: contracts, each a function's own -/
import Derived.Test.YtoahlpjghbhbaaaGreatDoorAbsK3
import Derived.Test.YtoahlpjghbhbaaaGreatDoorAbsFacts
import Derived.Test.YtoahlpjghbhbaaaGreatDoorAbsF2
import Derived.Test.YtoahlpjghbhbaaaGreatDoorAbsShelf
import Derived.Lib.SplitLaws
import Derived.Lib.Overlaps
import Derived.Deep.AppendSrc
import Derived.Laws.NewBlocks
import Derived.WalkKit
import Derived.Lib.Walk
import Derived.Lib.AppendStr
import Derived.Lib.AppendZeros
import Derived.Lib.UnsafeStr
import Derived.Lib.Builder
import Derived.Laws.Externs
import Derived.Lib.Repeat
import Derived.Lib.ItoaLen
import Derived.Lib.SlTrimSet
import Derived.Lib.Atoi
import Derived.Lib.Itoa
import Derived.Lib.ItoaNum
import Derived.Lib.AtoiErrMem
import Derived.Lib.Replace
import Derived.Lib.ReplaceLaws
namespace Go.Abs
open Go Go.Proofs
set_option maxHeartbeats 4000000
set_option maxRecDepth 100000
set_option linter.unusedVariables false
set_option linter.unusedSimpArgs false
/-- blanks -/
def blB (c : UInt8) : Bool := decide (0 ≤ Lib.indexByte [9, 10, 13, 32] c)
/-- behind the blanks -/
def blS (s : List UInt8) (a : Nat) : Nat := a + runN blB (s.drop a)
theorem blS_le {s : List UInt8} {a : Nat} (h : a ≤ s.length) : a ≤ blS s a ∧ blS s a ≤ s.length := by
  have := runN_le blB (s.drop a)
  rw [List.length_drop] at this
  unfold blS; omega
/-- how many bytes of a word a text has at its beginning -/
def mtN : List UInt8 → List UInt8 → Nat
  | x :: t, y :: u => if x = y then mtN t u + 1 else 0
  | _, _ => 0
theorem mtN_le : ∀ (t u : List UInt8), mtN t u ≤ t.length ∧ mtN t u ≤ u.length
  | [], u => by simp [mtN]
  | x :: t, [] => by simp [mtN]
  | x :: t, y :: u => by
    have := mtN_le t u
    unfold mtN
    split
    · simp only [List.length_cons]; omega
    · simp
theorem mtN_at : ∀ {t u : List UInt8} {n : Nat}, n ≤ t.length → n ≤ u.length → (∀ j, j < n → u.getD j 0 = t.getD j 0) → (n < t.length → n < u.length → u.getD n 0 ≠ t.getD n 0) → mtN t u = n
  | [], u, n, h1, _, _, _ => by
    simp only [List.length_nil, Nat.le_zero] at h1
    subst h1; rfl
  | x :: t, [], n, _, h2, _, _ => by
    simp only [List.length_nil, Nat.le_zero] at h2
    subst h2; rfl
  | x :: t, y :: u, 0, _, _, _, h4 => by
    have := h4 (by simp) (by simp)
    unfold mtN
    rw [if_neg fun e => this (by simp [e])]
  | x :: t, y :: u, n + 1, h1, h2, h3, h4 => by
    have e := h3 0 (by omega)
    simp only [List.getD_cons_zero] at e
    unfold mtN
    rw [if_pos e.symm, mtN_at (n := n) (by simpa using h1) (by simpa using h2) (fun j hj => by have := h3 (j + 1) (by omega); simpa using this) (fun a b => by have := h4 (by simpa using a) (by simpa using b); simpa using this)]
/-- which of some words stands at a place, and the place then -/
def whG (s : List UInt8) (a : Nat) : List (List UInt8) → Nat → Nat → Int × Nat
  | [], _, m => (-1, a + m)
  | t :: r, i, m => if mtN t (s.drop a) = t.length then (i, a + t.length) else whG s a r (i + 1) (max m (mtN t (s.drop a)))
def whL (s : List UInt8) (a : Nat) (l : List (List UInt8)) : Int × Nat := whG s (blS s a) l 0 0
theorem whG_le {s : List UInt8} {a : Nat} (h : a ≤ s.length) : ∀ (l : List (List UInt8)) (i m : Nat), a + m ≤ s.length → a ≤ (whG s a l i m).2 ∧ (whG s a l i m).2 ≤ s.length ∧ (whG s a l i m).1 < i + l.length ∧ -1 ≤ (whG s a l i m).1
  | [], i, m, hm => ⟨by show a ≤ a + m; omega, hm, by show (-1 : Int) < _; simp only [List.length_nil]; omega, Int.le_refl _⟩
  | t :: r, i, m, hm => by
    have h1 := mtN_le t (s.drop a)
    rw [List.length_drop] at h1
    unfold whG
    split
    · rename_i e
      refine ⟨by show a ≤ a + _; omega, by show a + t.length ≤ _; omega, by show (i : Int) < _; simp only [List.length_cons]; omega, by show (-1 : Int) ≤ i; omega⟩
    · have := whG_le h r (i + 1) (max m (mtN t (s.drop a))) (by omega)
      simp only [List.length_cons]; omega
theorem whL_le {s : List UInt8} {a : Nat} (h : a ≤ s.length) (l : List (List UInt8)) : a ≤ (whL s a l).2 ∧ (whL s a l).2 ≤ s.length ∧ (whL s a l).1 < l.length ∧ -1 ≤ (whL s a l).1 := by
  have h1 := blS_le h
  have := whG_le h1.2 l 0 0 (by omega)
  unfold whL; omega
/-- what is to the next tag -/
def txN (s : List UInt8) (a : Nat) : Nat := if Lib.indexByte (s.drop a) 60 < 0 then s.length - a else (Lib.indexByte (s.drop a) 60).toNat
theorem txN_le {s : List UInt8} {a : Nat} (h : a ≤ s.length) : a + txN s a ≤ s.length := by
  unfold txN
  split
  · omega
  · rename_i h1
    obtain ⟨k, hk⟩ := Int.eq_ofNat_of_zero_le (show 0 ≤ Lib.indexByte (s.drop a) 60 by omega)
    have := (idx_at hk).1
    rw [List.length_drop] at this
    rw [hk, Int.toNat_natCast]; omega

def ckMBlK : List V → List Blk → Option (Prop × V × List Blk)
  | [.ptr _ 0], [.cells [.str s, .int .i64 a]] => some (s.length ≤ 4000000 ∧ 0 ≤ a ∧ a ≤ s.length, .tup [], [.cells [.str s, .int .i64 (blS s a.toNat : Nat)]])
  | _, _ => none
def ckMBl : Cf := ⟨fun | .ptr i _ :: _ => [i] | _ => [], ckMBlK⟩
theorem conMBl : FCon pg 16 ckMBl := by
  have hct := (ctA_ok conIndexByte (ctN_ok _))
  intro args bs q r bs' h hq
  replace h : ckMBlK args bs = some (q, r, bs') := h
  unfold ckMBlK at h
  split at h
  · cases h
    rename_i i s a
    refine ⟨rfl, by first | exact Nat.le_refl _ | exact Nat.zero_le _, ?_⟩
    obtain ⟨h1, h2, h3⟩ := hq
    obtain ⟨a, rfl⟩ : ∃ k : Nat, a = k := ⟨a.toNat, by omega⟩
    rw [Int.toNat_natCast]
    show FCall pg 16 [.ptr (i + 9000) 0] [(i + 9000, .cells [.str s, .int .i64 a])] (.tup []) [(i + 9000, .cells [.str s, .int .i64 (blS s a : Nat)])]
    refine fw16 (fun _ => false) [] rfl hct rfl (by simp) (by simp [hlIn, idsIn, Blk.menIn, V.menInL, V.menIn, V.flat, byF, lsF]) (by simp [V.menIn, V.menInL, idsIn]) ?_
    push_cast (config := { maxSteps := 10000000 })
    refine LoopW.adj ⟨hct, fol⟩ (by kernel_rfl) [] (fun n : Nat => [(0, .ptr (i + 9000) 0)]) (fun n => [(i + 9000, .cells [.str s, .int .i64 ((a + n : Nat) : Int)])]) (fun n => a + n ≤ s.length ∧ ∀ j, j < n → blB ((s.drop a).getD j 0) = true) (fun n => s.length - n) 0 ?_ fun n hn => ?_
    · push_cast (config := { maxSteps := 10000000 })
      exact ⟨by omega, by omega⟩
    · push_cast (config := { maxSteps := 10000000 })
      obtain ⟨n1, n2⟩ := hn
      have e1 : ((a : Int) + (n : Int)).toNat = a + n := by omega
      have e7 : (s.drop a).getD n 0 = s.getD (a + n) 0 := by rw [List.getD_eq_getElem?_getD, List.getD_eq_getElem?_getD, List.getElem?_drop]
      rw [e1]
      refine ⟨fun h => ⟨h, by omega, h⟩, fun h => ⟨⟨by omega, by omega⟩, n + 1, ⟨by omega, fun j hj => ?_⟩, by omega, by omega⟩, fun h => ?_⟩
      · by_cases e : j = n
        · subst e; rw [e7]; exact decide_eq_true h.2
        · exact n2 j (by omega)
      · have eN : runN blB (s.drop a) = n := by
          refine runN_at (by rw [List.length_drop]; omega) n2 fun hlt => ?_
          rw [List.length_drop] at hlt
          rw [e7]; exact decide_eq_false (h (by omega))
        unfold blS
        rw [eN]
        omega
  · cases h
attribute [push_cast] ckMBlK
@[push_cast] theorem mbl_ids (i o : Nat) (l : List V) : ckMBl.ids (.ptr i o :: l) = [i] := rfl
@[push_cast] theorem mbl_k (i : Nat) (s : List UInt8) (a : Int) : ckMBl.k [.ptr i 0] [.cells [.str s, .int .i64 a]] = some (s.length ≤ 4000000 ∧ 0 ≤ a ∧ a ≤ s.length, .tup [], [.cells [.str s, .int .i64 (blS s a.toNat : Nat)]]) := rfl
def ckWhK : List V → List Blk → Option (Prop × V × List Blk)
  | [.ptr _ 0, .sl n f], [.cells [.str s, .int .i64 a]] => some (isLs cStr n f ∧ n ≤ 1000 ∧ s.length ≤ 4000000 ∧ 0 ≤ a ∧ a ≤ s.length, .int .i64 (whL s a.toNat (lsOf cStr n f)).1, [.cells [.str s, .int .i64 ((whL s a.toNat (lsOf cStr n f)).2 : Nat)]])
  | _, _ => none
def ckWh : Cf := ⟨fun | .ptr i _ :: _ => [i] | _ => [], ckWhK⟩
theorem conWh : FCon pg 13 ckWh := by
  have hct := (ctF_ok conMBl (ctN_ok _))
  intro args bs q r bs' h hq
  replace h : ckWhK args bs = some (q, r, bs') := h
  unfold ckWhK at h
  split at h
  · cases h
    rename_i i n f s a
    refine ⟨rfl, by first | exact Nat.le_refl _ | exact Nat.zero_le _, ?_⟩
    obtain ⟨q0, q1, h1, h2, h3⟩ := hq
    obtain ⟨a, rfl⟩ : ∃ k : Nat, a = k := ⟨a.toNat, by omega⟩
    rw [Int.toNat_natCast]
    refine fcall_args (args' := [.ptr (i + 9000) 0, .sl (lsOf cStr n f).length (lsF cStr (lsOf cStr n f))]) ⟨VLe.refl _, isLs.vle q0, trivial⟩ ?_
    have hn : (lsOf cStr n f).length ≤ 1000 := by rw [lsOf_len]; exact q1
    generalize lsOf cStr n f = l at hn ⊢
    show FCall pg 13 [.ptr (i + 9000) 0, .sl l.length (lsF cStr l)] [(i + 9000, .cells [.str s, .int .i64 a])] (.int .i64 (whL s a l).1) [(i + 9000, .cells [.str s, .int .i64 ((whL s a l).2 : Nat)])]
    have hb := blS_le (s := s) (a := a) (by omega)
    refine fw13 (fun _ => false) [] rfl hct rfl (by simp) (by simp [hlIn, idsIn, Blk.menIn, V.menInL, V.menIn, V.flat, byF, lsF]) (by simp [V.menIn, V.menInL, idsIn]) ?_
    push_cast (config := { maxSteps := 10000000 })
    generalize hbs : blS s a = b at hb ⊢
    have ew : whL s a l = whG s b l 0 0 := by unfold whL; rw [hbs]
    rw [ew]
    refine ⟨⟨by omega, by omega⟩, ?_⟩
    refine LoopW.adj ⟨hct, fol⟩ (by kernel_rfl) [] (fun x : Nat × Nat => [(0, .ptr (i + 9000) 0), (5, .int .i64 x.2), (11, .sl l.length (lsF cStr l)), (12, .int .i64 l.length), (13, .int .i64 x.1)]) (fun _ => [(i + 9000, .cells [.str s, .int .i64 b])]) (fun x => x.1 ≤ l.length ∧ b + x.2 ≤ s.length ∧ whG s b (l.drop x.1) x.1 x.2 = whG s b l 0 0) (fun x => l.length - x.1) (0, 0) ?_ fun x hx => ?_
    · push_cast (config := { maxSteps := 10000000 })
      exact ⟨Nat.zero_le _, by omega⟩
    · obtain ⟨k, m⟩ := x
      obtain ⟨k1, k2, k3⟩ := hx
      push_cast (config := { maxSteps := 10000000 })
      refine ⟨fun h => ⟨h, ?_⟩, fun h => ?_⟩
      · have ed := dropG (d := ([] : List UInt8)) h
        generalize ht : l.getD k [] = t at ed
        have eW : whG s b (l.drop k) k m = if mtN t (s.drop b) = t.length then ((k : Int), b + t.length) else whG s b (l.drop (k + 1)) (k + 1) (max m (mtN t (s.drop b))) := by rw [ed]; rfl
        have k3 : whG s b (l.drop k) k m = whG s b l 0 0 := k3
        rw [eW] at k3
        refine LoopW.adj ⟨hct, fol⟩ (by kernel_rfl) [] (fun n : Nat => [(0, .ptr (i + 9000) 0), (5, .int .i64 m), (6, .int .i64 k), (7, .str t), (8, .int .i64 n), (11, .sl l.length (lsF cStr l)), (12, .int .i64 l.length), (13, .int .i64 k)]) (fun _ => [(i + 9000, .cells [.str s, .int .i64 b])]) (fun n => n ≤ t.length ∧ n ≤ (s.drop b).length ∧ ∀ j, j < n → (s.drop b).getD j 0 = t.getD j 0) (fun n => t.length - n) 0 ?_ fun n hn => ?_
        · push_cast (config := { maxSteps := 10000000 })
          exact ⟨Nat.zero_le _, Nat.zero_le _⟩
        · obtain ⟨n1, n2, n3⟩ := hn
          push_cast (config := { maxSteps := 10000000 })
          have k1 : k ≤ l.length := k1
          have k2 : b + m ≤ s.length := k2
          rw [List.length_drop] at n2
          have e1 : ((b : Int) + (n : Int)).toNat = b + n := by omega
          have e7 : (s.drop b).getD n 0 = s.getD (b + n) 0 := by rw [List.getD_eq_getElem?_getD, List.getD_eq_getElem?_getD, List.getElem?_drop]
          rw [e1]
          refine ⟨fun h => ⟨h, by omega, by omega⟩, fun h => ⟨h, by omega, by omega⟩, fun h => ⟨h, by omega, h.2⟩, fun h => ⟨h, h.1⟩, fun h => ⟨⟨by omega, by omega⟩, n + 1, ⟨by omega, by omega, fun j hj => ?_⟩, by omega, by omega⟩, fun h => ?_⟩
          · by_cases e : j = n
            · subst e; rw [e7]; exact UInt8.toNat_inj.1 h.2
            · exact n3 j (by omega)
          · have eN : mtN t (s.drop b) = n := mtN_at n1 (by rw [List.length_drop]; exact n2) n3 fun p1 p2 => by
              rw [List.length_drop] at p2
              rw [e7]
              exact fun e => h ⟨p1, by omega⟩ (congrArg UInt8.toNat e)
            rw [eN] at k3
            refine ⟨fun he => ?_, fun he => ?_⟩
            · rw [if_pos he] at k3
              rw [← k3]
              exact ⟨⟨by omega, by omega⟩, rfl, by show (b : Int) + n = ((b + t.length : Nat) : Int); omega⟩
            · rw [if_neg he] at k3
              refine ⟨⟨by omega, by omega⟩, (k + 1, max m n), ⟨by show k + 1 ≤ _; omega, by show b + max m n ≤ _; omega, k3⟩, by show l.length - (k + 1) < _; omega, by show max (m : Int) n = ((max m n : Nat) : Int); omega, by show (k : Int) + 1 = ((k + 1 : Nat) : Int); omega⟩
      · have k3 : whG s b (l.drop k) k m = whG s b l 0 0 := k3
        rw [List.drop_eq_nil_of_le (by omega)] at k3
        rw [← k3]
        exact ⟨⟨by omega, by omega⟩, rfl, by show (b : Int) + m = ((b + m : Nat) : Int); omega⟩
  · cases h
attribute [push_cast] ckWhK
@[push_cast] theorem wh_ids (i o : Nat) (l : List V) : ckWh.ids (.ptr i o :: l) = [i] := rfl
@[push_cast] theorem wh_k (i n : Nat) (f : Nat → V) (s : List UInt8) (a : Int) : ckWh.k [.ptr i 0, .sl n f] [.cells [.str s, .int .i64 a]] = some (isLs cStr n f ∧ n ≤ 1000 ∧ s.length ≤ 4000000 ∧ 0 ≤ a ∧ a ≤ s.length, .int .i64 (whL s a.toNat (lsOf cStr n f)).1, [.cells [.str s, .int .i64 ((whL s a.toNat (lsOf cStr n f)).2 : Nat)]]) := rfl
def ckTxK : List V → List Blk → Option (Prop × V × List Blk)
  | [.ptr _ 0], [.cells [.str s, .int .i64 a]] => some (s.length ≤ 4000000 ∧ 0 ≤ a ∧ a ≤ s.length, .str (cutS s a.toNat (txN s a.toNat)), [.cells [.str s, .int .i64 a]])
  | _, _ => none
def ckTx : Cf := ⟨fun | .ptr i _ :: _ => [i] | _ => [], ckTxK⟩
theorem conTx : FCon pg 62 ckTx := by
  have hct := (ctA_ok conIndexByte (ctN_ok _))
  intro args bs q r bs' h hq
  replace h : ckTxK args bs = some (q, r, bs') := h
  unfold ckTxK at h
  split at h
  · cases h
    rename_i i s a
    refine ⟨rfl, by first | exact Nat.le_refl _ | exact Nat.zero_le _, ?_⟩
    obtain ⟨h1, h2, h3⟩ := hq
    obtain ⟨a, rfl⟩ : ∃ k : Nat, a = k := ⟨a.toNat, by omega⟩
    rw [Int.toNat_natCast]
    show FCall pg 62 [.ptr (i + 9000) 0] [(i + 9000, .cells [.str s, .int .i64 a])] (.str (cutS s a (txN s a))) [(i + 9000, .cells [.str s, .int .i64 a])]
    refine fw62 (fun _ => false) [] rfl hct rfl (by simp) (by simp [hlIn, idsIn, Blk.menIn, V.menInL, V.menIn, V.flat, byF, lsF]) (by simp [V.menIn, V.menInL, idsIn]) ?_
    push_cast (config := { maxSteps := 10000000 })
    have h3 : a ≤ s.length := by omega
    have ht := txN_le h3
    unfold txN at ht
    refine ⟨h3, fun h => ?_, fun h => ?_⟩
    · have e : ((a : Int) + ((s.length : Int) - (a : Int))).toNat - a = s.length - a := by omega
      rw [if_pos h] at ht
      refine ⟨⟨by omega, by omega⟩, ⟨by omega, by omega⟩, ⟨⟨by omega, by omega⟩, h3, by omega⟩, ?_⟩
      unfold cutS txN
      rw [e, if_pos h]
    · rw [if_neg h] at ht
      have e : ((a : Int) + Lib.indexByte (s.drop a) 60).toNat - a = (Lib.indexByte (s.drop a) 60).toNat := by omega
      refine ⟨⟨by omega, by omega⟩, ⟨⟨by omega, by omega⟩, h3, by omega⟩, ?_⟩
      unfold cutS txN
      rw [e, if_neg h]
  · cases h
attribute [push_cast] ckTxK
@[push_cast] theorem tx_ids (i o : Nat) (l : List V) : ckTx.ids (.ptr i o :: l) = [i] := rfl
@[push_cast] theorem tx_k (i : Nat) (s : List UInt8) (a : Int) : ckTx.k [.ptr i 0] [.cells [.str s, .int .i64 a]] = some (s.length ≤ 4000000 ∧ 0 ≤ a ∧ a ≤ s.length, .str (cutS s a.toNat (txN s a.toNat)), [.cells [.str s, .int .i64 a]]) := rfl

theorem vle_fn' (f : Fn) (a b : List V) : vle (.fn f a b) (.fn f a b) := rfl
/- the closure: the text is in a block of the caller's -/
def ckLoc1K : List V → List Blk → Option (Prop × V × List Blk)
  | [.agg [.str a, .str b], .ptr i 0], [.cells [.str s]] => some (s.length ≤ 4000000, .bool (hasPre s a), [.cells [.str s]])
  | _, _ => none
def ckLoc1 : Cf := ⟨fun | [_, .ptr i _] => [i] | _ => [], ckLoc1K⟩
theorem conLoc1 : FCon pg 64 ckLoc1 := by
  have hct := (ctA_ok conHasPre (ctN_ok _))
  intro args bs q r bs' h hq
  replace h : ckLoc1K args bs = some (q, r, bs') := h
  unfold ckLoc1K at h
  split at h
  · cases h
    rename_i a b i s
    refine ⟨rfl, by first | exact Nat.le_refl _ | exact Nat.zero_le _, ?_⟩
    show FCall pg 64 [.agg [.str a, .str b], .ptr (i + 9000) 0] [(i + 9000, .cells [.str s])] (.bool (hasPre s a)) [(i + 9000, .cells [.str s])]
    refine fw64 (fun _ => false) [] rfl hct rfl (by simp) (by simp [hlIn, idsIn, Blk.menIn, V.menInL, V.menIn, V.flat, byF, lsF]) (by simp [V.menIn, V.menInL, idsIn]) ?_
    push_cast (config := { maxSteps := 10000000 })
    omega
  · cases h
attribute [push_cast] ckLoc1K
@[push_cast] theorem loc1_ids (x : V) (i o : Nat) : ckLoc1.ids [x, .ptr i o] = [i] := rfl
@[push_cast] theorem loc1_k {a b s : List UInt8} (i : Nat) : ckLoc1.k [.agg [.str a, .str b], .ptr i 0] [.cells [.str s]] = some (s.length ≤ 4000000, .bool (hasPre s a), [.cells [.str s]]) := rfl
def ckIdxHK : List V → List Blk → Option (Prop × V × List Blk)
  | [.sl n f, .fn (.func 64) [] [.ptr i 0]], [.cells [.str s]] => some (isLs cHd n f ∧ n ≤ 4611686018427387900 ∧ s.length ≤ 4000000, .int .i64 (fstH (lsOf cHd n f) s), [.cells [.str s]])
  | _, _ => none
def ckIdxH : Cf := ⟨fun | [_, .fn _ _ [.ptr i _]] => [i] | _ => [], ckIdxHK⟩
theorem conIdxH : FCon pg 63 ckIdxH := by
  have hct := (ctF_ok conLoc1 (ctN_ok _))
  intro args bs q r bs' h hq
  replace h : ckIdxHK args bs = some (q, r, bs') := h
  unfold ckIdxHK at h
  split at h
  · cases h
    rename_i n f i s
    refine ⟨rfl, by first | exact Nat.le_refl _ | exact Nat.zero_le _, ?_⟩
    obtain ⟨q1, q2, q3⟩ := hq
    refine fcall_args (args' := [.sl (lsOf cHd n f).length (lsF cHd (lsOf cHd n f)), .fn (.func 64) [] [.ptr (i + 9000) 0]]) ⟨isLs.vle q1, VLe.refl _, trivial⟩ ?_
    have hn : (lsOf cHd n f).length ≤ 4611686018427387900 := by rw [lsOf_len]; exact q2
    generalize lsOf cHd n f = l at hn ⊢
    show FCall pg 63 [.sl l.length (lsF cHd l), .fn (.func 64) [] [.ptr (i + 9000) 0]] [(i + 9000, .cells [.str s])] (.int .i64 (fstH l s)) [(i + 9000, .cells [.str s])]
    refine fw63 (fun _ => false) [] rfl hct rfl (by simp) (by simp [hlIn, idsIn, Blk.menIn, V.menInL, V.menIn, V.flat, byF, lsF]) (by simp [V.menIn, V.menInL, idsIn]) ?_
    push_cast (config := { maxSteps := 10000000 })
    refine LoopW.adj ⟨hct, fol⟩ (by kernel_rfl) [] (fun k : Nat => [(0, .sl l.length (lsF cHd l)), (1, .fn (.func 64) [] [.ptr (i + 9000) 0]), (7, .int .i64 l.length), (8, .int .i64 k)]) (fun _ => [(i + 9000, .cells [.str s])]) (fun k => k ≤ l.length ∧ ∀ j, j < k → hasPre s (l.getD j ⟨[], []⟩).name = false) (fun k => l.length - k) 0 ?_ fun k hk => ?_
    · push_cast (config := { maxSteps := 10000000 })
      exact ⟨Nat.zero_le _, vle_fn' _ _ _⟩
    · push_cast (config := { maxSteps := 10000000 })
      obtain ⟨h1, h2⟩ := hk
      refine ⟨fun h => ⟨h, q3, fun h3 => (fstH_at h h3 h2).symm, fun h3 => ⟨⟨by omega, by omega⟩, k + 1, ⟨by omega, fun j hj => ?_⟩, by omega, vle_fn' _ _ _, by omega⟩⟩, fun h => (fstH_no fun j hj => h2 j (by omega)).symm⟩
      by_cases e : j = k
      · subst e; exact h3
      · exact h2 j (by omega)
  · cases h
attribute [push_cast] ckIdxHK
@[push_cast] theorem idxH_ids (x : V) (f : Fn) (i o : Nat) : ckIdxH.ids [x, .fn f [] [.ptr i o]] = [i] := rfl
@[push_cast] theorem idxH_k {n : Nat} {f : Nat → V} {s : List UInt8} (i : Nat) : ckIdxH.k [.sl n f, .fn (.func 64) [] [.ptr i 0]] [.cells [.str s]] = some (isLs cHd n f ∧ n ≤ 4611686018427387900 ∧ s.length ≤ 4000000, .int .i64 (fstH (lsOf cHd n f) s), [.cells [.str s]]) := rfl
def ckReadLoc : Ck
  | [.str s] => some (s.length ≤ 4000000, .tup [.str ((rdL s).getD []), .bool (rdL s).isSome])
  | _ => none
theorem conReadLoc : Con pg 36 ckReadLoc := by
  have hct := (ctA_ok conSigns (ctF_ok conIdxH (ctF_ok conWS (ctF_ok conWB (ctF_ok conBS (ctA_ok conIndexByte (ctN_ok _)))))))
  intro args q r h hq
  unfold ckReadLoc at h
  split at h
  · cases h
    rename_i s
    refine w36 (fun d => decide (d = 30004)) [] rfl hct rfl rfl ?_
    push_cast (config := { maxSteps := 10000000 })
    refine ⟨of_eq_true infoBld, ?_⟩
    refine LoopW.adj ⟨hct, fol⟩ (by kernel_rfl) [.nvb 4 1 4004 5] (fun x : List UInt8 × List UInt8 × Bool => [(1, .ptr 1 0), (4, .ptr 4 0)]) (fun x => [(1, .cells [.str x.1]), (4, .tc 54 [bif x.2.2 then .ptr 4 0 else zB, .vec 4004 x.2.1.length]), (4004, .tb 5 x.2.1)]) (fun x => x.1.length + x.2.1.length ≤ s.length ∧ rdL s = (rdL x.1).map (x.2.1 ++ ·)) (fun x => x.1.length) (s, [], false) ?_ fun x hx => ?_
    · push_cast (config := { maxSteps := 10000000 })
      refine ⟨⟨by omega, ?_⟩, rfl⟩
      cases rdL s <;> rfl
    · obtain ⟨t, q, u⟩ := x
      obtain ⟨h1, h2⟩ := hx
      have h1 : t.length + q.length ≤ s.length := h1
      have h2 : rdL s = (rdL t).map (q ++ ·) := h2
      have hB : ∀ (u : Bool), vle1 (V.ptr 4 0) (bif true then V.ptr 4 0 else zB) := fun _ => rfl
      have e38 : ((t.getD 0 0).toNat : Int) = 38 ↔ t.getD 0 0 = 38 := by
        constructor
        · intro h; exact UInt8.toNat_inj.1 (show (t.getD 0 0).toNat = 38 by omega)
        · intro h; rw [h]; rfl
      have hlt := UInt8.toNat_lt (t.getD 0 0)
      have eI : fstH (lsOf cHd 5 (lsF cHd sgnL)) t = sgnI t := by unfold sgnI; rw [← lsOf_ls (c := cHd) sgnL]; rfl
      cases u
      all_goals
        push_cast (config := { maxSteps := 10000000 })
        simp only [eI]
        refine ⟨fun h => ?_, fun h => ?_⟩
        · have hp : 0 < t.length := List.length_pos_iff.2 h
          refine ⟨by omega, fun hb => ?_, fun hb => ⟨by omega, fun ha => ⟨⟨isLs_ls sgnL, by omega⟩, fun hi => ?_, fun hi => ?_⟩, fun ha => ⟨by omega, ⟨by omega, by omega⟩, by omega, (t.drop 1, q ++ [t.getD 0 0], true), ⟨?_, ?_⟩, ?_, rfl, ⟨rfl, by simp⟩, rfl⟩⟩⟩
          · rw [h2, rd_bad h hb]; exact ⟨rfl, rfl⟩
          · rw [h2, rd_no h (e38.1 ha) hi]; exact ⟨rfl, rfl⟩
          · have hi : 0 ≤ sgnI t := by omega
            obtain ⟨s1, s2, s3, s4, s5⟩ := sgn_ok hi
            have hv : sgnV t ≠ [] := fun e => by rw [e] at s4; cases s4
            refine ⟨⟨hi, by omega⟩, ⟨hi, by omega⟩, ⟨hv, ?_⟩, s3, (t.drop (sgnN t).length, q ++ sgnV t, true), ⟨?_, ?_⟩, ?_, rfl, ⟨rfl, ?_⟩, rfl⟩
            · show q.length + (sgnV t).length ≤ _
              omega
            · show (t.drop (sgnN t).length).length + (q ++ sgnV t).length ≤ s.length
              rw [List.length_drop, List.length_append]; omega
            · rw [h2, rd_sgn h hb (e38.1 ha) hi, Option.map_map]
              congr 1; funext y; simp
            · show (t.drop (sgnN t).length).length < t.length
              rw [List.length_drop]; omega
            · exact List.length_append.symm
          · show (t.drop 1).length + (q ++ [t.getD 0 0]).length ≤ s.length
            rw [List.length_drop, List.length_append, List.length_singleton]; omega
          · rw [h2, rd_byte h hb (fun e => ha (e38.2 e)), Option.map_map]
            congr 1; funext y; simp
          · show (t.drop 1).length < t.length
            rw [List.length_drop]; omega
        · subst h
          rw [h2, rd_nil]
          refine ⟨?_, ?_, rfl⟩
          · omega
          · simp
  · cases h
attribute [push_cast] ckReadLoc
@[push_cast] theorem kill_zB (d : Nat) : V.kill d zB = zB := rfl
@[push_cast] theorem vle1_zB : vle1 zB zB = True := eq_true rfl
def ckWritten : Ck
  | [.str s] => some (s.length ≤ 4000000, .str (escL s))
  | _ => none
theorem conWritten : Con pg 24 ckWritten := by
  have hct := (ctA_ok conSigns (ctF_ok conWS (ctF_ok conBS (ctN_ok _))))
  intro args q r h hq
  unfold ckWritten at h
  split at h
  · cases h
    rename_i s
    refine w24 (fun d => decide (d = 30003)) [] rfl hct rfl rfl ?_
    push_cast (config := { maxSteps := 10000000 })
    refine ⟨of_eq_true infoBld, ?_⟩
    refine LoopW.adj ⟨hct, fol⟩ (by kernel_rfl) [.nvb 3 1 4003 5] (fun x : Nat × Bool => [(0, .str s), (3, .ptr 3 0), (9, .int .i64 s.length), (10, .int .i64 x.1)]) (fun x => [(3, .tc 54 [bif x.2 then .ptr 3 0 else zB, .vec 4003 (escL (s.take x.1)).length]), (4003, .tb 5 (escL (s.take x.1)))]) (fun x => x.1 ≤ s.length) (fun x => s.length - x.1) (0, false) ?_ fun x hx => ?_
    · push_cast (config := { maxSteps := 10000000 })
      exact ⟨Nat.zero_le _, ⟨rfl, rfl⟩, rfl⟩
    · obtain ⟨i, u⟩ := x
      have hx : i ≤ s.length := hx
      have hl := escL_len (s.take i)
      rw [List.length_take] at hl
      have hl2 := escL_len (s.take (i + 1))
      rw [List.length_take] at hl2
      cases u
      · push_cast (config := { maxSteps := 10000000 })
        refine ⟨fun h => ⟨⟨by omega, by omega⟩, ⟨⟨by omega, by omega⟩, by omega, by omega⟩, ?_⟩, fun h => ?_⟩
        · have hb := escL_s s h
          have hlb := escB_len (s.getD i 0)
          generalize hc : s.getD i 0 = c at hb hlb
          have ec : (s.drop i).take 1 = [c] := by rw [← hc, dropG (d := 0) h]; rfl
          refine LoopW.adj ⟨hct, fol⟩ (by kernel_rfl) [] (fun j : Nat => [(0, .str s), (3, .ptr 3 0), (5, .str [c]), (9, .int .i64 s.length), (10, .int .i64 i), (18, .sl 5 (lsF cHd sgnL)), (19, .int .i64 5), (20, .int .i64 j)]) (fun j => [(3, .tc 54 [bif false then .ptr 3 0 else zB, .vec 4003 (escL (s.take i)).length]), (4003, .tb 5 (escL (s.take i)))]) (fun j => j ≤ 5 ∧ ∀ k, k < j → (sgnL.getD k ⟨[], []⟩).value ≠ [c]) (fun j => 5 - j) 0 ?_ fun j hj => ?_
          · push_cast (config := { maxSteps := 10000000 })
            exact ec
          · obtain ⟨j1, j2⟩ := hj
            push_cast (config := { maxSteps := 10000000 })
            refine ⟨fun h2 => ⟨h2, fun h3 => ?_, fun h3 => ⟨⟨by omega, by omega⟩, j + 1, ⟨by omega, fun k hk => ?_⟩, by omega, by omega⟩⟩, fun h2 => ?_⟩
            · have e := escB_at (show j < 5 by omega) h3 j2
              rw [e] at hb hlb
              have hlb2 := congrArg List.length hb
              rw [List.length_append] at hlb2
              refine ⟨⟨fun q => by rw [q] at hlb; exact absurd hlb.1 (by decide), by omega⟩, ⟨by omega, by omega⟩, (i + 1, true), (by show i + 1 ≤ _; omega), (by show s.length - (i + 1) < _; omega), (by show (i : Int) + 1 = ((i + 1 : Nat) : Int); omega), ⟨rfl, hlb2.symm⟩, hb.symm⟩
            · by_cases e : k = j
              · subst e; exact h3
              · exact j2 k (by omega)
            · have e := escB_no (c := c) fun k hk => j2 k (by omega)
              rw [e] at hb hlb
              have hlb2 := congrArg List.length hb
              rw [List.length_append] at hlb2
              refine ⟨by omega, ⟨by omega, by omega⟩, (i + 1, true), (by show i + 1 ≤ _; omega), (by show s.length - (i + 1) < _; omega), (by show (i : Int) + 1 = ((i + 1 : Nat) : Int); omega), ⟨rfl, hlb2.symm⟩, hb.symm⟩
        · rw [List.take_of_length_le (by omega)]
          rw [List.take_of_length_le (by omega)] at hl
          exact ⟨by omega, rfl⟩
      · push_cast (config := { maxSteps := 10000000 })
        refine ⟨fun h => ⟨⟨by omega, by omega⟩, ⟨⟨by omega, by omega⟩, by omega, by omega⟩, ?_⟩, fun h => ?_⟩
        · have hb := escL_s s h
          have hlb := escB_len (s.getD i 0)
          generalize hc : s.getD i 0 = c at hb hlb
          have ec : (s.drop i).take 1 = [c] := by rw [← hc, dropG (d := 0) h]; rfl
          refine LoopW.adj ⟨hct, fol⟩ (by kernel_rfl) [] (fun j : Nat => [(0, .str s), (3, .ptr 3 0), (5, .str [c]), (9, .int .i64 s.length), (10, .int .i64 i), (18, .sl 5 (lsF cHd sgnL)), (19, .int .i64 5), (20, .int .i64 j)]) (fun j => [(3, .tc 54 [bif true then .ptr 3 0 else zB, .vec 4003 (escL (s.take i)).length]), (4003, .tb 5 (escL (s.take i)))]) (fun j => j ≤ 5 ∧ ∀ k, k < j → (sgnL.getD k ⟨[], []⟩).value ≠ [c]) (fun j => 5 - j) 0 ?_ fun j hj => ?_
          · push_cast (config := { maxSteps := 10000000 })
            exact ec
          · obtain ⟨j1, j2⟩ := hj
            push_cast (config := { maxSteps := 10000000 })
            refine ⟨fun h2 => ⟨h2, fun h3 => ?_, fun h3 => ⟨⟨by omega, by omega⟩, j + 1, ⟨by omega, fun k hk => ?_⟩, by omega, by omega⟩⟩, fun h2 => ?_⟩
            · have e := escB_at (show j < 5 by omega) h3 j2
              rw [e] at hb hlb
              have hlb2 := congrArg List.length hb
              rw [List.length_append] at hlb2
              refine ⟨⟨fun q => by rw [q] at hlb; exact absurd hlb.1 (by decide), by omega⟩, ⟨by omega, by omega⟩, (i + 1, true), (by show i + 1 ≤ _; omega), (by show s.length - (i + 1) < _; omega), (by show (i : Int) + 1 = ((i + 1 : Nat) : Int); omega), ⟨rfl, hlb2.symm⟩, hb.symm⟩
            · by_cases e : k = j
              · subst e; exact h3
              · exact j2 k (by omega)
            · have e := escB_no (c := c) fun k hk => j2 k (by omega)
              rw [e] at hb hlb
              have hlb2 := congrArg List.length hb
              rw [List.length_append] at hlb2
              refine ⟨by omega, ⟨by omega, by omega⟩, (i + 1, true), (by show i + 1 ≤ _; omega), (by show s.length - (i + 1) < _; omega), (by show (i : Int) + 1 = ((i + 1 : Nat) : Int); omega), ⟨rfl, hlb2.symm⟩, hb.symm⟩
        · rw [List.take_of_length_le (by omega)]
          rw [List.take_of_length_le (by omega)] at hl
          exact ⟨by omega, rfl⟩
  · cases h
attribute [push_cast] ckWritten

/- rows of digits -/
def isDg (c : UInt8) : Bool := decide (48 ≤ c.toNat ∧ c.toNat ≤ 57)
def digs : List UInt8 := [48, 49, 50, 51, 52, 53, 54, 55, 56, 57]
theorem digs_has (c : UInt8) : digs.contains c = isDg c := by
  have key : ∀ n, n < 256 → digs.contains (UInt8.ofNat n) = isDg (UInt8.ofNat n) := by decide +kernel
  have := key c.toNat (UInt8.toNat_lt c)
  simpa using this
theorem dropW_nil {p : UInt8 → Bool} : ∀ {l : List UInt8}, l.dropWhile p = [] ↔ ∀ x ∈ l, p x = true
  | [] => by simp
  | a :: l => by
    rw [List.dropWhile_cons]
    cases h : p a with
    | true => simp only [if_true, dropW_nil, List.mem_cons, forall_eq_or_imp, h, true_and]
    | false => simp [h]
theorem dropW_head {p : UInt8 → Bool} : ∀ {l : List UInt8} {a : UInt8} {t : List UInt8}, l.dropWhile p = a :: t → p a = false
  | [], _, _, h => by simp at h
  | b :: l, a, t, h => by
    rw [List.dropWhile_cons] at h
    cases hb : p b with
    | true => rw [hb] at h; exact dropW_head h
    | false => rw [hb] at h; simp only [Bool.false_eq_true, if_false, List.cons.injEq] at h; rw [← h.1]; exact hb
theorem dropW_sub {p : UInt8 → Bool} : ∀ {l : List UInt8} {x : UInt8}, x ∈ l.dropWhile p → x ∈ l
  | [], _, h => by simp at h
  | b :: l, x, h => by
    rw [List.dropWhile_cons] at h
    split at h
    · exact List.mem_cons_of_mem _ (dropW_sub h)
    · exact h
theorem snoc_ind {α : Type} {P : List α → Prop} (h0 : P []) (h : ∀ s c, P s → P (s ++ [c])) (s : List α) : P s := by
  have : ∀ t : List α, P t.reverse := by
    intro t
    induction t with
    | nil => exact h0
    | cons a t ih => rw [List.reverse_cons]; exact h _ _ ih
  simpa using this s.reverse
theorem trimS_nil (s cs : List UInt8) : Lib.trimS s cs = [] ↔ s.all (cs.contains ·) = true := by
  unfold Lib.trimS Lib.trimLeftS Lib.trimRightS
  rw [dropW_nil, List.all_eq_true]
  constructor
  · intro h x hx
    have hr : s.reverse.dropWhile (fun x => cs.contains x) = [] := by
      cases hd : s.reverse.dropWhile (fun x => cs.contains x) with
      | nil => rfl
      | cons a t =>
        have h1 := dropW_head hd
        have h2 := h a (by rw [hd]; simp)
        rw [h1] at h2; cases h2
    rw [dropW_nil] at hr
    exact hr x (by simpa using hx)
  · intro h x hx
    exact h x (by have := dropW_sub (by simpa using hx); simpa using this)
theorem trim_dig (s : List UInt8) : Lib.trimS s digs = [] ↔ s.all isDg = true := by
  rw [trimS_nil]
  have : (fun x => digs.contains x) = isDg := funext digs_has
  rw [this]
def natOf (s : List UInt8) : Nat := s.foldl (fun a c => a * 10 + (c.toNat - 48)) 0
theorem natOf_snoc (s : List UInt8) (c : UInt8) : natOf (s ++ [c]) = natOf s * 10 + (c.toNat - 48) := by simp [natOf, List.foldl_append]
theorem decFrom_dig : ∀ (s : List UInt8) (a : Nat), s.all isDg = true → Lib.decFrom a s = some (s.foldl (fun a c => a * 10 + (c.toNat - 48)) a)
  | [], a, _ => rfl
  | c :: s, a, h => by
    simp only [List.all_cons, Bool.and_eq_true] at h
    have hc : 48 ≤ c.toNat ∧ c.toNat ≤ 57 := of_decide_eq_true h.1
    simp only [Lib.decFrom, Lib.digitVal, if_pos hc, List.foldl_cons]
    exact decFrom_dig s _ h.2
theorem atoi_dig {s : List UInt8} (h0 : s ≠ []) (h : s.all isDg = true) : Lib.atoi s = some (natOf s : Int) := by
  cases s with
  | nil => exact absurd rfl h0
  | cons c s =>
    have hc : 48 ≤ c.toNat ∧ c.toNat ≤ 57 := of_decide_eq_true (by simp only [List.all_cons, Bool.and_eq_true] at h; exact h.1)
    have h1 : (c == 45) = false := by
      simp only [beq_eq_false_iff_ne]; intro e; subst e; revert hc; decide
    have h2 : (c == 43) = false := by
      simp only [beq_eq_false_iff_ne]; intro e; subst e; revert hc; decide
    unfold Lib.atoi
    simp only [h1, h2, Bool.false_eq_true, if_false]
    unfold Lib.decNat
    simp only [List.isEmpty_cons, Bool.false_eq_true, if_false]
    rw [decFrom_dig _ _ h]
    rfl
theorem natOf_lt (s : List UInt8) : s.all isDg = true → natOf s < 10 ^ s.length := by
  refine snoc_ind (P := fun s => s.all isDg = true → natOf s < 10 ^ s.length) (fun _ => by simp [natOf]) (fun s c ih h => ?_) s
  simp only [List.all_append, List.all_cons, List.all_nil, Bool.and_true, Bool.and_eq_true] at h
  have hc : 48 ≤ c.toNat ∧ c.toNat ≤ 57 := of_decide_eq_true h.2
  have := ih h.1
  rw [natOf_snoc, List.length_append, List.length_singleton, Nat.pow_succ]
  omega
/-- digits, from 1 to n of them, without a needless 0 -/
def digL (s : List UInt8) (n : Int) : Bool := decide (1 ≤ s.length) && decide ((s.length : Int) ≤ n) && s.all isDg && (decide (s.getD 0 0 ≠ 48) || s == [48])
theorem itoa_nat (n : Nat) : Lib.itoa (n : Int) = Lib.decDigits n := by unfold Lib.itoa; rw [if_neg (by omega)]; simp
theorem dec_step {n : Nat} (h : 10 ≤ n) : Lib.decDigits n = Lib.decDigits (n / 10) ++ [UInt8.ofNat (48 + n % 10)] := by
  rw [Lib.decDigits, dif_neg (by omega)]
theorem dec_small {n : Nat} (h : n < 10) : Lib.decDigits n = [UInt8.ofNat (48 + n)] := by
  rw [Lib.decDigits, dif_pos h]
theorem natOf_pos {s : List UInt8} (h : s.all isDg = true) (h0 : 1 ≤ s.length) (h1 : s.getD 0 0 ≠ 48) : 1 ≤ natOf s := by
  revert h h0 h1
  refine snoc_ind (P := fun s => s.all isDg = true → 1 ≤ s.length → s.getD 0 0 ≠ 48 → 1 ≤ natOf s) (fun _ h => by simp at h) (fun s c ih h _ h1 => ?_) s
  simp only [List.all_append, List.all_cons, List.all_nil, Bool.and_true, Bool.and_eq_true] at h
  have hc : 48 ≤ c.toNat ∧ c.toNat ≤ 57 := of_decide_eq_true h.2
  rw [natOf_snoc]
  cases s with
  | nil =>
    simp only [List.nil_append, List.getD_cons_zero] at h1
    have : c.toNat ≠ 48 := fun e => h1 (UInt8.toNat_inj.1 e)
    omega
  | cons a s =>
    have := ih h.1 (by simp) (by simpa using h1)
    omega
/-- a number's digits are written as they were read -/
theorem dec_natOf {s : List UInt8} (h : s.all isDg = true) (h0 : 1 ≤ s.length) (h1 : s.getD 0 0 ≠ 48 ∨ s.length = 1) : Lib.decDigits (natOf s) = s := by
  revert h h0 h1
  refine snoc_ind (P := fun s => s.all isDg = true → 1 ≤ s.length → (s.getD 0 0 ≠ 48 ∨ s.length = 1) → Lib.decDigits (natOf s) = s) (fun _ h => by simp at h) (fun s c ih h _ h1 => ?_) s
  simp only [List.all_append, List.all_cons, List.all_nil, Bool.and_true, Bool.and_eq_true] at h
  have hc : 48 ≤ c.toNat ∧ c.toNat ≤ 57 := of_decide_eq_true h.2
  have hcc : UInt8.ofNat (48 + (c.toNat - 48)) = c := by rw [show 48 + (c.toNat - 48) = c.toNat by omega]; simp
  rw [natOf_snoc]
  cases s with
  | nil =>
    simp only [natOf, List.foldl_nil, Nat.zero_mul, Nat.zero_add, List.nil_append]
    rw [dec_small (by omega), hcc]
  | cons a s =>
    have h48 : (a :: s).getD 0 0 ≠ 48 := by
      rcases h1 with h1 | h1
      · simpa using h1
      · simp at h1
    have hp := natOf_pos h.1 (by simp) h48
    rw [dec_step (by omega), show (natOf (a :: s) * 10 + (c.toNat - 48)) / 10 = natOf (a :: s) by omega, show (natOf (a :: s) * 10 + (c.toNat - 48)) % 10 = c.toNat - 48 by omega, hcc, ih h.1 (by simp) (.inl h48)]
theorem dec_dig (n : Nat) : (Lib.decDigits n).all isDg = true ∧ natOf (Lib.decDigits n) = n ∧ 1 ≤ (Lib.decDigits n).length ∧ ((Lib.decDigits n).getD 0 0 ≠ 48 ∨ (Lib.decDigits n).length = 1) ∧ (10 ≤ n → (Lib.decDigits n).getD 0 0 ≠ 48) := by
  have one : ∀ m, m < 10 → isDg (UInt8.ofNat (48 + m)) = true ∧ (UInt8.ofNat (48 + m)).toNat = 48 + m := fun m hm => by
    have e : (UInt8.ofNat (48 + m)).toNat = 48 + m := by rw [UInt8.toNat_ofNat']; omega
    exact ⟨decide_eq_true (by omega), e⟩
  induction n using Nat.strongRecOn with
  | _ n ih =>
    by_cases h : n < 10
    · rw [dec_small h]
      obtain ⟨a, b⟩ := one n h
      refine ⟨by simp only [List.all_cons, a, List.all_nil, Bool.and_true], by simp only [natOf, List.foldl_cons, List.foldl_nil, b]; omega, by simp, .inr rfl, fun h => by omega⟩
    · rw [dec_step (by omega)]
      obtain ⟨a, b⟩ := one (n % 10) (by omega)
      obtain ⟨i1, i2, i3, i4, i5⟩ := ih (n / 10) (by omega)
      have hg : (Lib.decDigits (n / 10)).getD 0 0 ≠ 48 := by
        by_cases h10 : n / 10 < 10
        · rw [dec_small h10]
          simp only [List.getD_cons_zero]
          intro e
          have := congrArg UInt8.toNat e
          rw [(one (n / 10) h10).2] at this
          have : (48 : UInt8).toNat = 48 := rfl
          omega
        · exact i5 (by omega)
      have hg2 : (Lib.decDigits (n / 10) ++ [UInt8.ofNat (48 + n % 10)]).getD 0 0 ≠ 48 := by
        cases hd : Lib.decDigits (n / 10) with
        | nil => rw [hd] at i3; simp at i3
        | cons x t => rw [hd] at hg; simpa using hg
      refine ⟨by simp only [List.all_append, i1, List.all_cons, a, List.all_nil, Bool.and_true], by rw [natOf_snoc, i2, b]; omega, by simp, .inl hg2, fun _ => hg2⟩
theorem dec_len : ∀ (k n : Nat), n < 10 ^ (k + 1) → (Lib.decDigits n).length ≤ k + 1
  | 0, n, h => by rw [dec_small (by omega)]; simp
  | k + 1, n, h => by
    by_cases h1 : n < 10
    · rw [dec_small h1]; simp
    · rw [dec_step (by omega)]
      have := dec_len k (n / 10) (by rw [Nat.pow_succ] at h; omega)
      simp; omega

def ckAtoi : Ck
  | [.str s] => some (1 ≤ s.length ∧ s.length ≤ 18 ∧ s.all isDg = true, .tup [.int .i64 (natOf s), .any])
  | _ => none
theorem conAtoi : Con pg 68 ckAtoi := by
  intro args q r h hq
  unfold ckAtoi at h
  split at h
  · cases h
    rename_i s
    refine pcall_shelf (by kernel_rfl) rfl fun w hw => (Tryz.strconv_Atoi ⟨s.toArray⟩ (natOf s) (by show s.toArray.size ≤ _; have := hq.2.1; simp; omega) ?_ w).mono fun e w' h => ?_
    · exact atoi_dig (show s ≠ [] from fun e => by have := hq.1; rw [e] at this; simp at this) hq.2.2
    · obtain ⟨he, t, rfl⟩ := h
      exact ⟨_, he, grow_below (Lib.bytesWorld_below _ _ _), fun γ imm => .tup _ [_, _] rfl fun i hi => by
        match i, hi with
        | 0, _ => exact .pure (.int _ _)
        | 1, _ => exact .any _⟩
  · cases h
attribute [push_cast] ckAtoi

def dyP (s : List UInt8) : List (List UInt8) := [s.take 4, (s.drop 5).take 2, s.drop 8]
def dyY (s : List UInt8) : Int := natOf (s.take 4)
def dyM (s : List UInt8) : Int := natOf ((s.drop 5).take 2)
def dyD (s : List UInt8) : Int := natOf (s.drop 8)
/-- a date -/
def dyG (y m d : Int) : Bool := decide (1 ≤ y ∧ 1 ≤ m ∧ m ≤ 12 ∧ 1 ≤ d ∧ d ≤ monthLongI y m)
def dyI (y m d : Int) : Int := befI y + d + monthsSum y (m - 1).toNat
def dyF (s : List UInt8) : Bool := decide (s.length = 10) && decide (s.getD 4 0 = 45) && decide (s.getD 7 0 = 45) && (s.take 4).all isDg && ((s.drop 5).take 2).all isDg && (s.drop 8).all isDg
def dyB (s : List UInt8) : Bool := dyF s && dyG (dyY s) (dyM s) (dyD s)
def dyV (s : List UInt8) : Int := bif dyB s then dyI (dyY s) (dyM s) (dyD s) else 0
def ckReadDay : Ck
  | [.str s] => some (s.length ≤ 4000000, .tup [.int .i64 (dyV s), .bool (dyB s)])
  | _ => none
theorem conReadDay : Con pg 38 ckReadDay := by
  have hct := (ctA_ok conTrim (ctA_ok conAtoi (ctA_ok conMonthLong4 (ctA_ok conBef4 (ctN_ok _)))))
  intro args q r h hq
  unfold ckReadDay at h
  split at h
  · cases h
    rename_i s
    refine w38 (fun _ => false) [.frz 8000] rfl hct rfl rfl ?_
    push_cast (config := { maxSteps := 10000000 })
    have e4 : ((s.getD 4 0).toNat : Int) = 45 ↔ s.getD 4 0 = 45 := ⟨fun h => UInt8.toNat_inj.1 (show (s.getD 4 0).toNat = 45 by omega), fun h => by rw [h]; rfl⟩
    have e7 : ((s.getD 7 0).toNat : Int) = 45 ↔ s.getD 7 0 = 45 := ⟨fun h => UInt8.toNat_inj.1 (show (s.getD 7 0).toNat = 45 by omega), fun h => by rw [h]; rfl⟩
    have no : dyB s = false → (0 = dyV s ∧ false = dyB s) := fun h => by unfold dyV; rw [h]; exact ⟨rfl, rfl⟩
    refine ⟨fun h => ⟨h, by omega⟩, fun h => ⟨h, by omega⟩, fun h => no ?_, fun h => ⟨by omega, ⟨by omega, by omega⟩, by omega, ?_⟩⟩
    · unfold dyB dyF
      rcases h with (h | h) | h
      · rw [decide_eq_false (show ¬ s.length = 10 by omega)]; simp
      · rw [decide_eq_false (show ¬ s.getD 4 0 = 45 from fun e => h (e4.2 e))]; simp
      · rw [decide_eq_false (show ¬ s.getD 7 0 = 45 from fun e => h (e7.2 e))]; simp
    have hl : s.length = 10 := by omega
    have eB : dyB s = ((s.take 4).all isDg && ((s.drop 5).take 2).all isDg && (s.drop 8).all isDg && dyG (dyY s) (dyM s) (dyD s)) := by
      unfold dyB dyF
      rw [decide_eq_true hl, decide_eq_true (e4.1 h.1.2), decide_eq_true (e7.1 h.2)]; simp
    refine LoopW.adj ⟨hct, fol⟩ (by kernel_rfl) [.nv 4 8000 1 (lsF cInt [])] (fun k : Nat => [(4, .vec 8000 k), (30, .sl 3 (litF [.str (s.take 4), .str ((s.drop 5).take 2), .str (s.drop 8)])), (31, .int .i64 3), (32, .int .i64 k)]) (fun k => [(8000, .vec 1 k (lsF cInt (([dyY s, dyM s, dyD s]).take k)))]) (fun k => k ≤ 3 ∧ (0 < k → (s.take 4).all isDg = true) ∧ (1 < k → ((s.drop 5).take 2).all isDg = true) ∧ (2 < k → (s.drop 8).all isDg = true)) (fun k => 3 - k) 0 ?_ fun k hk => ?_
    · push_cast (config := { maxSteps := 10000000 })
      try done
    · obtain ⟨k1, k2, k3, k4⟩ := hk
      obtain rfl | rfl | rfl | rfl : k = 0 ∨ k = 1 ∨ k = 2 ∨ k = 3 := by omega
      · push_cast (config := { maxSteps := 10000000 })
        have t0 := trim_dig (s.take 4)
        refine ⟨by omega, fun h => no ?_, fun h => ⟨⟨by omega, by omega, t0.1 h⟩, 1, ⟨by omega, fun _ => t0.1 h, fun q => by omega, fun q => by omega⟩, by omega, ⟨rfl, rfl⟩, rfl, fun i hi => ?_⟩⟩
        · rw [eB, show (s.take 4).all isDg = false from Bool.eq_false_iff.2 fun q => h (t0.2 q)]; simp
        · obtain rfl : i = 0 := by omega
          rfl
      · push_cast (config := { maxSteps := 10000000 })
        have t0 := trim_dig ((s.drop 5).take 2)
        refine ⟨by omega, fun h => no ?_, fun h => ⟨⟨by omega, by omega, t0.1 h⟩, 2, ⟨by omega, fun _ => k2 (by omega), fun q => t0.1 h, fun q => by omega⟩, by omega, ⟨rfl, rfl⟩, rfl, fun i hi => ?_⟩⟩
        · rw [eB, show ((s.drop 5).take 2).all isDg = false from Bool.eq_false_iff.2 fun q => h (t0.2 q)]; simp
        · obtain rfl | rfl : i = 0 ∨ i = 1 := by omega
          · rfl
          · rfl
      · push_cast (config := { maxSteps := 10000000 })
        have t0 := trim_dig (s.drop 8)
        refine ⟨by omega, fun h => no ?_, fun h => ⟨⟨by omega, by omega, t0.1 h⟩, 3, ⟨by omega, fun _ => k2 (by omega), fun q => k3 (by omega), fun q => t0.1 h⟩, by omega, ⟨rfl, rfl⟩, rfl, fun i hi => ?_⟩⟩
        · rw [eB, show (s.drop 8).all isDg = false from Bool.eq_false_iff.2 fun q => h (t0.2 q)]; simp
        · obtain rfl | rfl | rfl : i = 0 ∨ i = 1 ∨ i = 2 := by omega
          · rfl
          · rfl
          · rfl
      · push_cast (config := { maxSteps := 10000000 })
        have eB2 : dyB s = dyG (dyY s) (dyM s) (dyD s) := by rw [eB, k2 (by omega), k3 (by omega), k4 (by omega)]; simp
        have y0 : 0 ≤ dyY s ∧ dyY s ≤ 1000000 := by
          have h1 := natOf_lt (s.take 4) (k2 (by omega))
          rw [List.length_take, hl] at h1
          unfold dyY
          have : (10 : Nat) ^ min 4 10 = 10000 := rfl
          omega
        have d0 : 0 ≤ dyD s ∧ dyD s ≤ 1000000 := by
          have h1 := natOf_lt (s.drop 8) (k4 (by omega))
          rw [List.length_drop, hl] at h1
          unfold dyD
          have : (10 : Nat) ^ (10 - 8) = 100 := rfl
          omega
        have mb := monthLongI_b (dyY s) (dyM s)
        generalize hY : dyY s = Y at *
        generalize hM : dyM s = M at *
        generalize hD : dyD s = D at *
        refine ⟨fun h => ⟨h, y0⟩, fun h => no ?_, fun h => ?_⟩
        · rw [eB2]
          unfold dyG
          exact decide_eq_false (by omega)
        have eT : dyB s = true := by
          rw [eB2]
          unfold dyG
          exact decide_eq_true (by omega)
        have eV : dyV s = dyI Y M D := by
          unfold dyV
          rw [eT, cond_true, hY, hM, hD]
        rw [eV, eT]
        have eb : 0 ≤ befI Y ∧ befI Y ≤ 400000000 := by unfold befI; omega
        refine ⟨⟨by omega, y0.2⟩, ⟨by omega, by omega⟩, ?_⟩
        refine LoopW.adj ⟨hct, fol⟩ (by kernel_rfl) [] (fun k : Nat => [(4, .vec 8000 3), (9, .int .i64 (befI Y + D + monthsSum Y k)), (10, .int .i64 (k + 1))]) (fun _ => [(8000, .vec 1 3 (lsF cInt [Y, M, D]))]) (fun k => (k : Int) + 1 ≤ M) (fun k => 12 - k) 0 ?_ fun k hk => ?_
        · push_cast (config := { maxSteps := 10000000 })
          exact ⟨by omega, by simp [monthsSum]⟩
        · have ms := monthsSum_b Y k
          have mb2 := monthLongI_b Y ((k : Int) + 1)
          push_cast (config := { maxSteps := 10000000 })
          refine ⟨fun h => ⟨y0, ⟨by omega, by omega⟩, ⟨by omega, by omega⟩, k + 1, by omega, by omega, by simp only [monthsSum]; omega, by omega⟩, fun h => ?_⟩
          unfold dyI
          rw [show (M - 1).toNat = k by omega]
  · cases h
attribute [push_cast] ckReadDay

/- an entry of a list of addresses; a list -/
structure Ent where
  loc : List UInt8
  day : Int
  wt : Int
deriving DecidableEq
def noEnt : Ent := ⟨[], 0, 0⟩
def decEnt : V → Ent
  | .agg [.str a, .int _ d, .int _ w] => ⟨a, d, w⟩
  | _ => noEnt
def cEnt : Cod Ent := ⟨fun e => .agg [.str e.loc, .int .i64 e.day, .int .i64 e.wt], decEnt, noEnt, fun _ => rfl⟩
@[push_cast] theorem lsF_ent (l : List Ent) (i : Nat) : lsF cEnt l i = .agg [.str (l.getD i noEnt).loc, .int .i64 (l.getD i noEnt).day, .int .i64 (l.getD i noEnt).wt] := rfl
@[push_cast] theorem enc_ent (e : Ent) : cEnt.enc e = .agg [.str e.loc, .int .i64 e.day, .int .i64 e.wt] := rfl
structure SMp where
  ix : Bool
  en : List Ent
deriving DecidableEq
def noSMp : SMp := ⟨false, []⟩
def decSMp : V → SMp
  | .agg [.bool b, .sl n f] => ⟨b, lsOf cEnt n f⟩
  | _ => noSMp
def cSMp : Cod SMp := ⟨fun m => .agg [.bool m.ix, .sl m.en.length (lsF cEnt m.en)], decSMp, noSMp, fun m => by cases m; simp only [decSMp, lsOf_ls]⟩
@[push_cast] theorem lsF_smp (l : List SMp) (i : Nat) : lsF cSMp l i = .agg [.bool (l.getD i noSMp).ix, .sl (l.getD i noSMp).en.length (lsF cEnt (l.getD i noSMp).en)] := rfl
@[push_cast] theorem enc_smp (m : SMp) : cSMp.enc m = .agg [.bool m.ix, .sl m.en.length (lsF cEnt m.en)] := rfl
@[push_cast] theorem dec_ent (a : List UInt8) (k k' : IntKind) (d w : Int) : cEnt.dec (.agg [.str a, .int k d, .int k' w]) = ⟨a, d, w⟩ := rfl
@[push_cast] theorem dec_smp (b : Bool) (n : Nat) (f : Nat → V) : cSMp.dec (.agg [.bool b, .sl n f]) = ⟨b, lsOf cEnt n f⟩ := rfl
@[push_cast] theorem vle_fn (f : Fn) (a b : List V) : vle (.fn f a b) (.fn f a b) = True := eq_true rfl

/- parts of a list -/
def cntP (n k : Nat) : Nat := (n + k - 1) / k
def partL (l : List Ent) (k j : Nat) : List Ent := (l.drop (j * k)).take k
def outF (l : List Ent) (k j : Nat) : V := .agg [.bool false, .sl (min k (l.length - j * k)) (shF (lsF cEnt l) (j * k))]
def dayL (l : List Ent) : Int := l.foldl (fun d e => max d e.day) 0
def idxE (l : List Ent) (base : List UInt8) (k j : Nat) : Ent := ⟨base ++ Lib.itoa ((j : Int) + 1) ++ [46, 120, 109, 108], dayL (partL l k j), -1⟩
def idxL (l : List Ent) (base : List UInt8) (k : Nat) : List Ent := (List.range (cntP l.length k)).map (idxE l base k)
def partsL (l : List Ent) (k : Nat) : List SMp := (List.range (cntP l.length k)).map fun j => ⟨false, partL l k j⟩
theorem partL_len (l : List Ent) (k j : Nat) : (partL l k j).length = min k (l.length - j * k) := by
  unfold partL; rw [List.length_take, List.length_drop]
theorem partL_at (l : List Ent) {k j i : Nat} (h : i < min k (l.length - j * k)) : (partL l k j).getD i noEnt = l.getD (i + j * k) noEnt := by
  unfold partL
  rw [List.getD_eq_getElem?_getD, List.getElem?_take_of_lt (by omega), List.getElem?_drop, List.getD_eq_getElem?_getD, Nat.add_comm]
theorem dayL_app (l : List Ent) (e : Ent) : dayL (l ++ [e]) = max (dayL l) e.day := by
  unfold dayL; rw [List.foldl_append]; rfl
theorem idxL_len (l : List Ent) (base : List UInt8) (k : Nat) : (idxL l base k).length = cntP l.length k := by simp [idxL]
theorem partsL_len (l : List Ent) (k : Nat) : (partsL l k).length = cntP l.length k := by simp [partsL]
theorem idxL_at (l : List Ent) (base : List UInt8) {k j : Nat} (h : j < cntP l.length k) : (idxL l base k).getD j noEnt = idxE l base k j := by
  simp [idxL, List.getD_eq_getElem?_getD, h]
theorem partsL_at (l : List Ent) {k j : Nat} (h : j < cntP l.length k) : (partsL l k).getD j noSMp = ⟨false, partL l k j⟩ := by
  simp [partsL, List.getD_eq_getElem?_getD, h]
theorem cntP_iff {n k j : Nat} (hk : 1 ≤ k) : j < cntP n k ↔ j * k < n := by
  unfold cntP
  rw [show (j < (n + k - 1) / k) = (j + 1 ≤ (n + k - 1) / k) from rfl, Nat.le_div_iff_mul_le (by omega), Nat.succ_mul]; omega
theorem cntP_le {n k : Nat} (hk : 1 ≤ k) : cntP n k ≤ n := by
  apply Nat.le_of_not_lt
  intro h
  have h1 := (cntP_iff (n := n) hk).1 h
  have := Nat.le_mul_of_pos_right n hk
  omega
/-- the parts are together the list -/
theorem parts_join (l : List Ent) {k : Nat} (hk : 1 ≤ k) : ∀ m, ((List.range m).map (partL l k)).flatten = l.take (m * k)
  | 0 => by simp
  | m + 1 => by
    rw [List.range_succ, List.map_append, List.flatten_append, parts_join l hk m]
    simp only [List.map_cons, List.map_nil, List.flatten_cons, List.flatten_nil, List.append_nil]
    rw [Nat.succ_mul]
    unfold partL
    rw [List.take_add]
theorem parts_all (l : List Ent) {k : Nat} (hk : 1 ≤ k) : ((List.range (cntP l.length k)).map (partL l k)).flatten = l := by
  rw [parts_join l hk]
  apply List.take_of_length_le
  apply Nat.le_of_not_lt
  intro h
  have := (cntP_iff (n := l.length) (j := cntP l.length k) hk).2 h
  omega

end Go.Abs
