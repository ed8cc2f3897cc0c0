/- what functions of this program compute: contracts, each a function's own -/
import Derived.Test.YtjehocmnedconaaGreatDoorAbsK3
import Derived.Test.YtjehocmnedconaaGreatDoorAbsFacts
import Derived.Test.YtjehocmnedconaaGreatDoorAbsF4
import Derived.Test.YtjehocmnedconaaGreatDoorAbsShelf
import Derived.Lib.SlTrimSet
import Derived.Lib.Atoi
import Derived.Lib.Itoa
import Derived.Lib.ItoaNum
import Derived.Lib.AtoiErrMem
import Derived.Lib.Repeat
import Derived.Lib.ItoaLen
import Derived.Lib.SplitLaws
import Derived.Lib.Join
import Derived.Lib.Index
import Derived.Lib.IndexBytes
import Derived.Lib.Fold
import Derived.Lib.Walk
import Derived.WalkKit
import Derived.ScopeJumps
import Derived.Deep.LoopGhost
import Derived.Laws.RangeAny
import Derived.Lib.BitFns
import Derived.Lib.TrailingZeros
import Derived.Sort.Walk0
namespace Go.Abs
open Go Go.Proofs
set_option maxHeartbeats 4000000
set_option maxRecDepth 100000
set_option linter.unusedVariables false
set_option linter.unusedSimpArgs false
def wholeB (B : List UInt8) (a : Nat) (w : List UInt8) : Bool := lnB B a && (lnS B a == w)
def wholeA (B : List UInt8) (a : Nat) (w : List UInt8) : Nat := if wholeB B a w = true then lnN B a else a
def lineOk (B : List UInt8) (a : Nat) (w : List UInt8) : Bool := lnB B a && hasPre (lnS B a) (w ++ [58, 32])
def lineV (B : List UInt8) (a : Nat) (w : List UInt8) : List UInt8 := (lnS B a).drop (w.length + 2)
def lnR (B : List UInt8) (a : Nat) (w : List UInt8) (acc : List UInt8 → Bool) : Bool := lineOk B a w && acc (lineV B a w)
def lnA (B : List UInt8) (a : Nat) (w : List UInt8) (acc : List UInt8 → Bool) : Nat := if lnR B a w acc = true then lnN B a else a
def lnF {α : Type} (B : List UInt8) (a : Nat) (w : List UInt8) (new : List UInt8 → α) (old : α) : α := if lineOk B a w = true then new (lineV B a w) else old
theorem lnS_le6 (B : List UInt8) (a : Nat) (h : a ≤ B.length) : (lnS B a).length ≤ B.length := by
  cases e : lnB B a with
  | true => have := ln_fit h e; omega
  | false =>
    unfold lnB at e
    unfold lnS
    cases hs : lineS (B.drop a) with
    | none => exact Nat.zero_le _
    | some s => rw [hs] at e; cases e
theorem whnilF (i : Nat) (w : List UInt8) (n : Nat) (f : Nat → V) (a ki ti ln : Int) (id ow ke dg : List UInt8) (hq : isBy n f ∧ n ≤ 1000000000 ∧ w.length ≤ 1000 ∧ 0 ≤ a ∧ a ≤ n) : FCall pg 182 [.ptr (i + 9000) 0, .str w] [(i + 9000, .cells [.sl n f, .int .i64 a, .int .i64 ki, .str id, .str ow, .int .i64 ti, .str ke, .nilsl, .nilsl, .int .i64 ln, .str dg])] (.bool (wholeB (bytesOf n f) a.toNat w)) [(i + 9000, .cells [.sl n f, .int .i64 (wholeA (bytesOf n f) a.toNat w), .int .i64 ki, .str id, .str ow, .int .i64 ti, .str ke, .nilsl, .nilsl, .int .i64 ln, .str dg])] := by
  have hct := (ctA_ok conLine (ctN_ok _))
  obtain ⟨h1, h2, h3, h4, h5⟩ := hq
  refine fw182 (fun _ => false) [] rfl hct rfl (by simp) (by simp [hlIn, idsIn, Blk.menIn, V.menInL, V.menIn, V.flat, byF, lsF]) (by simp [V.menIn, V.menInL, idsIn]) ?_
  push_cast (config := { maxSteps := 10000000 })
  refine ⟨⟨h1, by omega, by omega, by omega⟩, fun h => ?_, fun h => ?_⟩
  · have : wholeB (bytesOf n f) a.toNat w = false := by
      unfold wholeB
      rcases h with h | h
      · rw [h]; rfl
      · simp [h]
    unfold wholeA; rw [this]; exact ⟨rfl, by simp; omega⟩
  · have : wholeB (bytesOf n f) a.toNat w = true := by
      unfold wholeB
      rw [h.1, h.2]; simp
    unfold wholeA; rw [this]; exact ⟨rfl, rfl⟩
theorem whslF (i : Nat) (w : List UInt8) (n : Nat) (f : Nat → V) (a ki ti ln : Int) (id ow ke dg : List UInt8) (hn : Nat) (hf : Nat → V) (hq : isBy n f ∧ n ≤ 1000000000 ∧ w.length ≤ 1000 ∧ 0 ≤ a ∧ a ≤ n) : FCall pg 182 [.ptr (i + 9000) 0, .str w] [(i + 9000, .cells [.sl n f, .int .i64 a, .int .i64 ki, .str id, .str ow, .int .i64 ti, .str ke, .sl hn hf, .nilsl, .int .i64 ln, .str dg])] (.bool (wholeB (bytesOf n f) a.toNat w)) [(i + 9000, .cells [.sl n f, .int .i64 (wholeA (bytesOf n f) a.toNat w), .int .i64 ki, .str id, .str ow, .int .i64 ti, .str ke, .sl hn hf, .nilsl, .int .i64 ln, .str dg])] := by
  have hct := (ctA_ok conLine (ctN_ok _))
  obtain ⟨h1, h2, h3, h4, h5⟩ := hq
  refine fw182 (fun _ => false) [] rfl hct rfl (by simp) (by simp [hlIn, idsIn, Blk.menIn, V.menInL, V.menIn, V.flat, byF, lsF]) (by simp [V.menIn, V.menInL, idsIn]) ?_
  push_cast (config := { maxSteps := 10000000 })
  refine ⟨⟨h1, by omega, by omega, by omega⟩, fun h => ?_, fun h => ?_⟩
  · have : wholeB (bytesOf n f) a.toNat w = false := by
      unfold wholeB
      rcases h with h | h
      · rw [h]; rfl
      · simp [h]
    unfold wholeA; rw [this]; exact ⟨rfl, by simp; omega⟩
  · have : wholeB (bytesOf n f) a.toNat w = true := by
      unfold wholeB
      rw [h.1, h.2]; simp
    unfold wholeA; rw [this]; exact ⟨rfl, rfl⟩
def ckWholeK : List V → List Blk → Option (Prop × V × List Blk)
  | [.ptr _ 0, .str w], [.cells [.sl n f, .int .i64 a, .int .i64 ki, .str id, .str ow, .int .i64 ti, .str ke, .nilsl, .nilsl, .int .i64 ln, .str dg]] => some (isBy n f ∧ n ≤ 1000000000 ∧ w.length ≤ 1000 ∧ 0 ≤ a ∧ a ≤ n, .bool (wholeB (bytesOf n f) a.toNat w), [.cells [.sl n f, .int .i64 (wholeA (bytesOf n f) a.toNat w), .int .i64 ki, .str id, .str ow, .int .i64 ti, .str ke, .nilsl, .nilsl, .int .i64 ln, .str dg]])
  | [.ptr _ 0, .str w], [.cells [.sl n f, .int .i64 a, .int .i64 ki, .str id, .str ow, .int .i64 ti, .str ke, .sl hn hf, .nilsl, .int .i64 ln, .str dg]] => some (isBy n f ∧ n ≤ 1000000000 ∧ w.length ≤ 1000 ∧ 0 ≤ a ∧ a ≤ n, .bool (wholeB (bytesOf n f) a.toNat w), [.cells [.sl n f, .int .i64 (wholeA (bytesOf n f) a.toNat w), .int .i64 ki, .str id, .str ow, .int .i64 ti, .str ke, .sl hn hf, .nilsl, .int .i64 ln, .str dg]])
  | _, _ => none
def ckWhole : Cf := ⟨fun | [.ptr i _, _] => [i] | _ => [], ckWholeK⟩
theorem conWhole : FCon pg 182 ckWhole := by
  intro args bs q r bs' h hq
  replace h : ckWholeK args bs = some (q, r, bs') := h
  unfold ckWholeK at h
  split at h
  · cases h; exact ⟨rfl, Nat.le_refl _, whnilF _ _ _ _ _ _ _ _ _ _ _ _ hq⟩
  · cases h; exact ⟨rfl, Nat.le_refl _, whslF _ _ _ _ _ _ _ _ _ _ _ _ _ _ hq⟩
  · cases h
@[push_cast] theorem whole_ids (i o : Nat) (x : V) : ckWhole.ids [.ptr i o, x] = [i] := rfl
@[push_cast] theorem whnil_k (i : Nat) (w : List UInt8) (n : Nat) (f : Nat → V) (a ki ti ln : Int) (id ow ke dg : List UInt8) : ckWhole.k [.ptr i 0, .str w] [.cells [.sl n f, .int .i64 a, .int .i64 ki, .str id, .str ow, .int .i64 ti, .str ke, .nilsl, .nilsl, .int .i64 ln, .str dg]] = some (isBy n f ∧ n ≤ 1000000000 ∧ w.length ≤ 1000 ∧ 0 ≤ a ∧ a ≤ n, .bool (wholeB (bytesOf n f) a.toNat w), [.cells [.sl n f, .int .i64 (wholeA (bytesOf n f) a.toNat w), .int .i64 ki, .str id, .str ow, .int .i64 ti, .str ke, .nilsl, .nilsl, .int .i64 ln, .str dg]]) := rfl
@[push_cast] theorem whsl_k (i : Nat) (w : List UInt8) (n : Nat) (f : Nat → V) (a ki ti ln : Int) (id ow ke dg : List UInt8) (hn : Nat) (hf : Nat → V) : ckWhole.k [.ptr i 0, .str w] [.cells [.sl n f, .int .i64 a, .int .i64 ki, .str id, .str ow, .int .i64 ti, .str ke, .sl hn hf, .nilsl, .int .i64 ln, .str dg]] = some (isBy n f ∧ n ≤ 1000000000 ∧ w.length ≤ 1000 ∧ 0 ≤ a ∧ a ≤ n, .bool (wholeB (bytesOf n f) a.toNat w), [.cells [.sl n f, .int .i64 (wholeA (bytesOf n f) a.toNat w), .int .i64 ki, .str id, .str ow, .int .i64 ti, .str ke, .sl hn hf, .nilsl, .int .i64 ln, .str dg]]) := rfl
theorem lntxiF (w : List UInt8) (n : Nat) (f : Nat → V) (a ki ti ln : Int) (id ow ke dg : List UInt8) (hq : isBy n f ∧ n ≤ 1000000000 ∧ w.length ≤ 1000 ∧ 0 ≤ a ∧ a ≤ n) : FCall pg 183 [.ptr 18013 0, .str w, .fn (.func 181) [] [.ptr 9014 0]] [(18013, .cells [.sl n f, .int .i64 a, .int .i64 ki, .str id, .str ow, .int .i64 ti, .str ke, .nilsl, .nilsl, .int .i64 ln, .str dg]), (9014, .cells [.ptr 18013 3])] (.bool (lnR (bytesOf n f) a.toNat w (fun v => true))) [(18013, .cells [.sl n f, .int .i64 (lnA (bytesOf n f) a.toNat w (fun v => true)), .int .i64 ki, .str (lnF (bytesOf n f) a.toNat w (fun v => v) id), .str ow, .int .i64 ti, .str ke, .nilsl, .nilsl, .int .i64 ln, .str dg]), (9014, .cells [.ptr 18013 3])] := by
  have hct := (ctA_ok conLine (ctA_ok conCutPre (ctF_ok contxt (ctN_ok _))))
  obtain ⟨h1, h2, h3, h4, h5⟩ := hq
  have hl := lnS_le6 (bytesOf n f) a.toNat (by rw [bytesOf_len]; omega)
  rw [bytesOf_len] at hl
  refine fw183 (fun _ => false) [] rfl hct rfl (by simp) (by simp [hlIn, idsIn, Blk.menIn, V.menInL, V.menIn, V.flat, byF, lsF]) (by simp [V.menIn, V.menInL, idsIn]) ?_
  push_cast (config := { maxSteps := 10000000 })
  have hL : ((lnS (bytesOf n f) a.toNat).drop (w.length + 2)).length ≤ 1000000000 := by rw [List.length_drop]; omega
  have ea : (a.toNat : Int) = a := by omega
  refine ⟨⟨h1, by omega, by omega, by omega⟩, by omega, by omega, ?_⟩
  cases hx : lnB (bytesOf n f) a.toNat <;> cases hy : hasPre (lnS (bytesOf n f) a.toNat) (w ++ [58, 32]) <;> simp_all [lnR, lnA, lnF, lineOk, lineV]
theorem lntxkF (w : List UInt8) (n : Nat) (f : Nat → V) (a ki ti ln : Int) (id ow ke dg : List UInt8) (hq : isBy n f ∧ n ≤ 1000000000 ∧ w.length ≤ 1000 ∧ 0 ≤ a ∧ a ≤ n) : FCall pg 183 [.ptr 18013 0, .str w, .fn (.func 181) [] [.ptr 9041 0]] [(18013, .cells [.sl n f, .int .i64 a, .int .i64 ki, .str id, .str ow, .int .i64 ti, .str ke, .nilsl, .nilsl, .int .i64 ln, .str dg]), (9041, .cells [.ptr 18013 6])] (.bool (lnR (bytesOf n f) a.toNat w (fun v => true))) [(18013, .cells [.sl n f, .int .i64 (lnA (bytesOf n f) a.toNat w (fun v => true)), .int .i64 ki, .str id, .str ow, .int .i64 ti, .str (lnF (bytesOf n f) a.toNat w (fun v => v) ke), .nilsl, .nilsl, .int .i64 ln, .str dg]), (9041, .cells [.ptr 18013 6])] := by
  have hct := (ctA_ok conLine (ctA_ok conCutPre (ctF_ok contxt (ctN_ok _))))
  obtain ⟨h1, h2, h3, h4, h5⟩ := hq
  have hl := lnS_le6 (bytesOf n f) a.toNat (by rw [bytesOf_len]; omega)
  rw [bytesOf_len] at hl
  refine fw183 (fun _ => false) [] rfl hct rfl (by simp) (by simp [hlIn, idsIn, Blk.menIn, V.menInL, V.menIn, V.flat, byF, lsF]) (by simp [V.menIn, V.menInL, idsIn]) ?_
  push_cast (config := { maxSteps := 10000000 })
  have hL : ((lnS (bytesOf n f) a.toNat).drop (w.length + 2)).length ≤ 1000000000 := by rw [List.length_drop]; omega
  have ea : (a.toNat : Int) = a := by omega
  refine ⟨⟨h1, by omega, by omega, by omega⟩, by omega, by omega, ?_⟩
  cases hx : lnB (bytesOf n f) a.toNat <;> cases hy : hasPre (lnS (bytesOf n f) a.toNat) (w ++ [58, 32]) <;> simp_all [lnR, lnA, lnF, lineOk, lineV]
theorem lnofcF (w : List UInt8) (n : Nat) (f : Nat → V) (a ki ti ln : Int) (id ow ke dg : List UInt8) (hq : isBy n f ∧ n ≤ 1000000000 ∧ w.length ≤ 1000 ∧ 0 ≤ a ∧ a ≤ n) : FCall pg 183 [.ptr 18013 0, .str w, .fn (.func 185) [] [.ptr 9001 0]] [(18013, .cells [.sl n f, .int .i64 a, .int .i64 ki, .str id, .str ow, .int .i64 ti, .str ke, .nilsl, .nilsl, .int .i64 ln, .str dg]), (9001, .cells [.ptr 18013 0])] (.bool (lnR (bytesOf n f) a.toNat w (fun v => ofB v))) [(18013, .cells [.sl n f, .int .i64 (lnA (bytesOf n f) a.toNat w (fun v => ofB v)), .int .i64 ki, .str id, .str (lnF (bytesOf n f) a.toNat w (fun v => v) ow), .int .i64 ti, .str ke, .nilsl, .nilsl, .int .i64 ln, .str dg]), (9001, .cells [.ptr 18013 0])] := by
  have hct := (ctA_ok conLine (ctA_ok conCutPre (ctF_ok conofc (ctN_ok _))))
  obtain ⟨h1, h2, h3, h4, h5⟩ := hq
  have hl := lnS_le6 (bytesOf n f) a.toNat (by rw [bytesOf_len]; omega)
  rw [bytesOf_len] at hl
  refine fw183 (fun _ => false) [] rfl hct rfl (by simp) (by simp [hlIn, idsIn, Blk.menIn, V.menInL, V.menIn, V.flat, byF, lsF]) (by simp [V.menIn, V.menInL, idsIn]) ?_
  push_cast (config := { maxSteps := 10000000 })
  have hL : ((lnS (bytesOf n f) a.toNat).drop (w.length + 2)).length ≤ 1000000000 := by rw [List.length_drop]; omega
  have ea : (a.toNat : Int) = a := by omega
  refine ⟨⟨h1, by omega, by omega, by omega⟩, by omega, by omega, ?_⟩
  cases hx : lnB (bytesOf n f) a.toNat <;> cases hy : hasPre (lnS (bytesOf n f) a.toNat) (w ++ [58, 32]) <;> cases hz : ofB ((lnS (bytesOf n f) a.toNat).drop (w.length + 2)) <;> simp_all [lnR, lnA, lnF, lineOk, lineV]
theorem lnkicF (w : List UInt8) (n : Nat) (f : Nat → V) (a ki ti ln : Int) (id ow ke dg : List UInt8) (hq : isBy n f ∧ n ≤ 1000000000 ∧ w.length ≤ 1000 ∧ 0 ≤ a ∧ a ≤ n) : FCall pg 183 [.ptr 18013 0, .str w, .fn (.func 186) [] [.ptr 9001 0]] [(18013, .cells [.sl n f, .int .i64 a, .int .i64 ki, .str id, .str ow, .int .i64 ti, .str ke, .nilsl, .nilsl, .int .i64 ln, .str dg]), (9001, .cells [.ptr 18013 0])] (.bool (lnR (bytesOf n f) a.toNat w (fun v => kindB v))) [(18013, .cells [.sl n f, .int .i64 (lnA (bytesOf n f) a.toNat w (fun v => kindB v)), .int .i64 (lnF (bytesOf n f) a.toNat w kindI ki), .str id, .str ow, .int .i64 ti, .str ke, .nilsl, .nilsl, .int .i64 ln, .str dg]), (9001, .cells [.ptr 18013 0])] := by
  have hct := (ctA_ok conLine (ctA_ok conCutPre (ctF_ok conkic (ctN_ok _))))
  obtain ⟨h1, h2, h3, h4, h5⟩ := hq
  have hl := lnS_le6 (bytesOf n f) a.toNat (by rw [bytesOf_len]; omega)
  rw [bytesOf_len] at hl
  refine fw183 (fun _ => false) [] rfl hct rfl (by simp) (by simp [hlIn, idsIn, Blk.menIn, V.menInL, V.menIn, V.flat, byF, lsF]) (by simp [V.menIn, V.menInL, idsIn]) ?_
  push_cast (config := { maxSteps := 10000000 })
  have hL : ((lnS (bytesOf n f) a.toNat).drop (w.length + 2)).length ≤ 1000000000 := by rw [List.length_drop]; omega
  have ea : (a.toNat : Int) = a := by omega
  refine ⟨⟨h1, by omega, by omega, by omega⟩, by omega, by omega, ?_⟩
  cases hx : lnB (bytesOf n f) a.toNat <;> cases hy : hasPre (lnS (bytesOf n f) a.toNat) (w ++ [58, 32]) <;> cases hz : kindB ((lnS (bytesOf n f) a.toNat).drop (w.length + 2)) <;> simp_all [lnR, lnA, lnF, lineOk, lineV]
theorem lndacF (w : List UInt8) (n : Nat) (f : Nat → V) (a ki ti ln : Int) (id ow ke dg : List UInt8) (hq : isBy n f ∧ n ≤ 1000000000 ∧ w.length ≤ 1000 ∧ 0 ≤ a ∧ a ≤ n) : FCall pg 183 [.ptr 18013 0, .str w, .fn (.func 187) [] [.ptr 9001 0]] [(18013, .cells [.sl n f, .int .i64 a, .int .i64 ki, .str id, .str ow, .int .i64 ti, .str ke, .nilsl, .nilsl, .int .i64 ln, .str dg]), (9001, .cells [.ptr 18013 0])] (.bool (lnR (bytesOf n f) a.toNat w (fun v => rdB v))) [(18013, .cells [.sl n f, .int .i64 (lnA (bytesOf n f) a.toNat w (fun v => rdB v)), .int .i64 ki, .str id, .str ow, .int .i64 (lnF (bytesOf n f) a.toNat w rdV ti), .str ke, .nilsl, .nilsl, .int .i64 ln, .str dg]), (9001, .cells [.ptr 18013 0])] := by
  have hct := (ctA_ok conLine (ctA_ok conCutPre (ctF_ok condac (ctN_ok _))))
  obtain ⟨h1, h2, h3, h4, h5⟩ := hq
  have hl := lnS_le6 (bytesOf n f) a.toNat (by rw [bytesOf_len]; omega)
  rw [bytesOf_len] at hl
  refine fw183 (fun _ => false) [] rfl hct rfl (by simp) (by simp [hlIn, idsIn, Blk.menIn, V.menInL, V.menIn, V.flat, byF, lsF]) (by simp [V.menIn, V.menInL, idsIn]) ?_
  push_cast (config := { maxSteps := 10000000 })
  have hL : ((lnS (bytesOf n f) a.toNat).drop (w.length + 2)).length ≤ 1000000000 := by rw [List.length_drop]; omega
  have ea : (a.toNat : Int) = a := by omega
  refine ⟨⟨h1, by omega, by omega, by omega⟩, by omega, by omega, ?_⟩
  cases hx : lnB (bytesOf n f) a.toNat <;> cases hy : hasPre (lnS (bytesOf n f) a.toNat) (w ++ [58, 32]) <;> cases hz : rdB ((lnS (bytesOf n f) a.toNat).drop (w.length + 2)) <;> simp_all [lnR, lnA, lnF, lineOk, lineV]
theorem lnlecF (w : List UInt8) (n : Nat) (f : Nat → V) (a ki ti ln : Int) (id ow ke dg : List UInt8) (hn : Nat) (hf : Nat → V) (hq : isBy n f ∧ n ≤ 1000000000 ∧ w.length ≤ 1000 ∧ 0 ≤ a ∧ a ≤ n) : FCall pg 183 [.ptr 18013 0, .str w, .fn (.func 190) [] [.ptr 9001 0]] [(18013, .cells [.sl n f, .int .i64 a, .int .i64 ki, .str id, .str ow, .int .i64 ti, .str ke, .sl hn hf, .nilsl, .int .i64 ln, .str dg]), (9001, .cells [.ptr 18013 0])] (.bool (lnR (bytesOf n f) a.toNat w (fun v => digL v 9))) [(18013, .cells [.sl n f, .int .i64 (lnA (bytesOf n f) a.toNat w (fun v => digL v 9)), .int .i64 ki, .str id, .str ow, .int .i64 ti, .str ke, .sl hn hf, .nilsl, .int .i64 (lnF (bytesOf n f) a.toNat w (fun v => if digL v 9 = true then (natOf v : Int) else ln) ln), .str dg]), (9001, .cells [.ptr 18013 0])] := by
  have hct := (ctA_ok conLine (ctA_ok conCutPre (ctF_ok conlec (ctN_ok _))))
  obtain ⟨h1, h2, h3, h4, h5⟩ := hq
  have hl := lnS_le6 (bytesOf n f) a.toNat (by rw [bytesOf_len]; omega)
  rw [bytesOf_len] at hl
  refine fw183 (fun _ => false) [] rfl hct rfl (by simp) (by simp [hlIn, idsIn, Blk.menIn, V.menInL, V.menIn, V.flat, byF, lsF]) (by simp [V.menIn, V.menInL, idsIn]) ?_
  push_cast (config := { maxSteps := 10000000 })
  have hL : ((lnS (bytesOf n f) a.toNat).drop (w.length + 2)).length ≤ 1000000000 := by rw [List.length_drop]; omega
  have ea : (a.toNat : Int) = a := by omega
  refine ⟨⟨h1, by omega, by omega, by omega⟩, by omega, by omega, ?_⟩
  cases hx : lnB (bytesOf n f) a.toNat <;> cases hy : hasPre (lnS (bytesOf n f) a.toNat) (w ++ [58, 32]) <;> cases hz : digL ((lnS (bytesOf n f) a.toNat).drop (w.length + 2)) 9 <;> simp_all [lnR, lnA, lnF, lineOk, lineV]
theorem lndicF (w : List UInt8) (n : Nat) (f : Nat → V) (a ki ti ln : Int) (id ow ke dg : List UInt8) (hn : Nat) (hf : Nat → V) (hq : isBy n f ∧ n ≤ 1000000000 ∧ w.length ≤ 1000 ∧ 0 ≤ a ∧ a ≤ n) : FCall pg 183 [.ptr 18013 0, .str w, .fn (.func 191) [] [.ptr 9001 0]] [(18013, .cells [.sl n f, .int .i64 a, .int .i64 ki, .str id, .str ow, .int .i64 ti, .str ke, .sl hn hf, .nilsl, .int .i64 ln, .str dg]), (9001, .cells [.ptr 18013 0])] (.bool (lnR (bytesOf n f) a.toNat w (fun v => dgB v))) [(18013, .cells [.sl n f, .int .i64 (lnA (bytesOf n f) a.toNat w (fun v => dgB v)), .int .i64 ki, .str id, .str ow, .int .i64 ti, .str ke, .sl hn hf, .nilsl, .int .i64 ln, .str (lnF (bytesOf n f) a.toNat w (fun v => v) dg)]), (9001, .cells [.ptr 18013 0])] := by
  have hct := (ctA_ok conLine (ctA_ok conCutPre (ctF_ok condic (ctN_ok _))))
  obtain ⟨h1, h2, h3, h4, h5⟩ := hq
  have hl := lnS_le6 (bytesOf n f) a.toNat (by rw [bytesOf_len]; omega)
  rw [bytesOf_len] at hl
  refine fw183 (fun _ => false) [] rfl hct rfl (by simp) (by simp [hlIn, idsIn, Blk.menIn, V.menInL, V.menIn, V.flat, byF, lsF]) (by simp [V.menIn, V.menInL, idsIn]) ?_
  push_cast (config := { maxSteps := 10000000 })
  have hL : ((lnS (bytesOf n f) a.toNat).drop (w.length + 2)).length ≤ 1000000000 := by rw [List.length_drop]; omega
  have ea : (a.toNat : Int) = a := by omega
  refine ⟨⟨h1, by omega, by omega, by omega⟩, by omega, by omega, ?_⟩
  cases hx : lnB (bytesOf n f) a.toNat <;> cases hy : hasPre (lnS (bytesOf n f) a.toNat) (w ++ [58, 32]) <;> cases hz : dgB ((lnS (bytesOf n f) a.toNat).drop (w.length + 2)) <;> simp_all [lnR, lnA, lnF, lineOk, lineV]
def ckLineRK : List V → List Blk → Option (Prop × V × List Blk)
  | [.ptr 9013 0, .str w, .fn (.func 181) [] [.ptr 14 0]], [.cells [.sl n f, .int .i64 a, .int .i64 ki, .str id, .str ow, .int .i64 ti, .str ke, .nilsl, .nilsl, .int .i64 ln, .str dg], .cells [.ptr 9013 3]] => some (isBy n f ∧ n ≤ 1000000000 ∧ w.length ≤ 1000 ∧ 0 ≤ a ∧ a ≤ n, .bool (lnR (bytesOf n f) a.toNat w (fun v => true)), [.cells [.sl n f, .int .i64 (lnA (bytesOf n f) a.toNat w (fun v => true)), .int .i64 ki, .str (lnF (bytesOf n f) a.toNat w (fun v => v) id), .str ow, .int .i64 ti, .str ke, .nilsl, .nilsl, .int .i64 ln, .str dg], .cells [.ptr 9013 3]])
  | [.ptr 9013 0, .str w, .fn (.func 181) [] [.ptr 41 0]], [.cells [.sl n f, .int .i64 a, .int .i64 ki, .str id, .str ow, .int .i64 ti, .str ke, .nilsl, .nilsl, .int .i64 ln, .str dg], .cells [.ptr 9013 6]] => some (isBy n f ∧ n ≤ 1000000000 ∧ w.length ≤ 1000 ∧ 0 ≤ a ∧ a ≤ n, .bool (lnR (bytesOf n f) a.toNat w (fun v => true)), [.cells [.sl n f, .int .i64 (lnA (bytesOf n f) a.toNat w (fun v => true)), .int .i64 ki, .str id, .str ow, .int .i64 ti, .str (lnF (bytesOf n f) a.toNat w (fun v => v) ke), .nilsl, .nilsl, .int .i64 ln, .str dg], .cells [.ptr 9013 6]])
  | [.ptr 9013 0, .str w, .fn (.func 185) [] [.ptr 1 0]], [.cells [.sl n f, .int .i64 a, .int .i64 ki, .str id, .str ow, .int .i64 ti, .str ke, .nilsl, .nilsl, .int .i64 ln, .str dg], .cells [.ptr 9013 0]] => some (isBy n f ∧ n ≤ 1000000000 ∧ w.length ≤ 1000 ∧ 0 ≤ a ∧ a ≤ n, .bool (lnR (bytesOf n f) a.toNat w (fun v => ofB v)), [.cells [.sl n f, .int .i64 (lnA (bytesOf n f) a.toNat w (fun v => ofB v)), .int .i64 ki, .str id, .str (lnF (bytesOf n f) a.toNat w (fun v => v) ow), .int .i64 ti, .str ke, .nilsl, .nilsl, .int .i64 ln, .str dg], .cells [.ptr 9013 0]])
  | [.ptr 9013 0, .str w, .fn (.func 186) [] [.ptr 1 0]], [.cells [.sl n f, .int .i64 a, .int .i64 ki, .str id, .str ow, .int .i64 ti, .str ke, .nilsl, .nilsl, .int .i64 ln, .str dg], .cells [.ptr 9013 0]] => some (isBy n f ∧ n ≤ 1000000000 ∧ w.length ≤ 1000 ∧ 0 ≤ a ∧ a ≤ n, .bool (lnR (bytesOf n f) a.toNat w (fun v => kindB v)), [.cells [.sl n f, .int .i64 (lnA (bytesOf n f) a.toNat w (fun v => kindB v)), .int .i64 (lnF (bytesOf n f) a.toNat w kindI ki), .str id, .str ow, .int .i64 ti, .str ke, .nilsl, .nilsl, .int .i64 ln, .str dg], .cells [.ptr 9013 0]])
  | [.ptr 9013 0, .str w, .fn (.func 187) [] [.ptr 1 0]], [.cells [.sl n f, .int .i64 a, .int .i64 ki, .str id, .str ow, .int .i64 ti, .str ke, .nilsl, .nilsl, .int .i64 ln, .str dg], .cells [.ptr 9013 0]] => some (isBy n f ∧ n ≤ 1000000000 ∧ w.length ≤ 1000 ∧ 0 ≤ a ∧ a ≤ n, .bool (lnR (bytesOf n f) a.toNat w (fun v => rdB v)), [.cells [.sl n f, .int .i64 (lnA (bytesOf n f) a.toNat w (fun v => rdB v)), .int .i64 ki, .str id, .str ow, .int .i64 (lnF (bytesOf n f) a.toNat w rdV ti), .str ke, .nilsl, .nilsl, .int .i64 ln, .str dg], .cells [.ptr 9013 0]])
  | [.ptr 9013 0, .str w, .fn (.func 190) [] [.ptr 1 0]], [.cells [.sl n f, .int .i64 a, .int .i64 ki, .str id, .str ow, .int .i64 ti, .str ke, .sl hn hf, .nilsl, .int .i64 ln, .str dg], .cells [.ptr 9013 0]] => some (isBy n f ∧ n ≤ 1000000000 ∧ w.length ≤ 1000 ∧ 0 ≤ a ∧ a ≤ n, .bool (lnR (bytesOf n f) a.toNat w (fun v => digL v 9)), [.cells [.sl n f, .int .i64 (lnA (bytesOf n f) a.toNat w (fun v => digL v 9)), .int .i64 ki, .str id, .str ow, .int .i64 ti, .str ke, .sl hn hf, .nilsl, .int .i64 (lnF (bytesOf n f) a.toNat w (fun v => if digL v 9 = true then (natOf v : Int) else ln) ln), .str dg], .cells [.ptr 9013 0]])
  | [.ptr 9013 0, .str w, .fn (.func 191) [] [.ptr 1 0]], [.cells [.sl n f, .int .i64 a, .int .i64 ki, .str id, .str ow, .int .i64 ti, .str ke, .sl hn hf, .nilsl, .int .i64 ln, .str dg], .cells [.ptr 9013 0]] => some (isBy n f ∧ n ≤ 1000000000 ∧ w.length ≤ 1000 ∧ 0 ≤ a ∧ a ≤ n, .bool (lnR (bytesOf n f) a.toNat w (fun v => dgB v)), [.cells [.sl n f, .int .i64 (lnA (bytesOf n f) a.toNat w (fun v => dgB v)), .int .i64 ki, .str id, .str ow, .int .i64 ti, .str ke, .sl hn hf, .nilsl, .int .i64 ln, .str (lnF (bytesOf n f) a.toNat w (fun v => v) dg)], .cells [.ptr 9013 0]])
  | _, _ => none
def ckLineR : Cf := ⟨fun | [.ptr 9013 _, _, .fn _ _ [.ptr j _]] => [9013, j] | _ => [], ckLineRK⟩
theorem conLineR : FCon pg 183 ckLineR := by
  intro args bs q r bs' h hq
  replace h : ckLineRK args bs = some (q, r, bs') := h
  unfold ckLineRK at h
  split at h
  · cases h; exact ⟨rfl, Nat.le_refl _, lntxiF _ _ _ _ _ _ _ _ _ _ _ hq⟩
  · cases h; exact ⟨rfl, Nat.le_refl _, lntxkF _ _ _ _ _ _ _ _ _ _ _ hq⟩
  · cases h; exact ⟨rfl, Nat.le_refl _, lnofcF _ _ _ _ _ _ _ _ _ _ _ hq⟩
  · cases h; exact ⟨rfl, Nat.le_refl _, lnkicF _ _ _ _ _ _ _ _ _ _ _ hq⟩
  · cases h; exact ⟨rfl, Nat.le_refl _, lndacF _ _ _ _ _ _ _ _ _ _ _ hq⟩
  · cases h; exact ⟨rfl, Nat.le_refl _, lnlecF _ _ _ _ _ _ _ _ _ _ _ _ _ hq⟩
  · cases h; exact ⟨rfl, Nat.le_refl _, lndicF _ _ _ _ _ _ _ _ _ _ _ _ _ hq⟩
  · cases h
@[push_cast] theorem lineR_ids (o p j : Nat) (x : V) (f : Fn) : ckLineR.ids [.ptr 9013 o, x, .fn f [] [.ptr j p]] = [9013, j] := rfl
@[push_cast] theorem lntxi_k (w : List UInt8) (n : Nat) (f : Nat → V) (a ki ti ln : Int) (id ow ke dg : List UInt8) : ckLineR.k [.ptr 9013 0, .str w, .fn (.func 181) [] [.ptr 14 0]] [.cells [.sl n f, .int .i64 a, .int .i64 ki, .str id, .str ow, .int .i64 ti, .str ke, .nilsl, .nilsl, .int .i64 ln, .str dg], .cells [.ptr 9013 3]] = some (isBy n f ∧ n ≤ 1000000000 ∧ w.length ≤ 1000 ∧ 0 ≤ a ∧ a ≤ n, .bool (lnR (bytesOf n f) a.toNat w (fun v => true)), [.cells [.sl n f, .int .i64 (lnA (bytesOf n f) a.toNat w (fun v => true)), .int .i64 ki, .str (lnF (bytesOf n f) a.toNat w (fun v => v) id), .str ow, .int .i64 ti, .str ke, .nilsl, .nilsl, .int .i64 ln, .str dg], .cells [.ptr 9013 3]]) := rfl
@[push_cast] theorem lntxk_k (w : List UInt8) (n : Nat) (f : Nat → V) (a ki ti ln : Int) (id ow ke dg : List UInt8) : ckLineR.k [.ptr 9013 0, .str w, .fn (.func 181) [] [.ptr 41 0]] [.cells [.sl n f, .int .i64 a, .int .i64 ki, .str id, .str ow, .int .i64 ti, .str ke, .nilsl, .nilsl, .int .i64 ln, .str dg], .cells [.ptr 9013 6]] = some (isBy n f ∧ n ≤ 1000000000 ∧ w.length ≤ 1000 ∧ 0 ≤ a ∧ a ≤ n, .bool (lnR (bytesOf n f) a.toNat w (fun v => true)), [.cells [.sl n f, .int .i64 (lnA (bytesOf n f) a.toNat w (fun v => true)), .int .i64 ki, .str id, .str ow, .int .i64 ti, .str (lnF (bytesOf n f) a.toNat w (fun v => v) ke), .nilsl, .nilsl, .int .i64 ln, .str dg], .cells [.ptr 9013 6]]) := rfl
@[push_cast] theorem lnofc_k (w : List UInt8) (n : Nat) (f : Nat → V) (a ki ti ln : Int) (id ow ke dg : List UInt8) : ckLineR.k [.ptr 9013 0, .str w, .fn (.func 185) [] [.ptr 1 0]] [.cells [.sl n f, .int .i64 a, .int .i64 ki, .str id, .str ow, .int .i64 ti, .str ke, .nilsl, .nilsl, .int .i64 ln, .str dg], .cells [.ptr 9013 0]] = some (isBy n f ∧ n ≤ 1000000000 ∧ w.length ≤ 1000 ∧ 0 ≤ a ∧ a ≤ n, .bool (lnR (bytesOf n f) a.toNat w (fun v => ofB v)), [.cells [.sl n f, .int .i64 (lnA (bytesOf n f) a.toNat w (fun v => ofB v)), .int .i64 ki, .str id, .str (lnF (bytesOf n f) a.toNat w (fun v => v) ow), .int .i64 ti, .str ke, .nilsl, .nilsl, .int .i64 ln, .str dg], .cells [.ptr 9013 0]]) := rfl
@[push_cast] theorem lnkic_k (w : List UInt8) (n : Nat) (f : Nat → V) (a ki ti ln : Int) (id ow ke dg : List UInt8) : ckLineR.k [.ptr 9013 0, .str w, .fn (.func 186) [] [.ptr 1 0]] [.cells [.sl n f, .int .i64 a, .int .i64 ki, .str id, .str ow, .int .i64 ti, .str ke, .nilsl, .nilsl, .int .i64 ln, .str dg], .cells [.ptr 9013 0]] = some (isBy n f ∧ n ≤ 1000000000 ∧ w.length ≤ 1000 ∧ 0 ≤ a ∧ a ≤ n, .bool (lnR (bytesOf n f) a.toNat w (fun v => kindB v)), [.cells [.sl n f, .int .i64 (lnA (bytesOf n f) a.toNat w (fun v => kindB v)), .int .i64 (lnF (bytesOf n f) a.toNat w kindI ki), .str id, .str ow, .int .i64 ti, .str ke, .nilsl, .nilsl, .int .i64 ln, .str dg], .cells [.ptr 9013 0]]) := rfl
@[push_cast] theorem lndac_k (w : List UInt8) (n : Nat) (f : Nat → V) (a ki ti ln : Int) (id ow ke dg : List UInt8) : ckLineR.k [.ptr 9013 0, .str w, .fn (.func 187) [] [.ptr 1 0]] [.cells [.sl n f, .int .i64 a, .int .i64 ki, .str id, .str ow, .int .i64 ti, .str ke, .nilsl, .nilsl, .int .i64 ln, .str dg], .cells [.ptr 9013 0]] = some (isBy n f ∧ n ≤ 1000000000 ∧ w.length ≤ 1000 ∧ 0 ≤ a ∧ a ≤ n, .bool (lnR (bytesOf n f) a.toNat w (fun v => rdB v)), [.cells [.sl n f, .int .i64 (lnA (bytesOf n f) a.toNat w (fun v => rdB v)), .int .i64 ki, .str id, .str ow, .int .i64 (lnF (bytesOf n f) a.toNat w rdV ti), .str ke, .nilsl, .nilsl, .int .i64 ln, .str dg], .cells [.ptr 9013 0]]) := rfl
@[push_cast] theorem lnlec_k (w : List UInt8) (n : Nat) (f : Nat → V) (a ki ti ln : Int) (id ow ke dg : List UInt8) (hn : Nat) (hf : Nat → V) : ckLineR.k [.ptr 9013 0, .str w, .fn (.func 190) [] [.ptr 1 0]] [.cells [.sl n f, .int .i64 a, .int .i64 ki, .str id, .str ow, .int .i64 ti, .str ke, .sl hn hf, .nilsl, .int .i64 ln, .str dg], .cells [.ptr 9013 0]] = some (isBy n f ∧ n ≤ 1000000000 ∧ w.length ≤ 1000 ∧ 0 ≤ a ∧ a ≤ n, .bool (lnR (bytesOf n f) a.toNat w (fun v => digL v 9)), [.cells [.sl n f, .int .i64 (lnA (bytesOf n f) a.toNat w (fun v => digL v 9)), .int .i64 ki, .str id, .str ow, .int .i64 ti, .str ke, .sl hn hf, .nilsl, .int .i64 (lnF (bytesOf n f) a.toNat w (fun v => if digL v 9 = true then (natOf v : Int) else ln) ln), .str dg], .cells [.ptr 9013 0]]) := rfl
@[push_cast] theorem lndic_k (w : List UInt8) (n : Nat) (f : Nat → V) (a ki ti ln : Int) (id ow ke dg : List UInt8) (hn : Nat) (hf : Nat → V) : ckLineR.k [.ptr 9013 0, .str w, .fn (.func 191) [] [.ptr 1 0]] [.cells [.sl n f, .int .i64 a, .int .i64 ki, .str id, .str ow, .int .i64 ti, .str ke, .sl hn hf, .nilsl, .int .i64 ln, .str dg], .cells [.ptr 9013 0]] = some (isBy n f ∧ n ≤ 1000000000 ∧ w.length ≤ 1000 ∧ 0 ≤ a ∧ a ≤ n, .bool (lnR (bytesOf n f) a.toNat w (fun v => dgB v)), [.cells [.sl n f, .int .i64 (lnA (bytesOf n f) a.toNat w (fun v => dgB v)), .int .i64 ki, .str id, .str ow, .int .i64 ti, .str ke, .sl hn hf, .nilsl, .int .i64 ln, .str (lnF (bytesOf n f) a.toNat w (fun v => v) dg)], .cells [.ptr 9013 0]]) := rfl
def ckIsHK : List V → List Blk → Option (Prop × V × List Blk)
  | [.ptr 18013 0, .str w], [.cells [.sl n f, .int .i64 a, .int .i64 ki, .str id, .str ow, .int .i64 ti, .str ke, .vec 8000 m, .nilsl, .int .i64 ln, .str dg], .vec 2 k g] => some (isBy n f ∧ n ≤ 1000000000 ∧ w.length ≤ 1000 ∧ 0 ≤ a ∧ a ≤ n ∧ k = m ∧ isLs cHd k g, .bool (isL (bytesOf n f) a.toNat w), [.cells [.sl n f, .int .i64 a, .int .i64 ki, .str id, .str ow, .int .i64 ti, .str ke, .vec 8000 m, .nilsl, .int .i64 ln, .str dg], .vec 2 k (lsF cHd (lsOf cHd k g))])
  | _, _ => none
def ckIsH : Cf := ⟨fun | [.ptr 18013 _, _] => [18013, 8000] | _ => [], ckIsHK⟩
theorem conIsH : FCon pg 184 ckIsH := by
  have hct := (ctA_ok conHasPre (ctN_ok _))
  intro args bs q r bs' h hq
  replace h : ckIsHK args bs = some (q, r, bs') := h
  unfold ckIsHK at h
  split at h
  · cases h
    rename_i w n f a ki id ow ti ke m ln dg k g
    refine ⟨rfl, by first | exact Nat.le_refl _ | exact Nat.zero_le _, ?_⟩
    obtain ⟨h1, h2, h3, h4, h5, rfl, h6⟩ := hq
    show FCall pg 184 [.ptr 27013 0, .str w] [(27013, .cells [.sl n f, .int .i64 a, .int .i64 ki, .str id, .str ow, .int .i64 ti, .str ke, .vec 17000 k, .nilsl, .int .i64 ln, .str dg]), (17000, .vec 2 k fun i => V.shift (g i))] (.bool (isL (bytesOf n f) a.toNat w)) [(27013, .cells [.sl n f, .int .i64 a, .int .i64 ki, .str id, .str ow, .int .i64 ti, .str ke, .vec 17000 k, .nilsl, .int .i64 ln, .str dg]), (17000, .vec 2 k (lsF cHd (lsOf cHd k g)))]
    refine fcall_blk (hm := [(27013, .cells [.sl n f, .int .i64 a, .int .i64 ki, .str id, .str ow, .int .i64 ti, .str ke, .vec 17000 k, .nilsl, .int .i64 ln, .str dg]), (17000, .vec 2 k (lsF cHd (lsOf cHd k g)))]) ⟨rfl, by simp [BLe, vleR, vle1], rfl, ⟨rfl, rfl, fun j hj => by show V.shift (g j) = _; rw [h6.2 j hj]; rfl⟩, trivial⟩ ?_
    generalize lsOf cHd k g = L
    refine fw184 (fun _ => false) [] rfl hct rfl (by simp) ⟨by simp [idsIn], by simp [idsIn, Blk.menIn, V.menInL, V.menIn], by simp [idsIn], fun i hi => rfl, trivial⟩ (by simp [V.menIn, V.menInL, idsIn]) ?_
    push_cast (config := { maxSteps := 10000000 })
    obtain ⟨a, rfl⟩ : ∃ k : Nat, a = k := ⟨a.toNat, by omega⟩
    rw [Int.toNat_natCast]
    have hb := bytesOf_len n f
    have hk := ByI.sh h1 (l := a) (k := (min (n : Int) (a + w.length + 2)).toNat - a) (by omega)
    have e : ((bytesOf n f).drop a).take ((min (n : Int) (a + w.length + 2)).toNat - a) = ((bytesOf n f).drop a).take (w.length + 2) := by
      by_cases g : a + w.length + 2 ≤ n
      · rw [show (min (n : Int) (a + w.length + 2)).toNat - a = w.length + 2 by omega]
      · rw [List.take_of_length_le (by rw [List.length_drop]; omega), List.take_of_length_le (by rw [List.length_drop]; omega)]
    rw [e] at hk
    rw [hk.bytes, isL_pre]
    exact ⟨⟨by omega, by omega⟩, ⟨by omega, by omega⟩, ⟨⟨by omega, by omega⟩, ⟨by omega, by omega⟩, by omega, fun h => by rw [h1.2 0 h]; rfl⟩, hk.bytesP, by omega, by simp; omega, rfl⟩
  · cases h
attribute [push_cast] ckIsHK
@[push_cast] theorem isH_ids (o : Nat) (x : V) : ckIsH.ids [.ptr 18013 o, x] = [18013, 8000] := rfl
@[push_cast] theorem isH_k (w : List UInt8) (n : Nat) (f : Nat → V) (a ki ti ln : Int) (id ow ke dg : List UInt8) (m k : Nat) (g : Nat → V) : ckIsH.k [.ptr 18013 0, .str w] [.cells [.sl n f, .int .i64 a, .int .i64 ki, .str id, .str ow, .int .i64 ti, .str ke, .vec 8000 m, .nilsl, .int .i64 ln, .str dg], .vec 2 k g] = some (isBy n f ∧ n ≤ 1000000000 ∧ w.length ≤ 1000 ∧ 0 ≤ a ∧ a ≤ n ∧ k = m ∧ isLs cHd k g, .bool (isL (bytesOf n f) a.toNat w), [.cells [.sl n f, .int .i64 a, .int .i64 ki, .str id, .str ow, .int .i64 ti, .str ke, .vec 8000 m, .nilsl, .int .i64 ln, .str dg], .vec 2 k (lsF cHd (lsOf cHd k g))]) := rfl
def hdsR (B : List UInt8) : Nat → Nat → List Hd → Bool × Nat × List Hd
  | 0, i, l => (false, i, l)
  | k + 1, i, l => if isL B i [108, 101, 110, 103, 116, 104] = true then (true, i, l) else if (lnB B i && hdB (lnS B i)) = true then hdsR B k (lnN B i) (l ++ [hdV (lnS B i)]) else (false, i, l)
def ckHeadsRK : List V → List Blk → Option (Prop × V × List Blk)
  | [.ptr 9013 0], [.cells [.sl n f, .int .i64 a, .int .i64 ki, .str id, .str ow, .int .i64 ti, .str ke, .nilsl, .nilsl, .int .i64 ln, .str dg]] => some (isBy n f ∧ n ≤ 1000000000 ∧ 0 ≤ a ∧ a ≤ n, .bool (hdsR (bytesOf n f) (n + 1) a.toNat []).1, [.cells [.sl n f, .int .i64 (hdsR (bytesOf n f) (n + 1) a.toNat []).2.1, .int .i64 ki, .str id, .str ow, .int .i64 ti, .str ke, .sl (hdsR (bytesOf n f) (n + 1) a.toNat []).2.2.length (lsF cHd (hdsR (bytesOf n f) (n + 1) a.toNat []).2.2), .nilsl, .int .i64 ln, .str dg]])
  | _, _ => none
def ckHeadsR : Cf := ⟨fun | [.ptr i _] => [i] | _ => [], ckHeadsRK⟩
theorem conHeadsR : FCon pg 189 ckHeadsR := by
  have hct := (ctF_ok conIsH (ctA_ok conLine (ctA_ok conHeadOf (ctN_ok _))))
  intro args bs q r bs' h hq
  replace h : ckHeadsRK args bs = some (q, r, bs') := h
  unfold ckHeadsRK at h
  split at h
  · cases h
    rename_i n f a ki id ow ti ke ln dg
    refine ⟨rfl, by first | exact Nat.le_refl _ | exact Nat.zero_le _, ?_⟩
    obtain ⟨h1, h2, h3, h4⟩ := hq
    obtain ⟨a, rfl⟩ : ∃ k : Nat, a = k := ⟨a.toNat, by omega⟩
    rw [Int.toNat_natCast]
    have hb := bytesOf_len n f
    generalize hR : hdsR (bytesOf n f) (n + 1) a [] = R
    show FCall pg 189 [.ptr 18013 0] [(18013, .cells [.sl n f, .int .i64 (a : Nat), .int .i64 ki, .str id, .str ow, .int .i64 ti, .str ke, .nilsl, .nilsl, .int .i64 ln, .str dg])] (.bool R.1) [(18013, .cells [.sl n f, .int .i64 (R.2.1 : Nat), .int .i64 ki, .str id, .str ow, .int .i64 ti, .str ke, .sl R.2.2.length (lsF cHd R.2.2), .nilsl, .int .i64 ln, .str dg])]
    refine fw189 (fun _ => false) [.frz 8000] rfl hct rfl (by simp) (by simp [hlIn, idsIn, Blk.menIn, V.menInL, V.menIn, V.flat, byF, lsF]) (by simp [V.menIn, V.menInL, idsIn]) ?_
    push_cast (config := { maxSteps := 10000000 })
    refine LoopW.adj ⟨hct, fol⟩ (by kernel_rfl) [.nvc 18013 7 8000 2 (lsF cHd [])] (fun t : Nat × List Hd => [(0, .ptr 18013 0)]) (fun t => [(18013, .cells [.sl n f, .int .i64 t.1, .int .i64 ki, .str id, .str ow, .int .i64 ti, .str ke, .vec 8000 t.2.length, .nilsl, .int .i64 ln, .str dg]), (8000, .vec 2 t.2.length (lsF cHd t.2))]) (fun t => t.1 ≤ n ∧ t.2.length ≤ t.1 ∧ ∃ k, n < t.1 + k ∧ hdsR (bytesOf n f) k t.1 t.2 = R) (fun t => n - t.1) (a, []) ?_ fun t ht => ?_
    · push_cast (config := { maxSteps := 10000000 })
      exact ⟨by omega, Nat.zero_le _, n + 1, by omega, hR⟩
    · obtain ⟨i, o⟩ := t
      obtain ⟨i1, i2, k, i3, i4⟩ : i ≤ n ∧ o.length ≤ i ∧ ∃ k, n < i + k ∧ hdsR (bytesOf n f) k i o = R := ht
      obtain ⟨k, rfl⟩ : ∃ k', k = k' + 1 := ⟨k - 1, by omega⟩
      rw [hdsR] at i4
      push_cast (config := { maxSteps := 10000000 })
      refine ⟨⟨h1, h2, i1⟩, fun g => ⟨⟨h1, i1, by omega⟩, ?_, fun g2 => ?_, fun g2 => ?_⟩, fun g => ?_⟩
      · have := lnS_le6 (bytesOf n f) i (by omega)
        omega
      · rw [if_neg (by rw [g]; simp), if_neg (by rcases g2 with g2 | g2 <;> rw [g2] <;> simp)] at i4
        subst i4
        exact ⟨rfl, rfl, rfl, fun _ _ => rfl⟩
      · rw [if_neg (by rw [g]; simp), if_pos (by rw [g2.1, g2.2]; rfl)] at i4
        have hfit := ln_fit (b := bytesOf n f) (a := i) (by omega) g2.1
        have app := LsI.app (c := cHd) (f := lsF cHd o) (g := litF [cHd.enc (hdV (lnS (bytesOf n f) i))]) (LsI.ls o) (LsI.one (c := cHd) (a := hdV (lnS (bytesOf n f) i)) rfl) rfl
        exact ⟨⟨by omega, by omega⟩, ((lnN (bytesOf n f) i, o ++ [hdV (lnS (bytesOf n f) i)]) : Nat × List Hd), ⟨by show lnN _ i ≤ n; omega, by show (o ++ [_]).length ≤ lnN _ i; simp; omega, k, by show n < lnN _ i + k; omega, i4⟩, by show n - lnN _ i < n - i; omega, ⟨rfl, by simp⟩, by simp, app.2⟩
      · rw [if_pos g] at i4
        subst i4
        exact ⟨rfl, rfl, rfl, fun _ _ => rfl⟩
  · cases h
attribute [push_cast] ckHeadsRK
@[push_cast] theorem headsR_ids (i o : Nat) : ckHeadsR.ids [.ptr i o] = [i] := rfl
@[push_cast] theorem headsR_k (n : Nat) (f : Nat → V) (a ki ti ln : Int) (id ow ke dg : List UInt8) : ckHeadsR.k [.ptr 9013 0] [.cells [.sl n f, .int .i64 a, .int .i64 ki, .str id, .str ow, .int .i64 ti, .str ke, .nilsl, .nilsl, .int .i64 ln, .str dg]] = some (isBy n f ∧ n ≤ 1000000000 ∧ 0 ≤ a ∧ a ≤ n, .bool (hdsR (bytesOf n f) (n + 1) a.toNat []).1, [.cells [.sl n f, .int .i64 (hdsR (bytesOf n f) (n + 1) a.toNat []).2.1, .int .i64 ki, .str id, .str ow, .int .i64 ti, .str ke, .sl (hdsR (bytesOf n f) (n + 1) a.toNat []).2.2.length (lsF cHd (hdsR (bytesOf n f) (n + 1) a.toNat []).2.2), .nilsl, .int .i64 ln, .str dg]]) := rfl
structure Rp where
  pl : Nat
  ki : Int
  id : List UInt8
  ow : List UInt8
  ti : Int
  ke : List UInt8
  ln : Int
  dg : List UInt8
def wKept0 : List UInt8 := [75, 69, 80, 84, 47, 49]
def wId : List UInt8 := [105, 100]
def wOf : List UInt8 := [111, 102]
def wKind : List UInt8 := [107, 105, 110, 100]
def wDate : List UInt8 := [100, 97, 116, 101]
def wKey : List UInt8 := [107, 101, 121]
def wLng : List UInt8 := [108, 101, 110, 103, 116, 104]
def wDig : List UInt8 := [100, 105, 103, 101, 115, 116]
def linesD (B : List UInt8) (x : Rp) (h : List Hd) : Bool × Rp × List Hd :=
  if lnR B x.pl wLng (fun v => digL v 9) = false then (false, ⟨lnA B x.pl wLng (fun v => digL v 9), x.ki, x.id, x.ow, x.ti, x.ke, lnF B x.pl wLng (fun v => if digL v 9 = true then (natOf v : Int) else x.ln) x.ln, x.dg⟩, h) else
  if lnR B (lnA B x.pl wLng (fun v => digL v 9)) wDig dgB = false then (false, ⟨lnA B (lnA B x.pl wLng (fun v => digL v 9)) wDig dgB, x.ki, x.id, x.ow, x.ti, x.ke, lnF B x.pl wLng (fun v => if digL v 9 = true then (natOf v : Int) else x.ln) x.ln, lnF B (lnA B x.pl wLng (fun v => digL v 9)) wDig (fun v => v) x.dg⟩, h) else
  (wholeB B (lnA B (lnA B x.pl wLng (fun v => digL v 9)) wDig dgB) [], ⟨wholeA B (lnA B (lnA B x.pl wLng (fun v => digL v 9)) wDig dgB) [], x.ki, x.id, x.ow, x.ti, x.ke, lnF B x.pl wLng (fun v => if digL v 9 = true then (natOf v : Int) else x.ln) x.ln, lnF B (lnA B x.pl wLng (fun v => digL v 9)) wDig (fun v => v) x.dg⟩, h)
def linesC (B : List UInt8) (n : Nat) (x : Rp) : Bool × Rp × List Hd :=
  let x4 : Rp := ⟨lnA B x.pl wKind kindB, lnF B x.pl wKind kindI x.ki, x.id, x.ow, x.ti, x.ke, x.ln, x.dg⟩
  if lnR B x.pl wKind kindB = false then (false, x4, []) else
  let x5 : Rp := ⟨lnA B x4.pl wDate rdB, x4.ki, x.id, x.ow, lnF B x4.pl wDate rdV x.ti, x.ke, x.ln, x.dg⟩
  if lnR B x4.pl wDate rdB = false then (false, x5, []) else
  let x6 : Rp := ⟨lnA B x5.pl wKey (fun _ => true), x4.ki, x.id, x.ow, x5.ti, lnF B x5.pl wKey (fun v => v) x.ke, x.ln, x.dg⟩
  if lnR B x5.pl wKey (fun _ => true) = false then (false, x6, []) else
  let x7 : Rp := ⟨(hdsR B (n + 1) x6.pl []).2.1, x4.ki, x.id, x.ow, x5.ti, x6.ke, x.ln, x.dg⟩
  if (hdsR B (n + 1) x6.pl []).1 = false then (false, x7, (hdsR B (n + 1) x6.pl []).2.2) else linesD B x7 (hdsR B (n + 1) x6.pl []).2.2
def linesL (B : List UInt8) (n : Nat) (x : Rp) : Bool × Rp × List Hd :=
  let x1 : Rp := ⟨wholeA B x.pl wKept0, x.ki, x.id, x.ow, x.ti, x.ke, x.ln, x.dg⟩
  if wholeB B x.pl wKept0 = false then (false, x1, []) else
  let x2 : Rp := ⟨lnA B x1.pl wId (fun _ => true), x.ki, lnF B x1.pl wId (fun v => v) x.id, x.ow, x.ti, x.ke, x.ln, x.dg⟩
  if lnR B x1.pl wId (fun _ => true) = false then (false, x2, []) else
  if isL B x2.pl wOf = true then
    let x3 : Rp := ⟨lnA B x2.pl wOf ofB, x.ki, x2.id, lnF B x2.pl wOf (fun v => v) x.ow, x.ti, x.ke, x.ln, x.dg⟩
    if lnR B x2.pl wOf ofB = false then (false, x3, []) else linesC B n x3
  else linesC B n x2
@[push_cast] theorem ev_nf (e : Env) : ev e (.const .nilFunc) = .con .nilFunc := rfl
def ckTxt1 : List V → Option (Prop × V × Blk)
  | [.ptr 18013 o] => some (True, .fn (.func 181) [] [.ptr 8999 0], .cells [.ptr 18013 o])
  | _ => none
theorem conTxt1 : NCon pg 180 ckTxt1 := by
  have hct := ctN_ok pg
  intro args q r nb h hq
  unfold ckTxt1 at h
  split at h
  · cases h
    rename_i o
    refine nw180 (fun _ => false) [.ren 1 8999] rfl hct rfl rfl ?_ ?_
    · simp [noIdB, V.flat, V.noIdL, V.noId, V.hi, V.hiL, byF, lsF]
    push_cast (config := { maxSteps := 10000000 })
  · cases h
attribute [push_cast] ckTxt1
def ckLinesRK : List V → List Blk → Option (Prop × V × List Blk)
  | [.ptr 13 0], [.cells [.sl n f, .int .i64 a, .int .i64 ki, .str id, .str ow, .int .i64 ti, .str ke, .nilsl, .nilsl, .int .i64 ln, .str dg]] => some (isBy n f ∧ n ≤ 1000000000 ∧ 0 ≤ a ∧ a ≤ n, .bool (linesL (bytesOf n f) n ⟨a.toNat, ki, id, ow, ti, ke, ln, dg⟩).1, [.cells [.sl n f, .int .i64 (linesL (bytesOf n f) n ⟨a.toNat, ki, id, ow, ti, ke, ln, dg⟩).2.1.pl, .int .i64 (linesL (bytesOf n f) n ⟨a.toNat, ki, id, ow, ti, ke, ln, dg⟩).2.1.ki, .str (linesL (bytesOf n f) n ⟨a.toNat, ki, id, ow, ti, ke, ln, dg⟩).2.1.id, .str (linesL (bytesOf n f) n ⟨a.toNat, ki, id, ow, ti, ke, ln, dg⟩).2.1.ow, .int .i64 (linesL (bytesOf n f) n ⟨a.toNat, ki, id, ow, ti, ke, ln, dg⟩).2.1.ti, .str (linesL (bytesOf n f) n ⟨a.toNat, ki, id, ow, ti, ke, ln, dg⟩).2.1.ke, .sl (linesL (bytesOf n f) n ⟨a.toNat, ki, id, ow, ti, ke, ln, dg⟩).2.2.length (lsF cHd (linesL (bytesOf n f) n ⟨a.toNat, ki, id, ow, ti, ke, ln, dg⟩).2.2), .nilsl, .int .i64 (linesL (bytesOf n f) n ⟨a.toNat, ki, id, ow, ti, ke, ln, dg⟩).2.1.ln, .str (linesL (bytesOf n f) n ⟨a.toNat, ki, id, ow, ti, ke, ln, dg⟩).2.1.dg]])
  | _, _ => none
def ckLinesR : Cf := ⟨fun | [.ptr 13 _] => [13] | _ => [], ckLinesRK⟩
theorem conLinesR : FCon pg 141 ckLinesR := by
  have hct := (ctF_ok conWhole (ctF_ok conLineR (ctF_ok conIsR (ctF_ok conHeadsR (ctW_ok conTxt1 (ctN_ok _))))))
  intro args bs q r bs' h hq
  replace h : ckLinesRK args bs = some (q, r, bs') := h
  unfold ckLinesRK at h
  split at h
  · cases h
    rename_i n f a ki id ow ti ke ln dg
    refine ⟨rfl, by first | exact Nat.le_refl _ | exact Nat.zero_le _, ?_⟩
    obtain ⟨h1, h2, h3, h4⟩ := hq
    obtain ⟨a, rfl⟩ : ∃ k : Nat, a = k := ⟨a.toNat, by omega⟩
    rw [Int.toNat_natCast]
    show FCall pg 141 [.ptr 9013 0] [(9013, .cells [.sl n f, .int .i64 (a : Nat), .int .i64 ki, .str id, .str ow, .int .i64 ti, .str ke, .nilsl, .nilsl, .int .i64 ln, .str dg])] (.bool (linesL (bytesOf n f) n ⟨a, ki, id, ow, ti, ke, ln, dg⟩).1) [(9013, .cells [.sl n f, .int .i64 (linesL (bytesOf n f) n ⟨a, ki, id, ow, ti, ke, ln, dg⟩).2.1.pl, .int .i64 (linesL (bytesOf n f) n ⟨a, ki, id, ow, ti, ke, ln, dg⟩).2.1.ki, .str (linesL (bytesOf n f) n ⟨a, ki, id, ow, ti, ke, ln, dg⟩).2.1.id, .str (linesL (bytesOf n f) n ⟨a, ki, id, ow, ti, ke, ln, dg⟩).2.1.ow, .int .i64 (linesL (bytesOf n f) n ⟨a, ki, id, ow, ti, ke, ln, dg⟩).2.1.ti, .str (linesL (bytesOf n f) n ⟨a, ki, id, ow, ti, ke, ln, dg⟩).2.1.ke, .sl (linesL (bytesOf n f) n ⟨a, ki, id, ow, ti, ke, ln, dg⟩).2.2.length (lsF cHd (linesL (bytesOf n f) n ⟨a, ki, id, ow, ti, ke, ln, dg⟩).2.2), .nilsl, .int .i64 (linesL (bytesOf n f) n ⟨a, ki, id, ow, ti, ke, ln, dg⟩).2.1.ln, .str (linesL (bytesOf n f) n ⟨a, ki, id, ow, ti, ke, ln, dg⟩).2.1.dg])]
    have hb := bytesOf_len n f
    have lW : ∀ a w, a ≤ n → wholeA (bytesOf n f) a w ≤ n := fun a w h => by
      unfold wholeA wholeB
      split
      · rename_i g
        simp only [Bool.and_eq_true] at g
        have := (ln_fit (b := bytesOf n f) (a := a) (by omega) g.1).2.1; omega
      · exact h
    have lL : ∀ a w acc, a ≤ n → lnA (bytesOf n f) a w acc ≤ n := fun a w acc h => by
      unfold lnA lnR lineOk
      split
      · rename_i g
        simp only [Bool.and_eq_true] at g
        have := (ln_fit (b := bytesOf n f) (a := a) (by omega) g.1.1).2.1; omega
      · exact h
    have lH : ∀ k a l, a ≤ n → (hdsR (bytesOf n f) k a l).2.1 ≤ n := fun k => by
      induction k with
      | zero => intro a l h; exact h
      | succ k ih =>
        intro a l h
        rw [hdsR]
        split
        · exact h
        · split
          · rename_i g
            simp only [Bool.and_eq_true] at g
            exact ih _ _ (by have := (ln_fit (b := bytesOf n f) (a := a) (by omega) g.1).2.1; omega)
          · exact h
    generalize hR : (linesL (bytesOf n f) n ⟨a, ki, id, ow, ti, ke, ln, dg⟩) = R
    simp only [linesL, linesC, linesD, wKept0, wId, wOf, wKind, wDate, wKey, wLng, wDig] at hR
    have ha : a ≤ n := by omega
    refine fw141 (fun _ => false) [] rfl hct rfl (by simp) (by simp [hlIn, idsIn, Blk.menIn, V.menInL, V.menIn, V.flat, byF, lsF]) (by simp [V.menIn, V.menInL, idsIn]) ?_
    push_cast (config := { maxSteps := 10000000 })
    generalize bytesOf n f = B at hb lW lL lH hR ⊢
    have q1 := lW a [75, 69, 80, 84, 47, 49] ha
    generalize wholeA B a [75, 69, 80, 84, 47, 49] = a1 at q1 hR ⊢
    generalize wholeB B a [75, 69, 80, 84, 47, 49] = b1 at hR ⊢
    have q2 := lL a1 [105, 100] (fun _ => true) q1
    generalize lnA B a1 [105, 100] (fun _ => true) = a2 at q2 hR ⊢
    generalize lnR B a1 [105, 100] (fun _ => true) = b2 at hR ⊢
    generalize lnF B a1 [105, 100] (fun v => v) id = id2 at hR ⊢
    generalize isL B a2 [111, 102] = bo at hR ⊢
    cases b1
    · simp at hR; subst hR; simp [h1, h2, ha, q1]
    · cases b2
      · simp at hR; subst hR; simp [h1, h2, ha, q1, q2]
      · cases bo
        · simp at hR ⊢
          have q4 := lL a2 [107, 105, 110, 100] kindB q2
          generalize lnA B a2 [107, 105, 110, 100] kindB = a4 at q4 hR ⊢
          generalize lnR B a2 [107, 105, 110, 100] kindB = b4 at hR ⊢
          generalize lnF B a2 [107, 105, 110, 100] kindI ki = ki4 at hR ⊢
          cases b4
          · simp at hR; subst hR; simp [h1, h2, ha, q1, q2, q4]
          · simp at hR ⊢
            have q5 := lL a4 [100, 97, 116, 101] rdB q4
            generalize lnA B a4 [100, 97, 116, 101] rdB = a5 at q5 hR ⊢
            generalize lnR B a4 [100, 97, 116, 101] rdB = b5 at hR ⊢
            generalize lnF B a4 [100, 97, 116, 101] rdV ti = ti5 at hR ⊢
            cases b5
            · simp at hR; subst hR; simp [h1, h2, ha, q1, q2, q4, q5]
            · simp at hR ⊢
              have q6 := lL a5 [107, 101, 121] (fun _ => true) q5
              generalize lnA B a5 [107, 101, 121] (fun _ => true) = a6 at q6 hR ⊢
              generalize lnR B a5 [107, 101, 121] (fun _ => true) = b6 at hR ⊢
              generalize lnF B a5 [107, 101, 121] (fun v => v) ke = ke6 at hR ⊢
              cases b6
              · simp at hR; subst hR; simp [h1, h2, ha, q1, q2, q4, q5, q6]
              · simp at hR ⊢
                have q7 := lH (n + 1) a6 [] q6
                generalize hdsR B (n + 1) a6 [] = H at q7 hR ⊢
                obtain ⟨bh, a7, hs⟩ := H
                cases bh
                · simp at hR; subst hR; simp [h1, h2, ha, q1, q2, q4, q5, q6, q7]
                · simp at q7 hR ⊢
                  have q8 := lL a7 [108, 101, 110, 103, 116, 104] (fun v => digL v 9) q7
                  generalize lnA B a7 [108, 101, 110, 103, 116, 104] (fun v => digL v 9) = a8 at q8 hR ⊢
                  generalize lnR B a7 [108, 101, 110, 103, 116, 104] (fun v => digL v 9) = b8 at hR ⊢
                  generalize lnF B a7 [108, 101, 110, 103, 116, 104] (fun v => if digL v 9 = true then (natOf v : Int) else ln) ln = ln8 at hR ⊢
                  cases b8
                  · simp at hR; subst hR; simp [h1, h2, ha, q1, q2, q4, q5, q6, q7, q8]
                  · simp at hR ⊢
                    have q9 := lL a8 [100, 105, 103, 101, 115, 116] dgB q8
                    generalize lnA B a8 [100, 105, 103, 101, 115, 116] dgB = a9 at q9 hR ⊢
                    generalize lnR B a8 [100, 105, 103, 101, 115, 116] dgB = b9 at hR ⊢
                    generalize lnF B a8 [100, 105, 103, 101, 115, 116] (fun v => v) dg = dg9 at hR ⊢
                    cases b9
                    · simp at hR; subst hR; simp [h1, h2, ha, q1, q2, q4, q5, q6, q7, q8, q9]
                    · simp at hR ⊢
                      generalize wholeA B a9 [] = a10 at hR ⊢
                      generalize wholeB B a9 [] = b10 at hR ⊢
                      subst hR
                      simp [h1, h2, ha, q1, q2, q4, q5, q6, q7, q8, q9]
        · simp at hR ⊢
          have q3 := lL a2 [111, 102] ofB q2
          generalize lnA B a2 [111, 102] ofB = a3 at q3 hR ⊢
          generalize lnR B a2 [111, 102] ofB = b3 at hR ⊢
          generalize lnF B a2 [111, 102] (fun v => v) ow = ow3 at hR ⊢
          cases b3
          · simp at hR; subst hR; simp [h1, h2, ha, q1, q2, q3]
          · simp at hR ⊢
            have q4 := lL a3 [107, 105, 110, 100] kindB q3
            generalize lnA B a3 [107, 105, 110, 100] kindB = a4 at q4 hR ⊢
            generalize lnR B a3 [107, 105, 110, 100] kindB = b4 at hR ⊢
            generalize lnF B a3 [107, 105, 110, 100] kindI ki = ki4 at hR ⊢
            cases b4
            · simp at hR; subst hR; simp [h1, h2, ha, q1, q2, q3, q4]
            · simp at hR ⊢
              have q5 := lL a4 [100, 97, 116, 101] rdB q4
              generalize lnA B a4 [100, 97, 116, 101] rdB = a5 at q5 hR ⊢
              generalize lnR B a4 [100, 97, 116, 101] rdB = b5 at hR ⊢
              generalize lnF B a4 [100, 97, 116, 101] rdV ti = ti5 at hR ⊢
              cases b5
              · simp at hR; subst hR; simp [h1, h2, ha, q1, q2, q3, q4, q5]
              · simp at hR ⊢
                have q6 := lL a5 [107, 101, 121] (fun _ => true) q5
                generalize lnA B a5 [107, 101, 121] (fun _ => true) = a6 at q6 hR ⊢
                generalize lnR B a5 [107, 101, 121] (fun _ => true) = b6 at hR ⊢
                generalize lnF B a5 [107, 101, 121] (fun v => v) ke = ke6 at hR ⊢
                cases b6
                · simp at hR; subst hR; simp [h1, h2, ha, q1, q2, q3, q4, q5, q6]
                · simp at hR ⊢
                  have q7 := lH (n + 1) a6 [] q6
                  generalize hdsR B (n + 1) a6 [] = H at q7 hR ⊢
                  obtain ⟨bh, a7, hs⟩ := H
                  cases bh
                  · simp at hR; subst hR; simp [h1, h2, ha, q1, q2, q3, q4, q5, q6, q7]
                  · simp at q7 hR ⊢
                    have q8 := lL a7 [108, 101, 110, 103, 116, 104] (fun v => digL v 9) q7
                    generalize lnA B a7 [108, 101, 110, 103, 116, 104] (fun v => digL v 9) = a8 at q8 hR ⊢
                    generalize lnR B a7 [108, 101, 110, 103, 116, 104] (fun v => digL v 9) = b8 at hR ⊢
                    generalize lnF B a7 [108, 101, 110, 103, 116, 104] (fun v => if digL v 9 = true then (natOf v : Int) else ln) ln = ln8 at hR ⊢
                    cases b8
                    · simp at hR; subst hR; simp [h1, h2, ha, q1, q2, q3, q4, q5, q6, q7, q8]
                    · simp at hR ⊢
                      have q9 := lL a8 [100, 105, 103, 101, 115, 116] dgB q8
                      generalize lnA B a8 [100, 105, 103, 101, 115, 116] dgB = a9 at q9 hR ⊢
                      generalize lnR B a8 [100, 105, 103, 101, 115, 116] dgB = b9 at hR ⊢
                      generalize lnF B a8 [100, 105, 103, 101, 115, 116] (fun v => v) dg = dg9 at hR ⊢
                      cases b9
                      · simp at hR; subst hR; simp [h1, h2, ha, q1, q2, q3, q4, q5, q6, q7, q8, q9]
                      · simp at hR ⊢
                        generalize wholeA B a9 [] = a10 at hR ⊢
                        generalize wholeB B a9 [] = b10 at hR ⊢
                        subst hR
                        simp [h1, h2, ha, q1, q2, q3, q4, q5, q6, q7, q8, q9]
  · cases h
attribute [push_cast] ckLinesRK
abbrev clR (r : Rcd) : Prop := r.ow = r.id ∨ (r.ow = [] ∧ (r.ki = 4 ∨ r.ki = 5)) ∨ (r.ow ≠ [] ∧ r.ki = 1)
abbrev nmR (r : Rcd) : Prop := nameL r.id = true ∧ (r.ow = [] ∨ nameL r.ow = true)
section
variable {r : Rcd}
theorem cr4 (h : r.ki < 1 ∨ 5 < r.ki) : 4 = checkRecL r := by unfold checkRecL; rw [if_pos h]
theorem cr5 (a1 : ¬ (r.ki < 1 ∨ 5 < r.ki)) (h : ¬ nmR r) : 5 = checkRecL r := by unfold checkRecL; rw [if_neg a1, if_pos h]
theorem cr12 (a1 : ¬ (r.ki < 1 ∨ 5 < r.ki)) (a2 : nmR r) (h : clR r) : 12 = checkRecL r := by unfold checkRecL; rw [if_neg a1, if_neg (fun x => x a2), if_pos h]
theorem cr1 (a1 : ¬ (r.ki < 1 ∨ 5 < r.ki)) (a2 : nmR r) (a3 : ¬ clR r) (h : ¬ (0 ≤ r.ti ∧ r.ti ≤ 253402300799)) : 1 = checkRecL r := by unfold checkRecL; rw [if_neg a1, if_neg (fun x => x a2), if_neg a3, if_pos h]
theorem cr3 (a1 : ¬ (r.ki < 1 ∨ 5 < r.ki)) (a2 : nmR r) (a3 : ¬ clR r) (a4 : 0 ≤ r.ti ∧ r.ti ≤ 253402300799) (h : ¬ targetL r.ke = true) : 3 = checkRecL r := by unfold checkRecL; rw [if_neg a1, if_neg (fun x => x a2), if_neg a3, if_neg (fun x => x a4), if_pos h]
theorem cr2 (a1 : ¬ (r.ki < 1 ∨ 5 < r.ki)) (a2 : nmR r) (a3 : ¬ clR r) (a4 : 0 ≤ r.ti ∧ r.ti ≤ 253402300799) (a5 : targetL r.ke = true) (h : 30 < r.hd.length) : 2 = checkRecL r := by unfold checkRecL; rw [if_neg a1, if_neg (fun x => x a2), if_neg a3, if_neg (fun x => x a4), if_neg (fun x => x a5), if_pos h]
theorem crh (a1 : ¬ (r.ki < 1 ∨ 5 < r.ki)) (a2 : nmR r) (a3 : ¬ clR r) (a4 : 0 ≤ r.ti ∧ r.ti ≤ 253402300799) (a5 : targetL r.ke = true) (a6 : ¬ 30 < r.hd.length) (h : ¬ checkHeadsL r.hd = 0) : checkHeadsL r.hd = checkRecL r := by unfold checkRecL; rw [if_neg a1, if_neg (fun x => x a2), if_neg a3, if_neg (fun x => x a4), if_neg (fun x => x a5), if_neg a6, if_pos h]
theorem crR (a1 : ¬ (r.ki < 1 ∨ 5 < r.ki)) (a2 : nmR r) (a3 : ¬ clR r) (a4 : 0 ≤ r.ti ∧ r.ti ≤ 253402300799) (a5 : targetL r.ke = true) (a6 : ¬ 30 < r.hd.length) (a7 : checkHeadsL r.hd = 0) : checkRecL r = if ownL r.hd = true then 12 else if 200000 < r.bd.length then 2 else if 0 < r.bd.length ∧ r.ki = 4 then 3 else 0 := by unfold checkRecL; rw [if_neg a1, if_neg (fun x => x a2), if_neg a3, if_neg (fun x => x a4), if_neg (fun x => x a5), if_neg a6, if_neg (fun x => x a7)]
end
def ckCheckRec : Ck
  | [x] => some (isC cRec x ∧ recOk (cRec.dec x), .int .i64 (checkRecL (cRec.dec x)))
  | _ => none
theorem conCheckRec : Con pg 48 ckCheckRec := by
  have hct := (ctA_ok conIsName (ctA_ok conIsMoment (ctA_ok conIsKey (ctA_ok conCheckHeads (ctA_ok conOwn (ctA_ok conSmallA (ctA_ok conHasStr (ctN_ok _))))))))
  intro args q r h hq
  unfold ckCheckRec at h
  split at h
  · cases h
    rename_i x
    refine pcall_args (args' := [cRec.enc (cRec.dec x)]) ⟨hq.1, trivial⟩ ?_
    obtain ⟨-, ha⟩ := hq
    generalize cRec.dec x = r at ha ⊢
    refine w48 (fun _ => false) [] rfl hct rfl rfl ?_
    push_cast (config := { maxSteps := 10000000 })
    have q1 := ha.2.1
    have q2 := ha.2.2.1
    have q3 := ha.2.2.2.1
    refine ⟨fun h => cr4 h, fun g => ⟨by omega, fun h => ⟨h, by omega⟩, fun h => ⟨h, fun h' => ⟨h, h'⟩⟩, fun h => ?_, fun h => ?_⟩⟩
    · refine cr5 (by omega) fun x => ?_
      rcases h with h | h
      · rw [x.1] at h; cases h
      · rcases x.2 with y | y
        · exact h.1 y
        · rw [y] at h; cases h.2
    have a1 : ¬ (r.ki < 1 ∨ 5 < r.ki) := by omega
    have a2 : nmR r := ⟨h.1, by
      by_cases e : r.ow = []
      · exact .inl e
      · exact .inr (h.2 e)⟩
    refine ⟨fun e1 => ⟨fun _ => cr12 a1 a2 (.inl e1), fun x => absurd e1 x⟩, fun e1 => ⟨fun e => ⟨e, fun e' => ⟨e, e'⟩⟩, fun e2 => ⟨fun _ => cr12 a1 a2 (.inr (.inl e2)), fun x => by rcases e2.2 with y | y; exact absurd y (x e2.1).1; exact absurd y (x e2.1).2⟩, fun e2 => ⟨fun e3 => cr12 a1 a2 (.inr (.inr e3)), fun e3 => ?_⟩⟩⟩
    have a3 : ¬ clR r := fun x => by
      rcases x with x | x | x
      · exact e1 x
      · rcases x.2 with y | y
        · exact (e2 x.1).1 y
        · exact (e2 x.1).2 y
      · exact e3 x.1 x.2
    refine ⟨fun h => cr1 a1 a2 a3 (fun x => h x.1 x.2), fun a4 => ⟨by omega, fun h => cr3 a1 a2 a3 a4 (by rw [h]; simp), fun a5 => ⟨fun h => cr2 a1 a2 a3 a4 a5 (by omega), fun h6 => ⟨ha.1, fun h => crh a1 a2 a3 a4 a5 (by omega) h, fun a7 => ?_⟩⟩⟩⟩
    have hR := crR a1 a2 a3 a4 a5 (by omega) a7
    rw [hR]
    refine LoopW.adj ⟨hct, fol⟩ (by kernel_rfl) [] (fun i : Nat => [(1, .ptr 1 0), (80, .sl r.hd.length (lsF cHd r.hd)), (81, .int .i64 r.hd.length), (82, .int .i64 i)]) (fun _ => [(1, .cells [.int .i64 r.ki, .str r.id, .str r.ow, .int .i64 r.ti, .str r.ke, .sl r.hd.length (lsF cHd r.hd), .sl r.bd.length (byF r.bd)])]) (fun i => i ≤ r.hd.length ∧ ∀ j, j < i → ownW.contains (lowL (r.hd.getD j ⟨[], []⟩).name) = false) (fun i => r.hd.length - i) 0 ?_ fun i hi => ?_
    · push_cast (config := { maxSteps := 10000000 })
      exact Nat.zero_le _
    · push_cast (config := { maxSteps := 10000000 })
      obtain ⟨i1, i2⟩ := hi
      rw [show lsOf cStr 7 (lsF cStr ownW) = ownW from lsOf_ls ownW]
      refine ⟨fun h => ⟨h, (hdsOk_at ha.1 h).1, isLs_ls ownW, fun h5 => ?_, fun h5 => ⟨⟨by omega, by omega⟩, i + 1, ⟨by omega, fun j hj => ?_⟩, by omega, by omega⟩⟩, fun h => ?_⟩
      · have : ownL r.hd = true := by
          unfold ownL
          rw [List.any_eq_true]
          refine ⟨r.hd.getD i ⟨[], []⟩, ?_, h5⟩
          rw [List.getD_eq_getElem?_getD, List.getElem?_eq_getElem h]; exact List.getElem_mem h
        rw [if_pos this]
      · by_cases e : j = i
        · subst e; exact h5
        · exact i2 j (by omega)
      · have : ownL r.hd = false := by
          unfold ownL
          rw [List.any_eq_false]
          intro x hx
          obtain ⟨j, hj, rfl⟩ := List.getElem_of_mem hx
          have h5 := i2 j (by omega)
          rw [List.getD_eq_getElem?_getD, List.getElem?_eq_getElem hj] at h5
          simp only [Option.getD_some] at h5
          rw [h5]; simp
        rw [if_neg (by rw [this]; simp)]
        exact ⟨fun g => by rw [if_pos (by omega)], fun g => ⟨fun g2 => by rw [if_neg (by omega), if_pos ⟨by omega, g2.1⟩], fun g2 => by rw [if_neg (by omega), if_neg (fun x => g2 x.2 (by omega))]⟩⟩
  · cases h
attribute [push_cast] ckCheckRec
end Go.Abs
