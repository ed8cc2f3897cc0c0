/- what functions of this program compute: contracts, each a function's own -/
import Derived.Test.YtoahlpjghbhbaaaGreatDoorAbsK3
import Derived.Test.YtoahlpjghbhbaaaGreatDoorAbsFacts
import Derived.Test.YtoahlpjghbhbaaaGreatDoorAbsF4
import Derived.Test.YtoahlpjghbhbaaaGreatDoorAbsShelf
import Derived.Lib.SplitLaws
import Derived.Lib.Overlaps
import Derived.Deep.AppendSrc
import Derived.Laws.NewBlocks
import Derived.WalkKit
import Derived.Lib.Walk
import Derived.Lib.AppendStr
import Derived.Lib.AppendZeros
import Derived.Lib.UnsafeStr
import Derived.Lib.Builder
import Derived.Laws.Externs
import Derived.Lib.Repeat
import Derived.Lib.ItoaLen
import Derived.Lib.SlTrimSet
import Derived.Lib.Atoi
import Derived.Lib.Itoa
import Derived.Lib.ItoaNum
import Derived.Lib.AtoiErrMem
import Derived.Lib.Replace
import Derived.Lib.ReplaceLaws
namespace Go.Abs
open Go Go.Proofs
set_option maxHeartbeats 4000000
set_option maxRecDepth 100000
set_option linter.unusedVariables false
set_option linter.unusedSimpArgs false
theorem slice_drop {s : List UInt8} {a : Nat} (h : a ≤ s.length) : (s.drop a).take (s.length - a) = s.drop a := List.take_of_length_le (by rw [List.length_drop]; omega)
theorem pre1 (s : List UInt8) (a : Nat) (c : UInt8) : hasPre (s.drop a) [c] = isAt s a c.toNat := by
  rw [Bool.eq_iff_iff, isAt_iff]
  unfold hasPre
  rw [Bool.and_eq_true, decide_eq_true_eq, beq_iff_eq, List.length_drop, List.length_singleton]
  constructor
  · rintro ⟨h1, h2⟩
    rw [dropD s a (by omega)] at h2
    have := (List.cons.inj h2).1
    exact ⟨by omega, by rw [this]⟩
  · rintro ⟨h1, h2⟩
    refine ⟨by omega, ?_⟩
    rw [dropD s a h1]
    have : s.getD a 0 = c := UInt8.toNat_inj.1 h2
    rw [this]; rfl
def ckPlaceK : List V → List Blk → Option (Prop × V × List Blk)
  | [.ptr _ 0], [.cells [.str s, .int .i64 a, .str sc, .str _, .str [], .str pa, .str qu, .bool hq, .str fr, .bool hf]] => some (s.length ≤ 2000 ∧ 0 ≤ a ∧ a ≤ s.length, .bool (plcL s a.toNat).ok, [.cells [.str s, .int .i64 (plcL s a.toNat).at', .str sc, .str (plcL s a.toNat).ho, .str (plcL s a.toNat).po, .str pa, .str qu, .bool hq, .str fr, .bool hf]])
  | _, _ => none
def ckPlace : Cf := ⟨fun | [.ptr i _] => [i] | _ => [], ckPlaceK⟩
theorem conPlace : FCon pg 58 ckPlace := by
  have hct := (ctA_ok conHostEnd (ctA_ok conIsHost0 (ctA_ok conHasPre (ctA_ok conIsDig (ctA_ok conPortOf (ctA_ok conIndexByte (ctN_ok _)))))))
  intro args bs q r bs' h hq
  replace h : ckPlaceK args bs = some (q, r, bs') := h
  unfold ckPlaceK at h
  split at h
  · cases h
    rename_i i s a sc ho pa qu hq1 fr hf
    refine ⟨rfl, by first | exact Nat.le_refl _ | exact Nat.zero_le _, ?_⟩
    obtain ⟨h1, h2, h3⟩ := hq
    obtain ⟨a, rfl⟩ : ∃ k : Nat, a = k := ⟨a.toNat, by omega⟩
    rw [Int.toNat_natCast]
    show FCall pg 58 [.ptr (i + 9000) 0] [(i + 9000, .cells [.str s, .int .i64 a, .str sc, .str ho, .str [], .str pa, .str qu, .bool hq1, .str fr, .bool hf])] (.bool (plcL s a).ok) [(i + 9000, .cells [.str s, .int .i64 (plcL s a).at', .str sc, .str (plcL s a).ho, .str (plcL s a).po, .str pa, .str qu, .bool hq1, .str fr, .bool hf])]
    refine fw58 (fun _ => false) [] rfl hct rfl (by simp) (by simp [hlIn, idsIn, Blk.menIn, V.menInL, V.menIn, V.flat, byF, lsF]) (by simp [V.menIn, V.menInL, idsIn]) ?_
    push_cast (config := { maxSteps := 10000000 })
    have hb := hoN_le (s := s) (a := a) (by omega)
    have e1 : runN hostB (s.drop a) = hoN s a := rfl
    rw [e1]
    have e2 : ((a : Int) + (hoN s a : Int)).toNat - a = hoN s a := by omega
    have e3 : ((a : Int) + (hoN s a : Int)).toNat = a + hoN s a := by omega
    have e4 : (s.drop a).take (hoN s a) = cutS s a (hoN s a) := rfl
    rw [e2, e3, e4]
    have pre := pre1 s (a + hoN s a) 58
    have pre : hasPre (s.drop (a + hoN s a)) [58] = isAt s (a + hoN s a) 58 := pre
    rw [pre]
    refine ⟨by omega, by omega, ⟨by omega, by omega⟩, ⟨⟨by omega, by omega⟩, by omega, by omega⟩, by omega, fun h => ?_, fun h => ⟨⟨by omega, by omega⟩, ⟨⟨by omega, by omega⟩, by omega⟩, by omega, fun hc => ⟨⟨by omega, by omega⟩, ?_⟩, fun hc => ?_⟩⟩
    · unfold plcL; rw [if_pos h]; exact ⟨rfl, rfl, rfl, rfl⟩
    · have hc1 := isAt_lt hc
      have hP : plcL s a = if portN (cutS s (a + hoN s a + 1) (poN s (a + hoN s a + 1))) = 0 then ⟨false, a + hoN s a + 1, cutS s a (hoN s a), cutS s (a + hoN s a + 1) (poN s (a + hoN s a + 1))⟩
         else ⟨endB s (a + hoN s a + 1 + poN s (a + hoN s a + 1)), a + hoN s a + 1 + poN s (a + hoN s a + 1), cutS s a (hoN s a), cutS s (a + hoN s a + 1) (poN s (a + hoN s a + 1))⟩ := by
        unfold plcL; rw [if_neg (by rw [h]; simp), if_pos hc]
      rw [hP]
      have hb2 := poN_le (s := s) (a := a + hoN s a + 1) (by omega)
      generalize hB : a + hoN s a + 1 = B at hb2 hP ⊢
      have eB : (a : Int) + (hoN s a : Int) + 1 = (B : Int) := by omega
      rw [eB]
      generalize cutS s a (hoN s a) = H
      refine LoopW.adj ⟨hct, fol⟩ (by kernel_rfl) [] (fun n : Nat => [(0, .ptr (i + 9000) 0), (4, .int .i64 ((B + n : Nat) : Int))]) (fun n => [(i + 9000, .cells [.str s, .int .i64 B, .str sc, .str H, .str [], .str pa, .str qu, .bool hq1, .str fr, .bool hf])]) (fun n => B + n ≤ s.length ∧ ∀ j, j < n → digB ((s.drop B).getD j 0) = true) (fun n => s.length - n) 0 ?_ fun n hn => ?_
      · push_cast (config := { maxSteps := 10000000 })
        exact ⟨by omega, by omega⟩
      · push_cast (config := { maxSteps := 10000000 })
        obtain ⟨n1, n2⟩ := hn
        have e5 : ((B : Int) + (n : Int)).toNat = B + n := by omega
        have e6 : ((B : Int) + (n : Int)).toNat - B = n := by omega
        have e7 : (s.drop B).getD n 0 = s.getD (B + n) 0 := by rw [List.getD_eq_getElem?_getD, List.getD_eq_getElem?_getD, List.getElem?_drop]
        rw [e5]
        rw [e5] at e6
        rw [e6]
        refine ⟨fun h => ⟨h, by omega, h⟩, fun h => ⟨⟨by omega, by omega⟩, n + 1, ⟨by omega, fun j hj => ?_⟩, by omega, by omega⟩, fun h => ?_⟩
        · by_cases e : j = n
          · subst e; rw [e7]; exact h.2
          · exact n2 j (by omega)
        have eN : poN s B = n := by
          unfold poN
          refine runN_at (by rw [List.length_drop]; omega) n2 fun hlt => ?_
          rw [List.length_drop] at hlt
          rw [e7]; exact h (by omega)
        rw [eN]
        have eC : (s.drop B).take n = cutS s B n := rfl
        rw [eC]
        refine ⟨⟨⟨by omega, by omega⟩, by omega, by omega⟩, by omega, fun h0 => ?_, fun h0 => ?_⟩
        · rw [if_pos h0]; exact ⟨rfl, rfl, rfl, rfl⟩
        · rw [if_neg h0]
          refine ⟨fun x => ⟨x, by omega, by omega⟩, ?_, by show _ = ((B + n : Nat) : Int); omega, rfl, rfl⟩
          show _ = endB s (B + n)
          unfold endB
          congr 1
          rw [Bool.eq_iff_iff, beq_iff_eq, decide_eq_true_eq]; omega
    · unfold plcL
      rw [if_neg (by rw [h]; simp), if_neg (by rw [hc]; simp)]
      refine ⟨fun x => ⟨x, by omega, by omega⟩, ?_, by show _ = ((a + hoN s a : Nat) : Int); omega, rfl, rfl⟩
      unfold endB
      congr 1
      rw [Bool.eq_iff_iff, beq_iff_eq, decide_eq_true_eq]; omega
  · cases h
attribute [push_cast] ckPlaceK
def ckRowK : List V → List Blk → Option (Prop × V × List Blk)
  | [.ptr _ 0, .str w], [.cells [.str s, .int .i64 a, .str sc, .str ho, .str po, .str pa, .str qu, .bool hq, .str fr, .bool hf]] => some (s.length ≤ 2000 ∧ 0 ≤ a ∧ a ≤ s.length, .tup [.str (cutS s a.toNat (rdRow s a.toNat w).1), .bool (rdRow s a.toNat w).2], [.cells [.str s, .int .i64 (a + (rdRow s a.toNat w).1), .str sc, .str ho, .str po, .str pa, .str qu, .bool hq, .str fr, .bool hf]])
  | _, _ => none
def ckRow : Cf := ⟨fun | [.ptr i _, _] => [i] | _ => [], ckRowK⟩
theorem conRow : FCon pg 89 ckRow := by
  have hct := (ctA_ok conRowEnd (ctN_ok _))
  intro args bs q r bs' h hq
  replace h : ckRowK args bs = some (q, r, bs') := h
  unfold ckRowK at h
  split at h
  · cases h
    rename_i i w s a sc ho po pa qu hq1 fr hf
    refine ⟨rfl, by first | exact Nat.le_refl _ | exact Nat.zero_le _, ?_⟩
    obtain ⟨h1, h2, h3⟩ := hq
    obtain ⟨a, rfl⟩ : ∃ k : Nat, a = k := ⟨a.toNat, by omega⟩
    rw [Int.toNat_natCast]
    show FCall pg 89 [.ptr (i + 9000) 0, .str w] [(i + 9000, .cells [.str s, .int .i64 a, .str sc, .str ho, .str po, .str pa, .str qu, .bool hq1, .str fr, .bool hf])] (.tup [.str (cutS s a (rdRow s a w).1), .bool (rdRow s a w).2]) [(i + 9000, .cells [.str s, .int .i64 (a + (rdRow s a w).1), .str sc, .str ho, .str po, .str pa, .str qu, .bool hq1, .str fr, .bool hf])]
    refine fw89 (fun _ => false) [] rfl hct rfl (by simp) (by simp [hlIn, idsIn, Blk.menIn, V.menInL, V.menIn, V.flat, byF, lsF]) (by simp [V.menIn, V.menInL, idsIn]) ?_
    push_cast (config := { maxSteps := 10000000 })
    have hb := rdRow_le (s := s) (a := a) (w := w) (by omega)
    have e1 : reL (s.drop a) w (s.length - a + 1) 0 = rdRow s a w := by unfold rdRow; rw [List.length_drop]
    rw [e1]
    have e2 : ((a : Int) + ((rdRow s a w).1 : Int)).toNat - a = (rdRow s a w).1 := by omega
    rw [e2]
    exact ⟨by omega, by omega, ⟨by omega, by omega⟩, ⟨⟨by omega, by omega⟩, by omega, by omega⟩, ⟨by omega, by omega⟩, ⟨rfl, rfl⟩, rfl⟩
  · cases h
attribute [push_cast] ckRowK
@[push_cast] theorem place_ids (i o : Nat) : ckPlace.ids [.ptr i o] = [i] := rfl
@[push_cast] theorem place_k (i : Nat) (s sc ho pa qu fr : List UInt8) (hq hf : Bool) (a : Int) : ckPlace.k [.ptr i 0] [.cells [.str s, .int .i64 a, .str sc, .str ho, .str [], .str pa, .str qu, .bool hq, .str fr, .bool hf]] = some (s.length ≤ 2000 ∧ 0 ≤ a ∧ a ≤ s.length, .bool (plcL s a.toNat).ok, [.cells [.str s, .int .i64 (plcL s a.toNat).at', .str sc, .str (plcL s a.toNat).ho, .str (plcL s a.toNat).po, .str pa, .str qu, .bool hq, .str fr, .bool hf]]) := rfl
@[push_cast] theorem row_ids (i o : Nat) (x : V) : ckRow.ids [.ptr i o, x] = [i] := rfl
@[push_cast] theorem row_k (i : Nat) (w s sc ho po pa qu fr : List UInt8) (hq hf : Bool) (a : Int) : ckRow.k [.ptr i 0, .str w] [.cells [.str s, .int .i64 a, .str sc, .str ho, .str po, .str pa, .str qu, .bool hq, .str fr, .bool hf]] = some (s.length ≤ 2000 ∧ 0 ≤ a ∧ a ≤ s.length, .tup [.str (cutS s a.toNat (rdRow s a.toNat w).1), .bool (rdRow s a.toNat w).2], [.cells [.str s, .int .i64 (a + (rdRow s a.toNat w).1), .str sc, .str ho, .str po, .str pa, .str qu, .bool hq, .str fr, .bool hf]]) := rfl
theorem rest3 {s P Q : List UInt8} {d : Nat} {b : Bool} (h1 : s.length ≤ 2000) (hd : d ≤ s.length) {R : Rst} (hR : R = rst3 s d P Q b) : ((0 ≤ (d : Int) ∧ (d : Int) ≤ s.length) ∧ (d : Int) ≤ s.length) ∧
    ((s.length - d : Nat) : Int) ≤ 4611686018427387904 ∧
      (hasPre (s.drop d) [35] = true → (-9223372036854775808 ≤ ((d + 1 : Nat) : Int) ∧ ((d + 1 : Nat) : Int) ≤ 9223372036854775807) ∧
          (s.length ≤ 2000 ∧ 0 ≤ ((d + 1 : Nat) : Int) ∧ ((d + 1 : Nat) : Int) ≤ s.length) ∧
            ((rdRow s (d + 1) []).2 = false → false = R.ok ∧ ((d + 1 : Nat) : Int) + (rdRow s (d + 1) []).1 = R.at' ∧ P = R.pa ∧ Q = R.qu ∧ b = R.hq ∧ cutS s (d + 1) (rdRow s (d + 1) []).1 = R.fr ∧ true = R.hf) ∧
            ((rdRow s (d + 1) []).2 = true → true = R.ok ∧ ((d + 1 : Nat) : Int) + (rdRow s (d + 1) []).1 = R.at' ∧ P = R.pa ∧ Q = R.qu ∧ b = R.hq ∧ cutS s (d + 1) (rdRow s (d + 1) []).1 = R.fr ∧ true = R.hf)) ∧
      (hasPre (s.drop d) [35] = false → true = R.ok ∧ (d : Int) = R.at' ∧ P = R.pa ∧ Q = R.qu ∧ b = R.hq ∧ [] = R.fr ∧ false = R.hf) := by
  subst hR
  have hp : hasPre (s.drop d) [35] = isAt s d 35 := pre1 s d 35
  rw [hp]
  refine ⟨⟨⟨by omega, by omega⟩, by omega⟩, by omega, fun h => ?_, fun h => ?_⟩
  · have hl := isAt_lt h
    have hr := rdRow_le (s := s) (a := d + 1) (w := []) (by omega)
    unfold rst3
    rw [if_pos h]
    exact ⟨⟨by omega, by omega⟩, ⟨h1, by omega, by omega⟩, fun h2 => ⟨h2.symm, by show _ = ((d + 1 + (rdRow s (d + 1) []).1 : Nat) : Int); omega, rfl, rfl, rfl, rfl, rfl⟩, fun h2 => ⟨h2.symm, by show _ = ((d + 1 + (rdRow s (d + 1) []).1 : Nat) : Int); omega, rfl, rfl, rfl, rfl, rfl⟩⟩
  · unfold rst3
    rw [if_neg (by rw [h]; simp)]
    exact ⟨rfl, rfl, rfl, rfl, rfl, rfl, rfl⟩
def ckRestK : List V → List Blk → Option (Prop × V × List Blk)
  | [.ptr _ 0], [.cells [.str s, .int .i64 a, .str sc, .str ho, .str po, .str _, .str [], .bool false, .str [], .bool false]] => some (s.length ≤ 2000 ∧ 0 ≤ a ∧ a ≤ s.length, .bool (rstL s a.toNat).ok, [.cells [.str s, .int .i64 (rstL s a.toNat).at', .str sc, .str ho, .str po, .str (rstL s a.toNat).pa, .str (rstL s a.toNat).qu, .bool (rstL s a.toNat).hq, .str (rstL s a.toNat).fr, .bool (rstL s a.toNat).hf]])
  | _, _ => none
def ckRest : Cf := ⟨fun | [.ptr i _] => [i] | _ => [], ckRestK⟩
theorem conRest : FCon pg 59 ckRest := by
  have hct := (ctF_ok conRow (ctA_ok conHasPre (ctN_ok _)))
  intro args bs q r bs' h hq
  replace h : ckRestK args bs = some (q, r, bs') := h
  unfold ckRestK at h
  split at h
  · cases h
    rename_i i s a sc ho po pa
    refine ⟨rfl, by first | exact Nat.le_refl _ | exact Nat.zero_le _, ?_⟩
    obtain ⟨h1, h2, h3⟩ := hq
    obtain ⟨a, rfl⟩ : ∃ k : Nat, a = k := ⟨a.toNat, by omega⟩
    rw [Int.toNat_natCast]
    show FCall pg 59 [.ptr (i + 9000) 0] [(i + 9000, .cells [.str s, .int .i64 a, .str sc, .str ho, .str po, .str pa, .str [], .bool false, .str [], .bool false])] (.bool (rstL s a).ok) [(i + 9000, .cells [.str s, .int .i64 (rstL s a).at', .str sc, .str ho, .str po, .str (rstL s a).pa, .str (rstL s a).qu, .bool (rstL s a).hq, .str (rstL s a).fr, .bool (rstL s a).hf])]
    refine fw59 (fun _ => false) [] rfl hct rfl (by simp) (by simp [hlIn, idsIn, Blk.menIn, V.menInL, V.menIn, V.flat, byF, lsF]) (by simp [V.menIn, V.menInL, idsIn]) ?_
    push_cast (config := { maxSteps := 10000000 })
    have hr1 := rdRow_le (s := s) (a := a) (w := [63, 35]) (by omega)
    have hL : rstL s a = if (rdRow s a [63, 35]).2 = false then ⟨false, a + (rdRow s a [63, 35]).1, cutS s a (rdRow s a [63, 35]).1, [], false, [], false⟩ else rst2 s (a + (rdRow s a [63, 35]).1) (cutS s a (rdRow s a [63, 35]).1) := rfl
    generalize rdRow s a [63, 35] = r1 at hr1 hL ⊢
    obtain ⟨n1, o1⟩ := r1
    simp only at hr1 hL ⊢
    obtain ⟨c, hc⟩ : ∃ c : Nat, c = a + n1 := ⟨_, rfl⟩
    have ec : (a : Int) + (n1 : Int) = (c : Int) := by omega
    have ec1 : (c : Int) + 1 = ((c + 1 : Nat) : Int) := by omega
    rw [← hc] at hL hr1
    generalize cutS s a n1 = P at hL ⊢
    simp only [ec, ec1, Int.toNat_natCast]
    refine ⟨⟨h1, by omega⟩, fun h => ?_, fun h => ⟨⟨⟨by omega, by omega⟩, by omega⟩, by omega, fun hq => ?_, fun hq => ?_⟩⟩
    · rw [hL, if_pos h]; exact ⟨rfl, rfl, rfl, rfl, rfl, rfl, rfl⟩
    all_goals rw [if_neg (by rw [h]; simp)] at hL
    all_goals rw [show hasPre (s.drop c) [63] = isAt s c 63 from pre1 s c 63] at hq
    · have hlt := isAt_lt hq
      have hL : rstL s a = if (rdRow s (c + 1) [35]).2 = false then ⟨false, c + 1 + (rdRow s (c + 1) [35]).1, P, cutS s (c + 1) (rdRow s (c + 1) [35]).1, true, [], false⟩ else rst3 s (c + 1 + (rdRow s (c + 1) [35]).1) P (cutS s (c + 1) (rdRow s (c + 1) [35]).1) true := by rw [hL]; unfold rst2; rw [if_pos hq]
      have hr2 := rdRow_le (s := s) (a := c + 1) (w := [35]) (by omega)
      generalize rdRow s (c + 1) [35] = r2 at hr2 hL ⊢
      obtain ⟨n2, o2⟩ := r2
      simp only at hr2 hL ⊢
      obtain ⟨d, hd⟩ : ∃ d : Nat, d = c + 1 + n2 := ⟨_, rfl⟩
      have ed : ((c + 1 : Nat) : Int) + (n2 : Int) = (d : Int) := by omega
      have ed1 : (d : Int) + 1 = ((d + 1 : Nat) : Int) := by omega
      rw [← hd] at hL hr2
      generalize cutS s (c + 1) n2 = Q at hL ⊢
      simp only [ed, ed1, Int.toNat_natCast]
      refine ⟨⟨by omega, by omega⟩, ⟨h1, by omega, by omega⟩, fun ho => ?_, fun ho => ?_⟩
      · rw [hL, if_pos ho]; exact ⟨rfl, rfl, rfl, rfl, rfl, rfl, rfl⟩
      · exact rest3 h1 hr2 (by rw [hL, if_neg (by rw [ho]; simp)])
    · have hL : rstL s a = rst3 s c P [] false := by rw [hL]; unfold rst2; rw [if_neg (by rw [hq]; simp)]
      exact rest3 h1 hr1 hL
  · cases h
attribute [push_cast] ckRestK
@[push_cast] theorem rest_ids (i o : Nat) : ckRest.ids [.ptr i o] = [i] := rfl
@[push_cast] theorem rest_k (i : Nat) (s sc ho po pa : List UInt8) (a : Int) : ckRest.k [.ptr i 0] [.cells [.str s, .int .i64 a, .str sc, .str ho, .str po, .str pa, .str [], .bool false, .str [], .bool false]] = some (s.length ≤ 2000 ∧ 0 ≤ a ∧ a ≤ s.length, .bool (rstL s a.toNat).ok, [.cells [.str s, .int .i64 (rstL s a.toNat).at', .str sc, .str ho, .str po, .str (rstL s a.toNat).pa, .str (rstL s a.toNat).qu, .bool (rstL s a.toNat).hq, .str (rstL s a.toNat).fr, .bool (rstL s a.toNat).hf]]) := rfl
def ckReadA : Ck
  | [.str s] => some (True, .tup [cAdr.enc (readA s).1, .int .i64 (readA s).2.1, .int .i64 (readA s).2.2])
  | _ => none
theorem conReadA : Con pg 32 ckReadA := by
  have hct := (ctA_ok conScheme (ctF_ok conPlace (ctF_ok conRest (ctN_ok _))))
  intro args q r h hq
  unfold ckReadA at h
  split at h
  · cases h
    rename_i s
    refine w32 (fun _ => false) [] rfl hct rfl rfl ?_
    push_cast (config := { maxSteps := 10000000 })
    have hb := sch_b s
    have hp := plc_b (s := s) (a := (schL s).2) hb
    refine ⟨fun h => ?_, fun h => ⟨by omega, fun h1 => ?_, fun h1 => ⟨⟨by omega, hb⟩, fun h2 => ⟨h2, ⟨by omega, hp⟩, fun h3 => ?_, fun h3 => ?_⟩, fun h2 => ⟨fun x => (by rw [h2] at x; cases x), ?_⟩⟩⟩⟩
    · have e : readA s = (noAdr, 0, 2) := by unfold readA; rw [if_pos (by omega)]
      rw [e]; exact ⟨⟨rfl, rfl, rfl, rfl, rfl, rfl, rfl, rfl⟩, rfl, rfl⟩
    · have e : readA s = (noAdr, ((schL s).2 : Int), 10) := by unfold readA; rw [if_neg (by omega), if_pos h1]
      rw [e]; exact ⟨⟨rfl, rfl, rfl, rfl, rfl, rfl, rfl, rfl⟩, rfl, rfl⟩
    · have h3 : (rstL s (plcL s (schL s).2).at').ok = false := h3.resolve_left (by rw [h2]; simp)
      have e : readA s = (noAdr, ((rstL s (plcL s (schL s).2).at').at' : Int), 10) := by unfold readA; rw [if_neg (by omega), if_neg (by rw [h1]; simp), if_neg (by rw [h2]; simp), if_pos h3]
      rw [e]; exact ⟨⟨rfl, rfl, rfl, rfl, rfl, rfl, rfl, rfl⟩, rfl, rfl⟩
    · have e : readA s = (⟨s.take ((schL s).2 - 3), (plcL s (schL s).2).ho, (plcL s (schL s).2).po, (rstL s (plcL s (schL s).2).at').pa, (rstL s (plcL s (schL s).2).at').qu, (rstL s (plcL s (schL s).2).at').hq, (rstL s (plcL s (schL s).2).at').fr, (rstL s (plcL s (schL s).2).at').hf⟩, 0, 0) := by unfold readA; rw [if_neg (by omega), if_neg (by rw [h1]; simp), if_neg (by rw [h2]; simp), if_neg (by rw [h3.2]; simp)]
      rw [e, if_pos h1]; exact ⟨⟨rfl, rfl, rfl, rfl, rfl, rfl, rfl, rfl⟩, rfl, rfl⟩
    · have e : readA s = (noAdr, ((plcL s (schL s).2).at' : Int), 10) := by unfold readA; rw [if_neg (by omega), if_neg (by rw [h1]; simp), if_pos h2]
      rw [e]; exact ⟨⟨rfl, rfl, rfl, rfl, rfl, rfl, rfl, rfl⟩, rfl, rfl⟩
  · cases h
attribute [push_cast] ckReadA

/-- what is wrong with an entry -/
def entBad (ix : Bool) (e : Ent) : Int :=
  if (readA e.loc).2.2 ≠ 0 then 3 else if e.day < 0 ∨ 3652059 < e.day ∨ e.wt < -1 ∨ 10 < e.wt then 1 else if ix = true ∧ e.wt ≠ -1 then 3 else 0
def badL (ix : Bool) : List Ent → Int
  | [] => 0
  | e :: r => if entBad ix e = 0 then badL ix r else entBad ix e
def chkM (m : SMp) : Int := if 1000 < m.en.length then 2 else badL m.ix m.en
theorem badL_all {ix : Bool} : ∀ {l : List Ent}, (∀ j, j < l.length → entBad ix (l.getD j noEnt) = 0) → badL ix l = 0
  | [], _ => rfl
  | e :: r, h => by
    unfold badL
    have h0 := h 0 (by simp)
    rw [if_pos (by simpa using h0)]
    exact badL_all fun j hj => by have := h (j + 1) (by simp; omega); simpa using this
theorem badL_at {ix : Bool} : ∀ {l : List Ent} {i : Nat}, i < l.length → (∀ j, j < i → entBad ix (l.getD j noEnt) = 0) → entBad ix (l.getD i noEnt) ≠ 0 → badL ix l = entBad ix (l.getD i noEnt)
  | [], _, h, _, _ => by simp at h
  | e :: r, 0, _, _, h => by
    unfold badL
    rw [List.getD_cons_zero] at h ⊢
    rw [if_neg h]
  | e :: r, i + 1, hi, h1, h => by
    unfold badL
    have h0 := h1 0 (by omega)
    rw [if_pos (by simpa using h0)]
    rw [List.getD_cons_succ] at h ⊢
    exact badL_at (by simpa using hi) (fun j hj => by have := h1 (j + 1) (by omega); simpa using this) h
def ckCM : Ck
  | [.agg [.bool b, .sl n f]] => some (isLs cEnt n f ∧ n ≤ 4611686018427387904, .int .i64 (chkM ⟨b, lsOf cEnt n f⟩))
  | _ => none
theorem conCM : Con pg 11 ckCM := by
  have hct := (ctA_ok conReadA (ctN_ok _))
  intro args q r h hq
  unfold ckCM at h
  split at h
  · cases h
    rename_i b n f
    have hn : (lsOf cEnt n f).length ≤ 4611686018427387904 := by rw [lsOf_len]; exact hq.2
    refine pcall_args (args' := [.agg [.bool b, .sl (lsOf cEnt n f).length (lsF cEnt (lsOf cEnt n f))]]) ⟨VLe.agg ⟨VLe.refl _, hq.1.vle, trivial⟩, trivial⟩ ?_
    generalize lsOf cEnt n f = l at hn ⊢
    refine w11 (fun _ => false) [] rfl hct rfl rfl ?_
    push_cast (config := { maxSteps := 10000000 })
    refine ⟨fun h => by unfold chkM; rw [if_pos (by show 1000 < l.length; omega)], fun h => ?_⟩
    have e0 : chkM ⟨b, l⟩ = badL b l := by unfold chkM; rw [if_neg (by show ¬ 1000 < l.length; omega)]
    rw [e0]
    refine LoopW.adj ⟨hct, fol⟩ (by kernel_rfl) [] (fun i : Nat => [(1, .ptr 1 0), (13, .sl l.length (lsF cEnt l)), (14, .int .i64 l.length), (15, .int .i64 i)]) (fun _ => [(1, .cells [.bool b, .sl l.length (lsF cEnt l)])]) (fun i => i ≤ l.length ∧ ∀ j, j < i → entBad b (l.getD j noEnt) = 0) (fun i => l.length - i) 0 ?_ fun i hi => ?_
    · push_cast (config := { maxSteps := 10000000 })
      exact Nat.zero_le _
    · obtain ⟨i1, i2⟩ := hi
      push_cast (config := { maxSteps := 10000000 })
      have eb : entBad b (l.getD i noEnt) = if (readA (l.getD i noEnt).loc).2.2 ≠ 0 then 3 else if (l.getD i noEnt).day < 0 ∨ 3652059 < (l.getD i noEnt).day ∨ (l.getD i noEnt).wt < -1 ∨ 10 < (l.getD i noEnt).wt then 1 else if b = true ∧ (l.getD i noEnt).wt ≠ -1 then 3 else 0 := rfl
      refine ⟨fun h => ⟨h, fun h1 => ?_, fun h1 => ⟨fun h2 => ?_, fun h2 => ⟨fun h3 => ?_, fun h3 => ⟨⟨by omega, by omega⟩, i + 1, ⟨by omega, fun j hj => ?_⟩, by omega, by omega⟩⟩⟩⟩, fun h => (badL_all fun j hj => i2 j (by omega)).symm⟩
      · rw [if_pos h1] at eb
        exact ((badL_at h i2 (by rw [eb]; decide)).trans eb).symm
      · rw [if_neg (by simpa using h1), if_pos (by omega)] at eb
        exact ((badL_at h i2 (by rw [eb]; decide)).trans eb).symm
      · rw [if_neg (by simpa using h1), if_neg (by omega), if_pos h3] at eb
        exact ((badL_at h i2 (by rw [eb]; decide)).trans eb).symm
      · by_cases e : j = i
        · subst e
          rw [eb, if_neg (by simpa using h1), if_neg (by omega), if_neg (fun x => x.2 (h3 x.1))]
        · exact i2 j (by omega)
  · cases h
attribute [push_cast] ckCM

theorem enT_le {s one : List UInt8} {how : Int} {a : Nat} {x : Ent} (h : a ≤ s.length) : a ≤ (enT s one how a x).2.1 ∧ (enT s one how a x).2.1 ≤ s.length := by
  have h1 := fdA_le (k := 3) (e := wWt') h
  have h2 := whL_le h1.2 [wEnd one]
  unfold enT
  split
  · split
    · exact ⟨Nat.le_trans h1.1 h2.1, h2.2.1⟩
    · exact h1
  · exact ⟨Nat.le_refl _, h⟩
theorem enD_le {s one : List UInt8} {a : Nat} {x : Ent} (h : a ≤ s.length) : a ≤ (enD s one a x).2.1 ∧ (enD s one a x).2.1 ≤ s.length := by
  have h1 := whL_le h [wDay, wWt, wEnd one]
  have h2 := fdA_le (k := 2) (e := wDay') h1.2.1
  have h3 := whL_le h2.2 [wWt, wEnd one]
  unfold enD
  split
  · split
    · have h4 := enT_le (one := one) (how := (let h := (whL s (fdA 2 s wDay' (whL s a [wDay, wWt, wEnd one]).2) [wWt, wEnd one]).1; if 0 ≤ h then h + 1 else h)) (x := fdX 2 s (whL s a [wDay, wWt, wEnd one]).2 x) h3.2.1
      exact ⟨Nat.le_trans h1.1 (Nat.le_trans h2.1 (Nat.le_trans h3.1 h4.1)), h4.2⟩
    · exact ⟨Nat.le_trans h1.1 h2.1, h2.2⟩
  · have h4 := enT_le (one := one) (how := (whL s a [wDay, wWt, wEnd one]).1) (x := x) h1.2.1
    exact ⟨Nat.le_trans h1.1 h4.1, h4.2⟩
theorem enL_le {s one : List UInt8} {a : Nat} (h : a ≤ s.length) : a ≤ (enL s one a).2.1 ∧ (enL s one a).2.1 ≤ s.length := by
  have h1 := whL_le h [wLoc]
  have h2 := fdA_le (k := 1) (e := wLoc') h1.2.1
  have h3 := enD_le (one := one) (x := fdX 1 s (whL s a [wLoc]).2 x00) h2.2
  unfold enL
  split
  · exact ⟨h1.1, h1.2.1⟩
  · split
    · exact ⟨Nat.le_trans h1.1 (Nat.le_trans h2.1 h3.1), h3.2⟩
    · exact ⟨Nat.le_trans h1.1 h2.1, h2.2⟩
theorem whL_0 {s x : List UInt8} {l : List (List UInt8)} {a : Nat} (h : (whL s a (x :: l)).1 = 0) : (whL s a (x :: l)).2 = blS s a + x.length := by
  have k : ∀ (l : List (List UInt8)) (b i m : Nat), 1 ≤ i → (whG s b l i m).1 ≠ 0 := by
    intro l
    induction l with
    | nil => intro b i m _ e; cases e
    | cons y r ih =>
      intro b i m hi
      unfold whG
      split
      · show (i : Int) ≠ 0
        omega
      · exact ih _ _ _ (by omega)
  unfold whL whG at h ⊢
  split
  · rfl
  · rename_i hx
    rw [if_neg hx] at h
    exact absurd h (k _ _ _ _ (Nat.le_refl _))
def wOne (one : List UInt8) : List UInt8 := [60] ++ one ++ [62]
/-- the entries of a list -/
def rmG (s one all : List UInt8) : Nat → Nat → List Ent → Bool × Nat × List Ent
  | 0, a, l => (false, a, l)
  | f + 1, a, l =>
    if (whL s a [wOne one, wEnd all]).1 = 1 then (true, (whL s a [wOne one, wEnd all]).2, l)
    else if (whL s a [wOne one, wEnd all]).1 < 0 then (false, (whL s a [wOne one, wEnd all]).2, l)
    else if (enL s one (whL s a [wOne one, wEnd all]).2).1 = true then rmG s one all f (enL s one (whL s a [wOne one, wEnd all]).2).2.1 (l ++ [(enL s one (whL s a [wOne one, wEnd all]).2).2.2])
    else (false, (enL s one (whL s a [wOne one, wEnd all]).2).2.1, l)
def wUrls : List UInt8 := [60, 117, 114, 108, 115, 101, 116, 62]
def wIndex : List UInt8 := [60, 115, 105, 116, 101, 109, 97, 112, 105, 110, 100, 101, 120, 62]
def rmIx (s : List UInt8) : Bool := (whL s 0 [wUrls, wIndex]).1 == 1
def rmR (s : List UInt8) : Bool × Nat × List Ent := rmG s (tgO (rmIx s)) (tgA (rmIx s)) (s.length + 1) (whL s 0 [wUrls, wIndex]).2 []
/-- what ReadMap gives -/
def rmF (s : List UInt8) : SMp × Int × Int :=
  if 500000 < s.length then (noSMp, 0, 2)
  else if (whL s 0 [wUrls, wIndex]).1 < 0 then (noSMp, (whL s 0 [wUrls, wIndex]).2, 10)
  else if (rmR s).1 = false then (noSMp, (rmR s).2.1, 10)
  else if blS s (rmR s).2.1 < s.length then (noSMp, blS s (rmR s).2.1, 10)
  else if chkM ⟨rmIx s, (rmR s).2.2⟩ ≠ 0 then (noSMp, 0, chkM ⟨rmIx s, (rmR s).2.2⟩)
  else (⟨rmIx s, (rmR s).2.2⟩, 0, 0)
def ckRM : Ck
  | [.str s] => some (s.length ≤ 4611686018427387904, .tup [cSMp.enc (rmF s).1, .int .i64 (rmF s).2.1, .int .i64 (rmF s).2.2])
  | _ => none
theorem conRM : Con pg 5 ckRM := by
  have hct := (ctF_ok conWh (ctF_ok conEn (ctF_ok conMBl (ctA_ok conTags (ctA_ok conCM (ctN_ok _))))))
  intro args q r h hq
  unfold ckRM at h
  split at h
  · cases h
    rename_i s
    refine w5 (fun _ => false) [.frz 8000] rfl hct rfl rfl ?_
    push_cast (config := { maxSteps := 10000000 })
    rw [show ([60, 117, 114, 108, 115, 101, 116, 62] : List UInt8) = wUrls from rfl, show ([60, 115, 105, 116, 101, 109, 97, 112, 105, 110, 100, 101, 120, 62] : List UInt8) = wIndex from rfl]
    have b0 := whL_le (s := s) (a := 0) (Nat.zero_le _) [wUrls, wIndex]
    have e1 : ∀ z : Int, (z == 1) = decide (z = 1) := fun z => rfl
    refine ⟨fun h => ?_, fun h => ⟨by omega, fun g => ?_, fun g => ?_⟩⟩
    · have e : rmF s = (noSMp, 0, 2) := by unfold rmF; rw [if_pos (by omega)]
      rw [e]; exact ⟨⟨rfl, rfl⟩, rfl, rfl⟩
    · have e : rmF s = (noSMp, ((whL s 0 [wUrls, wIndex]).2 : Int), 10) := by unfold rmF; rw [if_neg (by omega), if_pos g]
      rw [e]; exact ⟨⟨rfl, rfl⟩, rfl, rfl⟩
    have hs : s.length ≤ 500000 := by omega
    have eF : rmF s = if (rmR s).1 = false then (noSMp, ((rmR s).2.1 : Int), 10) else if blS s (rmR s).2.1 < s.length then (noSMp, (blS s (rmR s).2.1 : Int), 10) else if chkM ⟨rmIx s, (rmR s).2.2⟩ ≠ 0 then (noSMp, 0, chkM ⟨rmIx s, (rmR s).2.2⟩) else (⟨rmIx s, (rmR s).2.2⟩, 0, 0) := by
      unfold rmF; rw [if_neg (by omega), if_neg g]
    have eR : rmR s = rmG s (tgO (rmIx s)) (tgA (rmIx s)) (s.length + 1) (whL s 0 [wUrls, wIndex]).2 [] := rfl
    generalize hix : rmIx s = ix at *
    have hix : ((whL s 0 [wUrls, wIndex]).1 == 1) = ix := hix
    generalize whL s 0 [wUrls, wIndex] = W0 at *
    generalize rmR s = R at *
    generalize rmF s = T at *
    have b00 := b0.2.1
    clear b0
    have la : (tgA ix).length ≤ 12 := by cases ix <;> decide
    have lo : (tgO ix).length ≤ 7 := by cases ix <;> decide
    refine LoopW.adj ⟨hct, fol⟩ (by kernel_rfl) [.nvc 6 1 8000 3 (lsF cEnt [])] (fun x : Nat × Nat × List Ent => [(0, .str s), (2, .ptr 2 0), (5, .ptr 20 0), (6, .ptr 6 0), (8, .str (tgA ix)), (9, .str (tgO ix))]) (fun x => [(2, .cells [.bool false, .nilsl]), (6, .cells [.bool ix, .vec 8000 x.2.2.length]), (20, .cells [.str s, .int .i64 x.2.1]), (8000, .vec 3 x.2.2.length (lsF cEnt x.2.2))]) (fun x => x.2.1 ≤ s.length ∧ s.length < x.1 + x.2.1 ∧ x.2.2.length ≤ x.2.1 ∧ R = rmG s (tgO ix) (tgA ix) x.1 x.2.1 x.2.2) (fun x => x.1) (s.length + 1, W0.2, []) ?_ fun x hx => ?_
    · push_cast (config := { maxSteps := 10000000 })
      rw [hix]
      exact ⟨⟨b00, by omega, Nat.zero_le _, eR⟩, ⟨rfl, rfl⟩, rfl⟩
    · obtain ⟨f, a, l⟩ := x
      obtain ⟨x1, x2, x3, x4⟩ := hx
      have x1 : a ≤ s.length := x1
      have x2 : s.length < f + a := x2
      have x3 : l.length ≤ a := x3
      have x4 : R = rmG s (tgO ix) (tgA ix) f a l := x4
      obtain ⟨f, rfl⟩ : ∃ g, f = g + 1 := ⟨f - 1, by omega⟩
      have x4 : R = if (whL s a [wOne (tgO ix), wEnd (tgA ix)]).1 = 1 then (true, (whL s a [wOne (tgO ix), wEnd (tgA ix)]).2, l)
        else if (whL s a [wOne (tgO ix), wEnd (tgA ix)]).1 < 0 then (false, (whL s a [wOne (tgO ix), wEnd (tgA ix)]).2, l)
        else if (enL s (tgO ix) (whL s a [wOne (tgO ix), wEnd (tgA ix)]).2).1 = true then rmG s (tgO ix) (tgA ix) f (enL s (tgO ix) (whL s a [wOne (tgO ix), wEnd (tgA ix)]).2).2.1 (l ++ [(enL s (tgO ix) (whL s a [wOne (tgO ix), wEnd (tgA ix)]).2).2.2])
        else (false, (enL s (tgO ix) (whL s a [wOne (tgO ix), wEnd (tgA ix)]).2).2.1, l) := x4
      have w1 := whL_le x1 [wOne (tgO ix), wEnd (tgA ix)]
      have w2 := whL_0 (s := s) (a := a) (x := wOne (tgO ix)) (l := [wEnd (tgA ix)])
      have w3 : a ≤ blS s a ∧ blS s a ≤ s.length := blS_le (a := a) x1
      have lw : (wOne (tgO ix)).length = (tgO ix).length + 2 := by simp [wOne]
      have l2 : ([wOne (tgO ix), wEnd (tgA ix)] : List (List UInt8)).length = 2 := rfl
      push_cast (config := { maxSteps := 10000000 })
      rw [show (60 :: (tgO ix ++ [62]) : List UInt8) = wOne (tgO ix) from rfl, show (60 :: 47 :: (tgA ix ++ [62]) : List UInt8) = wEnd (tgA ix) from rfl]
      generalize whL s a [wOne (tgO ix), wEnd (tgA ix)] = W at *
      have bl := blS_le (s := s) (a := W.2) w1.2.1
      have el := enL_le (s := s) (one := tgO ix) (a := W.2) w1.2.1
      generalize enL s (tgO ix) W.2 = E at *
      refine ⟨by omega, by omega, by omega, by omega, ⟨by omega, x1⟩, fun h => ⟨⟨by omega, w1.2.1⟩, fun h2 => ?_, fun h2 => ⟨by omega, fun h3 => ?_, fun h3 => ?_⟩⟩, ?_⟩
      · rw [if_pos h] at x4
        subst x4
        rw [if_neg (by simp), if_pos h2] at eF
        subst eF
        exact ⟨⟨rfl, rfl⟩, rfl, rfl⟩
      · rw [if_pos h] at x4
        subst x4
        rw [if_neg (by simp), if_neg h2, if_pos h3] at eF
        subst eF
        exact ⟨⟨rfl, rfl⟩, rfl, rfl⟩
      · rw [if_pos h] at x4
        subst x4
        rw [if_neg (by simp), if_neg h2, if_neg (fun q => q h3)] at eF
        subst eF
        exact ⟨⟨rfl, rfl, fun _ _ => rfl⟩, rfl, rfl⟩
      · intro h
        rw [if_neg h] at x4
        refine ⟨fun h2 => ?_, fun h2 => ⟨⟨by omega, by omega, w1.2.1⟩, fun h3 => ?_, fun h3 => ⟨⟨by omega, by omega⟩, (f, E.2.1, l ++ [E.2.2]), ⟨el.2, ?_, ?_, ?_⟩, Nat.lt_succ_self f, ?_, rfl, ?_, fun i hi => ?_⟩⟩⟩
        · rw [if_pos h2] at x4
          subst x4
          rw [if_pos rfl] at eF
          subst eF
          exact ⟨⟨rfl, rfl⟩, rfl, rfl⟩
        · rw [if_neg h2, if_neg (by rw [h3]; exact Bool.false_ne_true)] at x4
          subst x4
          rw [if_pos rfl] at eF
          subst eF
          exact ⟨⟨rfl, rfl⟩, rfl, rfl⟩
        · have w4 := w2 (by omega)
          show s.length < f + E.2.1
          omega
        · have w4 := w2 (by omega)
          show (l ++ [E.2.2]).length ≤ E.2.1
          rw [List.length_append, List.length_singleton]; omega
        · rw [if_neg h2, if_pos h3] at x4; exact x4
        · rw [List.length_append]; rfl
        · rw [List.length_append]; rfl
        · exact (LsI.app (c := cEnt) (k := l.length + 1) (LsI.ls l) (LsI.one (f := litF [cEnt.enc E.2.2]) rfl) rfl).2 i hi
  · cases h
attribute [push_cast] ckRM

/- the calendar, by ranges -/
theorem daysI_next (y : Int) : daysI (y + 1) 1 = daysI y 1 + yearLong y := by
  rw [daysI_1, daysI_1]
  unfold yearLong leapB
  split
  · rename_i h; simp only [decide_eq_true_eq] at h; omega
  · rename_i h; simp only [decide_eq_true_eq] at h; omega
theorem daysI_month {y : Int} {m : Int} (h : 1 ≤ m) : daysI y (m + 1) = daysI y m + monthLongI y m := by
  unfold daysI
  obtain ⟨k, rfl⟩ : ∃ k : Nat, m = k + 1 := ⟨(m - 1).toNat, by omega⟩
  rw [show ((k : Int) + 1 + 1 - 1).toNat = k + 1 by omega, show ((k : Int) + 1 - 1).toNat = k by omega]
  simp only [monthsSum]; omega
theorem monthsSum_12 (y : Int) : monthsSum y 12 = yearLong y := by
  simp only [monthsSum]
  unfold monthLongI yearLong leapB
  by_cases h : y % 4 = 0 ∧ (y % 100 ≠ 0 ∨ y % 400 = 0)
  · simp [h]
  · simp [h]
theorem daysI_13 (y : Int) : daysI y 13 = daysI (y + 1) 1 := by
  rw [daysI_next, daysI_1]
  unfold daysI
  rw [show ((13 : Int) - 1).toNat = 12 from rfl, monthsSum_12]; 
theorem daysI_mono {y z : Int} (h : y < z) : daysI (y + 1) 1 ≤ daysI z 1 := by
  rw [daysI_1, daysI_1]; omega
theorem yearF_up (d : Int) : ∀ (n : Nat) (y : Int), d < daysI (yearF d n y + 1) 1 ∨ yearF d n y = y + n
  | 0, y => .inr (by simp [yearF])
  | n + 1, y => by
    simp only [yearF]
    split
    · rcases yearF_up d n (y + 1) with h | h
      · exact .inl h
      · exact .inr (by omega)
    · exact .inl (by omega)
theorem monthF_up (y d : Int) : ∀ (n : Nat) (m : Int), (12 ≤ monthF y d n m ∨ d < daysI y (monthF y d n m + 1)) ∨ monthF y d n m = m + n
  | 0, m => .inr (by simp [monthF])
  | n + 1, m => by
    simp only [monthF]
    split
    · rcases monthF_up y d n (m + 1) with h | h
      · exact .inl h
      · exact .inr (by omega)
    · exact .inl (by omega)
theorem yearI_up {d : Int} (h0 : 0 ≤ d) (h1 : d ≤ 2932896) : d < daysI (yearI d + 1) 1 := by
  have b := date_b h0 h1
  rcases yearF_up d 1000 (1970 + d / 366) with h | h
  · exact h
  · have hb := yearF_b d 1000 _ (daysI_y0 d h0 h1)
    have := daysI_step hb.2 hb.1 h0 h1
    omega
theorem yearI_is {d y : Int} (h0 : 0 ≤ d) (h1 : d ≤ 2932896) (a : daysI y 1 ≤ d) (b : d < daysI (y + 1) 1) : yearI d = y := by
  have hb := yearF_b d 1000 _ (daysI_y0 d h0 h1)
  have hu := yearI_up h0 h1
  have hl : daysI (yearI d) 1 ≤ d := hb.2
  rcases Int.lt_trichotomy (yearI d) y with h | h | h
  · have := daysI_mono h; omega
  · exact h
  · have := daysI_mono h; omega
theorem monthsSum_mono (y : Int) {i j : Nat} (h : i ≤ j) : monthsSum y i ≤ monthsSum y j := by
  induction h with
  | refl => exact Int.le_refl _
  | step _ ih => have := monthLongI_b y ((‹Nat› : Nat) + 1 : Int); simp only [monthsSum]; have := monthLongI_b y; omega
theorem daysI_mmono {y m k : Int} (h1 : 1 ≤ m) (h : m ≤ k) : daysI y m ≤ daysI y k := by
  have := monthsSum_mono y (i := (m - 1).toNat) (j := (k - 1).toNat) (by omega)
  unfold daysI; omega
theorem monthI_is {d m : Int} (h0 : 0 ≤ d) (h1 : d ≤ 2932896) (m1 : 1 ≤ m) (m2 : m ≤ 12) (a : daysI (yearI d) m ≤ d) (b : d < daysI (yearI d) (m + 1)) : monthI d = m := by
  have hd : daysI (yearI d) 1 ≤ d := (yearF_b d 1000 _ (daysI_y0 d h0 h1)).2
  have hb := monthF_b (yearI d) d 12 1 (by omega) (by omega) hd
  have hu : 12 ≤ monthI d ∨ d < daysI (yearI d) (monthI d + 1) := by
    rcases monthF_up (yearI d) d 12 1 with h | h
    · exact h
    · exact .inl (by unfold monthI; omega)
  change 1 ≤ monthI d ∧ monthI d ≤ 12 ∧ daysI (yearI d) (monthI d) ≤ d at hb
  rcases Int.lt_trichotomy (monthI d) m with h | h | h
  · rcases hu with hu | hu
    · omega
    · have := daysI_mmono (y := yearI d) (m := monthI d + 1) (k := m) (by omega) (by omega); omega
  · exact h
  · have := daysI_mmono (y := yearI d) (m := m + 1) (k := monthI d) (by omega) (by omega); omega
theorem monthI_up {d : Int} (h0 : 0 ≤ d) (h1 : d ≤ 2932896) : d < daysI (yearI d) (monthI d + 1) := by
  have hd : daysI (yearI d) 1 ≤ d := (yearF_b d 1000 _ (daysI_y0 d h0 h1)).2
  have hb := monthF_b (yearI d) d 12 1 (by omega) (by omega) hd
  change 1 ≤ monthI d ∧ monthI d ≤ 12 ∧ daysI (yearI d) (monthI d) ≤ d at hb
  rcases monthF_up (yearI d) d 12 1 with h | h
  · change 12 ≤ monthI d ∨ d < daysI (yearI d) (monthI d + 1) at h
    rcases h with h | h
    · rw [show monthI d = 12 by omega, show (12 : Int) + 1 = 13 from rfl, daysI_13]; exact yearI_up h0 h1
    · exact h
  · change monthI d = 1 + ((12 : Nat) : Int) at h; omega
theorem yearI_9999 {d : Int} (h0 : 0 ≤ d) (h1 : d ≤ 2932896) : yearI d ≤ 9999 := by
  have hd : daysI (yearI d) 1 ≤ d := (yearF_b d 1000 _ (daysI_y0 d h0 h1)).2
  rw [daysI_1] at hd; omega

theorem u8n {a b : Int} (h : a = b) : UInt8.ofNat a.toNat = UInt8.ofNat b.toNat := by rw [h]
theorem padded2 {n : Int} (h0 : 0 ≤ n) (h1 : n ≤ 99) : paddedL n 2 = twoL n := by
  obtain ⟨k, rfl⟩ : ∃ k : Nat, n = k := ⟨n.toNat, by omega⟩
  unfold paddedL twoL
  rw [itoa_nat]
  by_cases h : k < 10
  · rw [dec_small h]
    rw [show (48 + (k : Int) / 10 % 10).toNat = 48 by omega, show (48 + (k : Int) % 10).toNat = 48 + k by omega]
    rfl
  · rw [dec_step (by omega), dec_small (by omega)]
    rw [show (48 + (k : Int) / 10 % 10).toNat = 48 + k / 10 by omega, show (48 + (k : Int) % 10).toNat = 48 + k % 10 by omega]
    rfl
theorem padded4 {n : Int} (h0 : 1000 ≤ n) (h1 : n ≤ 9999) : paddedL n 4 = twoL (n / 100) ++ twoL n := by
  obtain ⟨k, rfl⟩ : ∃ k : Nat, n = k := ⟨n.toNat, by omega⟩
  unfold paddedL twoL
  rw [itoa_nat, dec_step (by omega), dec_step (n := k / 10) (by omega), dec_step (n := k / 10 / 10) (by omega), dec_small (by omega)]
  rw [show (48 + (k : Int) / 100 / 10 % 10).toNat = 48 + k / 10 / 10 / 10 by omega, show (48 + (k : Int) / 100 % 10).toNat = 48 + k / 10 / 10 % 10 by omega, show (48 + (k : Int) / 10 % 10).toNat = 48 + k / 10 % 10 by omega, show (48 + (k : Int) % 10).toNat = 48 + k % 10 by omega]
  rfl
theorem dayName (d : Int) : List.take ((3 * ((d + 4) % 7) + 3).toNat - (3 * ((d + 4) % 7)).toNat) (List.drop (3 * ((d + 4) % 7)).toNat ([83, 117, 110, 77, 111, 110, 84, 117, 101, 87, 101, 100, 84, 104, 117, 70, 114, 105, 83, 97, 116] : List UInt8)) = wdN.getD ((d + 3) % 7).toNat [] := by
  rcases (by omega : d % 7 = 0 ∨ d % 7 = 1 ∨ d % 7 = 2 ∨ d % 7 = 3 ∨ d % 7 = 4 ∨ d % 7 = 5 ∨ d % 7 = 6) with h | h | h | h | h | h | h
  · rw [show (d + 4) % 7 = 4 by omega, show (d + 3) % 7 = 3 by omega]; rfl
  · rw [show (d + 4) % 7 = 5 by omega, show (d + 3) % 7 = 4 by omega]; rfl
  · rw [show (d + 4) % 7 = 6 by omega, show (d + 3) % 7 = 5 by omega]; rfl
  · rw [show (d + 4) % 7 = 0 by omega, show (d + 3) % 7 = 6 by omega]; rfl
  · rw [show (d + 4) % 7 = 1 by omega, show (d + 3) % 7 = 0 by omega]; rfl
  · rw [show (d + 4) % 7 = 2 by omega, show (d + 3) % 7 = 1 by omega]; rfl
  · rw [show (d + 4) % 7 = 3 by omega, show (d + 3) % 7 = 2 by omega]; rfl
/- a list's text; days -/
theorem ofN' {k : Nat} (h : k < 256) : (UInt8.ofNat k).toNat = k := by rw [UInt8.toNat_ofNat']; omega
theorem natOf_two' {n : Int} (h0 : 0 ≤ n) (h1 : n ≤ 99) : (natOf (twoL n) : Int) = n := by
  unfold natOf twoL
  simp only [List.foldl_cons, List.foldl_nil]
  rw [ofN' (by omega), ofN' (by omega)]
  omega
theorem natOf_four' {n : Int} (h0 : 0 ≤ n) (h1 : n ≤ 9999) : (natOf (twoL (n / 100) ++ twoL n) : Int) = n := by
  unfold natOf twoL
  simp only [List.cons_append, List.nil_append, List.foldl_cons, List.foldl_nil]
  rw [ofN' (by omega), ofN' (by omega), ofN' (by omega), ofN' (by omega)]
  omega
theorem dig_two' (n : Int) (h0 : 0 ≤ n) : (twoL n).all isDg = true := by
  unfold twoL isDg
  simp only [List.all_cons, List.all_nil, Bool.and_true, Bool.and_eq_true, decide_eq_true_eq]
  rw [ofN' (by omega), ofN' (by omega)]
  omega
theorem befI_mono {a b : Int} (h0 : 1 ≤ a) (h : a ≤ b) : befI a ≤ befI b := by unfold befI; omega
theorem sum12 (y : Int) : monthsSum y 12 = befI (y + 1) - befI y := by
  have e : monthLongI y 2 = (if y % 4 = 0 ∧ (y % 100 ≠ 0 ∨ y % 400 = 0) then 29 else 28) := by unfold monthLongI; rw [if_neg (by omega), if_pos rfl]
  have s : monthsSum y 12 = 31 + monthLongI y 2 + 31 + 30 + 31 + 30 + 31 + 31 + 30 + 31 + 30 + 31 := by
    simp only [monthsSum]
    simp [monthLongI]
  rw [s, e]
  unfold befI
  split <;> omega
theorem mSum_mono (y : Int) {a b : Nat} (h : a ≤ b) : monthsSum y a ≤ monthsSum y b := by
  induction b with
  | zero => obtain rfl : a = 0 := by omega
            exact Int.le_refl _
  | succ k ih =>
    by_cases e : a = k + 1
    · subst e; exact Int.le_refl _
    · have := ih (by omega)
      have := monthLongI_b y ((k : Int) + 1)
      simp only [monthsSum]; omega
/-- a day's date -/
def isYmd (d : Int) (t : Int × Int × Int) : Prop := 1 ≤ t.1 ∧ t.1 ≤ 9999 ∧ dyG t.1 t.2.1 t.2.2 = true ∧ dyI t.1 t.2.1 t.2.2 = d
theorem isYmd_of {d y m r : Int} (h1 : 1 ≤ y) (h2 : y ≤ 9999) (h3 : 1 ≤ m) (h4 : m ≤ 12) (h5 : 1 ≤ r) (h6 : r ≤ monthLongI y m) (h7 : befI y + r + monthsSum y (m - 1).toNat = d) : isYmd d (y, m, r) := ⟨h1, h2, decide_eq_true ⟨h1, h3, h4, h5, h6⟩, h7⟩
theorem isYmd_uniq {d : Int} {t u : Int × Int × Int} (ht : isYmd d t) (hu : isYmd d u) : t = u := by
  obtain ⟨y, m, r⟩ := t
  obtain ⟨z, n, q⟩ := u
  obtain ⟨a1, a2, a3, a4⟩ := ht
  obtain ⟨b1, b2, b3, b4⟩ := hu
  obtain ⟨_, a5, a6, a7, a8⟩ := of_decide_eq_true a3
  obtain ⟨_, b5, b6, b7, b8⟩ := of_decide_eq_true b3
  simp only at a5 a6 a7 a8 b5 b6 b7 b8
  have a4 : befI y + r + monthsSum y (m - 1).toNat = d := a4
  have b4 : befI z + q + monthsSum z (n - 1).toNat = d := b4
  have a1 : 1 ≤ y := a1
  have b1 : 1 ≤ z := b1
  have bnd : ∀ {y m r : Int}, 1 ≤ m → m ≤ 12 → 1 ≤ r → r ≤ monthLongI y m → 1 ≤ r + monthsSum y (m - 1).toNat ∧ r + monthsSum y (m - 1).toNat ≤ befI (y + 1) - befI y := fun {y m r} h1 h2 h3 h4 => by
    have g1 := monthsSum_b y (m - 1).toNat
    have g2 := mSum_mono y (show (m - 1).toNat + 1 ≤ 12 by omega)
    rw [sum12] at g2
    simp only [monthsSum] at g2
    rw [show (((m - 1).toNat : Nat) : Int) + 1 = m by omega] at g2
    omega
  have ba := bnd a5 a6 a7 a8
  have bb := bnd b5 b6 b7 b8
  have ey : y = z := by
    rcases Int.lt_trichotomy y z with h | h | h
    · have := befI_mono (a := y + 1) (b := z) (by omega) (by omega)
      omega
    · exact h
    · have := befI_mono (a := z + 1) (b := y) (by omega) (by omega)
      omega
  subst ey
  have em : m = n := by
    have st : ∀ {m n r : Int}, 1 ≤ m → m < n → r ≤ monthLongI y m → r + monthsSum y (m - 1).toNat ≤ monthsSum y (n - 1).toNat := fun {m n r} h1 h2 h3 => by
      have g := mSum_mono y (show (m - 1).toNat + 1 ≤ (n - 1).toNat by omega)
      simp only [monthsSum] at g
      rw [show (((m - 1).toNat : Nat) : Int) + 1 = m by omega] at g
      omega
    rcases Int.lt_trichotomy m n with h | h | h
    · have := st a5 h a8; omega
    · exact h
    · have := st b5 h b8; omega
  subst em
  have er : r = q := by omega
  rw [er]
theorem yr_ex {d : Int} : ∀ (n : Nat) (y : Int), befI y < d → d ≤ befI (y + n) → ∃ z, y ≤ z ∧ befI z < d ∧ d ≤ befI (z + 1)
  | 0, y, h1, h2 => by rw [show y + ((0 : Nat) : Int) = y by omega] at h2; omega
  | n + 1, y, h1, h2 => by
    by_cases h : d ≤ befI (y + 1)
    · exact ⟨y, Int.le_refl _, h1, h⟩
    · obtain ⟨z, z1, z2, z3⟩ := yr_ex (d := d) n (y + 1) (by omega) (by rw [show y + 1 + (n : Int) = y + ((n + 1 : Nat) : Int) by omega]; exact h2)
      exact ⟨z, by omega, z2, z3⟩
theorem mo_ex {y r : Int} : ∀ (k : Nat), 0 < r → r ≤ monthsSum y k → ∃ m, m < k ∧ monthsSum y m < r ∧ r ≤ monthsSum y (m + 1)
  | 0, h1, h2 => by simp only [monthsSum] at h2; omega
  | k + 1, h1, h2 => by
    by_cases h : r ≤ monthsSum y k
    · obtain ⟨m, m1, m2, m3⟩ := mo_ex k h1 h
      exact ⟨m, by omega, m2, m3⟩
    · exact ⟨k, by omega, by omega, h2⟩
theorem befI_1 : befI 1 = 0 := by decide
theorem befI_10000 : befI 10000 = 3652059 := by decide
theorem isYmd_ex {d : Int} (h1 : 1 ≤ d) (h2 : d ≤ 3652059) : ∃ t, isYmd d t := by
  obtain ⟨y, y1, y2, y3⟩ := yr_ex (d := d) 9999 1 (by rw [befI_1]; omega) (by rw [show (1 : Int) + ((9999 : Nat) : Int) = 10000 from rfl, befI_10000]; exact h2)
  have y4 : y ≤ 9999 := by
    apply Int.not_lt.1
    intro h
    have := befI_mono (a := 10000) (b := y) (by omega) (by omega)
    rw [befI_10000] at this; omega
  obtain ⟨m, m1, m2, m3⟩ := mo_ex (y := y) (r := d - befI y) 12 (by omega) (by rw [sum12]; omega)
  simp only [monthsSum] at m3
  refine ⟨(y, (m : Int) + 1, d - befI y - monthsSum y m), isYmd_of y1 y4 (by omega) (by omega) (by omega) (by omega) ?_⟩
  rw [show ((m : Int) + 1 - 1).toNat = m by omega]; omega
open Classical in
noncomputable def ymd (d : Int) : Int × Int × Int := if h : ∃ t, isYmd d t then Classical.choose h else (0, 0, 0)
theorem ymd_is {d : Int} (h1 : 1 ≤ d) (h2 : d ≤ 3652059) : isYmd d (ymd d) := by
  unfold ymd
  rw [dif_pos (isYmd_ex h1 h2)]
  exact Classical.choose_spec (isYmd_ex h1 h2)
theorem ymd_eq {d : Int} {t : Int × Int × Int} (h : isYmd d t) : ymd d = t := by
  unfold ymd
  rw [dif_pos ⟨t, h⟩]
  exact isYmd_uniq (Classical.choose_spec ⟨t, h⟩) h
noncomputable def dayT (d : Int) : List UInt8 := paddedL (ymd d).1 4 ++ [45] ++ paddedL (ymd d).2.1 2 ++ [45] ++ paddedL (ymd d).2.2 2
theorem padded4' {n : Int} (h0 : 0 ≤ n) (h1 : n ≤ 9999) : paddedL n 4 = twoL (n / 100) ++ twoL n := by
  by_cases g : 1000 ≤ n
  · exact padded4 g h1
  obtain ⟨k, rfl⟩ : ∃ k : Nat, n = k := ⟨n.toNat, by omega⟩
  unfold paddedL twoL
  rw [itoa_nat]
  by_cases h : k < 10
  · rw [dec_small h]
    rw [show (48 + (k : Int) / 100 / 10 % 10).toNat = 48 by omega, show (48 + (k : Int) / 100 % 10).toNat = 48 by omega, show (48 + (k : Int) / 10 % 10).toNat = 48 by omega, show (48 + (k : Int) % 10).toNat = 48 + k by omega]
    rfl
  · by_cases h2 : k < 100
    · rw [dec_step (by omega), dec_small (by omega)]
      rw [show (48 + (k : Int) / 100 / 10 % 10).toNat = 48 by omega, show (48 + (k : Int) / 100 % 10).toNat = 48 by omega, show (48 + (k : Int) / 10 % 10).toNat = 48 + k / 10 by omega, show (48 + (k : Int) % 10).toNat = 48 + k % 10 by omega]
      rfl
    · rw [dec_step (by omega), dec_step (n := k / 10) (by omega), dec_small (by omega)]
      rw [show (48 + (k : Int) / 100 / 10 % 10).toNat = 48 by omega, show (48 + (k : Int) / 100 % 10).toNat = 48 + k / 10 / 10 by omega, show (48 + (k : Int) / 10 % 10).toNat = 48 + k / 10 % 10 by omega, show (48 + (k : Int) % 10).toNat = 48 + k % 10 by omega]
      rfl
theorem twoL_len (n : Int) : (twoL n).length = 2 := rfl
/-- a day's text is read -/
theorem day_back {d : Int} (h1 : 1 ≤ d) (h2 : d ≤ 3652059) : dyB (dayT d) = true ∧ dyV (dayT d) = d ∧ (60 : UInt8) ∉ dayT d ∧ (dayT d).length = 10 := by
  have h := ymd_is h1 h2
  unfold dayT
  generalize ymd d = t at h
  obtain ⟨y, m, r⟩ := t
  obtain ⟨a1, a2, a3, a4⟩ := h
  have g := of_decide_eq_true a3
  obtain ⟨_, a5, a6, a7, a8⟩ := g
  have a1 : 1 ≤ y := a1
  have a2 : y ≤ 9999 := a2
  have a5 : 1 ≤ m := a5
  have a6 : m ≤ 12 := a6
  have a7 : 1 ≤ r := a7
  have a8 : r ≤ monthLongI y m := a8
  have mb := monthLongI_b y m
  simp only
  rw [padded4' (n := y) (by omega) (by omega), padded2 (n := m) (by omega) (by omega), padded2 (n := r) (by omega) (by omega)]
  have f1 : (twoL (y / 100) ++ twoL y ++ [45] ++ twoL m ++ [45] ++ twoL r).take 4 = twoL (y / 100) ++ twoL y := rfl
  have f2 : ((twoL (y / 100) ++ twoL y ++ [45] ++ twoL m ++ [45] ++ twoL r).drop 5).take 2 = twoL m := rfl
  have f3 : (twoL (y / 100) ++ twoL y ++ [45] ++ twoL m ++ [45] ++ twoL r).drop 8 = twoL r := rfl
  have f4 : (twoL (y / 100) ++ twoL y ++ [45] ++ twoL m ++ [45] ++ twoL r).length = 10 := rfl
  have f5 : (twoL (y / 100) ++ twoL y ++ [45] ++ twoL m ++ [45] ++ twoL r).getD 4 0 = 45 := rfl
  have f6 : (twoL (y / 100) ++ twoL y ++ [45] ++ twoL m ++ [45] ++ twoL r).getD 7 0 = 45 := rfl
  have nm : (60 : UInt8) ∉ twoL (y / 100) ++ twoL y ++ [45] ++ twoL m ++ [45] ++ twoL r := by
    have n2 : ∀ n : Int, 0 ≤ n → (60 : UInt8) ∉ twoL n := fun n hn hm => by
      have := List.all_eq_true.1 (dig_two' n hn) 60 hm
      revert this; decide
    simp only [List.mem_append, not_or]
    exact ⟨⟨⟨⟨⟨n2 _ (by omega), n2 _ (by omega)⟩, by decide⟩, n2 _ (by omega)⟩, by decide⟩, n2 _ (by omega)⟩
  generalize twoL (y / 100) ++ twoL y ++ [45] ++ twoL m ++ [45] ++ twoL r = s at *
  have eY : dyY s = y := by unfold dyY; rw [f1]; exact natOf_four' (by omega) (by omega)
  have eM : dyM s = m := by unfold dyM; rw [f2]; exact natOf_two' (by omega) (by omega)
  have eD : dyD s = r := by unfold dyD; rw [f3]; exact natOf_two' (by omega) (by omega)
  have eB : dyB s = true := by
    unfold dyB dyF
    rw [f1, f2, f3, f4, f5, f6, eY, eM, eD, a3, List.all_append, dig_two' _ (by omega), dig_two' _ (by omega), dig_two' _ (by omega), dig_two' _ (by omega)]
    rfl
  refine ⟨eB, ?_, nm, f4⟩
  unfold dyV
  rw [eB, eY, eM, eD]
  exact a4

theorem conPaddedM : Con pg 51 ckPadded := by
  have hct := (ctA_ok conItoa (ctA_ok conRepeat (ctN_ok _)))
  intro args q r h hq
  unfold ckPadded at h
  split at h
  · cases h
    rename_i n k
    refine w51 (fun _ => false) [] rfl hct rfl rfl ?_
    push_cast (config := { maxSteps := 10000000 })
    have := Lib.itoa_length_le n hq.1 hq.2.1
    have e : (Lib.repeatL [48] (max 0 (k - (Lib.itoa n).length)).toNat).length = (max 0 (k - (Lib.itoa n).length)).toNat := by simp [Lib.repeatL_length]
    refine ⟨by omega, by omega, by omega, by omega, rfl⟩
  · cases h
attribute [push_cast] ckPadded
theorem conPaddedR : Con pg 56 ckPadded := by
  have hct := (ctA_ok conItoa (ctA_ok conRepeat (ctN_ok _)))
  intro args q r h hq
  unfold ckPadded at h
  split at h
  · cases h
    rename_i n k
    refine w56 (fun _ => false) [] rfl hct rfl rfl ?_
    push_cast (config := { maxSteps := 10000000 })
    have := Lib.itoa_length_le n hq.1 hq.2.1
    have e : (Lib.repeatL [48] (max 0 (k - (Lib.itoa n).length)).toNat).length = (max 0 (k - (Lib.itoa n).length)).toNat := by simp [Lib.repeatL_length]
    refine ⟨by omega, by omega, by omega, by omega, rfl⟩
  · cases h
attribute [push_cast] ckPadded
theorem bef_9999 {y d : Int} (h : befI y < d) (h2 : d ≤ 3652059) (h1 : 1 ≤ y) : y ≤ 9999 := by
  apply Int.not_lt.1
  intro h3
  have := befI_mono (a := 10000) (b := y) (by omega) (by omega)
  rw [befI_10000] at this; omega
noncomputable def ckDayT : Ck
  | [.int .i64 d] => some (1 ≤ d ∧ d ≤ 3652059, .str (dayT d))
  | _ => none
theorem conDayT : Con pg 25 ckDayT := by
  have hct := (ctA_ok conBef4 (ctA_ok conMonthLong4 (ctA_ok conPaddedM (ctN_ok _))))
  intro args q r h hq
  unfold ckDayT at h
  split at h
  · cases h
    rename_i d
    refine w25 (fun _ => false) [] rfl hct rfl rfl ?_
    push_cast (config := { maxSteps := 10000000 })
    obtain ⟨q1, q2⟩ := hq
    refine ⟨⟨by omega, by omega⟩, ⟨by omega, by omega, by omega⟩, ⟨by omega, by omega⟩, ?_⟩
    refine LoopW.adj ⟨hct, fol⟩ (by kernel_rfl) [] (fun k : Nat => [(0, .int .i64 d), (3, .int .i64 ((d - 1) / 366 + 1 + k))]) (fun _ => []) (fun k => befI ((d - 1) / 366 + 1 + k) < d) (fun k => 10000 - k) 0 ?_ fun k hk => ?_
    · push_cast (config := { maxSteps := 10000000 })
      unfold befI; omega
    · push_cast (config := { maxSteps := 10000000 })
      have y9 := bef_9999 hk q2 (by omega)
      have bm := befI_mono (a := 1) (b := (d - 1) / 366 + 1 + k) (by omega) (by omega)
      have b1 : befI 1 = 0 := befI_1
      have e1 : (d - 1) / 366 + 1 + ((k + 1 : Nat) : Int) = (d - 1) / 366 + 1 + k + 1 := by omega
      refine ⟨⟨by omega, by omega⟩, ⟨by omega, by omega⟩, fun h => ⟨⟨by omega, by omega⟩, k + 1, by rw [e1]; exact h, by omega, e1.symm⟩, fun h => ⟨⟨by omega, by omega⟩, ⟨by omega, by omega⟩, ?_⟩⟩
      have hs := sum12 ((d - 1) / 366 + 1 + k)
      have y1 : 1 ≤ (d - 1) / 366 + 1 + (k : Int) := by omega
      generalize (d - 1) / 366 + 1 + (k : Int) = y at *
      clear e1
      refine LoopW.adj ⟨hct, fol⟩ (by kernel_rfl) [] (fun j : Nat => [(3, .int .i64 y), (4, .int .i64 (d - befI y - monthsSum y j)), (5, .int .i64 (j + 1))]) (fun _ => []) (fun j => j < 12 ∧ monthsSum y j < d - befI y) (fun j => 12 - j) 0 ?_ fun j hj => ?_
      · push_cast (config := { maxSteps := 10000000 })
        have : monthsSum y 0 = 0 := rfl
        omega
      · obtain ⟨j1, j2⟩ := hj
        have mb := monthLongI_b y ((j : Int) + 1)
        have ms := monthsSum_b y j
        have ms2 := mSum_mono y (show j ≤ 12 by omega)
        have sS : monthsSum y (j + 1) = monthsSum y j + monthLongI y ((j : Int) + 1) := rfl
        push_cast (config := { maxSteps := 10000000 })
        refine ⟨⟨by omega, by omega⟩, fun h => ⟨⟨by omega, by omega⟩, ⟨by omega, by omega⟩, ⟨by omega, by omega⟩, j + 1, ⟨?_, by omega⟩, by omega, by omega, by omega⟩, fun h => ?_⟩
        · by_cases e : j = 11
          · subst e
            have e12 : monthsSum y 12 = monthsSum y 11 + monthLongI y ((11 : Nat) + 1) := rfl
            rw [hs] at e12
            omega
          · omega
        · have ye : ymd d = (y, (j : Int) + 1, d - befI y - monthsSum y j) := ymd_eq (isYmd_of y1 y9 (by omega) (by omega) (by omega) (by omega) (by rw [show ((j : Int) + 1 - 1).toNat = j by omega]; omega))
          have p1 := paddedL_len (n := y) (k := 4) (by omega) (by omega) (by omega) (by omega)
          have p2 := paddedL_len (n := (j : Int) + 1) (k := 2) (by omega) (by omega) (by omega) (by omega)
          have p3 := paddedL_len (n := d - befI y - monthsSum y j) (k := 2) (by omega) (by omega) (by omega) (by omega)
          refine ⟨⟨by omega, by omega⟩, by omega, ⟨by omega, by omega⟩, by omega, by omega, ⟨by omega, by omega⟩, by omega, ?_⟩
          unfold dayT
          rw [ye]
  · cases h
attribute [push_cast] ckDayT
theorem conDateT : Con pg 30 ckDayT := by
  have hct := (ctA_ok conBef4r (ctA_ok conDaysOf4 (ctA_ok conPaddedR (ctN_ok _))))
  intro args q r h hq
  unfold ckDayT at h
  split at h
  · cases h
    rename_i d
    refine w30 (fun _ => false) [] rfl hct rfl rfl ?_
    push_cast (config := { maxSteps := 10000000 })
    obtain ⟨q1, q2⟩ := hq
    refine ⟨⟨by omega, by omega, by omega⟩, ⟨by omega, by omega⟩, ?_⟩
    refine LoopW.adj ⟨hct, fol⟩ (by kernel_rfl) [] (fun k : Nat => [(0, .int .i64 d), (3, .int .i64 (d / 366 + 1 + k))]) (fun _ => []) (fun k => befI (d / 366 + 1 + k) < d) (fun k => 10000 - k) 0 ?_ fun k hk => ?_
    · push_cast (config := { maxSteps := 10000000 })
      unfold befI; omega
    · push_cast (config := { maxSteps := 10000000 })
      have y9 := bef_9999 hk q2 (by omega)
      have bm := befI_mono (a := 1) (b := d / 366 + 1 + k) (by omega) (by omega)
      have b1 : befI 1 = 0 := befI_1
      have e1 : d / 366 + 1 + ((k + 1 : Nat) : Int) = d / 366 + 1 + k + 1 := by omega
      refine ⟨⟨by omega, by omega⟩, ⟨by omega, by omega⟩, fun h => ⟨⟨by omega, by omega⟩, k + 1, by rw [e1]; exact h, by omega, e1.symm⟩, fun h => ⟨⟨by omega, by omega⟩, ⟨by omega, by omega⟩, ?_⟩⟩
      have hs := sum12 (d / 366 + 1 + k)
      have y1 : 1 ≤ d / 366 + 1 + (k : Int) := by omega
      generalize d / 366 + 1 + (k : Int) = y at *
      clear e1
      refine LoopW.adj ⟨hct, fol⟩ (by kernel_rfl) [] (fun j : Nat => [(0, .int .i64 (d - befI y - monthsSum y j)), (3, .int .i64 y), (4, .int .i64 (j + 1))]) (fun _ => []) (fun j => j < 12 ∧ monthsSum y j < d - befI y) (fun j => 12 - j) 0 ?_ fun j hj => ?_
      · push_cast (config := { maxSteps := 10000000 })
        have : monthsSum y 0 = 0 := rfl
        omega
      · obtain ⟨j1, j2⟩ := hj
        have mb := monthLongI_b y ((j : Int) + 1)
        have ms := monthsSum_b y j
        have ms2 := mSum_mono y (show j ≤ 12 by omega)
        have sS : monthsSum y (j + 1) = monthsSum y j + monthLongI y ((j : Int) + 1) := rfl
        push_cast (config := { maxSteps := 10000000 })
        refine ⟨⟨by omega, by omega⟩, fun h => ⟨⟨by omega, by omega⟩, ⟨by omega, by omega⟩, ⟨by omega, by omega⟩, j + 1, ⟨?_, by omega⟩, by omega, by omega, by omega⟩, fun h => ?_⟩
        · by_cases e : j = 11
          · subst e
            have e12 : monthsSum y 12 = monthsSum y 11 + monthLongI y ((11 : Nat) + 1) := rfl
            rw [hs] at e12
            omega
          · omega
        · have ye : ymd d = (y, (j : Int) + 1, d - befI y - monthsSum y j) := ymd_eq (isYmd_of y1 y9 (by omega) (by omega) (by omega) (by omega) (by rw [show ((j : Int) + 1 - 1).toNat = j by omega]; omega))
          have p1 := paddedL_len (n := y) (k := 4) (by omega) (by omega) (by omega) (by omega)
          have p2 := paddedL_len (n := (j : Int) + 1) (k := 2) (by omega) (by omega) (by omega) (by omega)
          have p3 := paddedL_len (n := d - befI y - monthsSum y j) (k := 2) (by omega) (by omega) (by omega) (by omega)
          refine ⟨⟨by omega, by omega⟩, by omega, ⟨by omega, by omega⟩, by omega, by omega, ⟨by omega, by omega⟩, by omega, ?_⟩
          unfold dayT
          rw [ye]
  · cases h
attribute [push_cast] ckDayT

end Go.Abs
