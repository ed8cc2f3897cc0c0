/- what functions of this program compute: contracts, each a function's own -/
import Derived.Test.YtoahlpjghbhbaaaGreatDoorAbsK3
import Derived.Test.YtoahlpjghbhbaaaGreatDoorAbsFacts
import Derived.Test.YtoahlpjghbhbaaaGreatDoorAbsF4
import Derived.Test.YtoahlpjghbhbaaaGreatDoorAbsShelf
import Derived.Lib.SplitLaws
import Derived.Lib.Overlaps
import Derived.Deep.AppendSrc
import Derived.Laws.NewBlocks
import Derived.WalkKit
import Derived.Lib.Walk
import Derived.Lib.AppendStr
import Derived.Lib.AppendZeros
import Derived.Lib.UnsafeStr
import Derived.Lib.Builder
import Derived.Laws.Externs
import Derived.Lib.Repeat
import Derived.Lib.ItoaLen
import Derived.Lib.SlTrimSet
import Derived.Lib.Atoi
import Derived.Lib.Itoa
import Derived.Lib.ItoaNum
import Derived.Lib.AtoiErrMem
namespace Go.Abs
open Go Go.Proofs
set_option maxHeartbeats 4000000
set_option maxRecDepth 100000
set_option linter.unusedVariables false
set_option linter.unusedSimpArgs false
theorem slice_drop {s : List UInt8} {a : Nat} (h : a ≤ s.length) : (s.drop a).take (s.length - a) = s.drop a := List.take_of_length_le (by rw [List.length_drop]; omega)
theorem pre1 (s : List UInt8) (a : Nat) (c : UInt8) : hasPre (s.drop a) [c] = isAt s a c.toNat := by
  rw [Bool.eq_iff_iff, isAt_iff]
  unfold hasPre
  rw [Bool.and_eq_true, decide_eq_true_eq, beq_iff_eq, List.length_drop, List.length_singleton]
  constructor
  · rintro ⟨h1, h2⟩
    rw [dropD s a (by omega)] at h2
    have := (List.cons.inj h2).1
    exact ⟨by omega, by rw [this]⟩
  · rintro ⟨h1, h2⟩
    refine ⟨by omega, ?_⟩
    rw [dropD s a h1]
    have : s.getD a 0 = c := UInt8.toNat_inj.1 h2
    rw [this]; rfl
def ckPlaceK : List V → List Blk → Option (Prop × V × List Blk)
  | [.ptr _ 0], [.cells [.str s, .int .i64 a, .str sc, .str _, .str [], .str pa, .str qu, .bool hq, .str fr, .bool hf]] => some (s.length ≤ 2000 ∧ 0 ≤ a ∧ a ≤ s.length, .bool (plcL s a.toNat).ok, [.cells [.str s, .int .i64 (plcL s a.toNat).at', .str sc, .str (plcL s a.toNat).ho, .str (plcL s a.toNat).po, .str pa, .str qu, .bool hq, .str fr, .bool hf]])
  | _, _ => none
def ckPlace : Cf := ⟨fun | [.ptr i _] => [i] | _ => [], ckPlaceK⟩
theorem conPlace : FCon pg 58 ckPlace := by
  have hct := (ctA_ok conHostEnd (ctA_ok conIsHost0 (ctA_ok conHasPre (ctA_ok conIsDig (ctA_ok conPortOf (ctA_ok conIndexByte (ctN_ok _)))))))
  intro args bs q r bs' h hq
  replace h : ckPlaceK args bs = some (q, r, bs') := h
  unfold ckPlaceK at h
  split at h
  · cases h
    rename_i i s a sc ho pa qu hq1 fr hf
    refine ⟨rfl, by first | exact Nat.le_refl _ | exact Nat.zero_le _, ?_⟩
    obtain ⟨h1, h2, h3⟩ := hq
    obtain ⟨a, rfl⟩ : ∃ k : Nat, a = k := ⟨a.toNat, by omega⟩
    rw [Int.toNat_natCast]
    show FCall pg 58 [.ptr (i + 9000) 0] [(i + 9000, .cells [.str s, .int .i64 a, .str sc, .str ho, .str [], .str pa, .str qu, .bool hq1, .str fr, .bool hf])] (.bool (plcL s a).ok) [(i + 9000, .cells [.str s, .int .i64 (plcL s a).at', .str sc, .str (plcL s a).ho, .str (plcL s a).po, .str pa, .str qu, .bool hq1, .str fr, .bool hf])]
    refine fw58 (fun _ => false) [] rfl hct rfl (by simp) (by simp [hlIn, idsIn, Blk.menIn, V.menInL, V.menIn, V.flat, byF, lsF]) (by simp [V.menIn, V.menInL, idsIn]) ?_
    push_cast (config := { maxSteps := 10000000 })
    have hb := hoN_le (s := s) (a := a) (by omega)
    have e1 : runN hostB (s.drop a) = hoN s a := rfl
    rw [e1]
    have e2 : ((a : Int) + (hoN s a : Int)).toNat - a = hoN s a := by omega
    have e3 : ((a : Int) + (hoN s a : Int)).toNat = a + hoN s a := by omega
    have e4 : (s.drop a).take (hoN s a) = cutS s a (hoN s a) := rfl
    rw [e2, e3, e4]
    have pre := pre1 s (a + hoN s a) 58
    have pre : hasPre (s.drop (a + hoN s a)) [58] = isAt s (a + hoN s a) 58 := pre
    rw [pre]
    refine ⟨by omega, by omega, ⟨by omega, by omega⟩, ⟨⟨by omega, by omega⟩, by omega, by omega⟩, by omega, fun h => ?_, fun h => ⟨⟨by omega, by omega⟩, ⟨⟨by omega, by omega⟩, by omega⟩, by omega, fun hc => ⟨⟨by omega, by omega⟩, ?_⟩, fun hc => ?_⟩⟩
    · unfold plcL; rw [if_pos h]; exact ⟨rfl, rfl, rfl, rfl⟩
    · have hc1 := isAt_lt hc
      have hP : plcL s a = if portN (cutS s (a + hoN s a + 1) (poN s (a + hoN s a + 1))) = 0 then ⟨false, a + hoN s a + 1, cutS s a (hoN s a), cutS s (a + hoN s a + 1) (poN s (a + hoN s a + 1))⟩
         else ⟨endB s (a + hoN s a + 1 + poN s (a + hoN s a + 1)), a + hoN s a + 1 + poN s (a + hoN s a + 1), cutS s a (hoN s a), cutS s (a + hoN s a + 1) (poN s (a + hoN s a + 1))⟩ := by
        unfold plcL; rw [if_neg (by rw [h]; simp), if_pos hc]
      rw [hP]
      have hb2 := poN_le (s := s) (a := a + hoN s a + 1) (by omega)
      generalize hB : a + hoN s a + 1 = B at hb2 hP ⊢
      have eB : (a : Int) + (hoN s a : Int) + 1 = (B : Int) := by omega
      rw [eB]
      generalize cutS s a (hoN s a) = H
      refine LoopW.adj ⟨hct, fol⟩ (by kernel_rfl) [] (fun n : Nat => [(0, .ptr (i + 9000) 0), (4, .int .i64 ((B + n : Nat) : Int))]) (fun n => [(i + 9000, .cells [.str s, .int .i64 B, .str sc, .str H, .str [], .str pa, .str qu, .bool hq1, .str fr, .bool hf])]) (fun n => B + n ≤ s.length ∧ ∀ j, j < n → digB ((s.drop B).getD j 0) = true) (fun n => s.length - n) 0 ?_ fun n hn => ?_
      · push_cast (config := { maxSteps := 10000000 })
        exact ⟨by omega, by omega⟩
      · push_cast (config := { maxSteps := 10000000 })
        obtain ⟨n1, n2⟩ := hn
        have e5 : ((B : Int) + (n : Int)).toNat = B + n := by omega
        have e6 : ((B : Int) + (n : Int)).toNat - B = n := by omega
        have e7 : (s.drop B).getD n 0 = s.getD (B + n) 0 := by rw [List.getD_eq_getElem?_getD, List.getD_eq_getElem?_getD, List.getElem?_drop]
        rw [e5]
        rw [e5] at e6
        rw [e6]
        refine ⟨fun h => ⟨h, by omega, h⟩, fun h => ⟨⟨by omega, by omega⟩, n + 1, ⟨by omega, fun j hj => ?_⟩, by omega, by omega⟩, fun h => ?_⟩
        · by_cases e : j = n
          · subst e; rw [e7]; exact h.2
          · exact n2 j (by omega)
        have eN : poN s B = n := by
          unfold poN
          refine runN_at (by rw [List.length_drop]; omega) n2 fun hlt => ?_
          rw [List.length_drop] at hlt
          rw [e7]; exact h (by omega)
        rw [eN]
        have eC : (s.drop B).take n = cutS s B n := rfl
        rw [eC]
        refine ⟨⟨⟨by omega, by omega⟩, by omega, by omega⟩, by omega, fun h0 => ?_, fun h0 => ?_⟩
        · rw [if_pos h0]; exact ⟨rfl, rfl, rfl, rfl⟩
        · rw [if_neg h0]
          refine ⟨fun x => ⟨x, by omega, by omega⟩, ?_, by show _ = ((B + n : Nat) : Int); omega, rfl, rfl⟩
          show _ = endB s (B + n)
          unfold endB
          congr 1
          rw [Bool.eq_iff_iff, beq_iff_eq, decide_eq_true_eq]; omega
    · unfold plcL
      rw [if_neg (by rw [h]; simp), if_neg (by rw [hc]; simp)]
      refine ⟨fun x => ⟨x, by omega, by omega⟩, ?_, by show _ = ((a + hoN s a : Nat) : Int); omega, rfl, rfl⟩
      unfold endB
      congr 1
      rw [Bool.eq_iff_iff, beq_iff_eq, decide_eq_true_eq]; omega
  · cases h
attribute [push_cast] ckPlaceK
def ckRowK : List V → List Blk → Option (Prop × V × List Blk)
  | [.ptr _ 0, .str w], [.cells [.str s, .int .i64 a, .str sc, .str ho, .str po, .str pa, .str qu, .bool hq, .str fr, .bool hf]] => some (s.length ≤ 2000 ∧ 0 ≤ a ∧ a ≤ s.length, .tup [.str (cutS s a.toNat (rdRow s a.toNat w).1), .bool (rdRow s a.toNat w).2], [.cells [.str s, .int .i64 (a + (rdRow s a.toNat w).1), .str sc, .str ho, .str po, .str pa, .str qu, .bool hq, .str fr, .bool hf]])
  | _, _ => none
def ckRow : Cf := ⟨fun | [.ptr i _, _] => [i] | _ => [], ckRowK⟩
theorem conRow : FCon pg 89 ckRow := by
  have hct := (ctA_ok conRowEnd (ctN_ok _))
  intro args bs q r bs' h hq
  replace h : ckRowK args bs = some (q, r, bs') := h
  unfold ckRowK at h
  split at h
  · cases h
    rename_i i w s a sc ho po pa qu hq1 fr hf
    refine ⟨rfl, by first | exact Nat.le_refl _ | exact Nat.zero_le _, ?_⟩
    obtain ⟨h1, h2, h3⟩ := hq
    obtain ⟨a, rfl⟩ : ∃ k : Nat, a = k := ⟨a.toNat, by omega⟩
    rw [Int.toNat_natCast]
    show FCall pg 89 [.ptr (i + 9000) 0, .str w] [(i + 9000, .cells [.str s, .int .i64 a, .str sc, .str ho, .str po, .str pa, .str qu, .bool hq1, .str fr, .bool hf])] (.tup [.str (cutS s a (rdRow s a w).1), .bool (rdRow s a w).2]) [(i + 9000, .cells [.str s, .int .i64 (a + (rdRow s a w).1), .str sc, .str ho, .str po, .str pa, .str qu, .bool hq1, .str fr, .bool hf])]
    refine fw89 (fun _ => false) [] rfl hct rfl (by simp) (by simp [hlIn, idsIn, Blk.menIn, V.menInL, V.menIn, V.flat, byF, lsF]) (by simp [V.menIn, V.menInL, idsIn]) ?_
    push_cast (config := { maxSteps := 10000000 })
    have hb := rdRow_le (s := s) (a := a) (w := w) (by omega)
    have e1 : reL (s.drop a) w (s.length - a + 1) 0 = rdRow s a w := by unfold rdRow; rw [List.length_drop]
    rw [e1]
    have e2 : ((a : Int) + ((rdRow s a w).1 : Int)).toNat - a = (rdRow s a w).1 := by omega
    rw [e2]
    exact ⟨by omega, by omega, ⟨by omega, by omega⟩, ⟨⟨by omega, by omega⟩, by omega, by omega⟩, ⟨by omega, by omega⟩, ⟨rfl, rfl⟩, rfl⟩
  · cases h
attribute [push_cast] ckRowK
@[push_cast] theorem place_ids (i o : Nat) : ckPlace.ids [.ptr i o] = [i] := rfl
@[push_cast] theorem place_k (i : Nat) (s sc ho pa qu fr : List UInt8) (hq hf : Bool) (a : Int) : ckPlace.k [.ptr i 0] [.cells [.str s, .int .i64 a, .str sc, .str ho, .str [], .str pa, .str qu, .bool hq, .str fr, .bool hf]] = some (s.length ≤ 2000 ∧ 0 ≤ a ∧ a ≤ s.length, .bool (plcL s a.toNat).ok, [.cells [.str s, .int .i64 (plcL s a.toNat).at', .str sc, .str (plcL s a.toNat).ho, .str (plcL s a.toNat).po, .str pa, .str qu, .bool hq, .str fr, .bool hf]]) := rfl
@[push_cast] theorem row_ids (i o : Nat) (x : V) : ckRow.ids [.ptr i o, x] = [i] := rfl
@[push_cast] theorem row_k (i : Nat) (w s sc ho po pa qu fr : List UInt8) (hq hf : Bool) (a : Int) : ckRow.k [.ptr i 0, .str w] [.cells [.str s, .int .i64 a, .str sc, .str ho, .str po, .str pa, .str qu, .bool hq, .str fr, .bool hf]] = some (s.length ≤ 2000 ∧ 0 ≤ a ∧ a ≤ s.length, .tup [.str (cutS s a.toNat (rdRow s a.toNat w).1), .bool (rdRow s a.toNat w).2], [.cells [.str s, .int .i64 (a + (rdRow s a.toNat w).1), .str sc, .str ho, .str po, .str pa, .str qu, .bool hq, .str fr, .bool hf]]) := rfl
theorem rest3 {s P Q : List UInt8} {d : Nat} {b : Bool} (h1 : s.length ≤ 2000) (hd : d ≤ s.length) {R : Rst} (hR : R = rst3 s d P Q b) : ((0 ≤ (d : Int) ∧ (d : Int) ≤ s.length) ∧ (d : Int) ≤ s.length) ∧
    ((s.length - d : Nat) : Int) ≤ 4611686018427387904 ∧
      (hasPre (s.drop d) [35] = true → (-9223372036854775808 ≤ ((d + 1 : Nat) : Int) ∧ ((d + 1 : Nat) : Int) ≤ 9223372036854775807) ∧
          (s.length ≤ 2000 ∧ 0 ≤ ((d + 1 : Nat) : Int) ∧ ((d + 1 : Nat) : Int) ≤ s.length) ∧
            ((rdRow s (d + 1) []).2 = false → false = R.ok ∧ ((d + 1 : Nat) : Int) + (rdRow s (d + 1) []).1 = R.at' ∧ P = R.pa ∧ Q = R.qu ∧ b = R.hq ∧ cutS s (d + 1) (rdRow s (d + 1) []).1 = R.fr ∧ true = R.hf) ∧
            ((rdRow s (d + 1) []).2 = true → true = R.ok ∧ ((d + 1 : Nat) : Int) + (rdRow s (d + 1) []).1 = R.at' ∧ P = R.pa ∧ Q = R.qu ∧ b = R.hq ∧ cutS s (d + 1) (rdRow s (d + 1) []).1 = R.fr ∧ true = R.hf)) ∧
      (hasPre (s.drop d) [35] = false → true = R.ok ∧ (d : Int) = R.at' ∧ P = R.pa ∧ Q = R.qu ∧ b = R.hq ∧ [] = R.fr ∧ false = R.hf) := by
  subst hR
  have hp : hasPre (s.drop d) [35] = isAt s d 35 := pre1 s d 35
  rw [hp]
  refine ⟨⟨⟨by omega, by omega⟩, by omega⟩, by omega, fun h => ?_, fun h => ?_⟩
  · have hl := isAt_lt h
    have hr := rdRow_le (s := s) (a := d + 1) (w := []) (by omega)
    unfold rst3
    rw [if_pos h]
    exact ⟨⟨by omega, by omega⟩, ⟨h1, by omega, by omega⟩, fun h2 => ⟨h2.symm, by show _ = ((d + 1 + (rdRow s (d + 1) []).1 : Nat) : Int); omega, rfl, rfl, rfl, rfl, rfl⟩, fun h2 => ⟨h2.symm, by show _ = ((d + 1 + (rdRow s (d + 1) []).1 : Nat) : Int); omega, rfl, rfl, rfl, rfl, rfl⟩⟩
  · unfold rst3
    rw [if_neg (by rw [h]; simp)]
    exact ⟨rfl, rfl, rfl, rfl, rfl, rfl, rfl⟩
def ckRestK : List V → List Blk → Option (Prop × V × List Blk)
  | [.ptr _ 0], [.cells [.str s, .int .i64 a, .str sc, .str ho, .str po, .str _, .str [], .bool false, .str [], .bool false]] => some (s.length ≤ 2000 ∧ 0 ≤ a ∧ a ≤ s.length, .bool (rstL s a.toNat).ok, [.cells [.str s, .int .i64 (rstL s a.toNat).at', .str sc, .str ho, .str po, .str (rstL s a.toNat).pa, .str (rstL s a.toNat).qu, .bool (rstL s a.toNat).hq, .str (rstL s a.toNat).fr, .bool (rstL s a.toNat).hf]])
  | _, _ => none
def ckRest : Cf := ⟨fun | [.ptr i _] => [i] | _ => [], ckRestK⟩
theorem conRest : FCon pg 59 ckRest := by
  have hct := (ctF_ok conRow (ctA_ok conHasPre (ctN_ok _)))
  intro args bs q r bs' h hq
  replace h : ckRestK args bs = some (q, r, bs') := h
  unfold ckRestK at h
  split at h
  · cases h
    rename_i i s a sc ho po pa
    refine ⟨rfl, by first | exact Nat.le_refl _ | exact Nat.zero_le _, ?_⟩
    obtain ⟨h1, h2, h3⟩ := hq
    obtain ⟨a, rfl⟩ : ∃ k : Nat, a = k := ⟨a.toNat, by omega⟩
    rw [Int.toNat_natCast]
    show FCall pg 59 [.ptr (i + 9000) 0] [(i + 9000, .cells [.str s, .int .i64 a, .str sc, .str ho, .str po, .str pa, .str [], .bool false, .str [], .bool false])] (.bool (rstL s a).ok) [(i + 9000, .cells [.str s, .int .i64 (rstL s a).at', .str sc, .str ho, .str po, .str (rstL s a).pa, .str (rstL s a).qu, .bool (rstL s a).hq, .str (rstL s a).fr, .bool (rstL s a).hf])]
    refine fw59 (fun _ => false) [] rfl hct rfl (by simp) (by simp [hlIn, idsIn, Blk.menIn, V.menInL, V.menIn, V.flat, byF, lsF]) (by simp [V.menIn, V.menInL, idsIn]) ?_
    push_cast (config := { maxSteps := 10000000 })
    have hr1 := rdRow_le (s := s) (a := a) (w := [63, 35]) (by omega)
    have hL : rstL s a = if (rdRow s a [63, 35]).2 = false then ⟨false, a + (rdRow s a [63, 35]).1, cutS s a (rdRow s a [63, 35]).1, [], false, [], false⟩ else rst2 s (a + (rdRow s a [63, 35]).1) (cutS s a (rdRow s a [63, 35]).1) := rfl
    generalize rdRow s a [63, 35] = r1 at hr1 hL ⊢
    obtain ⟨n1, o1⟩ := r1
    simp only at hr1 hL ⊢
    obtain ⟨c, hc⟩ : ∃ c : Nat, c = a + n1 := ⟨_, rfl⟩
    have ec : (a : Int) + (n1 : Int) = (c : Int) := by omega
    have ec1 : (c : Int) + 1 = ((c + 1 : Nat) : Int) := by omega
    rw [← hc] at hL hr1
    generalize cutS s a n1 = P at hL ⊢
    simp only [ec, ec1, Int.toNat_natCast]
    refine ⟨⟨h1, by omega⟩, fun h => ?_, fun h => ⟨⟨⟨by omega, by omega⟩, by omega⟩, by omega, fun hq => ?_, fun hq => ?_⟩⟩
    · rw [hL, if_pos h]; exact ⟨rfl, rfl, rfl, rfl, rfl, rfl, rfl⟩
    all_goals rw [if_neg (by rw [h]; simp)] at hL
    all_goals rw [show hasPre (s.drop c) [63] = isAt s c 63 from pre1 s c 63] at hq
    · have hlt := isAt_lt hq
      have hL : rstL s a = if (rdRow s (c + 1) [35]).2 = false then ⟨false, c + 1 + (rdRow s (c + 1) [35]).1, P, cutS s (c + 1) (rdRow s (c + 1) [35]).1, true, [], false⟩ else rst3 s (c + 1 + (rdRow s (c + 1) [35]).1) P (cutS s (c + 1) (rdRow s (c + 1) [35]).1) true := by rw [hL]; unfold rst2; rw [if_pos hq]
      have hr2 := rdRow_le (s := s) (a := c + 1) (w := [35]) (by omega)
      generalize rdRow s (c + 1) [35] = r2 at hr2 hL ⊢
      obtain ⟨n2, o2⟩ := r2
      simp only at hr2 hL ⊢
      obtain ⟨d, hd⟩ : ∃ d : Nat, d = c + 1 + n2 := ⟨_, rfl⟩
      have ed : ((c + 1 : Nat) : Int) + (n2 : Int) = (d : Int) := by omega
      have ed1 : (d : Int) + 1 = ((d + 1 : Nat) : Int) := by omega
      rw [← hd] at hL hr2
      generalize cutS s (c + 1) n2 = Q at hL ⊢
      simp only [ed, ed1, Int.toNat_natCast]
      refine ⟨⟨by omega, by omega⟩, ⟨h1, by omega, by omega⟩, fun ho => ?_, fun ho => ?_⟩
      · rw [hL, if_pos ho]; exact ⟨rfl, rfl, rfl, rfl, rfl, rfl, rfl⟩
      · exact rest3 h1 hr2 (by rw [hL, if_neg (by rw [ho]; simp)])
    · have hL : rstL s a = rst3 s c P [] false := by rw [hL]; unfold rst2; rw [if_neg (by rw [hq]; simp)]
      exact rest3 h1 hr1 hL
  · cases h
attribute [push_cast] ckRestK
@[push_cast] theorem rest_ids (i o : Nat) : ckRest.ids [.ptr i o] = [i] := rfl
@[push_cast] theorem rest_k (i : Nat) (s sc ho po pa : List UInt8) (a : Int) : ckRest.k [.ptr i 0] [.cells [.str s, .int .i64 a, .str sc, .str ho, .str po, .str pa, .str [], .bool false, .str [], .bool false]] = some (s.length ≤ 2000 ∧ 0 ≤ a ∧ a ≤ s.length, .bool (rstL s a.toNat).ok, [.cells [.str s, .int .i64 (rstL s a.toNat).at', .str sc, .str ho, .str po, .str (rstL s a.toNat).pa, .str (rstL s a.toNat).qu, .bool (rstL s a.toNat).hq, .str (rstL s a.toNat).fr, .bool (rstL s a.toNat).hf]]) := rfl
def ckReadA : Ck
  | [.str s] => some (True, .tup [cAdr.enc (readA s).1, .int .i64 (readA s).2.1, .int .i64 (readA s).2.2])
  | _ => none
theorem conReadA : Con pg 32 ckReadA := by
  have hct := (ctA_ok conScheme (ctF_ok conPlace (ctF_ok conRest (ctN_ok _))))
  intro args q r h hq
  unfold ckReadA at h
  split at h
  · cases h
    rename_i s
    refine w32 (fun _ => false) [] rfl hct rfl rfl ?_
    push_cast (config := { maxSteps := 10000000 })
    have hb := sch_b s
    have hp := plc_b (s := s) (a := (schL s).2) hb
    refine ⟨fun h => ?_, fun h => ⟨by omega, fun h1 => ?_, fun h1 => ⟨⟨by omega, hb⟩, fun h2 => ⟨h2, ⟨by omega, hp⟩, fun h3 => ?_, fun h3 => ?_⟩, fun h2 => ⟨fun x => (by rw [h2] at x; cases x), ?_⟩⟩⟩⟩
    · have e : readA s = (noAdr, 0, 2) := by unfold readA; rw [if_pos (by omega)]
      rw [e]; exact ⟨⟨rfl, rfl, rfl, rfl, rfl, rfl, rfl, rfl⟩, rfl, rfl⟩
    · have e : readA s = (noAdr, ((schL s).2 : Int), 10) := by unfold readA; rw [if_neg (by omega), if_pos h1]
      rw [e]; exact ⟨⟨rfl, rfl, rfl, rfl, rfl, rfl, rfl, rfl⟩, rfl, rfl⟩
    · have h3 : (rstL s (plcL s (schL s).2).at').ok = false := h3.resolve_left (by rw [h2]; simp)
      have e : readA s = (noAdr, ((rstL s (plcL s (schL s).2).at').at' : Int), 10) := by unfold readA; rw [if_neg (by omega), if_neg (by rw [h1]; simp), if_neg (by rw [h2]; simp), if_pos h3]
      rw [e]; exact ⟨⟨rfl, rfl, rfl, rfl, rfl, rfl, rfl, rfl⟩, rfl, rfl⟩
    · have e : readA s = (⟨s.take ((schL s).2 - 3), (plcL s (schL s).2).ho, (plcL s (schL s).2).po, (rstL s (plcL s (schL s).2).at').pa, (rstL s (plcL s (schL s).2).at').qu, (rstL s (plcL s (schL s).2).at').hq, (rstL s (plcL s (schL s).2).at').fr, (rstL s (plcL s (schL s).2).at').hf⟩, 0, 0) := by unfold readA; rw [if_neg (by omega), if_neg (by rw [h1]; simp), if_neg (by rw [h2]; simp), if_neg (by rw [h3.2]; simp)]
      rw [e, if_pos h1]; exact ⟨⟨rfl, rfl, rfl, rfl, rfl, rfl, rfl, rfl⟩, rfl, rfl⟩
    · have e : readA s = (noAdr, ((plcL s (schL s).2).at' : Int), 10) := by unfold readA; rw [if_neg (by omega), if_neg (by rw [h1]; simp), if_pos h2]
      rw [e]; exact ⟨⟨rfl, rfl, rfl, rfl, rfl, rfl, rfl, rfl⟩, rfl, rfl⟩
  · cases h
attribute [push_cast] ckReadA

/-- what is wrong with an entry -/
def entBad (ix : Bool) (e : Ent) : Int :=
  if (readA e.loc).2.2 ≠ 0 then 3 else if e.day < 0 ∨ 3652059 < e.day ∨ e.wt < -1 ∨ 10 < e.wt then 1 else if ix = true ∧ e.wt ≠ -1 then 3 else 0
def badL (ix : Bool) : List Ent → Int
  | [] => 0
  | e :: r => if entBad ix e = 0 then badL ix r else entBad ix e
def chkM (m : SMp) : Int := if 1000 < m.en.length then 2 else badL m.ix m.en
theorem badL_all {ix : Bool} : ∀ {l : List Ent}, (∀ j, j < l.length → entBad ix (l.getD j noEnt) = 0) → badL ix l = 0
  | [], _ => rfl
  | e :: r, h => by
    unfold badL
    have h0 := h 0 (by simp)
    rw [if_pos (by simpa using h0)]
    exact badL_all fun j hj => by have := h (j + 1) (by simp; omega); simpa using this
theorem badL_at {ix : Bool} : ∀ {l : List Ent} {i : Nat}, i < l.length → (∀ j, j < i → entBad ix (l.getD j noEnt) = 0) → entBad ix (l.getD i noEnt) ≠ 0 → badL ix l = entBad ix (l.getD i noEnt)
  | [], _, h, _, _ => by simp at h
  | e :: r, 0, _, _, h => by
    unfold badL
    rw [List.getD_cons_zero] at h ⊢
    rw [if_neg h]
  | e :: r, i + 1, hi, h1, h => by
    unfold badL
    have h0 := h1 0 (by omega)
    rw [if_pos (by simpa using h0)]
    rw [List.getD_cons_succ] at h ⊢
    exact badL_at (by simpa using hi) (fun j hj => by have := h1 (j + 1) (by omega); simpa using this) h
def ckCM : Ck
  | [.agg [.bool b, .sl n f]] => some (isLs cEnt n f ∧ n ≤ 4611686018427387904, .int .i64 (chkM ⟨b, lsOf cEnt n f⟩))
  | _ => none
theorem conCM : Con pg 11 ckCM := by
  have hct := (ctA_ok conReadA (ctN_ok _))
  intro args q r h hq
  unfold ckCM at h
  split at h
  · cases h
    rename_i b n f
    have hn : (lsOf cEnt n f).length ≤ 4611686018427387904 := by rw [lsOf_len]; exact hq.2
    refine pcall_args (args' := [.agg [.bool b, .sl (lsOf cEnt n f).length (lsF cEnt (lsOf cEnt n f))]]) ⟨VLe.agg ⟨VLe.refl _, hq.1.vle, trivial⟩, trivial⟩ ?_
    generalize lsOf cEnt n f = l at hn ⊢
    refine w11 (fun _ => false) [] rfl hct rfl rfl ?_
    push_cast (config := { maxSteps := 10000000 })
    refine ⟨fun h => by unfold chkM; rw [if_pos (by show 1000 < l.length; omega)], fun h => ?_⟩
    have e0 : chkM ⟨b, l⟩ = badL b l := by unfold chkM; rw [if_neg (by show ¬ 1000 < l.length; omega)]
    rw [e0]
    refine LoopW.adj ⟨hct, fol⟩ (by kernel_rfl) [] (fun i : Nat => [(1, .ptr 1 0), (13, .sl l.length (lsF cEnt l)), (14, .int .i64 l.length), (15, .int .i64 i)]) (fun _ => [(1, .cells [.bool b, .sl l.length (lsF cEnt l)])]) (fun i => i ≤ l.length ∧ ∀ j, j < i → entBad b (l.getD j noEnt) = 0) (fun i => l.length - i) 0 ?_ fun i hi => ?_
    · push_cast (config := { maxSteps := 10000000 })
      exact Nat.zero_le _
    · obtain ⟨i1, i2⟩ := hi
      push_cast (config := { maxSteps := 10000000 })
      have eb : entBad b (l.getD i noEnt) = if (readA (l.getD i noEnt).loc).2.2 ≠ 0 then 3 else if (l.getD i noEnt).day < 0 ∨ 3652059 < (l.getD i noEnt).day ∨ (l.getD i noEnt).wt < -1 ∨ 10 < (l.getD i noEnt).wt then 1 else if b = true ∧ (l.getD i noEnt).wt ≠ -1 then 3 else 0 := rfl
      refine ⟨fun h => ⟨h, fun h1 => ?_, fun h1 => ⟨fun h2 => ?_, fun h2 => ⟨fun h3 => ?_, fun h3 => ⟨⟨by omega, by omega⟩, i + 1, ⟨by omega, fun j hj => ?_⟩, by omega, by omega⟩⟩⟩⟩, fun h => (badL_all fun j hj => i2 j (by omega)).symm⟩
      · rw [if_pos h1] at eb
        exact ((badL_at h i2 (by rw [eb]; decide)).trans eb).symm
      · rw [if_neg (by simpa using h1), if_pos (by omega)] at eb
        exact ((badL_at h i2 (by rw [eb]; decide)).trans eb).symm
      · rw [if_neg (by simpa using h1), if_neg (by omega), if_pos h3] at eb
        exact ((badL_at h i2 (by rw [eb]; decide)).trans eb).symm
      · by_cases e : j = i
        · subst e
          rw [eb, if_neg (by simpa using h1), if_neg (by omega), if_neg (fun x => x.2 (h3 x.1))]
        · exact i2 j (by omega)
  · cases h
attribute [push_cast] ckCM

theorem enT_le {s one : List UInt8} {how : Int} {a : Nat} {x : Ent} (h : a ≤ s.length) : a ≤ (enT s one how a x).2.1 ∧ (enT s one how a x).2.1 ≤ s.length := by
  have h1 := fdA_le (k := 3) (e := wWt') h
  have h2 := whL_le h1.2 [wEnd one]
  unfold enT
  split
  · split
    · exact ⟨Nat.le_trans h1.1 h2.1, h2.2.1⟩
    · exact h1
  · exact ⟨Nat.le_refl _, h⟩
theorem enD_le {s one : List UInt8} {a : Nat} {x : Ent} (h : a ≤ s.length) : a ≤ (enD s one a x).2.1 ∧ (enD s one a x).2.1 ≤ s.length := by
  have h1 := whL_le h [wDay, wWt, wEnd one]
  have h2 := fdA_le (k := 2) (e := wDay') h1.2.1
  have h3 := whL_le h2.2 [wWt, wEnd one]
  unfold enD
  split
  · split
    · have h4 := enT_le (one := one) (how := (let h := (whL s (fdA 2 s wDay' (whL s a [wDay, wWt, wEnd one]).2) [wWt, wEnd one]).1; if 0 ≤ h then h + 1 else h)) (x := fdX 2 s (whL s a [wDay, wWt, wEnd one]).2 x) h3.2.1
      exact ⟨Nat.le_trans h1.1 (Nat.le_trans h2.1 (Nat.le_trans h3.1 h4.1)), h4.2⟩
    · exact ⟨Nat.le_trans h1.1 h2.1, h2.2⟩
  · have h4 := enT_le (one := one) (how := (whL s a [wDay, wWt, wEnd one]).1) (x := x) h1.2.1
    exact ⟨Nat.le_trans h1.1 h4.1, h4.2⟩
theorem enL_le {s one : List UInt8} {a : Nat} (h : a ≤ s.length) : a ≤ (enL s one a).2.1 ∧ (enL s one a).2.1 ≤ s.length := by
  have h1 := whL_le h [wLoc]
  have h2 := fdA_le (k := 1) (e := wLoc') h1.2.1
  have h3 := enD_le (one := one) (x := fdX 1 s (whL s a [wLoc]).2 x00) h2.2
  unfold enL
  split
  · exact ⟨h1.1, h1.2.1⟩
  · split
    · exact ⟨Nat.le_trans h1.1 (Nat.le_trans h2.1 h3.1), h3.2⟩
    · exact ⟨Nat.le_trans h1.1 h2.1, h2.2⟩
theorem whL_0 {s x : List UInt8} {l : List (List UInt8)} {a : Nat} (h : (whL s a (x :: l)).1 = 0) : (whL s a (x :: l)).2 = blS s a + x.length := by
  have k : ∀ (l : List (List UInt8)) (b i m : Nat), 1 ≤ i → (whG s b l i m).1 ≠ 0 := by
    intro l
    induction l with
    | nil => intro b i m _ e; cases e
    | cons y r ih =>
      intro b i m hi
      unfold whG
      split
      · show (i : Int) ≠ 0
        omega
      · exact ih _ _ _ (by omega)
  unfold whL whG at h ⊢
  split
  · rfl
  · rename_i hx
    rw [if_neg hx] at h
    exact absurd h (k _ _ _ _ (Nat.le_refl _))
def wOne (one : List UInt8) : List UInt8 := [60] ++ one ++ [62]
/-- the entries of a list -/
def rmG (s one all : List UInt8) : Nat → Nat → List Ent → Bool × Nat × List Ent
  | 0, a, l => (false, a, l)
  | f + 1, a, l =>
    if (whL s a [wOne one, wEnd all]).1 = 1 then (true, (whL s a [wOne one, wEnd all]).2, l)
    else if (whL s a [wOne one, wEnd all]).1 < 0 then (false, (whL s a [wOne one, wEnd all]).2, l)
    else if (enL s one (whL s a [wOne one, wEnd all]).2).1 = true then rmG s one all f (enL s one (whL s a [wOne one, wEnd all]).2).2.1 (l ++ [(enL s one (whL s a [wOne one, wEnd all]).2).2.2])
    else (false, (enL s one (whL s a [wOne one, wEnd all]).2).2.1, l)
def wUrls : List UInt8 := [60, 117, 114, 108, 115, 101, 116, 62]
def wIndex : List UInt8 := [60, 115, 105, 116, 101, 109, 97, 112, 105, 110, 100, 101, 120, 62]
def rmIx (s : List UInt8) : Bool := (whL s 0 [wUrls, wIndex]).1 == 1
def rmR (s : List UInt8) : Bool × Nat × List Ent := rmG s (tgO (rmIx s)) (tgA (rmIx s)) (s.length + 1) (whL s 0 [wUrls, wIndex]).2 []
/-- what ReadMap gives -/
def rmF (s : List UInt8) : SMp × Int × Int :=
  if 500000 < s.length then (noSMp, 0, 2)
  else if (whL s 0 [wUrls, wIndex]).1 < 0 then (noSMp, (whL s 0 [wUrls, wIndex]).2, 10)
  else if (rmR s).1 = false then (noSMp, (rmR s).2.1, 10)
  else if blS s (rmR s).2.1 < s.length then (noSMp, blS s (rmR s).2.1, 10)
  else if chkM ⟨rmIx s, (rmR s).2.2⟩ ≠ 0 then (noSMp, 0, chkM ⟨rmIx s, (rmR s).2.2⟩)
  else (⟨rmIx s, (rmR s).2.2⟩, 0, 0)
def ckRM : Ck
  | [.str s] => some (s.length ≤ 4611686018427387904, .tup [cSMp.enc (rmF s).1, .int .i64 (rmF s).2.1, .int .i64 (rmF s).2.2])
  | _ => none
theorem conRM : Con pg 5 ckRM := by
  have hct := (ctF_ok conWh (ctF_ok conEn (ctF_ok conMBl (ctA_ok conTags (ctA_ok conCM (ctN_ok _))))))
  intro args q r h hq
  unfold ckRM at h
  split at h
  · cases h
    rename_i s
    refine w5 (fun _ => false) [.frz 8000] rfl hct rfl rfl ?_
    push_cast (config := { maxSteps := 10000000 })
    rw [show ([60, 117, 114, 108, 115, 101, 116, 62] : List UInt8) = wUrls from rfl, show ([60, 115, 105, 116, 101, 109, 97, 112, 105, 110, 100, 101, 120, 62] : List UInt8) = wIndex from rfl]
    have b0 := whL_le (s := s) (a := 0) (Nat.zero_le _) [wUrls, wIndex]
    have e1 : ∀ z : Int, (z == 1) = decide (z = 1) := fun z => rfl
    refine ⟨fun h => ?_, fun h => ⟨by omega, fun g => ?_, fun g => ?_⟩⟩
    · have e : rmF s = (noSMp, 0, 2) := by unfold rmF; rw [if_pos (by omega)]
      rw [e]; exact ⟨⟨rfl, rfl⟩, rfl, rfl⟩
    · have e : rmF s = (noSMp, ((whL s 0 [wUrls, wIndex]).2 : Int), 10) := by unfold rmF; rw [if_neg (by omega), if_pos g]
      rw [e]; exact ⟨⟨rfl, rfl⟩, rfl, rfl⟩
    have hs : s.length ≤ 500000 := by omega
    have eF : rmF s = if (rmR s).1 = false then (noSMp, ((rmR s).2.1 : Int), 10) else if blS s (rmR s).2.1 < s.length then (noSMp, (blS s (rmR s).2.1 : Int), 10) else if chkM ⟨rmIx s, (rmR s).2.2⟩ ≠ 0 then (noSMp, 0, chkM ⟨rmIx s, (rmR s).2.2⟩) else (⟨rmIx s, (rmR s).2.2⟩, 0, 0) := by
      unfold rmF; rw [if_neg (by omega), if_neg g]
    have eR : rmR s = rmG s (tgO (rmIx s)) (tgA (rmIx s)) (s.length + 1) (whL s 0 [wUrls, wIndex]).2 [] := rfl
    generalize hix : rmIx s = ix at *
    have hix : ((whL s 0 [wUrls, wIndex]).1 == 1) = ix := hix
    generalize whL s 0 [wUrls, wIndex] = W0 at *
    generalize rmR s = R at *
    generalize rmF s = T at *
    have b00 := b0.2.1
    clear b0
    have la : (tgA ix).length ≤ 12 := by cases ix <;> decide
    have lo : (tgO ix).length ≤ 7 := by cases ix <;> decide
    refine LoopW.adj ⟨hct, fol⟩ (by kernel_rfl) [.nvc 6 1 8000 3 (lsF cEnt [])] (fun x : Nat × Nat × List Ent => [(0, .str s), (2, .ptr 2 0), (5, .ptr 20 0), (6, .ptr 6 0), (8, .str (tgA ix)), (9, .str (tgO ix))]) (fun x => [(2, .cells [.bool false, .nilsl]), (6, .cells [.bool ix, .vec 8000 x.2.2.length]), (20, .cells [.str s, .int .i64 x.2.1]), (8000, .vec 3 x.2.2.length (lsF cEnt x.2.2))]) (fun x => x.2.1 ≤ s.length ∧ s.length < x.1 + x.2.1 ∧ x.2.2.length ≤ x.2.1 ∧ R = rmG s (tgO ix) (tgA ix) x.1 x.2.1 x.2.2) (fun x => x.1) (s.length + 1, W0.2, []) ?_ fun x hx => ?_
    · push_cast (config := { maxSteps := 10000000 })
      rw [hix]
      exact ⟨⟨b00, by omega, Nat.zero_le _, eR⟩, ⟨rfl, rfl⟩, rfl⟩
    · obtain ⟨f, a, l⟩ := x
      obtain ⟨x1, x2, x3, x4⟩ := hx
      have x1 : a ≤ s.length := x1
      have x2 : s.length < f + a := x2
      have x3 : l.length ≤ a := x3
      have x4 : R = rmG s (tgO ix) (tgA ix) f a l := x4
      obtain ⟨f, rfl⟩ : ∃ g, f = g + 1 := ⟨f - 1, by omega⟩
      have x4 : R = if (whL s a [wOne (tgO ix), wEnd (tgA ix)]).1 = 1 then (true, (whL s a [wOne (tgO ix), wEnd (tgA ix)]).2, l)
        else if (whL s a [wOne (tgO ix), wEnd (tgA ix)]).1 < 0 then (false, (whL s a [wOne (tgO ix), wEnd (tgA ix)]).2, l)
        else if (enL s (tgO ix) (whL s a [wOne (tgO ix), wEnd (tgA ix)]).2).1 = true then rmG s (tgO ix) (tgA ix) f (enL s (tgO ix) (whL s a [wOne (tgO ix), wEnd (tgA ix)]).2).2.1 (l ++ [(enL s (tgO ix) (whL s a [wOne (tgO ix), wEnd (tgA ix)]).2).2.2])
        else (false, (enL s (tgO ix) (whL s a [wOne (tgO ix), wEnd (tgA ix)]).2).2.1, l) := x4
      have w1 := whL_le x1 [wOne (tgO ix), wEnd (tgA ix)]
      have w2 := whL_0 (s := s) (a := a) (x := wOne (tgO ix)) (l := [wEnd (tgA ix)])
      have w3 : a ≤ blS s a ∧ blS s a ≤ s.length := blS_le (a := a) x1
      have lw : (wOne (tgO ix)).length = (tgO ix).length + 2 := by simp [wOne]
      have l2 : ([wOne (tgO ix), wEnd (tgA ix)] : List (List UInt8)).length = 2 := rfl
      push_cast (config := { maxSteps := 10000000 })
      rw [show (60 :: (tgO ix ++ [62]) : List UInt8) = wOne (tgO ix) from rfl, show (60 :: 47 :: (tgA ix ++ [62]) : List UInt8) = wEnd (tgA ix) from rfl]
      generalize whL s a [wOne (tgO ix), wEnd (tgA ix)] = W at *
      have bl := blS_le (s := s) (a := W.2) w1.2.1
      have el := enL_le (s := s) (one := tgO ix) (a := W.2) w1.2.1
      generalize enL s (tgO ix) W.2 = E at *
      refine ⟨by omega, by omega, by omega, by omega, ⟨by omega, x1⟩, fun h => ⟨⟨by omega, w1.2.1⟩, fun h2 => ?_, fun h2 => ⟨by omega, fun h3 => ?_, fun h3 => ?_⟩⟩, ?_⟩
      · rw [if_pos h] at x4
        subst x4
        rw [if_neg (by simp), if_pos h2] at eF
        subst eF
        exact ⟨⟨rfl, rfl⟩, rfl, rfl⟩
      · rw [if_pos h] at x4
        subst x4
        rw [if_neg (by simp), if_neg h2, if_pos h3] at eF
        subst eF
        exact ⟨⟨rfl, rfl⟩, rfl, rfl⟩
      · rw [if_pos h] at x4
        subst x4
        rw [if_neg (by simp), if_neg h2, if_neg (fun q => q h3)] at eF
        subst eF
        exact ⟨⟨rfl, rfl, fun _ _ => rfl⟩, rfl, rfl⟩
      · intro h
        rw [if_neg h] at x4
        refine ⟨fun h2 => ?_, fun h2 => ⟨⟨by omega, by omega, w1.2.1⟩, fun h3 => ?_, fun h3 => ⟨⟨by omega, by omega⟩, (f, E.2.1, l ++ [E.2.2]), ⟨el.2, ?_, ?_, ?_⟩, Nat.lt_succ_self f, ?_, rfl, ?_, fun i hi => ?_⟩⟩⟩
        · rw [if_pos h2] at x4
          subst x4
          rw [if_pos rfl] at eF
          subst eF
          exact ⟨⟨rfl, rfl⟩, rfl, rfl⟩
        · rw [if_neg h2, if_neg (by rw [h3]; exact Bool.false_ne_true)] at x4
          subst x4
          rw [if_pos rfl] at eF
          subst eF
          exact ⟨⟨rfl, rfl⟩, rfl, rfl⟩
        · have w4 := w2 (by omega)
          show s.length < f + E.2.1
          omega
        · have w4 := w2 (by omega)
          show (l ++ [E.2.2]).length ≤ E.2.1
          rw [List.length_append, List.length_singleton]; omega
        · rw [if_neg h2, if_pos h3] at x4; exact x4
        · rw [List.length_append]; rfl
        · rw [List.length_append]; rfl
        · exact (LsI.app (c := cEnt) (k := l.length + 1) (LsI.ls l) (LsI.one (f := litF [cEnt.enc E.2.2]) rfl) rfl).2 i hi
  · cases h
attribute [push_cast] ckRM

def ckSBlK : List V → List Blk → Option (Prop × V × List Blk)
  | [.ptr _ 0], [.cells [.str s, .int .i64 a, .bool w]] => some (s.length ≤ 4000000 ∧ 0 ≤ a ∧ a ≤ s.length, .tup [], [.cells [.str s, .int .i64 (blS s a.toNat : Nat), .bool w]])
  | _, _ => none
def ckSBl : Cf := ⟨fun | .ptr i _ :: _ => [i] | _ => [], ckSBlK⟩
theorem conSBl : FCon pg 20 ckSBl := by
  have hct := (ctA_ok conIndexByte (ctN_ok _))
  intro args bs q r bs' h hq
  replace h : ckSBlK args bs = some (q, r, bs') := h
  unfold ckSBlK at h
  split at h
  · cases h
    rename_i i s a w
    refine ⟨rfl, by first | exact Nat.le_refl _ | exact Nat.zero_le _, ?_⟩
    obtain ⟨h1, h2, h3⟩ := hq
    obtain ⟨a, rfl⟩ : ∃ k : Nat, a = k := ⟨a.toNat, by omega⟩
    rw [Int.toNat_natCast]
    show FCall pg 20 [.ptr (i + 9000) 0] [(i + 9000, .cells [.str s, .int .i64 a, .bool w])] (.tup []) [(i + 9000, .cells [.str s, .int .i64 (blS s a : Nat), .bool w])]
    refine fw20 (fun _ => false) [] rfl hct rfl (by simp) (by simp [hlIn, idsIn, Blk.menIn, V.menInL, V.menIn, V.flat, byF, lsF]) (by simp [V.menIn, V.menInL, idsIn]) ?_
    push_cast (config := { maxSteps := 10000000 })
    refine LoopW.adj ⟨hct, fol⟩ (by kernel_rfl) [] (fun n : Nat => [(0, .ptr (i + 9000) 0)]) (fun n => [(i + 9000, .cells [.str s, .int .i64 ((a + n : Nat) : Int), .bool w])]) (fun n => a + n ≤ s.length ∧ ∀ j, j < n → blB ((s.drop a).getD j 0) = true) (fun n => s.length - n) 0 ?_ fun n hn => ?_
    · push_cast (config := { maxSteps := 10000000 })
      exact ⟨by omega, by omega⟩
    · push_cast (config := { maxSteps := 10000000 })
      obtain ⟨n1, n2⟩ := hn
      have e1 : ((a : Int) + (n : Int)).toNat = a + n := by omega
      have e7 : (s.drop a).getD n 0 = s.getD (a + n) 0 := by rw [List.getD_eq_getElem?_getD, List.getD_eq_getElem?_getD, List.getElem?_drop]
      rw [e1]
      refine ⟨fun h => ⟨h, by omega, h⟩, fun h => ⟨⟨by omega, by omega⟩, n + 1, ⟨by omega, fun j hj => ?_⟩, by omega, by omega⟩, fun h => ?_⟩
      · by_cases e : j = n
        · subst e; rw [e7]; exact decide_eq_true h.2
        · exact n2 j (by omega)
      · have eN : runN blB (s.drop a) = n := by
          refine runN_at (by rw [List.length_drop]; omega) n2 fun hlt => ?_
          rw [List.length_drop] at hlt
          rw [e7]; exact decide_eq_false (h (by omega))
        unfold blS
        rw [eN]
        omega
  · cases h
attribute [push_cast] ckSBlK
@[push_cast] theorem sbl_ids (i o : Nat) (l : List V) : ckSBl.ids (.ptr i o :: l) = [i] := rfl
@[push_cast] theorem sbl_k (i : Nat) (s : List UInt8) (a : Int) (w : Bool) : ckSBl.k [.ptr i 0] [.cells [.str s, .int .i64 a, .bool w]] = some (s.length ≤ 4000000 ∧ 0 ≤ a ∧ a ≤ s.length, .tup [], [.cells [.str s, .int .i64 (blS s a.toNat : Nat), .bool w]]) := rfl
def ckSIsK : List V → List Blk → Option (Prop × V × List Blk)
  | [.ptr _ 0, .str t], [.cells [.str s, .int .i64 a, .bool w]] => some (s.length ≤ 4000000 ∧ 0 ≤ a ∧ a ≤ s.length, .bool (hasPre (s.drop a.toNat) t), [.cells [.str s, .int .i64 a, .bool w]])
  | _, _ => none
def ckSIs : Cf := ⟨fun | .ptr i _ :: _ => [i] | _ => [], ckSIsK⟩
theorem conSIs : FCon pg 70 ckSIs := by
  have hct := (ctA_ok conHasPre (ctN_ok _))
  intro args bs q r bs' h hq
  replace h : ckSIsK args bs = some (q, r, bs') := h
  unfold ckSIsK at h
  split at h
  · cases h
    rename_i i t s a w
    refine ⟨rfl, by first | exact Nat.le_refl _ | exact Nat.zero_le _, ?_⟩
    obtain ⟨h1, h2, h3⟩ := hq
    obtain ⟨a, rfl⟩ : ∃ k : Nat, a = k := ⟨a.toNat, by omega⟩
    rw [Int.toNat_natCast]
    show FCall pg 70 [.ptr (i + 9000) 0, .str t] [(i + 9000, .cells [.str s, .int .i64 a, .bool w])] (.bool (hasPre (s.drop a) t)) [(i + 9000, .cells [.str s, .int .i64 a, .bool w])]
    refine fw70 (fun _ => false) [] rfl hct rfl (by simp) (by simp [hlIn, idsIn, Blk.menIn, V.menInL, V.menIn, V.flat, byF, lsF]) (by simp [V.menIn, V.menInL, idsIn]) ?_
    push_cast (config := { maxSteps := 10000000 })
    omega
  · cases h
attribute [push_cast] ckSIsK
@[push_cast] theorem sis_ids (i o : Nat) (l : List V) : ckSIs.ids (.ptr i o :: l) = [i] := rfl
@[push_cast] theorem sis_k (i : Nat) (t s : List UInt8) (a : Int) (w : Bool) : ckSIs.k [.ptr i 0, .str t] [.cells [.str s, .int .i64 a, .bool w]] = some (s.length ≤ 4000000 ∧ 0 ≤ a ∧ a ≤ s.length, .bool (hasPre (s.drop a.toNat) t), [.cells [.str s, .int .i64 a, .bool w]]) := rfl
theorem hasPre_mt : ∀ (t u : List UInt8), hasPre u t = decide (mtN t u = t.length)
  | [], u => by cases u <;> rfl
  | x :: t, [] => rfl
  | x :: t, y :: u => by
    have ih := hasPre_mt t u
    unfold mtN
    by_cases e : x = y
    · subst e
      rw [if_pos rfl]
      have : hasPre (x :: u) (x :: t) = hasPre u t := by
        unfold hasPre
        simp
      rw [this, ih]
      simp
    · rw [if_neg e]
      have : hasPre (y :: u) (x :: t) = false := by
        unfold hasPre
        simp only [List.length_cons, List.take_succ_cons, Bool.and_eq_false_iff, beq_eq_false_iff_ne, ne_eq, List.cons.injEq, not_and]
        exact .inr fun h => absurd h.symm e
      rw [this]
      exact (decide_eq_false (by simp only [List.length_cons]; omega)).symm
/-- what need answers, of what stands there -/
def ndI (w : Bool) (W : Int × Nat) : Int := bif w then 0 else if W.1 < 0 then 0 else W.1
def ndA (w : Bool) (a : Nat) (W : Int × Nat) : Nat := bif w then a else W.2
def ndW (w : Bool) (W : Int × Nat) : Bool := w || decide (W.1 < 0)
def ckSNdK : List V → List Blk → Option (Prop × V × List Blk)
  | [.ptr _ 0, .sl n f], [.cells [.str s, .int .i64 a, .bool w]] => some (isLs cStr n f ∧ n ≤ 1000 ∧ s.length ≤ 4000000 ∧ 0 ≤ a ∧ a ≤ s.length, .int .i64 (ndI w (whG s a.toNat (lsOf cStr n f) 0 0)), [.cells [.str s, .int .i64 (ndA w a.toNat (whG s a.toNat (lsOf cStr n f) 0 0) : Nat), .bool (ndW w (whG s a.toNat (lsOf cStr n f) 0 0))]])
  | _, _ => none
def ckSNd : Cf := ⟨fun | .ptr i _ :: _ => [i] | _ => [], ckSNdK⟩
theorem conSNd : FCon pg 41 ckSNd := by
  have hct := (ctF_ok conSIs (ctN_ok _))
  intro args bs q r bs' h hq
  replace h : ckSNdK args bs = some (q, r, bs') := h
  unfold ckSNdK at h
  split at h
  · cases h
    rename_i i n f s a w
    refine ⟨rfl, by first | exact Nat.le_refl _ | exact Nat.zero_le _, ?_⟩
    obtain ⟨q0, q1, h1, h2, h3⟩ := hq
    obtain ⟨a, rfl⟩ : ∃ k : Nat, a = k := ⟨a.toNat, by omega⟩
    rw [Int.toNat_natCast]
    refine fcall_args (args' := [.ptr (i + 9000) 0, .sl (lsOf cStr n f).length (lsF cStr (lsOf cStr n f))]) ⟨VLe.refl _, isLs.vle q0, trivial⟩ ?_
    have hn : (lsOf cStr n f).length ≤ 1000 := by rw [lsOf_len]; exact q1
    generalize lsOf cStr n f = l at hn ⊢
    show FCall pg 41 [.ptr (i + 9000) 0, .sl l.length (lsF cStr l)] [(i + 9000, .cells [.str s, .int .i64 a, .bool w])] (.int .i64 (ndI w (whG s a l 0 0))) [(i + 9000, .cells [.str s, .int .i64 (ndA w a (whG s a l 0 0) : Nat), .bool (ndW w (whG s a l 0 0))])]
    refine fw41 (fun _ => false) [] rfl hct rfl (by simp) (by simp [hlIn, idsIn, Blk.menIn, V.menInL, V.menIn, V.flat, byF, lsF]) (by simp [V.menIn, V.menInL, idsIn]) ?_
    push_cast (config := { maxSteps := 10000000 })
    refine ⟨fun h => by subst h; exact ⟨rfl, rfl, rfl⟩, fun h => ?_⟩
    subst h
    have h3 : a ≤ s.length := by omega
    generalize hR : whG s a l 0 0 = R
    have eI : ndI false R = if R.1 < 0 then 0 else R.1 := rfl
    have eA : ndA false a R = R.2 := rfl
    have eW : ndW false R = decide (R.1 < 0) := rfl
    rw [eI, eA, eW]
    refine LoopW.adj ⟨hct, fol⟩ (by kernel_rfl) [] (fun x : Nat × Nat => [(0, .ptr (i + 9000) 0), (5, .int .i64 x.2), (13, .sl l.length (lsF cStr l)), (14, .int .i64 l.length), (15, .int .i64 x.1)]) (fun _ => [(i + 9000, .cells [.str s, .int .i64 a, .bool false])]) (fun x => x.1 ≤ l.length ∧ a + x.2 ≤ s.length ∧ whG s a (l.drop x.1) x.1 x.2 = R) (fun x => l.length - x.1) (0, 0) ?_ fun x hx => ?_
    · push_cast (config := { maxSteps := 10000000 })
      exact ⟨Nat.zero_le _, by omega, hR⟩
    · obtain ⟨k, m⟩ := x
      obtain ⟨k1, k2, k3⟩ := hx
      have k1 : k ≤ l.length := k1
      have k2 : a + m ≤ s.length := k2
      have k3 : whG s a (l.drop k) k m = R := k3
      push_cast (config := { maxSteps := 10000000 })
      refine ⟨fun h => ⟨h, ⟨by omega, h3⟩, ?_⟩, fun h => ?_⟩
      · have ed := dropG (d := ([] : List UInt8)) h
        have hm := hasPre_mt (l.getD k []) (s.drop a)
        generalize l.getD k [] = t at ed hm ⊢
        have eW : whG s a (l.drop k) k m = if mtN t (s.drop a) = t.length then ((k : Int), a + t.length) else whG s a (l.drop (k + 1)) (k + 1) (max m (mtN t (s.drop a))) := by rw [ed]; rfl
        rw [eW] at k3
        have hle := mtN_le t (s.drop a)
        rw [List.length_drop] at hle
        refine ⟨fun h2 => ?_, fun h2 => ?_⟩
        · rw [hm, decide_eq_true_eq] at h2
          rw [if_pos h2] at k3
          subst k3
          refine ⟨⟨by omega, by omega⟩, ?_, ?_, ?_⟩
          · show (k : Int) = if (k : Int) < 0 then 0 else k
            rw [if_neg (by omega)]
          · show (a : Int) + t.length = ((a + t.length : Nat) : Int)
            omega
          · show false = decide ((k : Int) < 0)
            exact (decide_eq_false (by omega)).symm
        · rw [hm, decide_eq_false_iff_not] at h2
          rw [if_neg h2] at k3
          refine LoopW.adj ⟨hct, fol⟩ (by kernel_rfl) [] (fun n : Nat => [(0, .ptr (i + 9000) 0), (5, .int .i64 m), (7, .str t), (8, .int .i64 n), (13, .sl l.length (lsF cStr l)), (14, .int .i64 l.length), (15, .int .i64 k)]) (fun _ => [(i + 9000, .cells [.str s, .int .i64 a, .bool false])]) (fun n => n ≤ t.length ∧ n ≤ (s.drop a).length ∧ ∀ j, j < n → (s.drop a).getD j 0 = t.getD j 0) (fun n => t.length - n) 0 ?_ fun n hn => ?_
          · push_cast (config := { maxSteps := 10000000 })
            exact ⟨Nat.zero_le _, Nat.zero_le _⟩
          · obtain ⟨n1, n2, n3⟩ := hn
            push_cast (config := { maxSteps := 10000000 })
            rw [List.length_drop] at n2
            have e1 : ((a : Int) + (n : Int)).toNat = a + n := by omega
            have e7 : (s.drop a).getD n 0 = s.getD (a + n) 0 := by rw [List.getD_eq_getElem?_getD, List.getD_eq_getElem?_getD, List.getElem?_drop]
            rw [e1]
            refine ⟨fun h => ⟨h, by omega, by omega⟩, fun h => ⟨h, by omega, by omega⟩, fun h => ⟨h, by omega, h.2⟩, fun h => ⟨h, h.1⟩, fun h => ⟨⟨by omega, by omega⟩, n + 1, ⟨by omega, by omega, fun j hj => ?_⟩, by omega, by omega⟩, fun h => ?_⟩
            · by_cases e : j = n
              · subst e; rw [e7]; exact UInt8.toNat_inj.1 h.2
              · exact n3 j (by omega)
            · have eN : mtN t (s.drop a) = n := mtN_at n1 (by rw [List.length_drop]; exact n2) n3 fun p1 p2 => by
                rw [List.length_drop] at p2
                rw [e7]
                exact fun e => h ⟨p1, by omega⟩ (congrArg UInt8.toNat e)
              rw [eN] at k3
              refine ⟨⟨by omega, by omega⟩, (k + 1, max m n), ⟨by show k + 1 ≤ _; omega, by show a + max m n ≤ _; omega, k3⟩, by show l.length - (k + 1) < _; omega, by show max (m : Int) n = ((max m n : Nat) : Int); omega, by show (k : Int) + 1 = ((k + 1 : Nat) : Int); omega⟩
      · rw [List.drop_eq_nil_of_le (by omega)] at k3
        subst k3
        exact ⟨⟨by omega, by omega⟩, rfl, by show (a : Int) + m = ((a + m : Nat) : Int); omega, rfl⟩
  · cases h
attribute [push_cast] ckSNdK
@[push_cast] theorem snd_ids (i o : Nat) (l : List V) : ckSNd.ids (.ptr i o :: l) = [i] := rfl
@[push_cast] theorem snd_k (i n : Nat) (f : Nat → V) (s : List UInt8) (a : Int) (w : Bool) : ckSNd.k [.ptr i 0, .sl n f] [.cells [.str s, .int .i64 a, .bool w]] = some (isLs cStr n f ∧ n ≤ 1000 ∧ s.length ≤ 4000000 ∧ 0 ≤ a ∧ a ≤ s.length, .int .i64 (ndI w (whG s a.toNat (lsOf cStr n f) 0 0)), [.cells [.str s, .int .i64 (ndA w a.toNat (whG s a.toNat (lsOf cStr n f) 0 0) : Nat), .bool (ndW w (whG s a.toNat (lsOf cStr n f) 0 0))]]) := rfl
def ckSNxK : List V → List Blk → Option (Prop × V × List Blk)
  | [.ptr _ 0, .sl n f], [.cells [.str s, .int .i64 a, .bool w]] => some (isLs cStr n f ∧ n ≤ 1000 ∧ s.length ≤ 4000000 ∧ 0 ≤ a ∧ a ≤ s.length, .int .i64 (ndI w (whL s a.toNat (lsOf cStr n f))), [.cells [.str s, .int .i64 (ndA w a.toNat (whL s a.toNat (lsOf cStr n f)) : Nat), .bool (ndW w (whL s a.toNat (lsOf cStr n f)))]])
  | _, _ => none
def ckSNx : Cf := ⟨fun | .ptr i _ :: _ => [i] | _ => [], ckSNxK⟩
theorem conSNx : FCon pg 17 ckSNx := by
  have hct := (ctF_ok conSNd (ctF_ok conSBl (ctN_ok _)))
  intro args bs q r bs' h hq
  replace h : ckSNxK args bs = some (q, r, bs') := h
  unfold ckSNxK at h
  split at h
  · cases h
    rename_i i n f s a w
    refine ⟨rfl, by first | exact Nat.le_refl _ | exact Nat.zero_le _, ?_⟩
    obtain ⟨q0, q1, h1, h2, h3⟩ := hq
    obtain ⟨a, rfl⟩ : ∃ k : Nat, a = k := ⟨a.toNat, by omega⟩
    rw [Int.toNat_natCast]
    refine fcall_args (args' := [.ptr (i + 9000) 0, .sl (lsOf cStr n f).length (lsF cStr (lsOf cStr n f))]) ⟨VLe.refl _, isLs.vle q0, trivial⟩ ?_
    have hn : (lsOf cStr n f).length ≤ 1000 := by rw [lsOf_len]; exact q1
    generalize lsOf cStr n f = l at hn ⊢
    show FCall pg 17 [.ptr (i + 9000) 0, .sl l.length (lsF cStr l)] [(i + 9000, .cells [.str s, .int .i64 a, .bool w])] (.int .i64 (ndI w (whL s a l))) [(i + 9000, .cells [.str s, .int .i64 (ndA w a (whL s a l) : Nat), .bool (ndW w (whL s a l))])]
    have h3 : a ≤ s.length := by omega
    have hb := blS_le h3
    refine fw17 (fun _ => false) [] rfl hct rfl (by simp) (by simp [hlIn, idsIn, Blk.menIn, V.menInL, V.menIn, V.flat, byF, lsF]) (by simp [V.menIn, V.menInL, idsIn]) ?_
    push_cast (config := { maxSteps := 10000000 })
    refine ⟨fun h => ?_, fun h => ?_⟩
    · subst h
      exact ⟨⟨h1, h3⟩, ⟨hn, h1, hb.2⟩, rfl, rfl, rfl⟩
    · subst h
      exact ⟨⟨hn, h1, h3⟩, rfl, rfl, rfl⟩
  · cases h
attribute [push_cast] ckSNxK
@[push_cast] theorem snx_ids (i o : Nat) (l : List V) : ckSNx.ids (.ptr i o :: l) = [i] := rfl
@[push_cast] theorem snx_k (i n : Nat) (f : Nat → V) (s : List UInt8) (a : Int) (w : Bool) : ckSNx.k [.ptr i 0, .sl n f] [.cells [.str s, .int .i64 a, .bool w]] = some (isLs cStr n f ∧ n ≤ 1000 ∧ s.length ≤ 4000000 ∧ 0 ≤ a ∧ a ≤ s.length, .int .i64 (ndI w (whL s a.toNat (lsOf cStr n f))), [.cells [.str s, .int .i64 (ndA w a.toNat (whL s a.toNat (lsOf cStr n f)) : Nat), .bool (ndW w (whL s a.toNat (lsOf cStr n f)))]]) := rfl
def ckSFlK : List V → List Blk → Option (Prop × V × List Blk)
  | [.ptr _ 0, .int .i64 p], [.cells [.str s, .int .i64 a, .bool w]] => some (True, .tup [], [.cells [.str s, .int .i64 (bif w then a else p), .bool true]])
  | _, _ => none
def ckSFl : Cf := ⟨fun | .ptr i _ :: _ => [i] | _ => [], ckSFlK⟩
theorem conSFl : FCon pg 73 ckSFl := by
  have hct := ctN_ok pg
  intro args bs q r bs' h hq
  replace h : ckSFlK args bs = some (q, r, bs') := h
  unfold ckSFlK at h
  split at h
  · cases h
    rename_i i p s a w
    refine ⟨rfl, by first | exact Nat.le_refl _ | exact Nat.zero_le _, ?_⟩
    show FCall pg 73 [.ptr (i + 9000) 0, .int .i64 p] [(i + 9000, .cells [.str s, .int .i64 a, .bool w])] (.tup []) [(i + 9000, .cells [.str s, .int .i64 (bif w then a else p), .bool true])]
    refine fw73 (fun _ => false) [] rfl hct rfl (by simp) (by simp [hlIn, idsIn, Blk.menIn, V.menInL, V.menIn, V.flat, byF, lsF]) (by simp [V.menIn, V.menInL, idsIn]) ?_
    push_cast (config := { maxSteps := 10000000 })
    cases w
    · simp
    · simp
  · cases h
attribute [push_cast] ckSFlK
@[push_cast] theorem sfl_ids (i o : Nat) (l : List V) : ckSFl.ids (.ptr i o :: l) = [i] := rfl
@[push_cast] theorem sfl_k (i : Nat) (p : Int) (s : List UInt8) (a : Int) (w : Bool) : ckSFl.k [.ptr i 0, .int .i64 p] [.cells [.str s, .int .i64 a, .bool w]] = some (True, .tup [], [.cells [.str s, .int .i64 (bif w then a else p), .bool true]]) := rfl
/-- a row: what it is, the place then, whether it is wrong then -/
def rwT (w : Bool) (s : List UInt8) (a : Nat) : List UInt8 := bif w then [] else if Lib.indexByte (s.drop a) 60 < 0 then [] else cutS s a (txN s a)
def rwA (w : Bool) (s : List UInt8) (a : Nat) : Nat := bif w then a else if Lib.indexByte (s.drop a) 60 < 0 then s.length else a + txN s a
def rwW (w : Bool) (s : List UInt8) (a : Nat) : Bool := w || decide (Lib.indexByte (s.drop a) 60 < 0)
def ckSRwK : List V → List Blk → Option (Prop × V × List Blk)
  | [.ptr _ 0], [.cells [.str s, .int .i64 a, .bool w]] => some (s.length ≤ 4000000 ∧ 0 ≤ a ∧ a ≤ s.length, .str (rwT w s a.toNat), [.cells [.str s, .int .i64 (rwA w s a.toNat : Nat), .bool (rwW w s a.toNat)]])
  | _, _ => none
def ckSRw : Cf := ⟨fun | .ptr i _ :: _ => [i] | _ => [], ckSRwK⟩
theorem conSRw : FCon pg 72 ckSRw := by
  have hct := (ctF_ok conSFl (ctA_ok conIndexByte (ctN_ok _)))
  intro args bs q r bs' h hq
  replace h : ckSRwK args bs = some (q, r, bs') := h
  unfold ckSRwK at h
  split at h
  · cases h
    rename_i i s a w
    refine ⟨rfl, by first | exact Nat.le_refl _ | exact Nat.zero_le _, ?_⟩
    obtain ⟨h1, h2, h3⟩ := hq
    obtain ⟨a, rfl⟩ : ∃ k : Nat, a = k := ⟨a.toNat, by omega⟩
    rw [Int.toNat_natCast]
    show FCall pg 72 [.ptr (i + 9000) 0] [(i + 9000, .cells [.str s, .int .i64 a, .bool w])] (.str (rwT w s a)) [(i + 9000, .cells [.str s, .int .i64 (rwA w s a : Nat), .bool (rwW w s a)])]
    refine fw72 (fun _ => false) [] rfl hct rfl (by simp) (by simp [hlIn, idsIn, Blk.menIn, V.menInL, V.menIn, V.flat, byF, lsF]) (by simp [V.menIn, V.menInL, idsIn]) ?_
    push_cast (config := { maxSteps := 10000000 })
    have h3 : a ≤ s.length := by omega
    have ht := txN_le h3
    refine ⟨fun h => by subst h; exact ⟨rfl, rfl, rfl⟩, fun h => ?_⟩
    subst h
    unfold txN at ht
    refine ⟨h3, fun h => ?_, fun h => ?_⟩
    · unfold rwT rwA rwW
      rw [cond_false, cond_false, if_pos h, if_pos h, decide_eq_true h]
      exact ⟨rfl, rfl, rfl⟩
    · rw [if_neg h] at ht
      have e : ((a : Int) + Lib.indexByte (s.drop a) 60).toNat - a = (Lib.indexByte (s.drop a) 60).toNat := by omega
      unfold rwT rwA rwW cutS txN
      rw [cond_false, cond_false, if_neg h, if_neg h, if_neg h, decide_eq_false h, e]
      exact ⟨⟨by omega, by omega⟩, ⟨⟨by omega, by omega⟩, h3, by omega⟩, ⟨by omega, by omega⟩, rfl, by omega, rfl⟩
  · cases h
attribute [push_cast] ckSRwK
@[push_cast] theorem srw_ids (i o : Nat) (l : List V) : ckSRw.ids (.ptr i o :: l) = [i] := rfl
@[push_cast] theorem srw_k (i : Nat) (s : List UInt8) (a : Int) (w : Bool) : ckSRw.k [.ptr i 0] [.cells [.str s, .int .i64 a, .bool w]] = some (s.length ≤ 4000000 ∧ 0 ≤ a ∧ a ≤ s.length, .str (rwT w s a.toNat), [.cells [.str s, .int .i64 (rwA w s a.toNat : Nat), .bool (rwW w s a.toNat)]]) := rfl

@[push_cast] theorem sgn_lit (i : Nat) (h : i < 5) : litF [V.agg [V.str [38, 97, 109, 112, 59], V.str [38]], V.agg [V.str [38, 108, 116, 59], V.str [60]], V.agg [V.str [38, 103, 116, 59], V.str [62]], V.agg [V.str [38, 113, 117, 111, 116, 59], V.str [34]], V.agg [V.str [38, 97, 112, 111, 115, 59], V.str [39]]] i = lsF cHd sgnL i := sgn_at h
def ckMeant : Ck
  | [.str s] => some (s.length ≤ 4000000, .tup [.str ((rdL s).getD []), .bool (rdL s).isSome])
  | _ => none
theorem conMeant : Con pg 71 ckMeant := by
  have hct := (ctA_ok conCutPre (ctA_ok conIndexByte (ctN_ok _)))
  intro args q r h hq
  unfold ckMeant at h
  split at h
  · cases h
    rename_i s
    refine w71 (fun _ => false) [] rfl hct rfl rfl ?_
    push_cast (config := { maxSteps := 10000000 })
    refine LoopW.adj ⟨hct, fol⟩ (by kernel_rfl) [] (fun x : List UInt8 × List UInt8 => [(0, .str x.1), (4, .str x.2)]) (fun _ => []) (fun x => x.1.length + x.2.length ≤ s.length ∧ rdL s = (rdL x.1).map (x.2 ++ ·)) (fun x => x.1.length) (s, []) ?_ fun x hx => ?_
    · push_cast (config := { maxSteps := 10000000 })
      refine ⟨by omega, ?_⟩
      cases rdL s <;> rfl
    · obtain ⟨t, q⟩ := x
      obtain ⟨h1, h2⟩ := hx
      have h1 : t.length + q.length ≤ s.length := h1
      have h2 : rdL s = (rdL t).map (q ++ ·) := h2
      push_cast (config := { maxSteps := 10000000 })
      have e38 : ((t.getD 0 0).toNat : Int) = 38 ↔ t.getD 0 0 = 38 := by
        constructor
        · intro h; exact UInt8.toNat_inj.1 (show (t.getD 0 0).toNat = 38 by omega)
        · intro h; rw [h]; rfl
      refine ⟨fun h => ?_, fun h => ?_⟩
      · have hp : 0 < t.length := List.length_pos_iff.2 h
        refine ⟨by omega, fun hb => ?_, fun hb => ⟨by omega, fun ha => ⟨by omega, by omega, by omega, (t.drop 1, q ++ t.take 1), ⟨?_, ?_⟩, ?_, rfl, rfl⟩, fun ha => ?_⟩⟩
        · rw [h2, rd_bad h hb]; exact ⟨rfl, rfl⟩
        · show (t.drop 1).length + (q ++ t.take 1).length ≤ s.length
          rw [List.length_drop, List.length_append, List.length_take]; omega
        · have e1 : t.take 1 = [t.getD 0 0] := by
            cases t with
            | nil => exact absurd rfl h
            | cons c r => rfl
          rw [h2, rd_byte h hb (fun e => ha (e38.2 e)), Option.map_map, e1]
          congr 1; funext y; simp
        · show (t.drop 1).length < t.length
          rw [List.length_drop]; omega
        · have ha := e38.1 ha
          refine LoopW.adj ⟨hct, fol⟩ (by kernel_rfl) [] (fun x : Nat × Bool => [(0, .str (bif x.2 then t.drop (sgnN t).length else t)), (4, .str (bif x.2 then q ++ sgnV t else q)), (5, .bool x.2), (30, .sl 5 (lsF cHd sgnL)), (31, .int .i64 5), (32, .int .i64 x.1)]) (fun _ => []) (fun x => x.1 ≤ 5 ∧ (x.2 = false → ∀ k, k < x.1 → hasPre t (sgnL.getD k ⟨[], []⟩).name = false) ∧ (x.2 = true → 0 ≤ sgnI t)) (fun x => 5 - x.1) (0, false) ?_ fun x hx => ?_
          · push_cast (config := { maxSteps := 10000000 })
            intro i hi
            exact sgn_at hi
          · obtain ⟨j, u⟩ := x
            obtain ⟨j1, j2, j3⟩ := hx
            have j1 : j ≤ 5 := j1
            cases u
            · have j2 : ∀ k, k < j → hasPre t (sgnL.getD k ⟨[], []⟩).name = false := j2 rfl
              push_cast (config := { maxSteps := 10000000 })
              refine ⟨fun g => ⟨g, by omega, fun hp2 => ?_, fun hp2 => ⟨⟨by omega, by omega⟩, (j + 1, false), ⟨by show j + 1 ≤ 5; omega, fun _ k hk => ?_, fun e => by cases e⟩, by show 5 - (j + 1) < _; omega, rfl, rfl, rfl, by show (j : Int) + 1 = ((j + 1 : Nat) : Int); omega⟩⟩, fun g => ?_⟩
              · have e : sgnI t = j := fstH_at (l := sgnL) (show j < sgnL.length by show j < 5; omega) hp2 j2
                have e0 : 0 ≤ sgnI t := by omega
                have s4 := (sgn_ok e0).2.2.2.1
                have eN : (sgnL.getD j ⟨[], []⟩).name = sgnN t := by unfold sgnN; rw [e, Int.toNat_natCast]
                have eV : (sgnL.getD j ⟨[], []⟩).value = sgnV t := by unfold sgnV; rw [e, Int.toNat_natCast]
                rw [hp2, eN, eV]
                exact ⟨by omega, ⟨by omega, by omega⟩, (j + 1, true), ⟨by show j + 1 ≤ 5; omega, (fun e => by cases e), fun _ => e0⟩, by show 5 - (j + 1) < _; omega, rfl, rfl, rfl, by show (j : Int) + 1 = ((j + 1 : Nat) : Int); omega⟩
              · have hk : k < j + 1 := hk
                by_cases e : k = j
                · subst e; exact hp2
                · exact j2 k (by omega)
              · have e : sgnI t = -1 := fstH_no fun k hk => j2 k (by have hk : k < 5 := hk; omega)
                rw [h2, rd_no h ha (by omega)]; exact ⟨rfl, rfl⟩
            · have j3 : 0 ≤ sgnI t := j3 rfl
              push_cast (config := { maxSteps := 10000000 })
              obtain ⟨s1, s2, s3, s4, s5⟩ := sgn_ok j3
              refine ⟨fun g => ⟨g, by omega, ⟨by omega, by omega⟩, (j + 1, true), ⟨by show j + 1 ≤ 5; omega, (fun e => by cases e), fun _ => j3⟩, by show 5 - (j + 1) < _; omega, rfl, rfl, rfl, by show (j : Int) + 1 = ((j + 1 : Nat) : Int); omega⟩, fun g => ⟨(t.drop (sgnN t).length, q ++ sgnV t), ⟨?_, ?_⟩, ?_, rfl, rfl⟩⟩
              · show (t.drop (sgnN t).length).length + (q ++ sgnV t).length ≤ s.length
                rw [List.length_drop, List.length_append]; omega
              · rw [h2, rd_sgn h hb ha j3, Option.map_map]
                congr 1; funext y; simp
              · show (t.drop (sgnN t).length).length < t.length
                rw [List.length_drop]; omega
      · subst h
        rw [h2, rd_nil]
        exact ⟨by simp, rfl⟩
  · cases h
attribute [push_cast] ckMeant

end Go.Abs
