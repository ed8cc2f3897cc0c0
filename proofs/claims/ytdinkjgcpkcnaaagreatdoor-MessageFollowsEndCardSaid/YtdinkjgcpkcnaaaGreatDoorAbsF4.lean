/- what functions of this program compute: contracts, each a function's own -/
import Derived.Test.YtdinkjgcpkcnaaaGreatDoorAbsK2
import Derived.Test.YtdinkjgcpkcnaaaGreatDoorAbsFacts
import Derived.Test.YtdinkjgcpkcnaaaGreatDoorAbsF3
import Derived.Test.YtdinkjgcpkcnaaaGreatDoorAbsShelf
import Derived.Lib.SplitLaws
import Derived.Lib.SlTrimSet
import Derived.Lib.IndexMore
import Derived.Lib.Atoi
import Derived.Lib.Itoa
import Derived.Lib.ItoaNum
import Derived.Lib.AtoiErrMem
import Derived.Lib.Join
import Derived.Lib.Repeat
import Derived.Lib.ItoaLen
namespace Go.Abs
open Go Go.Proofs
set_option maxHeartbeats 4000000
set_option maxRecDepth 100000
set_option linter.unusedVariables false
set_option linter.unusedSimpArgs false
theorem slice_drop {s : List UInt8} {a : Nat} (h : a ≤ s.length) : (s.drop a).take (s.length - a) = s.drop a := List.take_of_length_le (by rw [List.length_drop]; omega)
theorem pre1 (s : List UInt8) (a : Nat) (c : UInt8) : hasPre (s.drop a) [c] = isAt s a c.toNat := by
  rw [Bool.eq_iff_iff, isAt_iff]
  unfold hasPre
  rw [Bool.and_eq_true, decide_eq_true_eq, beq_iff_eq, List.length_drop, List.length_singleton]
  constructor
  · rintro ⟨h1, h2⟩
    rw [dropD s a (by omega)] at h2
    have := (List.cons.inj h2).1
    exact ⟨by omega, by rw [this]⟩
  · rintro ⟨h1, h2⟩
    refine ⟨by omega, ?_⟩
    rw [dropD s a h1]
    have : s.getD a 0 = c := UInt8.toNat_inj.1 h2
    rw [this]; rfl
def ckPlaceK : List V → List Blk → Option (Prop × V × List Blk)
  | [.ptr _ 0], [.cells [.str s, .int .i64 a, .str sc, .str _, .str [], .str pa, .str qu, .bool hq, .str fr, .bool hf]] => some (s.length ≤ 2000 ∧ 0 ≤ a ∧ a ≤ s.length, .bool (plcL s a.toNat).ok, [.cells [.str s, .int .i64 (plcL s a.toNat).at', .str sc, .str (plcL s a.toNat).ho, .str (plcL s a.toNat).po, .str pa, .str qu, .bool hq, .str fr, .bool hf]])
  | _, _ => none
def ckPlace : Cf := ⟨fun | [.ptr i _] => [i] | _ => [], ckPlaceK⟩
theorem conPlace : FCon pg 117 ckPlace := by
  have hct := (ctA_ok conHostEnd (ctA_ok conIsHost0 (ctA_ok conHasPre (ctA_ok conIsDig (ctA_ok conPortOf (ctA_ok conIndexByte (ctN_ok _)))))))
  intro args bs q r bs' h hq
  replace h : ckPlaceK args bs = some (q, r, bs') := h
  unfold ckPlaceK at h
  split at h
  · cases h
    rename_i i s a sc ho pa qu hq1 fr hf
    refine ⟨rfl, by first | exact Nat.le_refl _ | exact Nat.zero_le _, ?_⟩
    obtain ⟨h1, h2, h3⟩ := hq
    obtain ⟨a, rfl⟩ : ∃ k : Nat, a = k := ⟨a.toNat, by omega⟩
    rw [Int.toNat_natCast]
    show FCall pg 117 [.ptr (i + 9000) 0] [(i + 9000, .cells [.str s, .int .i64 a, .str sc, .str ho, .str [], .str pa, .str qu, .bool hq1, .str fr, .bool hf])] (.bool (plcL s a).ok) [(i + 9000, .cells [.str s, .int .i64 (plcL s a).at', .str sc, .str (plcL s a).ho, .str (plcL s a).po, .str pa, .str qu, .bool hq1, .str fr, .bool hf])]
    refine fw117 (fun _ => false) [] rfl hct rfl (by simp) (by simp [hlIn, idsIn, Blk.menIn, V.menInL, V.menIn, V.flat, byF, lsF]) (by simp [V.menIn, V.menInL, idsIn]) ?_
    push_cast (config := { maxSteps := 10000000 })
    have hb := hoN_le (s := s) (a := a) (by omega)
    have e1 : runN hostB (s.drop a) = hoN s a := rfl
    rw [e1]
    have e2 : ((a : Int) + (hoN s a : Int)).toNat - a = hoN s a := by omega
    have e3 : ((a : Int) + (hoN s a : Int)).toNat = a + hoN s a := by omega
    have e4 : (s.drop a).take (hoN s a) = cutS s a (hoN s a) := rfl
    rw [e2, e3, e4]
    have pre := pre1 s (a + hoN s a) 58
    have pre : hasPre (s.drop (a + hoN s a)) [58] = isAt s (a + hoN s a) 58 := pre
    rw [pre]
    refine ⟨by omega, by omega, ⟨by omega, by omega⟩, ⟨⟨by omega, by omega⟩, by omega, by omega⟩, by omega, fun h => ?_, fun h => ⟨⟨by omega, by omega⟩, ⟨⟨by omega, by omega⟩, by omega⟩, by omega, fun hc => ⟨⟨by omega, by omega⟩, ?_⟩, fun hc => ?_⟩⟩
    · unfold plcL; rw [if_pos h]; exact ⟨rfl, rfl, rfl, rfl⟩
    · have hc1 := isAt_lt hc
      have hP : plcL s a = if portN (cutS s (a + hoN s a + 1) (poN s (a + hoN s a + 1))) = 0 then ⟨false, a + hoN s a + 1, cutS s a (hoN s a), cutS s (a + hoN s a + 1) (poN s (a + hoN s a + 1))⟩
         else ⟨endB s (a + hoN s a + 1 + poN s (a + hoN s a + 1)), a + hoN s a + 1 + poN s (a + hoN s a + 1), cutS s a (hoN s a), cutS s (a + hoN s a + 1) (poN s (a + hoN s a + 1))⟩ := by
        unfold plcL; rw [if_neg (by rw [h]; simp), if_pos hc]
      rw [hP]
      have hb2 := poN_le (s := s) (a := a + hoN s a + 1) (by omega)
      generalize hB : a + hoN s a + 1 = B at hb2 hP ⊢
      have eB : (a : Int) + (hoN s a : Int) + 1 = (B : Int) := by omega
      rw [eB]
      generalize cutS s a (hoN s a) = H
      refine LoopW.adj ⟨hct, fol⟩ (by kernel_rfl) [] (fun n : Nat => [(0, .ptr (i + 9000) 0), (4, .int .i64 ((B + n : Nat) : Int))]) (fun n => [(i + 9000, .cells [.str s, .int .i64 B, .str sc, .str H, .str [], .str pa, .str qu, .bool hq1, .str fr, .bool hf])]) (fun n => B + n ≤ s.length ∧ ∀ j, j < n → digB ((s.drop B).getD j 0) = true) (fun n => s.length - n) 0 ?_ fun n hn => ?_
      · push_cast (config := { maxSteps := 10000000 })
        exact ⟨by omega, by omega⟩
      · push_cast (config := { maxSteps := 10000000 })
        obtain ⟨n1, n2⟩ := hn
        have e5 : ((B : Int) + (n : Int)).toNat = B + n := by omega
        have e6 : ((B : Int) + (n : Int)).toNat - B = n := by omega
        have e7 : (s.drop B).getD n 0 = s.getD (B + n) 0 := by rw [List.getD_eq_getElem?_getD, List.getD_eq_getElem?_getD, List.getElem?_drop]
        rw [e5]
        rw [e5] at e6
        rw [e6]
        refine ⟨fun h => ⟨h, by omega, h⟩, fun h => ⟨⟨by omega, by omega⟩, n + 1, ⟨by omega, fun j hj => ?_⟩, by omega, by omega⟩, fun h => ?_⟩
        · by_cases e : j = n
          · subst e; rw [e7]; exact h.2
          · exact n2 j (by omega)
        have eN : poN s B = n := by
          unfold poN
          refine runN_at (by rw [List.length_drop]; omega) n2 fun hlt => ?_
          rw [List.length_drop] at hlt
          rw [e7]; exact h (by omega)
        rw [eN]
        have eC : (s.drop B).take n = cutS s B n := rfl
        rw [eC]
        refine ⟨⟨⟨by omega, by omega⟩, by omega, by omega⟩, by omega, fun h0 => ?_, fun h0 => ?_⟩
        · rw [if_pos h0]; exact ⟨rfl, rfl, rfl, rfl⟩
        · rw [if_neg h0]
          refine ⟨fun x => ⟨x, by omega, by omega⟩, ?_, by show _ = ((B + n : Nat) : Int); omega, rfl, rfl⟩
          show _ = endB s (B + n)
          unfold endB
          congr 1
          rw [Bool.eq_iff_iff, beq_iff_eq, decide_eq_true_eq]; omega
    · unfold plcL
      rw [if_neg (by rw [h]; simp), if_neg (by rw [hc]; simp)]
      refine ⟨fun x => ⟨x, by omega, by omega⟩, ?_, by show _ = ((a + hoN s a : Nat) : Int); omega, rfl, rfl⟩
      unfold endB
      congr 1
      rw [Bool.eq_iff_iff, beq_iff_eq, decide_eq_true_eq]; omega
  · cases h
attribute [push_cast] ckPlaceK
def ckRowK : List V → List Blk → Option (Prop × V × List Blk)
  | [.ptr _ 0, .str w], [.cells [.str s, .int .i64 a, .str sc, .str ho, .str po, .str pa, .str qu, .bool hq, .str fr, .bool hf]] => some (s.length ≤ 2000 ∧ 0 ≤ a ∧ a ≤ s.length, .tup [.str (cutS s a.toNat (rdRow s a.toNat w).1), .bool (rdRow s a.toNat w).2], [.cells [.str s, .int .i64 (a + (rdRow s a.toNat w).1), .str sc, .str ho, .str po, .str pa, .str qu, .bool hq, .str fr, .bool hf]])
  | _, _ => none
def ckRow : Cf := ⟨fun | [.ptr i _, _] => [i] | _ => [], ckRowK⟩
theorem conRow : FCon pg 138 ckRow := by
  have hct := (ctA_ok conRowEnd (ctN_ok _))
  intro args bs q r bs' h hq
  replace h : ckRowK args bs = some (q, r, bs') := h
  unfold ckRowK at h
  split at h
  · cases h
    rename_i i w s a sc ho po pa qu hq1 fr hf
    refine ⟨rfl, by first | exact Nat.le_refl _ | exact Nat.zero_le _, ?_⟩
    obtain ⟨h1, h2, h3⟩ := hq
    obtain ⟨a, rfl⟩ : ∃ k : Nat, a = k := ⟨a.toNat, by omega⟩
    rw [Int.toNat_natCast]
    show FCall pg 138 [.ptr (i + 9000) 0, .str w] [(i + 9000, .cells [.str s, .int .i64 a, .str sc, .str ho, .str po, .str pa, .str qu, .bool hq1, .str fr, .bool hf])] (.tup [.str (cutS s a (rdRow s a w).1), .bool (rdRow s a w).2]) [(i + 9000, .cells [.str s, .int .i64 (a + (rdRow s a w).1), .str sc, .str ho, .str po, .str pa, .str qu, .bool hq1, .str fr, .bool hf])]
    refine fw138 (fun _ => false) [] rfl hct rfl (by simp) (by simp [hlIn, idsIn, Blk.menIn, V.menInL, V.menIn, V.flat, byF, lsF]) (by simp [V.menIn, V.menInL, idsIn]) ?_
    push_cast (config := { maxSteps := 10000000 })
    have hb := rdRow_le (s := s) (a := a) (w := w) (by omega)
    have e1 : reL (s.drop a) w (s.length - a + 1) 0 = rdRow s a w := by unfold rdRow; rw [List.length_drop]
    rw [e1]
    have e2 : ((a : Int) + ((rdRow s a w).1 : Int)).toNat - a = (rdRow s a w).1 := by omega
    rw [e2]
    exact ⟨by omega, by omega, ⟨by omega, by omega⟩, ⟨⟨by omega, by omega⟩, by omega, by omega⟩, ⟨by omega, by omega⟩, ⟨rfl, rfl⟩, rfl⟩
  · cases h
attribute [push_cast] ckRowK
@[push_cast] theorem place_ids (i o : Nat) : ckPlace.ids [.ptr i o] = [i] := rfl
@[push_cast] theorem place_k (i : Nat) (s sc ho pa qu fr : List UInt8) (hq hf : Bool) (a : Int) : ckPlace.k [.ptr i 0] [.cells [.str s, .int .i64 a, .str sc, .str ho, .str [], .str pa, .str qu, .bool hq, .str fr, .bool hf]] = some (s.length ≤ 2000 ∧ 0 ≤ a ∧ a ≤ s.length, .bool (plcL s a.toNat).ok, [.cells [.str s, .int .i64 (plcL s a.toNat).at', .str sc, .str (plcL s a.toNat).ho, .str (plcL s a.toNat).po, .str pa, .str qu, .bool hq, .str fr, .bool hf]]) := rfl
@[push_cast] theorem row_ids (i o : Nat) (x : V) : ckRow.ids [.ptr i o, x] = [i] := rfl
@[push_cast] theorem row_k (i : Nat) (w s sc ho po pa qu fr : List UInt8) (hq hf : Bool) (a : Int) : ckRow.k [.ptr i 0, .str w] [.cells [.str s, .int .i64 a, .str sc, .str ho, .str po, .str pa, .str qu, .bool hq, .str fr, .bool hf]] = some (s.length ≤ 2000 ∧ 0 ≤ a ∧ a ≤ s.length, .tup [.str (cutS s a.toNat (rdRow s a.toNat w).1), .bool (rdRow s a.toNat w).2], [.cells [.str s, .int .i64 (a + (rdRow s a.toNat w).1), .str sc, .str ho, .str po, .str pa, .str qu, .bool hq, .str fr, .bool hf]]) := rfl
theorem rest3 {s P Q : List UInt8} {d : Nat} {b : Bool} (h1 : s.length ≤ 2000) (hd : d ≤ s.length) {R : Rst} (hR : R = rst3 s d P Q b) : ((0 ≤ (d : Int) ∧ (d : Int) ≤ s.length) ∧ (d : Int) ≤ s.length) ∧
    ((s.length - d : Nat) : Int) ≤ 4611686018427387904 ∧
      (hasPre (s.drop d) [35] = true → (-9223372036854775808 ≤ ((d + 1 : Nat) : Int) ∧ ((d + 1 : Nat) : Int) ≤ 9223372036854775807) ∧
          (s.length ≤ 2000 ∧ 0 ≤ ((d + 1 : Nat) : Int) ∧ ((d + 1 : Nat) : Int) ≤ s.length) ∧
            ((rdRow s (d + 1) []).2 = false → false = R.ok ∧ ((d + 1 : Nat) : Int) + (rdRow s (d + 1) []).1 = R.at' ∧ P = R.pa ∧ Q = R.qu ∧ b = R.hq ∧ cutS s (d + 1) (rdRow s (d + 1) []).1 = R.fr ∧ true = R.hf) ∧
            ((rdRow s (d + 1) []).2 = true → true = R.ok ∧ ((d + 1 : Nat) : Int) + (rdRow s (d + 1) []).1 = R.at' ∧ P = R.pa ∧ Q = R.qu ∧ b = R.hq ∧ cutS s (d + 1) (rdRow s (d + 1) []).1 = R.fr ∧ true = R.hf)) ∧
      (hasPre (s.drop d) [35] = false → true = R.ok ∧ (d : Int) = R.at' ∧ P = R.pa ∧ Q = R.qu ∧ b = R.hq ∧ [] = R.fr ∧ false = R.hf) := by
  subst hR
  have hp : hasPre (s.drop d) [35] = isAt s d 35 := pre1 s d 35
  rw [hp]
  refine ⟨⟨⟨by omega, by omega⟩, by omega⟩, by omega, fun h => ?_, fun h => ?_⟩
  · have hl := isAt_lt h
    have hr := rdRow_le (s := s) (a := d + 1) (w := []) (by omega)
    unfold rst3
    rw [if_pos h]
    exact ⟨⟨by omega, by omega⟩, ⟨h1, by omega, by omega⟩, fun h2 => ⟨h2.symm, by show _ = ((d + 1 + (rdRow s (d + 1) []).1 : Nat) : Int); omega, rfl, rfl, rfl, rfl, rfl⟩, fun h2 => ⟨h2.symm, by show _ = ((d + 1 + (rdRow s (d + 1) []).1 : Nat) : Int); omega, rfl, rfl, rfl, rfl, rfl⟩⟩
  · unfold rst3
    rw [if_neg (by rw [h]; simp)]
    exact ⟨rfl, rfl, rfl, rfl, rfl, rfl, rfl⟩
def ckRestK : List V → List Blk → Option (Prop × V × List Blk)
  | [.ptr _ 0], [.cells [.str s, .int .i64 a, .str sc, .str ho, .str po, .str _, .str [], .bool false, .str [], .bool false]] => some (s.length ≤ 2000 ∧ 0 ≤ a ∧ a ≤ s.length, .bool (rstL s a.toNat).ok, [.cells [.str s, .int .i64 (rstL s a.toNat).at', .str sc, .str ho, .str po, .str (rstL s a.toNat).pa, .str (rstL s a.toNat).qu, .bool (rstL s a.toNat).hq, .str (rstL s a.toNat).fr, .bool (rstL s a.toNat).hf]])
  | _, _ => none
def ckRest : Cf := ⟨fun | [.ptr i _] => [i] | _ => [], ckRestK⟩
theorem conRest : FCon pg 118 ckRest := by
  have hct := (ctF_ok conRow (ctA_ok conHasPre (ctN_ok _)))
  intro args bs q r bs' h hq
  replace h : ckRestK args bs = some (q, r, bs') := h
  unfold ckRestK at h
  split at h
  · cases h
    rename_i i s a sc ho po pa
    refine ⟨rfl, by first | exact Nat.le_refl _ | exact Nat.zero_le _, ?_⟩
    obtain ⟨h1, h2, h3⟩ := hq
    obtain ⟨a, rfl⟩ : ∃ k : Nat, a = k := ⟨a.toNat, by omega⟩
    rw [Int.toNat_natCast]
    show FCall pg 118 [.ptr (i + 9000) 0] [(i + 9000, .cells [.str s, .int .i64 a, .str sc, .str ho, .str po, .str pa, .str [], .bool false, .str [], .bool false])] (.bool (rstL s a).ok) [(i + 9000, .cells [.str s, .int .i64 (rstL s a).at', .str sc, .str ho, .str po, .str (rstL s a).pa, .str (rstL s a).qu, .bool (rstL s a).hq, .str (rstL s a).fr, .bool (rstL s a).hf])]
    refine fw118 (fun _ => false) [] rfl hct rfl (by simp) (by simp [hlIn, idsIn, Blk.menIn, V.menInL, V.menIn, V.flat, byF, lsF]) (by simp [V.menIn, V.menInL, idsIn]) ?_
    push_cast (config := { maxSteps := 10000000 })
    have hr1 := rdRow_le (s := s) (a := a) (w := [63, 35]) (by omega)
    have hL : rstL s a = if (rdRow s a [63, 35]).2 = false then ⟨false, a + (rdRow s a [63, 35]).1, cutS s a (rdRow s a [63, 35]).1, [], false, [], false⟩ else rst2 s (a + (rdRow s a [63, 35]).1) (cutS s a (rdRow s a [63, 35]).1) := rfl
    generalize rdRow s a [63, 35] = r1 at hr1 hL ⊢
    obtain ⟨n1, o1⟩ := r1
    simp only at hr1 hL ⊢
    obtain ⟨c, hc⟩ : ∃ c : Nat, c = a + n1 := ⟨_, rfl⟩
    have ec : (a : Int) + (n1 : Int) = (c : Int) := by omega
    have ec1 : (c : Int) + 1 = ((c + 1 : Nat) : Int) := by omega
    rw [← hc] at hL hr1
    generalize cutS s a n1 = P at hL ⊢
    simp only [ec, ec1, Int.toNat_natCast]
    refine ⟨⟨h1, by omega⟩, fun h => ?_, fun h => ⟨⟨⟨by omega, by omega⟩, by omega⟩, by omega, fun hq => ?_, fun hq => ?_⟩⟩
    · rw [hL, if_pos h]; exact ⟨rfl, rfl, rfl, rfl, rfl, rfl, rfl⟩
    all_goals rw [if_neg (by rw [h]; simp)] at hL
    all_goals rw [show hasPre (s.drop c) [63] = isAt s c 63 from pre1 s c 63] at hq
    · have hlt := isAt_lt hq
      have hL : rstL s a = if (rdRow s (c + 1) [35]).2 = false then ⟨false, c + 1 + (rdRow s (c + 1) [35]).1, P, cutS s (c + 1) (rdRow s (c + 1) [35]).1, true, [], false⟩ else rst3 s (c + 1 + (rdRow s (c + 1) [35]).1) P (cutS s (c + 1) (rdRow s (c + 1) [35]).1) true := by rw [hL]; unfold rst2; rw [if_pos hq]
      have hr2 := rdRow_le (s := s) (a := c + 1) (w := [35]) (by omega)
      generalize rdRow s (c + 1) [35] = r2 at hr2 hL ⊢
      obtain ⟨n2, o2⟩ := r2
      simp only at hr2 hL ⊢
      obtain ⟨d, hd⟩ : ∃ d : Nat, d = c + 1 + n2 := ⟨_, rfl⟩
      have ed : ((c + 1 : Nat) : Int) + (n2 : Int) = (d : Int) := by omega
      have ed1 : (d : Int) + 1 = ((d + 1 : Nat) : Int) := by omega
      rw [← hd] at hL hr2
      generalize cutS s (c + 1) n2 = Q at hL ⊢
      simp only [ed, ed1, Int.toNat_natCast]
      refine ⟨⟨by omega, by omega⟩, ⟨h1, by omega, by omega⟩, fun ho => ?_, fun ho => ?_⟩
      · rw [hL, if_pos ho]; exact ⟨rfl, rfl, rfl, rfl, rfl, rfl, rfl⟩
      · exact rest3 h1 hr2 (by rw [hL, if_neg (by rw [ho]; simp)])
    · have hL : rstL s a = rst3 s c P [] false := by rw [hL]; unfold rst2; rw [if_neg (by rw [hq]; simp)]
      exact rest3 h1 hr1 hL
  · cases h
attribute [push_cast] ckRestK
@[push_cast] theorem rest_ids (i o : Nat) : ckRest.ids [.ptr i o] = [i] := rfl
@[push_cast] theorem rest_k (i : Nat) (s sc ho po pa : List UInt8) (a : Int) : ckRest.k [.ptr i 0] [.cells [.str s, .int .i64 a, .str sc, .str ho, .str po, .str pa, .str [], .bool false, .str [], .bool false]] = some (s.length ≤ 2000 ∧ 0 ≤ a ∧ a ≤ s.length, .bool (rstL s a.toNat).ok, [.cells [.str s, .int .i64 (rstL s a.toNat).at', .str sc, .str ho, .str po, .str (rstL s a.toNat).pa, .str (rstL s a.toNat).qu, .bool (rstL s a.toNat).hq, .str (rstL s a.toNat).fr, .bool (rstL s a.toNat).hf]]) := rfl
def ckReadA : Ck
  | [.str s] => some (True, .tup [cAdr.enc (readA s).1, .int .i64 (readA s).2.1, .int .i64 (readA s).2.2])
  | _ => none
theorem conReadA : Con pg 85 ckReadA := by
  have hct := (ctA_ok conScheme (ctF_ok conPlace (ctF_ok conRest (ctN_ok _))))
  intro args q r h hq
  unfold ckReadA at h
  split at h
  · cases h
    rename_i s
    refine w85 (fun _ => false) [] rfl hct rfl rfl ?_
    push_cast (config := { maxSteps := 10000000 })
    have hb := sch_b s
    have hp := plc_b (s := s) (a := (schL s).2) hb
    refine ⟨fun h => ?_, fun h => ⟨by omega, fun h1 => ?_, fun h1 => ⟨⟨by omega, hb⟩, fun h2 => ⟨h2, ⟨by omega, hp⟩, fun h3 => ?_, fun h3 => ?_⟩, fun h2 => ⟨fun x => (by rw [h2] at x; cases x), ?_⟩⟩⟩⟩
    · have e : readA s = (noAdr, 0, 2) := by unfold readA; rw [if_pos (by omega)]
      rw [e]; exact ⟨⟨rfl, rfl, rfl, rfl, rfl, rfl, rfl, rfl⟩, rfl, rfl⟩
    · have e : readA s = (noAdr, ((schL s).2 : Int), 10) := by unfold readA; rw [if_neg (by omega), if_pos h1]
      rw [e]; exact ⟨⟨rfl, rfl, rfl, rfl, rfl, rfl, rfl, rfl⟩, rfl, rfl⟩
    · have h3 : (rstL s (plcL s (schL s).2).at').ok = false := h3.resolve_left (by rw [h2]; simp)
      have e : readA s = (noAdr, ((rstL s (plcL s (schL s).2).at').at' : Int), 10) := by unfold readA; rw [if_neg (by omega), if_neg (by rw [h1]; simp), if_neg (by rw [h2]; simp), if_pos h3]
      rw [e]; exact ⟨⟨rfl, rfl, rfl, rfl, rfl, rfl, rfl, rfl⟩, rfl, rfl⟩
    · have e : readA s = (⟨s.take ((schL s).2 - 3), (plcL s (schL s).2).ho, (plcL s (schL s).2).po, (rstL s (plcL s (schL s).2).at').pa, (rstL s (plcL s (schL s).2).at').qu, (rstL s (plcL s (schL s).2).at').hq, (rstL s (plcL s (schL s).2).at').fr, (rstL s (plcL s (schL s).2).at').hf⟩, 0, 0) := by unfold readA; rw [if_neg (by omega), if_neg (by rw [h1]; simp), if_neg (by rw [h2]; simp), if_neg (by rw [h3.2]; simp)]
      rw [e, if_pos h1]; exact ⟨⟨rfl, rfl, rfl, rfl, rfl, rfl, rfl, rfl⟩, rfl, rfl⟩
    · have e : readA s = (noAdr, ((plcL s (schL s).2).at' : Int), 10) := by unfold readA; rw [if_neg (by omega), if_neg (by rw [h1]; simp), if_pos h2]
      rw [e]; exact ⟨⟨rfl, rfl, rfl, rfl, rfl, rfl, rfl, rfl⟩, rfl, rfl⟩
  · cases h
attribute [push_cast] ckReadA

def adrOk (a : Adr) : Prop := a.sc.length ≤ 140737488355328 ∧ a.ho.length ≤ 140737488355328 ∧ a.po.length ≤ 140737488355328 ∧ a.pa.length ≤ 140737488355328 ∧ a.qu.length ≤ 140737488355328 ∧ a.fr.length ≤ 140737488355328
theorem isRow_0 (s : List UInt8) : ((reL s [] (s.length + 1) 0).2 && ((reL s [] (s.length + 1) 0).1 == s.length)) = rowR s := by
  have h := row_same (s := s) ok_3 0
  have e1 : rdRow s 0 [] = reL s [] (s.length + 1) 0 := by unfold rdRow; rw [List.drop_zero]
  have e2 : utN s 0 [] = s.length := by
    unfold utN
    rw [List.drop_zero]
    exact runN_at (Nat.le_refl _) (fun j _ => rfl) (fun h => absurd h (Nat.lt_irrefl _))
  have e3 : cutS s 0 s.length = s := by unfold cutS; rw [List.drop_zero, List.take_length]
  rw [e1, e2, e3] at h
  rw [h, ← rb0_iff]
  by_cases h0 : rb0 s < 0
  · rw [if_pos h0, decide_eq_true h0]; simp
  · rw [if_neg h0, decide_eq_false h0]; rfl
def ckBehind : Ck
  | [.agg [.str sc, .str ho, .str po, .str pa, .str qu, .bool hq, .str fr, .bool hf]] => some (adrOk ⟨sc, ho, po, pa, qu, hq, fr, hf⟩, .str (behL ⟨sc, ho, po, pa, qu, hq, fr, hf⟩))
  | _ => none
theorem conBehind : Con pg 80 ckBehind := by
  have hct := ctN_ok pg
  intro args q r h hq
  unfold ckBehind at h
  split at h
  · cases h
    rename_i sc ho po pa qu hq1 fr hf
    refine w80 (fun _ => false) [] rfl hct rfl rfl ?_
    push_cast (config := { maxSteps := 10000000 })
    obtain ⟨h1, h2, h3, h4, h5, h6⟩ := hq
    simp only at h1 h2 h3 h4 h5 h6
    refine ⟨fun a => ⟨by omega, by omega, fun b => ⟨by omega, by omega, ?_⟩, fun b => ?_⟩, fun a => ⟨fun b => ⟨by omega, by omega, ?_⟩, fun b => ?_⟩⟩
    all_goals subst a b
    all_goals simp [behL]
  · cases h
attribute [push_cast] ckBehind
def ckWrite1 : Ck
  | [.agg [.str sc, .str ho, .str po, .str pa, .str qu, .bool hq, .str fr, .bool hf]] => some (adrOk ⟨sc, ho, po, pa, qu, hq, fr, hf⟩, .str (wrL ⟨sc, ho, po, pa, qu, hq, fr, hf⟩))
  | _ => none
theorem conWrite1 : Con pg 46 ckWrite1 := by
  have hct := (ctA_ok conBehind (ctN_ok _))
  intro args q r h hq
  unfold ckWrite1 at h
  split at h
  · cases h
    rename_i sc ho po pa qu hq1 fr hf
    refine w46 (fun _ => false) [] rfl hct rfl rfl ?_
    push_cast (config := { maxSteps := 10000000 })
    obtain ⟨h1, h2, h3, h4, h5, h6⟩ := hq
    simp only at h1 h2 h3 h4 h5 h6
    have hb : ((behL ⟨sc, ho, po, pa, qu, hq1, fr, hf⟩).length : Int) ≤ 422212465065986 := by
      unfold behL
      simp only [List.length_append]
      have q1 : (if hq1 = true then 63 :: qu else []).length ≤ qu.length + 1 := by split <;> simp
      have q2 : (if hf = true then 35 :: fr else []).length ≤ fr.length + 1 := by split <;> simp
      omega
    refine ⟨by omega, by omega, fun h => ⟨by omega, by omega, ⟨h1, h2, h3, h4, h5, h6⟩, by omega, ?_⟩, fun h => ⟨⟨h1, h2, h3, h4, h5, h6⟩, by omega, ?_⟩⟩
    · unfold wrL; simp only; rw [if_neg h]; rfl
    · unfold wrL; simp only; rw [if_pos h, List.append_nil]; rfl
  · cases h
attribute [push_cast] ckWrite1
def ckCheckAdr : Ck
  | [.agg [.str sc, .str ho, .str po, .str pa, .str qu, .bool hq, .str fr, .bool hf]] => some (adrOk ⟨sc, ho, po, pa, qu, hq, fr, hf⟩, .int .i64 (checkAdrL ⟨sc, ho, po, pa, qu, hq, fr, hf⟩))
  | _ => none
theorem conCheckAdr : Con pg 11 ckCheckAdr := by
  have hct := (ctA_ok conSmallA (ctA_ok conIsHost0 (ctA_ok conPortOf (ctA_ok conIsRow (ctA_ok conWrite1 (ctN_ok _))))))
  intro args q r h hq
  unfold ckCheckAdr at h
  split at h
  · cases h
    rename_i sc ho po pa qu hq1 fr hf
    refine w11 (fun _ => false) [] rfl hct rfl rfl ?_
    push_cast (config := { maxSteps := 10000000 })
    obtain ⟨h1, h2, h3, h4, h5, h6⟩ := hq
    simp only at h1 h2 h3 h4 h5 h6
    have bP : (0 < (pa.length : Int)) ↔ ¬ pa = [] := by
      constructor
      · intro h e; subst e; simp at h
      · exact sne_pos
    have rP := rowP_re pa
    have rQ := isRow_0 qu
    have rF := isRow_0 fr
    rw [Bool.eq_iff_iff, Bool.and_eq_true, beq_iff_eq] at rP rQ rF
    have ok : adrOk ⟨sc, ho, po, pa, qu, hq1, fr, hf⟩ := ⟨h1, h2, h3, h4, h5, h6⟩
    have e47 : ((pa.getD 0 0).toNat : Int) = 47 ↔ (pa.getD 0 0).toNat = 47 := by omega
    have syn : synA ⟨sc, ho, po, pa, qu, hq1, fr, hf⟩ = true ↔ (((((((lowL sc = [104, 116, 116, 112] ∨ lowL sc = [104, 116, 116, 112, 115]) ∧ hostL ho = true) ∧ (po = [] ∨ ¬ portN po = 0)) ∧ (pa = [] ∨ ((pa.getD 0 0).toNat : Int) = 47)) ∧ ((reL pa [63] (pa.length + 1) 0).2 = true ∧ (reL pa [63] (pa.length + 1) 0).1 = pa.length)) ∧ ((reL qu [] (qu.length + 1) 0).2 = true ∧ (reL qu [] (qu.length + 1) 0).1 = qu.length)) ∧ ((reL fr [] (fr.length + 1) 0).2 = true ∧ (reL fr [] (fr.length + 1) 0).1 = fr.length)) := by
      rw [rP, rQ, rF, e47]
      unfold synA schOk
      simp only [Bool.and_eq_true, Bool.or_eq_true, beq_iff_eq, decide_eq_true_eq, ne_eq]
      rfl
    have kb : ¬ synA ⟨sc, ho, po, pa, qu, hq1, fr, hf⟩ = true → 10 = checkAdrL ⟨sc, ho, po, pa, qu, hq1, fr, hf⟩ := fun h => by
      unfold checkAdrL; rw [if_pos (by simpa using h)]
    have k3 : synA ⟨sc, ho, po, pa, qu, hq1, fr, hf⟩ = true → (¬qu = [] ∧ hq1 = false) ∨ (¬fr = [] ∧ hf = false) → 3 = checkAdrL ⟨sc, ho, po, pa, qu, hq1, fr, hf⟩ := fun h h' => by
      unfold checkAdrL; rw [if_neg (by rw [h]; simp), if_pos h']
    have k2 : synA ⟨sc, ho, po, pa, qu, hq1, fr, hf⟩ = true → ¬ ((¬qu = [] ∧ hq1 = false) ∨ (¬fr = [] ∧ hf = false)) → 2000 < ((wrL ⟨sc, ho, po, pa, qu, hq1, fr, hf⟩).length : Int) → 2 = checkAdrL ⟨sc, ho, po, pa, qu, hq1, fr, hf⟩ := fun h h' h'' => by
      unfold checkAdrL; rw [if_neg (by rw [h]; simp), if_neg h', if_pos (by omega)]
    have k0 : synA ⟨sc, ho, po, pa, qu, hq1, fr, hf⟩ = true → ¬ ((¬qu = [] ∧ hq1 = false) ∨ (¬fr = [] ∧ hf = false)) → ¬ 2000 < ((wrL ⟨sc, ho, po, pa, qu, hq1, fr, hf⟩).length : Int) → 0 = checkAdrL ⟨sc, ho, po, pa, qu, hq1, fr, hf⟩ := fun h h' h'' => by
      unfold checkAdrL; rw [if_neg (by rw [h]; simp), if_neg h', if_neg (by omega)]
    rw [syn] at kb k3 k2 k0
    clear syn e47 rP rQ rF
    generalize checkAdrL ⟨sc, ho, po, pa, qu, hq1, fr, hf⟩ = X at *
    generalize ((wrL ⟨sc, ho, po, pa, qu, hq1, fr, hf⟩).length : Int) = W at *
    generalize reL pa [63] (pa.length + 1) 0 = A1 at *
    generalize reL qu [] (qu.length + 1) 0 = A2 at *
    generalize reL fr [] (fr.length + 1) 0 = A3 at *
    generalize ((pa.getD 0 0).toNat : Int) = A4 at *
    generalize (portN po) = A5 at *
    generalize (hostL ho) = A6 at *
    have l1 : pa.length ≤ 4611686018427387900 := by omega
    have l2 : qu.length ≤ 4611686018427387900 := by omega
    have l3 : fr.length ≤ 4611686018427387900 := by omega
    have l4 : po.length ≤ 4611686018427387900 := by omega
    have l5 : ho.length ≤ 4611686018427387904 := by omega
    clear hct
    (repeat' (first | apply And.intro | intro _)) <;> first | assumption | omega | grind
  · cases h
attribute [push_cast] ckCheckAdr

theorem wfL_rowR : ∀ (s : List UInt8), rowR s = true → wfL s = true
  | [], _ => rfl
  | [a], h => by
    simp only [rowR, hex2, Bool.or_false, Bool.and_true, Bool.and_eq_true, decide_eq_true_eq] at h
    have : a ≠ 37 := fun e => h.2 (by rw [e]; rfl)
    simp [wfL, this]
  | [a, b], h => by
    simp only [rowR, hex2, Bool.or_false, Bool.and_true, Bool.and_eq_true, decide_eq_true_eq] at h
    have h1 : a ≠ 37 := fun e => h.1.2 (by rw [e]; rfl)
    have h2 : b ≠ 37 := fun e => h.2.2 (by rw [e]; rfl)
    simp [wfL, h1, h2]
  | c :: a :: b :: r, h => by
    rw [rowR] at h
    simp only [Bool.and_eq_true, Bool.or_eq_true, decide_eq_true_eq] at h
    by_cases hc : c = 37
    · have h2 := h.1.2.resolve_left (fun x => x (by rw [hc]; rfl))
      simp only [hex2, Bool.and_eq_true] at h2
      have hr := rowR_tail [a, b] h.2
      rw [wfL, if_pos hc, Bool.and_eq_true, Bool.and_eq_true]
      exact ⟨h2, wfL_rowR r hr⟩
    · rw [wfL, if_neg hc]
      exact wfL_rowR (a :: b :: r) h.2
def ckUndot : Ck
  | [.str s] => some (s.length ≤ 2000, .str (undotL s))
  | _ => none
theorem spl_sum (c : UInt8) : ∀ s : List UInt8, (spl c s).length ≤ s.length + 1
  | [] => by simp [spl]
  | x :: t => by
    have := spl_sum c t
    have := List.length_pos_iff.2 (spl_ne c t)
    rw [spl]
    split
    · simp only [List.length_cons]; omega
    · simp only [List.length_cons, List.length_tail]; omega
theorem conUndot : Con pg 57 ckUndot := by
  have hct := (ctA_ok conSplit (ctA_ok conJoin (ctN_ok _)))
  intro args q r h hq
  unfold ckUndot at h
  split at h
  · cases h
    rename_i s
    refine w57 (fun d => decide (d = 20012)) [] rfl hct rfl rfl ?_
    push_cast (config := { maxSteps := 10000000 })
    refine ⟨fun h => by subst h; rfl, fun h => ?_⟩
    have h1 : 1 ≤ s.length := List.length_pos_iff.2 h
    have eU : undotL s = joinSl (dotGo (splitL (s.drop 1) 47) []) := by unfold undotL; rw [if_neg h]
    rw [eU]
    (repeat (refine ⟨by omega, ?_⟩))
    have hP0 : (splitL (s.drop 1) 47).length ≤ 2000 := by
      have := splitL_le (s.drop 1) 47
      rw [List.length_drop] at this; omega
    have hPn : splitL (s.drop 1) 47 ≠ [] := by rw [splitL_eq]; exact spl_ne _ _
    have hPl : ∀ x ∈ splitL (s.drop 1) 47, x.length ≤ 2000 := fun x hx => by
      rw [splitL_eq] at hx
      have := spl_len 47 _ x hx
      rw [List.length_drop] at this; omega
    have hJl := dotGo_len (splitL (s.drop 1) 47) []
    have hJs : (joinSl (splitL (s.drop 1) 47)).length ≤ 2000 := by
      rw [splitL_eq, joinSl_spl, List.length_cons, List.length_drop]; omega
    have hDn := dotGo_ne (splitL (s.drop 1) 47) [] hPn
    generalize splitL (s.drop 1) 47 = P at *
    refine LoopW.adj ⟨hct, fol⟩ (by kernel_rfl) [.nv 4 8000 1 (lsF cStr [])] (fun t : Nat × List (List UInt8) => [(3, .sl P.length (lsF cStr P)), (4, .vec 8000 t.2.length), (12, .sl P.length (lsF cStr P)), (13, .int .i64 P.length), (14, .int .i64 t.1)]) (fun t => [(8000, .vec 1 t.2.length (lsF cStr t.2))]) (fun t => t.1 ≤ P.length ∧ t.2.length ≤ t.1 ∧ dotGo (P.drop t.1) t.2 = dotGo P []) (fun t => P.length - t.1) (0, []) ?_ fun t ht => ?_
    · push_cast (config := { maxSteps := 10000000 })
      exact Nat.zero_le _
    · obtain ⟨i, o⟩ := t
      obtain ⟨i1, i2, i3⟩ : i ≤ P.length ∧ o.length ≤ i ∧ dotGo (P.drop i) o = dotGo P [] := ht
      push_cast (config := { maxSteps := 10000000 })
      refine ⟨fun hlt => ⟨hlt, ?_⟩, fun hge => ?_⟩
      · rw [dropG (d := []) hlt, dotGo] at i3
        have hne : P.drop (i + 1) = [] ↔ i + 1 = P.length := by
          rw [List.drop_eq_nil_iff]; omega
        refine SeqW.cut ⟨hct, fol⟩ (by kernel_rfl) (by kernel_rfl) [.trim 4] (fun o' : List (List UInt8) => [(3, .sl P.length (lsF cStr P)), (4, .vec 8000 o'.length), (5, .int .i64 i), (12, .sl P.length (lsF cStr P)), (13, .int .i64 P.length), (14, .int .i64 i)]) (fun o' => [(8000, .vec 1 o'.length (lsF cStr o'))]) (fun o' => o'.length ≤ i ∧ dotGo (P.drop (i + 1)) (if i + 1 = P.length then o' ++ [[]] else o') = dotGo P []) ?_ fun o' ho => ?_
        · push_cast (config := { maxSteps := 10000000 })
          have dl : ∀ j, j < o.length - 1 → V.str (o.getD j []) = V.str (o.dropLast.getD j []) := fun j hj => by
            rw [List.getD_eq_getElem?_getD, List.getD_eq_getElem?_getD, List.getElem?_dropLast, if_pos hj]
          refine ⟨fun h => ⟨⟨by omega, by omega⟩, ⟨⟨by omega, by omega⟩, by omega⟩, o.dropLast, ⟨by rw [List.length_dropLast]; omega, ?_⟩, by rw [List.length_dropLast]; omega, by rw [List.length_dropLast]; omega, fun j hj => dl j (by omega)⟩, fun h => ⟨fun h2 => ⟨⟨by omega, by omega⟩, ⟨by omega, by omega⟩, ((i + 1, o ++ [P.getD i []]) : Nat × List (List UInt8)), ⟨by show i + 1 ≤ _; omega, by show (o ++ [_]).length ≤ i + 1; simp; omega, ?_⟩, by show P.length - (i + 1) < P.length - i; omega, ⟨by simp, by show (i : Int) + 1 = ((i + 1 : Nat) : Int); omega⟩, by simp, fun j hj => ?_⟩, fun h2 => ⟨o, ⟨i2, ?_⟩, rfl, rfl, fun _ _ => rfl⟩⟩⟩
          · rw [if_pos h] at i3
            by_cases e : i + 1 = P.length
            · rw [if_pos (hne.2 e)] at i3; rw [if_pos e]; exact i3
            · rw [if_neg (fun x => e (hne.1 x))] at i3; rw [if_neg e]; exact i3
          · rw [if_neg h, if_neg h2] at i3; exact i3
          · exact (LsI.app (c := cStr) (f := lsF cStr o) (g := litF [cStr.enc (P.getD i [])]) (LsI.ls o) (LsI.one (c := cStr) (a := P.getD i []) rfl) rfl).2 j hj
          · rw [if_neg h, if_pos h2] at i3
            by_cases e : i + 1 = P.length
            · rw [if_pos (hne.2 e)] at i3; rw [if_pos e]; exact i3
            · rw [if_neg (fun x => e (hne.1 x))] at i3; rw [if_neg e]; exact i3
        · push_cast (config := { maxSteps := 10000000 })
          obtain ⟨o1, o2⟩ := ho
          refine ⟨⟨by omega, by omega⟩, fun h => ⟨⟨by omega, by omega⟩, ⟨by omega, by omega⟩, ((i + 1, o' ++ [[]]) : Nat × List (List UInt8)), ⟨by show i + 1 ≤ _; omega, by show (o' ++ [_]).length ≤ i + 1; simp; omega, by rw [if_pos (by omega)] at o2; exact o2⟩, by show P.length - (i + 1) < P.length - i; omega, ⟨by simp, by show (i : Int) + 1 = ((i + 1 : Nat) : Int); omega⟩, by simp, fun j hj => ?_⟩, fun h => ⟨⟨by omega, by omega⟩, ((i + 1, o') : Nat × List (List UInt8)), ⟨by show i + 1 ≤ _; omega, by show o'.length ≤ i + 1; omega, by rw [if_neg (by omega)] at o2; exact o2⟩, by show P.length - (i + 1) < P.length - i; omega, ⟨rfl, by show (i : Int) + 1 = ((i + 1 : Nat) : Int); omega⟩, rfl, fun _ _ => rfl⟩⟩
          exact (LsI.app (c := cStr) (f := lsF cStr o') (g := litF [cStr.enc []]) (LsI.ls o') (LsI.one (c := cStr) (a := []) rfl) rfl).2 j hj
      · rw [List.drop_eq_nil_of_le (by omega), dotGo] at i3
        rw [← i3] at hJl hDn ⊢
        have hj := join_sl (L := o) hDn
        have hlen := congrArg List.length hj
        rw [List.length_cons] at hlen
        have h0 : (joinSl []).length = 0 := rfl
        exact ⟨⟨by omega, by omega⟩, by omega, hj⟩
  · cases h
attribute [push_cast] ckUndot
def ckNormA : Ck
  | [.agg [.str sc, .str ho, .str po, .str pa, .str qu, .bool hq, .str fr, .bool hf]] => some (checkAdrL ⟨sc, ho, po, pa, qu, hq, fr, hf⟩ = 0, cAdr.enc (normA ⟨sc, ho, po, pa, qu, hq, fr, hf⟩))
  | _ => none
theorem check_sz {a : Adr} (h : checkAdrL a = 0) : synA a = true ∧ (wrL a).length ≤ 2000 ∧ a.sc.length ≤ 2000 ∧ a.ho.length ≤ 2000 ∧ a.po.length ≤ 2000 ∧ a.pa.length ≤ 2000 ∧ a.qu.length ≤ 2000 ∧ a.fr.length ≤ 2000 := by
  unfold checkAdrL at h
  split at h
  · cases h
  rename_i h1
  split at h
  · cases h
  rename_i h2
  split at h
  · cases h
  rename_i h3
  have hw : (wrL a).length ≤ 2000 := by omega
  have hw' := hw
  unfold wrL behL at hw'
  simp only [List.length_append] at hw'
  have hp : a.po.length ≤ (if a.po = [] then [] else 58 :: a.po).length := by split <;> simp_all
  have hq : a.qu.length ≤ (if a.hq = true then 63 :: a.qu else []).length := by
    split
    · simp
    · have : a.qu = [] := Classical.byContradiction fun x => h2 (.inl ⟨x, by simp_all⟩)
      rw [this]; simp
  have hf : a.fr.length ≤ (if a.hf = true then 35 :: a.fr else []).length := by
    split
    · simp
    · have : a.fr = [] := Classical.byContradiction fun x => h2 (.inr ⟨x, by simp_all⟩)
      rw [this]; simp
  exact ⟨by simpa using h1, hw, by omega, by omega, by omega, by omega, by omega, by omega⟩
theorem syn_wf {a : Adr} (h : synA a = true) : wfL a.pa = true ∧ wfL a.qu = true := by
  unfold synA at h
  simp only [Bool.and_eq_true] at h
  have h1 := h.1.1.2
  rw [rowP_rowR, Bool.and_eq_true] at h1
  exact ⟨wfL_rowR _ h1.1, wfL_rowR _ h.1.2⟩
theorem conNormA : Con pg 17 ckNormA := by
  have hct := (ctA_ok conSmallA (ctA_ok conTrimLeft (ctA_ok conNormalRow (ctA_ok conUndot (ctN_ok _)))))
  intro args q r h hq
  unfold ckNormA at h
  split at h
  · cases h
    rename_i sc ho po pa qu hq1 fr hf
    refine w17 (fun _ => false) [] rfl hct rfl rfl ?_
    push_cast (config := { maxSteps := 10000000 })
    obtain ⟨z1, z2, z3, z4, z5, z6, z7, z8⟩ := check_sz hq
    obtain ⟨y1, y2⟩ := syn_wf z1
    simp only at z3 z4 z5 z6 z7 z8 y1 y2
    have n1 := normL_len pa
    simp only [trimLeft_z, normA, portA, npL, show wHttp = [104, 116, 116, 112] from rfl, show wHttps = [104, 116, 116, 112, 115] from rfl]
    generalize undotL (normL pa) = up at *
    generalize lowL sc = lsc at *
    generalize trimZ po = tp at *
    (repeat' (first | apply And.intro | intro _)) <;> first | assumption | omega | grind
  · cases h
attribute [push_cast] ckNormA
def ckNormAF : Ck
  | [.agg [.str sc, .str ho, .str po, .str pa, .str qu, .bool hq, .str fr, .bool hf]] => some (checkAdrL ⟨sc, ho, po, pa, qu, hq, fr, hf⟩ = 0, .tup [cAdr.enc (if checkAdrL (normA ⟨sc, ho, po, pa, qu, hq, fr, hf⟩) = 0 then normA ⟨sc, ho, po, pa, qu, hq, fr, hf⟩ else noAdr), .int .i64 (checkAdrL (normA ⟨sc, ho, po, pa, qu, hq, fr, hf⟩))])
  | _ => none
theorem ok_sz {a : Adr} (h : checkAdrL a = 0) : adrOk a := by
  obtain ⟨z1, z2, z3, z4, z5, z6, z7, z8⟩ := check_sz h
  unfold adrOk
  omega
theorem undotL_len (s : List UInt8) : (undotL s).length ≤ s.length + 1 := by
  unfold undotL
  split
  · simp
  · have h := dotGo_len (splitL (s.drop 1) 47) []
    have h2 := congrArg List.length (joinSl_spl (s.drop 1))
    rw [← splitL_eq, List.length_cons, List.length_drop] at h2
    have h0 : (joinSl []).length = 0 := rfl
    omega
theorem norm_ok {a : Adr} (h : checkAdrL a = 0) : adrOk (normA a) := by
  obtain ⟨z1, z2, z3, z4, z5, z6, z7, z8⟩ := check_sz h
  have h1 := undotL_len (normL a.pa)
  have h2 := normL_len a.pa
  have h3 := normL_len a.qu
  have h4 := trimZ_len a.po
  have h5 : (portA a).length ≤ (trimZ a.po).length := by unfold portA; split <;> simp
  have h6 : (npL a).length ≤ 2001 := by
    unfold npL
    split
    · simp
    · omega
  have h7 := lowL_len a.sc
  have h8 := lowL_len a.ho
  have h9 : ([] : List UInt8).length = 0 := rfl
  unfold adrOk
  exact ⟨by show (lowL a.sc).length ≤ _; omega, by show (lowL a.ho).length ≤ _; omega, by show (portA a).length ≤ _; omega, by show (npL a).length ≤ _; omega, by show (normL a.qu).length ≤ _; omega, by show ([] : List UInt8).length ≤ _; omega⟩
theorem conNormAF : Con pg 7 ckNormAF := by
  have hct := (ctA_ok conCheckAdr (ctA_ok conNormA (ctN_ok _)))
  intro args q r h hq
  unfold ckNormAF at h
  split at h
  · cases h
    rename_i sc ho po pa qu hq1 fr hf
    refine w7 (fun _ => false) [] rfl hct rfl rfl ?_
    push_cast (config := { maxSteps := 10000000 })
    have a1 := ok_sz hq
    generalize (⟨sc, ho, po, pa, qu, hq1, fr, hf⟩ : Adr) = a at *
    have a2 : adrOk (normA a) := norm_ok hq
    rw [show (⟨(normA a).sc, (normA a).ho, (normA a).po, (normA a).pa, (normA a).qu, (normA a).hq, (normA a).fr, (normA a).hf⟩ : Adr) = normA a from rfl]
    refine ⟨a1, fun h => absurd hq h, fun _ => ⟨hq, a2, fun h => ?_, fun h => ?_⟩⟩
    · rw [if_neg h]; exact ⟨rfl, rfl, rfl, rfl, rfl, rfl, rfl, rfl⟩
    · rw [if_pos h]; exact ⟨⟨rfl, rfl, rfl, rfl, rfl, rfl, rfl, rfl⟩, h.symm⟩
  · cases h
attribute [push_cast] ckNormAF

def ckTrimA : Ck
  | [.str s] => some (s.length ≤ 4611686018427387904, .str (trimA s))
  | _ => none
theorem conTrimA : Con pg 83 ckTrimA := by
  have hct := (ctA_ok conTrim (ctN_ok _))
  intro args q r h hq
  unfold ckTrimA at h
  split at h
  · cases h
    rename_i s
    refine w83 (fun _ => false) [] rfl hct rfl rfl ?_
    push_cast (config := { maxSteps := 10000000 })
    exact ⟨hq, rfl⟩
  · cases h
attribute [push_cast] ckTrimA
def fitA (s : List UInt8) (j : Nat) : Bool := if j = 0 then isLet ((s.getD j 0).toNat : Int) else schC (s.getD j 0)
theorem rowN_at {s : List UInt8} {i : Nat} (h : i ≤ s.length) (h1 : ∀ j, j < i → fitA s j = true) (h2 : i < s.length → fitA s i = false) : rowN s = i := by
  unfold rowN
  cases s with
  | nil =>
    obtain rfl : i = 0 := by simpa using h
    rfl
  | cons c t =>
    cases i with
    | zero =>
      have := h2 (by simp)
      rw [if_neg]
      intro e
      rw [show fitA (c :: t) 0 = isLet (((c :: t).getD 0 0).toNat : Int) from rfl, e] at this
      cases this
    | succ i =>
      have h0 : isLet (((c :: t).getD 0 0).toNat : Int) = true := h1 0 (by omega)
      rw [if_pos h0, List.drop_one, List.tail_cons, runN_at (n := i) (by simpa using h) (fun j hj => ?_) (fun hj => ?_), Nat.add_comm]
      · have := h1 (j + 1) (by omega)
        simpa [fitA] using this
      · have := h2 (by simpa using hj)
        simpa [fitA] using this
theorem cut_sz (s c : List UInt8) : (Lib.cut s c).1.length ≤ s.length ∧ (Lib.cut s c).2.1.length ≤ s.length := by
  unfold Lib.cut
  split
  · exact ⟨by show (s.take _).length ≤ _; rw [List.length_take]; omega, by show (s.drop _).length ≤ _; rw [List.length_drop]; omega⟩
  · exact ⟨Nat.le_refl _, by simp⟩
def ckRowA : Ck
  | [.str s] => some (s.length ≤ 4611686018427387904, .str (rowA s))
  | _ => none
theorem conRowA : Con pg 84 ckRowA := by
  have hct := (ctA_ok conIsLet (ctA_ok conIsDig (ctN_ok _)))
  intro args q r h hq
  unfold ckRowA at h
  split at h
  · cases h
    rename_i s
    refine w84 (fun _ => false) [] rfl hct rfl rfl ?_
    push_cast (config := { maxSteps := 10000000 })
    refine LoopW.adj ⟨hct, fol⟩ (by kernel_rfl) [] (fun i : Nat => [(0, .str s), (6, .int .i64 s.length), (7, .int .i64 i)]) (fun _ => []) (fun i => i ≤ s.length ∧ ∀ j, j < i → fitA s j = true) (fun i => s.length - i) 0 ?_ fun i hi => ?_
    · push_cast (config := { maxSteps := 10000000 })
      exact Nat.zero_le _
    · obtain ⟨i1, i2⟩ := hi
      push_cast (config := { maxSteps := 10000000 })
      have eR : ∀ k, k = i → rowN s = k → rowA s = if (s.getD i 0).toNat = 58 then s.take i else [] := fun k hk h => by
        unfold rowA; rw [h, hk]
      have c0 : (i : Int) = 0 ↔ i = 0 := by omega
      have c1 : ∀ n : Nat, (((s.getD i 0).toNat : Int) = (n : Int)) ↔ (s.getD i 0).toNat = n := fun n => by omega
      have c58 : ((s.getD i 0).toNat : Int) = 58 ↔ (s.getD i 0).toNat = 58 := by omega
      have c43 : ((s.getD i 0).toNat : Int) = 43 ↔ (s.getD i 0).toNat = 43 := by omega
      have c45 : ((s.getD i 0).toNat : Int) = 45 ↔ (s.getD i 0).toNat = 45 := by omega
      have c46 : ((s.getD i 0).toNat : Int) = 46 ↔ (s.getD i 0).toNat = 46 := by omega
      simp only [c0, c58, c43, c45, c46]
      have fF : fitA s i = if i = 0 then isLet ((s.getD i 0).toNat : Int) else schC (s.getD i 0) := rfl
      have fS : schC (s.getD i 0) = true ↔ isLet ((s.getD i 0).toNat : Int) = true ∨ isDig ((s.getD i 0).toNat : Int) = true ∨ (s.getD i 0).toNat = 43 ∨ (s.getD i 0).toNat = 45 ∨ (s.getD i 0).toNat = 46 := by
        unfold schC
        simp only [Bool.or_eq_true, decide_eq_true_eq, or_assoc]
      have f58 : (s.getD i 0).toNat = 58 → isLet ((s.getD i 0).toNat : Int) = false ∧ isDig ((s.getD i 0).toNat : Int) = false := fun h => by rw [h]; decide
      have stop : i < s.length → fitA s i = false → rowA s = if (s.getD i 0).toNat = 58 then s.take i else [] := fun h1 h2 => eR i rfl (rowN_at i1 i2 fun _ => h2)
      have endR : ¬ i < s.length → rowA s = [] := fun h => by
        rw [eR i rfl (rowN_at i1 i2 fun h' => absurd h' h), if_neg]
        rw [List.getD_eq_getElem?_getD, List.getElem?_eq_none (by omega)]; decide
      have nx : fitA s i = true → ∀ j, j < i + 1 → fitA s j = true := fun h j hj => by
        by_cases e : j = i
        · subst e; exact h
        · exact i2 j (by omega)
      clear eR c1 i2
      generalize fitA s i = ft at *
      generalize schC (s.getD i 0) = sc at *
      generalize isLet ((s.getD i 0).toNat : Int) = bl at *
      generalize isDig ((s.getD i 0).toNat : Int) = bd at *
      generalize (s.getD i 0).toNat = u at *
      refine ⟨fun hl => ⟨hl, fun h => ⟨i1, ?_⟩, fun h => ⟨by grind, by grind, by grind, by grind, fun h2 => ?_, fun h2 => ⟨by omega, i + 1, ⟨by omega, nx ?_⟩, by omega, by omega⟩⟩⟩, fun hl => (endR hl).symm⟩
      · rw [stop hl (by grind), if_pos h]
      · rw [stop hl (by grind), if_neg h]
      · grind
  · cases h
attribute [push_cast] ckRowA
def ckTextA : Ck
  | [.agg [.str sc, .str ho, .str po, .str pa, .str qu, .bool hq, .str fr, .bool hf]] => some (adrOk ⟨sc, ho, po, pa, qu, hq, fr, hf⟩, .tup [.str (if checkAdrL ⟨sc, ho, po, pa, qu, hq, fr, hf⟩ = 0 then wrL ⟨sc, ho, po, pa, qu, hq, fr, hf⟩ else []), .int .i64 (checkAdrL ⟨sc, ho, po, pa, qu, hq, fr, hf⟩)])
  | _ => none
theorem conTextA : Con pg 49 ckTextA := by
  have hct := (ctA_ok conCheckAdr (ctA_ok conWrite1 (ctN_ok _)))
  intro args q r h hq
  unfold ckTextA at h
  split at h
  · cases h
    rename_i sc ho po pa qu hq1 fr hf
    refine w49 (fun _ => false) [] rfl hct rfl rfl ?_
    push_cast (config := { maxSteps := 10000000 })
    exact ⟨hq, fun h => (if_neg h).symm, fun h => ⟨hq, (if_pos h).symm, h.symm⟩⟩
  · cases h
attribute [push_cast] ckTextA
def ckMeantA : Ck
  | [.agg [.str sc, .str ho, .str po, .str pa, .str qu, .bool hq, .str fr, .bool hf], .str s] => some (adrOk ⟨sc, ho, po, pa, qu, hq, fr, hf⟩ ∧ s.length ≤ 2000, cAdr.enc (meantA ⟨sc, ho, po, pa, qu, hq, fr, hf⟩ s))
  | _ => none
theorem conMeantA : Con pg 86 ckMeantA := by
  have hct := (ctA_ok conCut (ctA_ok conLastIdx (ctN_ok _)))
  intro args q r h hq
  unfold ckMeantA at h
  split at h
  · cases h
    rename_i sc ho po pa qu hq1 fr hf s
    refine w86 (fun _ => false) [] rfl hct rfl rfl ?_
    push_cast (config := { maxSteps := 10000000 })
    obtain ⟨x1, x2, x3, x4, x5, x6⟩ := hq.1
    obtain ⟨c1, c2⟩ := cut_sz s [35]
    obtain ⟨c3, c4⟩ := cut_sz (Lib.cut s [35]).1 [63]
    have lb := lastI_b pa 47 pa.length
    unfold meantA meantP
    generalize hc2 : Lib.cut (Lib.cut s [35]).1 [63] = k2 at *
    generalize hc1 : Lib.cut s [35] = k1 at *
    obtain ⟨p0, q0, h0⟩ := k2
    obtain ⟨s0, f0, g0⟩ := k1
    simp only at *
    refine ⟨by omega, by omega, fun h => ⟨fun h2 => ?_, fun h2 => ?_⟩, fun h => ?_⟩
    · rw [if_pos h, if_neg (by rw [h2]; simp)]; exact ⟨rfl, rfl, rfl, rfl, rfl, rfl, rfl, rfl⟩
    · rw [if_pos h, if_pos h2]; exact ⟨rfl, rfl, rfl, rfl, rfl, h2, rfl, rfl⟩
    have hp := List.length_pos_iff.2 h
    rw [if_neg h]
    have ct : ∀ u : UInt8, (¬ (u.toNat : Int) = 47 ↔ ¬ u.toNat = 47) ∧ ((u.toNat : Int) = 47 ↔ u.toNat = 47) := fun u => by omega
    simp only [ct]
    refine ⟨by omega, fun h2 => ⟨by omega, by omega, by omega, by omega, by omega, fun h3 => ⟨by omega, ?_⟩, fun h3 => ?_⟩, fun h2 => ?_⟩
    · rw [if_neg h2, if_neg h3]; (repeat' apply And.intro) <;> first | rfl | trivial
    · rw [if_neg h2, if_pos h3]; (repeat' apply And.intro) <;> first | rfl | trivial
    · rw [if_pos h2]; (repeat' apply And.intro) <;> first | rfl | trivial
  · cases h
attribute [push_cast] ckMeantA
theorem trimS_len (s c : List UInt8) : (Lib.trimS s c).length ≤ s.length := by
  have h1 : ∀ l, (Lib.trimLeftS l c).length ≤ l.length := fun l => by
    unfold Lib.trimLeftS; exact (List.dropWhile_sublist _).length_le
  have h2 : ∀ l, (Lib.trimRightS l c).length ≤ l.length := fun l => by
    unfold Lib.trimRightS
    have := (List.dropWhile_sublist (l := l.reverse) (fun b => c.contains b)).length_le
    simpa using this
  unfold Lib.trimS
  exact Nat.le_trans (h1 _) (h2 _)
theorem meantA_ok {b : Adr} {s : List UInt8} (h : adrOk b) (hb : b.pa.length ≤ 2000) (hs : s.length ≤ 2000) : adrOk (meantA b s) := by
  obtain ⟨x1, x2, x3, x4, x5, x6⟩ := h
  obtain ⟨c1, c2⟩ := cut_sz s [35]
  obtain ⟨c3, c4⟩ := cut_sz (Lib.cut s [35]).1 [63]
  have mp : (meantP b.pa (Lib.cut (Lib.cut s [35]).1 [63]).1).length ≤ 4001 := by
    have : (b.pa.take (lastI b.pa 47 b.pa.length + 1).toNat).length ≤ b.pa.length := by rw [List.length_take]; omega
    unfold meantP
    split
    · omega
    · split
      · rw [List.length_append]; omega
      · rw [List.length_cons, List.length_append]; omega
  unfold meantA
  split
  · split
    · exact ⟨x1, x2, x3, x4, by show (Lib.cut _ _).2.1.length ≤ _; omega, by show (Lib.cut _ _).2.1.length ≤ _; omega⟩
    · exact ⟨x1, x2, x3, x4, x5, by show (Lib.cut _ _).2.1.length ≤ _; omega⟩
  · exact ⟨x1, x2, x3, by show (meantP _ _).length ≤ _; omega, by show (Lib.cut _ _).2.1.length ≤ _; omega, by show (Lib.cut _ _).2.1.length ≤ _; omega⟩
theorem res0_ok {b : Adr} {t : List UInt8} (h : adrOk b) (hb : b.pa.length ≤ 2000 ∧ t.length ≤ 2000) : adrOk (res0 b t).1 := by
  have rd : ∀ u, adrOk (readA u).1 := fun u => by
    obtain ⟨r1, r2, r3, r4, r5, r6⟩ := readA_sz u
    unfold adrOk; omega
  have no : adrOk noAdr := by unfold adrOk noAdr; simp
  obtain ⟨x1, x2, x3, x4, x5, x6⟩ := id h
  unfold res0
  split
  · exact ⟨x1, x2, x3, x4, x5, by show ([] : List UInt8).length ≤ _; simp⟩
  · split
    · split
      · exact no
      · exact rd _
    · split
      · exact rd _
      · exact meantA_ok h hb.1 hb.2
def ckResolve : Ck
  | [.agg [.str sc, .str ho, .str po, .str pa, .str qu, .bool hq, .str fr, .bool hf], .str s] => some (adrOk ⟨sc, ho, po, pa, qu, hq, fr, hf⟩ ∧ s.length ≤ 140737488355328, .tup [cAdr.enc (resA ⟨sc, ho, po, pa, qu, hq, fr, hf⟩ s).1, .int .i64 (resA ⟨sc, ho, po, pa, qu, hq, fr, hf⟩ s).2])
  | _ => none
theorem conResolve : Con pg 52 ckResolve := by
  have hct := (ctA_ok conCheckAdr (ctA_ok conTrimA (ctA_ok conRowA (ctA_ok conSmallA (ctA_ok conReadA (ctA_ok conHasPre (ctA_ok conMeantA (ctA_ok conUndot (ctN_ok _)))))))))
  intro args q r h hq
  unfold ckResolve at h
  split at h
  · cases h
    rename_i sc ho po pa qu hq1 fr hf s
    refine w52 (fun d => decide (d = 20020)) [] rfl hct rfl rfl ?_
    push_cast (config := { maxSteps := 10000000 })
    generalize ea : (⟨sc, ho, po, pa, qu, hq1, fr, hf⟩ : Adr) = b at *
    obtain ⟨rfl, rfl, rfl, rfl, rfl, rfl, rfl, rfl⟩ : sc = b.sc ∧ ho = b.ho ∧ po = b.po ∧ pa = b.pa ∧ qu = b.qu ∧ hq1 = b.hq ∧ fr = b.fr ∧ hf = b.hf := by subst ea; exact ⟨rfl, rfl, rfl, rfl, rfl, rfl, rfl, rfl⟩
    have hT : (trimA s).length ≤ s.length := trimS_len s _
    have hR : (rowA (trimA s)).length ≤ (trimA s).length := by
      unfold rowA
      split
      · rw [List.length_take]; omega
      · simp
    refine ⟨hq.1, fun h => ?_, fun h => ⟨fun h2 => ?_, fun h2 => ⟨by omega, by omega, by omega, ?_⟩⟩⟩
    · unfold resA; rw [if_pos h]; exact ⟨⟨rfl, rfl, rfl, rfl, rfl, rfl, rfl, rfl⟩, rfl⟩
    · unfold resA; rw [if_neg (fun x => x h), if_pos (by omega)]; exact ⟨⟨rfl, rfl, rfl, rfl, rfl, rfl, rfl, rfl⟩, rfl⟩
    have eR : resA b s = if (res0 b (trimA s)).2 ≠ 0 then (noAdr, (res0 b (trimA s)).2) else if checkAdrL (res0 b (trimA s)).1 ≠ 0 then (noAdr, checkAdrL (res0 b (trimA s)).1) else ({ (res0 b (trimA s)).1 with pa := undotL (res0 b (trimA s)).1.pa }, 0) := by
      unfold resA; rw [if_neg (fun x => x h), if_neg (by omega)]
    obtain ⟨z1, z2, z3, z4, z5, z6, z7, z8⟩ := check_sz h
    generalize hr0 : res0 b (trimA s) = r0 at *
    have hok : adrOk r0.1 := by
      rw [← hr0]
      exact res0_ok hq.1 ⟨z6, by omega⟩
    have hl0 : (trimA s).length ≤ 2000 := by omega
    generalize trimA s = t at *
    refine SeqW.cut ⟨hct, fol⟩ (by kernel_rfl) (by kernel_rfl) [] (fun _ : Unit => [(4, .ptr 4 0), (9, .ptr 9 0), (10, .int .i64 r0.2)]) (fun _ => [(4, .cells [.str [], .str [], .str [], .str [], .str [], .bool false, .str [], .bool false]), (9, .cells (cAdr.enc r0.1).flat)]) (fun _ => True) ?_ fun _ _ => ?_
    · push_cast (config := { maxSteps := 10000000 })
      rw [show (⟨b.sc, b.ho, b.po, b.pa, b.qu, b.hq, b.fr, b.hf⟩ : Adr) = b from rfl, show hasPre t [47, 47] = slash2 t from rfl, show b.sc ++ [58] ++ t = b.sc ++ 58 :: t by simp]
      have u : ∀ x : Adr × Int, res0 b t = x → ∃ _ : Unit, x.2 = r0.2 ∧ x.1.sc = r0.1.sc ∧ x.1.ho = r0.1.ho ∧ x.1.po = r0.1.po ∧ x.1.pa = r0.1.pa ∧ x.1.qu = r0.1.qu ∧ x.1.hq = r0.1.hq ∧ x.1.fr = r0.1.fr ∧ x.1.hf = r0.1.hf := fun x hx => by
        rw [hr0] at hx
        rw [hx]
        exact ⟨(), rfl, rfl, rfl, rfl, rfl, rfl, rfl, rfl, rfl⟩
      have e0 : res0 b t = if t = [] then (⟨b.sc, b.ho, b.po, b.pa, b.qu, b.hq, [], false⟩, 0) else if lowL (rowA t) ≠ [] then (if lowL (rowA t) ≠ wHttp ∧ lowL (rowA t) ≠ wHttps then (noAdr, 4) else ((readA t).1, (readA t).2.2)) else if slash2 t = true then ((readA (b.sc ++ 58 :: t)).1, (readA (b.sc ++ 58 :: t)).2.2) else (meantA b t, 0) := rfl
      rw [show wHttp = [104, 116, 116, 112] from rfl, show wHttps = [104, 116, 116, 112, 115] from rfl] at e0
      refine ⟨fun g => u (⟨b.sc, b.ho, b.po, b.pa, b.qu, b.hq, [], false⟩, 0) (by rw [e0, if_pos g]), fun g => ⟨fun g2 => ?_, fun g2 => ⟨fun g3 => u ((readA t).1, (readA t).2.2) ?_, fun g3 => ⟨by omega, fun g4 => ⟨by omega, by omega, u ((readA (b.sc ++ 58 :: t)).1, (readA (b.sc ++ 58 :: t)).2.2) ?_⟩, fun g4 => ⟨⟨hq.1, hl0⟩, u (meantA b t, 0) ?_⟩⟩⟩⟩⟩
      · rw [if_neg g, if_pos g2.1.1, if_pos ⟨g2.1.2, g2.2⟩] at e0
        rw [hr0] at e0
        rw [eR, e0]
        exact ⟨⟨rfl, rfl, rfl, rfl, rfl, rfl, rfl, rfl⟩, rfl⟩
      · rw [e0, if_neg g, if_pos g3, if_neg]
        rintro ⟨x, y⟩
        exact y (g2 ⟨g3, x⟩)
      · rw [e0, if_neg g, if_neg (fun x => x g3), if_pos g4]
      · rw [e0, if_neg g, if_neg (fun x => x g3), if_neg (by rw [g4]; simp)]
    · push_cast (config := { maxSteps := 10000000 })
      rw [show (⟨r0.1.sc, r0.1.ho, r0.1.po, r0.1.pa, r0.1.qu, r0.1.hq, r0.1.fr, r0.1.hf⟩ : Adr) = r0.1 from rfl, eR]
      refine ⟨fun g => ?_, fun g => ⟨hok, fun g2 => ?_, fun g2 => ?_⟩⟩
      · rw [if_pos g]; exact ⟨⟨rfl, rfl, rfl, rfl, rfl, rfl, rfl, rfl⟩, rfl⟩
      · rw [if_neg (fun x => x g), if_pos g2]; exact ⟨⟨rfl, rfl, rfl, rfl, rfl, rfl, rfl, rfl⟩, rfl⟩
      · rw [if_neg (fun x => x g), if_neg (fun x => x g2)]
        obtain ⟨-, -, -, -, -, y6, -, -⟩ := check_sz g2
        exact ⟨y6, ⟨rfl, rfl, rfl, rfl, rfl, rfl, rfl, rfl⟩, rfl⟩
  · cases h
attribute [push_cast] ckResolve

end Go.Abs
