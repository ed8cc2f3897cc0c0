/- what functions of this program compute: contracts, each a function's own -/
import Derived.Test.YtkpecjbbmadlcaaGreatDoorAbsK3
import Derived.Test.YtkpecjbbmadlcaaGreatDoorAbsFacts
import Derived.Test.YtkpecjbbmadlcaaGreatDoorAbsF3
import Derived.Test.YtkpecjbbmadlcaaGreatDoorAbsShelf
import Derived.Lib.SplitLaws
import Derived.Lib.SlTrimSet
import Derived.Lib.Atoi
import Derived.Lib.Itoa
import Derived.Lib.ItoaNum
import Derived.Lib.Replace
import Derived.Lib.ReplaceLaws
import Derived.Lib.AtoiErrMem
import Derived.Lib.Join
namespace Go.Abs
open Go Go.Proofs
set_option maxHeartbeats 4000000
set_option maxRecDepth 100000
set_option linter.unusedVariables false
set_option linter.unusedSimpArgs false
theorem slice_drop {s : List UInt8} {a : Nat} (h : a ≤ s.length) : (s.drop a).take (s.length - a) = s.drop a := List.take_of_length_le (by rw [List.length_drop]; omega)
theorem pre1 (s : List UInt8) (a : Nat) (c : UInt8) : hasPre (s.drop a) [c] = isAt s a c.toNat := by
  rw [Bool.eq_iff_iff, isAt_iff]
  unfold hasPre
  rw [Bool.and_eq_true, decide_eq_true_eq, beq_iff_eq, List.length_drop, List.length_singleton]
  constructor
  · rintro ⟨h1, h2⟩
    rw [dropD s a (by omega)] at h2
    have := (List.cons.inj h2).1
    exact ⟨by omega, by rw [this]⟩
  · rintro ⟨h1, h2⟩
    refine ⟨by omega, ?_⟩
    rw [dropD s a h1]
    have : s.getD a 0 = c := UInt8.toNat_inj.1 h2
    rw [this]; rfl
def ckPlaceK : List V → List Blk → Option (Prop × V × List Blk)
  | [.ptr _ 0], [.cells [.str s, .int .i64 a, .str sc, .str _, .str [], .str pa, .str qu, .bool hq, .str fr, .bool hf]] => some (s.length ≤ 2000 ∧ 0 ≤ a ∧ a ≤ s.length, .bool (plcL s a.toNat).ok, [.cells [.str s, .int .i64 (plcL s a.toNat).at', .str sc, .str (plcL s a.toNat).ho, .str (plcL s a.toNat).po, .str pa, .str qu, .bool hq, .str fr, .bool hf]])
  | _, _ => none
def ckPlace : Cf := ⟨fun | [.ptr i _] => [i] | _ => [], ckPlaceK⟩
theorem conPlace : FCon pg 51 ckPlace := by
  have hct := (ctA_ok conHostEnd (ctA_ok conIsHost0 (ctA_ok conHasPre (ctA_ok conIsDig (ctA_ok conPortOf (ctA_ok conIndexByte (ctN_ok _)))))))
  intro args bs q r bs' h hq
  replace h : ckPlaceK args bs = some (q, r, bs') := h
  unfold ckPlaceK at h
  split at h
  · cases h
    rename_i i s a sc ho pa qu hq1 fr hf
    refine ⟨rfl, by first | exact Nat.le_refl _ | exact Nat.zero_le _, ?_⟩
    obtain ⟨h1, h2, h3⟩ := hq
    obtain ⟨a, rfl⟩ : ∃ k : Nat, a = k := ⟨a.toNat, by omega⟩
    rw [Int.toNat_natCast]
    show FCall pg 51 [.ptr (i + 9000) 0] [(i + 9000, .cells [.str s, .int .i64 a, .str sc, .str ho, .str [], .str pa, .str qu, .bool hq1, .str fr, .bool hf])] (.bool (plcL s a).ok) [(i + 9000, .cells [.str s, .int .i64 (plcL s a).at', .str sc, .str (plcL s a).ho, .str (plcL s a).po, .str pa, .str qu, .bool hq1, .str fr, .bool hf])]
    refine fw51 (fun _ => false) [] rfl hct rfl (by simp) (by simp [hlIn, idsIn, Blk.menIn, V.menInL, V.menIn, V.flat, byF, lsF]) (by simp [V.menIn, V.menInL, idsIn]) ?_
    push_cast (config := { maxSteps := 10000000 })
    have hb := hoN_le (s := s) (a := a) (by omega)
    have e1 : runN hostB (s.drop a) = hoN s a := rfl
    rw [e1]
    have e2 : ((a : Int) + (hoN s a : Int)).toNat - a = hoN s a := by omega
    have e3 : ((a : Int) + (hoN s a : Int)).toNat = a + hoN s a := by omega
    have e4 : (s.drop a).take (hoN s a) = cutS s a (hoN s a) := rfl
    rw [e2, e3, e4]
    have pre := pre1 s (a + hoN s a) 58
    have pre : hasPre (s.drop (a + hoN s a)) [58] = isAt s (a + hoN s a) 58 := pre
    rw [pre]
    refine ⟨by omega, by omega, ⟨by omega, by omega⟩, ⟨⟨by omega, by omega⟩, by omega, by omega⟩, by omega, fun h => ?_, fun h => ⟨⟨by omega, by omega⟩, ⟨⟨by omega, by omega⟩, by omega⟩, by omega, fun hc => ⟨⟨by omega, by omega⟩, ?_⟩, fun hc => ?_⟩⟩
    · unfold plcL; rw [if_pos h]; exact ⟨rfl, rfl, rfl, rfl⟩
    · have hc1 := isAt_lt hc
      have hP : plcL s a = if portN (cutS s (a + hoN s a + 1) (poN s (a + hoN s a + 1))) = 0 then ⟨false, a + hoN s a + 1, cutS s a (hoN s a), cutS s (a + hoN s a + 1) (poN s (a + hoN s a + 1))⟩
         else ⟨endB s (a + hoN s a + 1 + poN s (a + hoN s a + 1)), a + hoN s a + 1 + poN s (a + hoN s a + 1), cutS s a (hoN s a), cutS s (a + hoN s a + 1) (poN s (a + hoN s a + 1))⟩ := by
        unfold plcL; rw [if_neg (by rw [h]; simp), if_pos hc]
      rw [hP]
      have hb2 := poN_le (s := s) (a := a + hoN s a + 1) (by omega)
      generalize hB : a + hoN s a + 1 = B at hb2 hP ⊢
      have eB : (a : Int) + (hoN s a : Int) + 1 = (B : Int) := by omega
      rw [eB]
      generalize cutS s a (hoN s a) = H
      refine LoopW.adj ⟨hct, fol⟩ (by kernel_rfl) [] (fun n : Nat => [(0, .ptr (i + 9000) 0), (4, .int .i64 ((B + n : Nat) : Int))]) (fun n => [(i + 9000, .cells [.str s, .int .i64 B, .str sc, .str H, .str [], .str pa, .str qu, .bool hq1, .str fr, .bool hf])]) (fun n => B + n ≤ s.length ∧ ∀ j, j < n → digB ((s.drop B).getD j 0) = true) (fun n => s.length - n) 0 ?_ fun n hn => ?_
      · push_cast (config := { maxSteps := 10000000 })
        exact ⟨by omega, by omega⟩
      · push_cast (config := { maxSteps := 10000000 })
        obtain ⟨n1, n2⟩ := hn
        have e5 : ((B : Int) + (n : Int)).toNat = B + n := by omega
        have e6 : ((B : Int) + (n : Int)).toNat - B = n := by omega
        have e7 : (s.drop B).getD n 0 = s.getD (B + n) 0 := by rw [List.getD_eq_getElem?_getD, List.getD_eq_getElem?_getD, List.getElem?_drop]
        rw [e5]
        rw [e5] at e6
        rw [e6]
        refine ⟨fun h => ⟨h, by omega, h⟩, fun h => ⟨⟨by omega, by omega⟩, n + 1, ⟨by omega, fun j hj => ?_⟩, by omega, by omega⟩, fun h => ?_⟩
        · by_cases e : j = n
          · subst e; rw [e7]; exact h.2
          · exact n2 j (by omega)
        have eN : poN s B = n := by
          unfold poN
          refine runN_at (by rw [List.length_drop]; omega) n2 fun hlt => ?_
          rw [List.length_drop] at hlt
          rw [e7]; exact h (by omega)
        rw [eN]
        have eC : (s.drop B).take n = cutS s B n := rfl
        rw [eC]
        refine ⟨⟨⟨by omega, by omega⟩, by omega, by omega⟩, by omega, fun h0 => ?_, fun h0 => ?_⟩
        · rw [if_pos h0]; exact ⟨rfl, rfl, rfl, rfl⟩
        · rw [if_neg h0]
          refine ⟨fun x => ⟨x, by omega, by omega⟩, ?_, by show _ = ((B + n : Nat) : Int); omega, rfl, rfl⟩
          show _ = endB s (B + n)
          unfold endB
          congr 1
          rw [Bool.eq_iff_iff, beq_iff_eq, decide_eq_true_eq]; omega
    · unfold plcL
      rw [if_neg (by rw [h]; simp), if_neg (by rw [hc]; simp)]
      refine ⟨fun x => ⟨x, by omega, by omega⟩, ?_, by show _ = ((a + hoN s a : Nat) : Int); omega, rfl, rfl⟩
      unfold endB
      congr 1
      rw [Bool.eq_iff_iff, beq_iff_eq, decide_eq_true_eq]; omega
  · cases h
attribute [push_cast] ckPlaceK
def ckRowK : List V → List Blk → Option (Prop × V × List Blk)
  | [.ptr _ 0, .str w], [.cells [.str s, .int .i64 a, .str sc, .str ho, .str po, .str pa, .str qu, .bool hq, .str fr, .bool hf]] => some (s.length ≤ 2000 ∧ 0 ≤ a ∧ a ≤ s.length, .tup [.str (cutS s a.toNat (rdRow s a.toNat w).1), .bool (rdRow s a.toNat w).2], [.cells [.str s, .int .i64 (a + (rdRow s a.toNat w).1), .str sc, .str ho, .str po, .str pa, .str qu, .bool hq, .str fr, .bool hf]])
  | _, _ => none
def ckRow : Cf := ⟨fun | [.ptr i _, _] => [i] | _ => [], ckRowK⟩
theorem conRow : FCon pg 84 ckRow := by
  have hct := (ctA_ok conRowEnd (ctN_ok _))
  intro args bs q r bs' h hq
  replace h : ckRowK args bs = some (q, r, bs') := h
  unfold ckRowK at h
  split at h
  · cases h
    rename_i i w s a sc ho po pa qu hq1 fr hf
    refine ⟨rfl, by first | exact Nat.le_refl _ | exact Nat.zero_le _, ?_⟩
    obtain ⟨h1, h2, h3⟩ := hq
    obtain ⟨a, rfl⟩ : ∃ k : Nat, a = k := ⟨a.toNat, by omega⟩
    rw [Int.toNat_natCast]
    show FCall pg 84 [.ptr (i + 9000) 0, .str w] [(i + 9000, .cells [.str s, .int .i64 a, .str sc, .str ho, .str po, .str pa, .str qu, .bool hq1, .str fr, .bool hf])] (.tup [.str (cutS s a (rdRow s a w).1), .bool (rdRow s a w).2]) [(i + 9000, .cells [.str s, .int .i64 (a + (rdRow s a w).1), .str sc, .str ho, .str po, .str pa, .str qu, .bool hq1, .str fr, .bool hf])]
    refine fw84 (fun _ => false) [] rfl hct rfl (by simp) (by simp [hlIn, idsIn, Blk.menIn, V.menInL, V.menIn, V.flat, byF, lsF]) (by simp [V.menIn, V.menInL, idsIn]) ?_
    push_cast (config := { maxSteps := 10000000 })
    have hb := rdRow_le (s := s) (a := a) (w := w) (by omega)
    have e1 : reL (s.drop a) w (s.length - a + 1) 0 = rdRow s a w := by unfold rdRow; rw [List.length_drop]
    rw [e1]
    have e2 : ((a : Int) + ((rdRow s a w).1 : Int)).toNat - a = (rdRow s a w).1 := by omega
    rw [e2]
    exact ⟨by omega, by omega, ⟨by omega, by omega⟩, ⟨⟨by omega, by omega⟩, by omega, by omega⟩, ⟨by omega, by omega⟩, ⟨rfl, rfl⟩, rfl⟩
  · cases h
attribute [push_cast] ckRowK
@[push_cast] theorem place_ids (i o : Nat) : ckPlace.ids [.ptr i o] = [i] := rfl
@[push_cast] theorem place_k (i : Nat) (s sc ho pa qu fr : List UInt8) (hq hf : Bool) (a : Int) : ckPlace.k [.ptr i 0] [.cells [.str s, .int .i64 a, .str sc, .str ho, .str [], .str pa, .str qu, .bool hq, .str fr, .bool hf]] = some (s.length ≤ 2000 ∧ 0 ≤ a ∧ a ≤ s.length, .bool (plcL s a.toNat).ok, [.cells [.str s, .int .i64 (plcL s a.toNat).at', .str sc, .str (plcL s a.toNat).ho, .str (plcL s a.toNat).po, .str pa, .str qu, .bool hq, .str fr, .bool hf]]) := rfl
@[push_cast] theorem row_ids (i o : Nat) (x : V) : ckRow.ids [.ptr i o, x] = [i] := rfl
@[push_cast] theorem row_k (i : Nat) (w s sc ho po pa qu fr : List UInt8) (hq hf : Bool) (a : Int) : ckRow.k [.ptr i 0, .str w] [.cells [.str s, .int .i64 a, .str sc, .str ho, .str po, .str pa, .str qu, .bool hq, .str fr, .bool hf]] = some (s.length ≤ 2000 ∧ 0 ≤ a ∧ a ≤ s.length, .tup [.str (cutS s a.toNat (rdRow s a.toNat w).1), .bool (rdRow s a.toNat w).2], [.cells [.str s, .int .i64 (a + (rdRow s a.toNat w).1), .str sc, .str ho, .str po, .str pa, .str qu, .bool hq, .str fr, .bool hf]]) := rfl
theorem rest3 {s P Q : List UInt8} {d : Nat} {b : Bool} (h1 : s.length ≤ 2000) (hd : d ≤ s.length) {R : Rst} (hR : R = rst3 s d P Q b) : ((0 ≤ (d : Int) ∧ (d : Int) ≤ s.length) ∧ (d : Int) ≤ s.length) ∧
    ((s.length - d : Nat) : Int) ≤ 4611686018427387904 ∧
      (hasPre (s.drop d) [35] = true → (-9223372036854775808 ≤ ((d + 1 : Nat) : Int) ∧ ((d + 1 : Nat) : Int) ≤ 9223372036854775807) ∧
          (s.length ≤ 2000 ∧ 0 ≤ ((d + 1 : Nat) : Int) ∧ ((d + 1 : Nat) : Int) ≤ s.length) ∧
            ((rdRow s (d + 1) []).2 = false → false = R.ok ∧ ((d + 1 : Nat) : Int) + (rdRow s (d + 1) []).1 = R.at' ∧ P = R.pa ∧ Q = R.qu ∧ b = R.hq ∧ cutS s (d + 1) (rdRow s (d + 1) []).1 = R.fr ∧ true = R.hf) ∧
            ((rdRow s (d + 1) []).2 = true → true = R.ok ∧ ((d + 1 : Nat) : Int) + (rdRow s (d + 1) []).1 = R.at' ∧ P = R.pa ∧ Q = R.qu ∧ b = R.hq ∧ cutS s (d + 1) (rdRow s (d + 1) []).1 = R.fr ∧ true = R.hf)) ∧
      (hasPre (s.drop d) [35] = false → true = R.ok ∧ (d : Int) = R.at' ∧ P = R.pa ∧ Q = R.qu ∧ b = R.hq ∧ [] = R.fr ∧ false = R.hf) := by
  subst hR
  have hp : hasPre (s.drop d) [35] = isAt s d 35 := pre1 s d 35
  rw [hp]
  refine ⟨⟨⟨by omega, by omega⟩, by omega⟩, by omega, fun h => ?_, fun h => ?_⟩
  · have hl := isAt_lt h
    have hr := rdRow_le (s := s) (a := d + 1) (w := []) (by omega)
    unfold rst3
    rw [if_pos h]
    exact ⟨⟨by omega, by omega⟩, ⟨h1, by omega, by omega⟩, fun h2 => ⟨h2.symm, by show _ = ((d + 1 + (rdRow s (d + 1) []).1 : Nat) : Int); omega, rfl, rfl, rfl, rfl, rfl⟩, fun h2 => ⟨h2.symm, by show _ = ((d + 1 + (rdRow s (d + 1) []).1 : Nat) : Int); omega, rfl, rfl, rfl, rfl, rfl⟩⟩
  · unfold rst3
    rw [if_neg (by rw [h]; simp)]
    exact ⟨rfl, rfl, rfl, rfl, rfl, rfl, rfl⟩
def ckRestK : List V → List Blk → Option (Prop × V × List Blk)
  | [.ptr _ 0], [.cells [.str s, .int .i64 a, .str sc, .str ho, .str po, .str _, .str [], .bool false, .str [], .bool false]] => some (s.length ≤ 2000 ∧ 0 ≤ a ∧ a ≤ s.length, .bool (rstL s a.toNat).ok, [.cells [.str s, .int .i64 (rstL s a.toNat).at', .str sc, .str ho, .str po, .str (rstL s a.toNat).pa, .str (rstL s a.toNat).qu, .bool (rstL s a.toNat).hq, .str (rstL s a.toNat).fr, .bool (rstL s a.toNat).hf]])
  | _, _ => none
def ckRest : Cf := ⟨fun | [.ptr i _] => [i] | _ => [], ckRestK⟩
theorem conRest : FCon pg 52 ckRest := by
  have hct := (ctF_ok conRow (ctA_ok conHasPre (ctN_ok _)))
  intro args bs q r bs' h hq
  replace h : ckRestK args bs = some (q, r, bs') := h
  unfold ckRestK at h
  split at h
  · cases h
    rename_i i s a sc ho po pa
    refine ⟨rfl, by first | exact Nat.le_refl _ | exact Nat.zero_le _, ?_⟩
    obtain ⟨h1, h2, h3⟩ := hq
    obtain ⟨a, rfl⟩ : ∃ k : Nat, a = k := ⟨a.toNat, by omega⟩
    rw [Int.toNat_natCast]
    show FCall pg 52 [.ptr (i + 9000) 0] [(i + 9000, .cells [.str s, .int .i64 a, .str sc, .str ho, .str po, .str pa, .str [], .bool false, .str [], .bool false])] (.bool (rstL s a).ok) [(i + 9000, .cells [.str s, .int .i64 (rstL s a).at', .str sc, .str ho, .str po, .str (rstL s a).pa, .str (rstL s a).qu, .bool (rstL s a).hq, .str (rstL s a).fr, .bool (rstL s a).hf])]
    refine fw52 (fun _ => false) [] rfl hct rfl (by simp) (by simp [hlIn, idsIn, Blk.menIn, V.menInL, V.menIn, V.flat, byF, lsF]) (by simp [V.menIn, V.menInL, idsIn]) ?_
    push_cast (config := { maxSteps := 10000000 })
    have hr1 := rdRow_le (s := s) (a := a) (w := [63, 35]) (by omega)
    have hL : rstL s a = if (rdRow s a [63, 35]).2 = false then ⟨false, a + (rdRow s a [63, 35]).1, cutS s a (rdRow s a [63, 35]).1, [], false, [], false⟩ else rst2 s (a + (rdRow s a [63, 35]).1) (cutS s a (rdRow s a [63, 35]).1) := rfl
    generalize rdRow s a [63, 35] = r1 at hr1 hL ⊢
    obtain ⟨n1, o1⟩ := r1
    simp only at hr1 hL ⊢
    obtain ⟨c, hc⟩ : ∃ c : Nat, c = a + n1 := ⟨_, rfl⟩
    have ec : (a : Int) + (n1 : Int) = (c : Int) := by omega
    have ec1 : (c : Int) + 1 = ((c + 1 : Nat) : Int) := by omega
    rw [← hc] at hL hr1
    generalize cutS s a n1 = P at hL ⊢
    simp only [ec, ec1, Int.toNat_natCast]
    refine ⟨⟨h1, by omega⟩, fun h => ?_, fun h => ⟨⟨⟨by omega, by omega⟩, by omega⟩, by omega, fun hq => ?_, fun hq => ?_⟩⟩
    · rw [hL, if_pos h]; exact ⟨rfl, rfl, rfl, rfl, rfl, rfl, rfl⟩
    all_goals rw [if_neg (by rw [h]; simp)] at hL
    all_goals rw [show hasPre (s.drop c) [63] = isAt s c 63 from pre1 s c 63] at hq
    · have hlt := isAt_lt hq
      have hL : rstL s a = if (rdRow s (c + 1) [35]).2 = false then ⟨false, c + 1 + (rdRow s (c + 1) [35]).1, P, cutS s (c + 1) (rdRow s (c + 1) [35]).1, true, [], false⟩ else rst3 s (c + 1 + (rdRow s (c + 1) [35]).1) P (cutS s (c + 1) (rdRow s (c + 1) [35]).1) true := by rw [hL]; unfold rst2; rw [if_pos hq]
      have hr2 := rdRow_le (s := s) (a := c + 1) (w := [35]) (by omega)
      generalize rdRow s (c + 1) [35] = r2 at hr2 hL ⊢
      obtain ⟨n2, o2⟩ := r2
      simp only at hr2 hL ⊢
      obtain ⟨d, hd⟩ : ∃ d : Nat, d = c + 1 + n2 := ⟨_, rfl⟩
      have ed : ((c + 1 : Nat) : Int) + (n2 : Int) = (d : Int) := by omega
      have ed1 : (d : Int) + 1 = ((d + 1 : Nat) : Int) := by omega
      rw [← hd] at hL hr2
      generalize cutS s (c + 1) n2 = Q at hL ⊢
      simp only [ed, ed1, Int.toNat_natCast]
      refine ⟨⟨by omega, by omega⟩, ⟨h1, by omega, by omega⟩, fun ho => ?_, fun ho => ?_⟩
      · rw [hL, if_pos ho]; exact ⟨rfl, rfl, rfl, rfl, rfl, rfl, rfl⟩
      · exact rest3 h1 hr2 (by rw [hL, if_neg (by rw [ho]; simp)])
    · have hL : rstL s a = rst3 s c P [] false := by rw [hL]; unfold rst2; rw [if_neg (by rw [hq]; simp)]
      exact rest3 h1 hr1 hL
  · cases h
attribute [push_cast] ckRestK
@[push_cast] theorem rest_ids (i o : Nat) : ckRest.ids [.ptr i o] = [i] := rfl
@[push_cast] theorem rest_k (i : Nat) (s sc ho po pa : List UInt8) (a : Int) : ckRest.k [.ptr i 0] [.cells [.str s, .int .i64 a, .str sc, .str ho, .str po, .str pa, .str [], .bool false, .str [], .bool false]] = some (s.length ≤ 2000 ∧ 0 ≤ a ∧ a ≤ s.length, .bool (rstL s a.toNat).ok, [.cells [.str s, .int .i64 (rstL s a.toNat).at', .str sc, .str ho, .str po, .str (rstL s a.toNat).pa, .str (rstL s a.toNat).qu, .bool (rstL s a.toNat).hq, .str (rstL s a.toNat).fr, .bool (rstL s a.toNat).hf]]) := rfl
def ckReadA : Ck
  | [.str s] => some (True, .tup [cAdr.enc (readA s).1, .int .i64 (readA s).2.1, .int .i64 (readA s).2.2])
  | _ => none
theorem conReadA : Con pg 28 ckReadA := by
  have hct := (ctA_ok conScheme (ctF_ok conPlace (ctF_ok conRest (ctN_ok _))))
  intro args q r h hq
  unfold ckReadA at h
  split at h
  · cases h
    rename_i s
    refine w28 (fun _ => false) [] rfl hct rfl rfl ?_
    push_cast (config := { maxSteps := 10000000 })
    have hb := sch_b s
    have hp := plc_b (s := s) (a := (schL s).2) hb
    refine ⟨fun h => ?_, fun h => ⟨by omega, fun h1 => ?_, fun h1 => ⟨⟨by omega, hb⟩, fun h2 => ⟨h2, ⟨by omega, hp⟩, fun h3 => ?_, fun h3 => ?_⟩, fun h2 => ⟨fun x => (by rw [h2] at x; cases x), ?_⟩⟩⟩⟩
    · have e : readA s = (noAdr, 0, 2) := by unfold readA; rw [if_pos (by omega)]
      rw [e]; exact ⟨⟨rfl, rfl, rfl, rfl, rfl, rfl, rfl, rfl⟩, rfl, rfl⟩
    · have e : readA s = (noAdr, ((schL s).2 : Int), 10) := by unfold readA; rw [if_neg (by omega), if_pos h1]
      rw [e]; exact ⟨⟨rfl, rfl, rfl, rfl, rfl, rfl, rfl, rfl⟩, rfl, rfl⟩
    · have h3 : (rstL s (plcL s (schL s).2).at').ok = false := h3.resolve_left (by rw [h2]; simp)
      have e : readA s = (noAdr, ((rstL s (plcL s (schL s).2).at').at' : Int), 10) := by unfold readA; rw [if_neg (by omega), if_neg (by rw [h1]; simp), if_neg (by rw [h2]; simp), if_pos h3]
      rw [e]; exact ⟨⟨rfl, rfl, rfl, rfl, rfl, rfl, rfl, rfl⟩, rfl, rfl⟩
    · have e : readA s = (⟨s.take ((schL s).2 - 3), (plcL s (schL s).2).ho, (plcL s (schL s).2).po, (rstL s (plcL s (schL s).2).at').pa, (rstL s (plcL s (schL s).2).at').qu, (rstL s (plcL s (schL s).2).at').hq, (rstL s (plcL s (schL s).2).at').fr, (rstL s (plcL s (schL s).2).at').hf⟩, 0, 0) := by unfold readA; rw [if_neg (by omega), if_neg (by rw [h1]; simp), if_neg (by rw [h2]; simp), if_neg (by rw [h3.2]; simp)]
      rw [e, if_pos h1]; exact ⟨⟨rfl, rfl, rfl, rfl, rfl, rfl, rfl, rfl⟩, rfl, rfl⟩
    · have e : readA s = (noAdr, ((plcL s (schL s).2).at' : Int), 10) := by unfold readA; rw [if_neg (by omega), if_neg (by rw [h1]; simp), if_pos h2]
      rw [e]; exact ⟨⟨rfl, rfl, rfl, rfl, rfl, rfl, rfl, rfl⟩, rfl, rfl⟩
  · cases h
attribute [push_cast] ckReadA

/- paths without dots -/
def joinSl (L : List (List UInt8)) : List UInt8 := L.flatMap fun x => 47 :: x
def dotGo : List (List UInt8) → List (List UInt8) → List (List UInt8)
  | [], o => o
  | p :: t, o => if p = [46, 46] then dotGo t (if t = [] then o.dropLast ++ [[]] else o.dropLast) else if p = [46] then dotGo t (if t = [] then o ++ [[]] else o) else dotGo t (o ++ [p])
def undotL (s : List UInt8) : List UInt8 := if s = [] then [] else joinSl (dotGo (splitL (s.drop 1) 47) [])
theorem joinSl_app (a b : List (List UInt8)) : joinSl (a ++ b) = joinSl a ++ joinSl b := by simp [joinSl]
theorem joinSl_one (x : List UInt8) : joinSl [x] = 47 :: x := by simp [joinSl]
theorem joinSl_spl : ∀ t : List UInt8, joinSl (spl 47 t) = 47 :: t
  | [] => rfl
  | x :: t => by
    have ih := joinSl_spl t
    have hne := spl_ne 47 t
    rw [spl]
    cases hs : spl 47 t with
    | nil => exact absurd hs hne
    | cons a r =>
      rw [hs] at ih
      have ih : 47 :: (a ++ joinSl r) = 47 :: t := by simpa [joinSl] using ih
      have ih := (List.cons.inj ih).2
      split
      · rename_i h; subst h
        show 47 :: ([] ++ joinSl (a :: r)) = _
        rw [show joinSl (a :: r) = 47 :: (a ++ joinSl r) by simp [joinSl], ih]; rfl
      · show 47 :: ((x :: a) ++ joinSl r) = _
        rw [List.cons_append, ih]
/- rows, byte by byte -/
def hex2 : List UInt8 → Bool
  | a :: b :: _ => isHex (a.toNat : Int) && isHex (b.toNat : Int)
  | _ => false
def rowR : List UInt8 → Bool
  | [] => true
  | c :: t => rowB c && (decide (c.toNat ≠ 37) || hex2 t) && rowR t
def rowQ (s : List UInt8) : Bool := (List.range s.length).all (cell0 s)
theorem hex2_pct (c : UInt8) (t : List UInt8) : hex2 t = pctB (c :: t) 0 := by
  unfold pctB
  match t with
  | [] => rfl
  | [a] => simp [hex2]
  | a :: b :: r => simp [hex2]
theorem cell0_succ (c : UInt8) (t : List UInt8) (j : Nat) : cell0 (c :: t) (j + 1) = cell0 t j := by
  have e : decide (j + 1 + 2 < (c :: t).length) = decide (j + 2 < t.length) := decide_eq_decide.2 (by simp only [List.length_cons]; omega)
  unfold cell0 pctB
  rw [e]
  rw [List.getD_cons_succ, show j + 1 + 1 = (j + 1) + 1 from rfl, List.getD_cons_succ, show j + 1 + 2 = (j + 2) + 1 from rfl, List.getD_cons_succ]
theorem rowQ_rowR : ∀ s, rowQ s = rowR s
  | [] => rfl
  | c :: t => by
    rw [rowR, ← rowQ_rowR t]
    unfold rowQ
    rw [List.length_cons, List.range_succ_eq_map, List.all_cons, List.all_map]
    congr 1
    · unfold cell0; rw [List.getD_cons_zero, hex2_pct c t]
    · congr 1
      funext j
      exact cell0_succ c t j
theorem rowP_rowR (s : List UInt8) : rowP s = (rowR s && s.all fun c => decide (c.toNat ≠ 63)) := by
  rw [← rowQ_rowR, Bool.eq_iff_iff, Bool.and_eq_true]
  unfold rowP rowQ
  rw [List.all_eq_true, List.all_eq_true, List.all_eq_true]
  constructor
  · intro h
    refine ⟨fun j hj => ?_, fun c hc => ?_⟩
    · have := h j hj
      simp only [cellP, Bool.and_eq_true] at this
      unfold cell0; rw [this.1.1, this.2]; rfl
    · obtain ⟨j, hj, rfl⟩ := List.getElem_of_mem hc
      have := h j (List.mem_range.2 hj)
      simp only [cellP, Bool.and_eq_true] at this
      have h2 := this.1.2
      rwa [List.getD_eq_getElem?_getD, List.getElem?_eq_getElem hj] at h2
  · rintro ⟨h1, h2⟩ j hj
    have := h1 j hj
    have hj' := List.mem_range.1 hj
    have h3 := h2 (s.getD j 0) (by rw [List.getD_eq_getElem?_getD, List.getElem?_eq_getElem hj']; exact List.getElem_mem hj')
    simp only [cell0, Bool.and_eq_true] at this
    unfold cellP; rw [this.1, this.2, h3]; rfl
theorem hex2_app {a : List UInt8} (b : List UInt8) (h : hex2 a = true) : hex2 (a ++ b) = true := by
  match a, h with
  | x :: y :: r, h => exact h
theorem rowR_app : ∀ {a b : List UInt8}, rowR a = true → rowR b = true → rowR (a ++ b) = true
  | [], b, _, h => h
  | c :: t, b, h1, h2 => by
    rw [List.cons_append, rowR]
    rw [rowR] at h1
    simp only [Bool.and_eq_true, Bool.or_eq_true] at h1 ⊢
    exact ⟨⟨h1.1.1, h1.1.2.imp id (hex2_app b)⟩, rowR_app h1.2 h2⟩
theorem rowR_tail : ∀ (a : List UInt8) {b : List UInt8}, rowR (a ++ b) = true → rowR b = true
  | [], _, h => h
  | c :: t, b, h => by
    rw [List.cons_append, rowR] at h
    simp only [Bool.and_eq_true] at h
    exact rowR_tail t h.2
theorem rowR_left : ∀ {a b : List UInt8}, rowR (a ++ 47 :: b) = true → rowR a = true
  | [], b, _ => rfl
  | c :: t, b, h => by
    rw [List.cons_append, rowR] at h
    rw [rowR]
    simp only [Bool.and_eq_true, Bool.or_eq_true] at h ⊢
    refine ⟨⟨h.1.1, h.1.2.imp id fun x => ?_⟩, rowR_left h.2⟩
    have n47 : isHex ((47 : UInt8).toNat : Int) = false := by decide
    match t, x with
    | [], x =>
      cases b with
      | nil => simp [hex2] at x
      | cons y r => simp only [List.nil_append, hex2, n47] at x; cases x
    | [y], x => simp only [List.cons_append, List.nil_append, hex2, n47] at x; simp at x
    | y :: z :: r, x => exact x
theorem rowR_join {L : List (List UInt8)} (h : rowR (joinSl L) = true) : ∀ x ∈ L, rowR x = true := by
  induction L with
  | nil => intro x hx; cases hx
  | cons a t ih =>
    have e : joinSl (a :: t) = 47 :: (a ++ joinSl t) := by simp [joinSl]
    rw [e, rowR] at h
    simp only [Bool.and_eq_true] at h
    intro x hx
    rcases List.mem_cons.1 hx with rfl | hx
    · cases t with
      | nil => simpa [joinSl] using h.2
      | cons b r =>
        rw [show joinSl (b :: r) = 47 :: (b ++ joinSl r) by simp [joinSl]] at h
        exact rowR_left h.2
    · exact ih (rowR_tail a h.2) x hx
theorem rowR_47 {s : List UInt8} (h : rowR s = true) : rowR (47 :: s) = true := by
  rw [rowR, h]
  have e1 : rowB 47 = true := by decide
  have e2 : decide ((47 : UInt8).toNat ≠ 37) = true := by decide
  rw [e1, e2]; rfl
theorem join_rowR {L : List (List UInt8)} (h : ∀ x ∈ L, rowR x = true) : rowR (joinSl L) = true := by
  induction L with
  | nil => rfl
  | cons a t ih =>
    rw [show joinSl (a :: t) = 47 :: (a ++ joinSl t) by simp [joinSl]]
    exact rowR_47 (rowR_app (h a (by simp)) (ih fun x hx => h x (List.mem_cons_of_mem _ hx)))
theorem dotGo_sub : ∀ (t o : List (List UInt8)) (x : List UInt8), x ∈ dotGo t o → x ∈ o ∨ x ∈ t ∨ x = []
  | [], o, x, h => .inl h
  | p :: t, o, x, h => by
    have dl : ∀ y, y ∈ o.dropLast → y ∈ o := fun y hy => List.dropLast_subset _ hy
    rw [dotGo] at h
    split at h
    · rcases dotGo_sub t _ x h with h | h | h
      · split at h
        · rcases List.mem_append.1 h with h | h
          · exact .inl (dl x h)
          · exact .inr (.inr (List.mem_singleton.1 h))
        · exact .inl (dl x h)
      · exact .inr (.inl (List.mem_cons_of_mem _ h))
      · exact .inr (.inr h)
    · split at h
      · rcases dotGo_sub t _ x h with h | h | h
        · split at h
          · rcases List.mem_append.1 h with h | h
            · exact .inl h
            · exact .inr (.inr (List.mem_singleton.1 h))
          · exact .inl h
        · exact .inr (.inl (List.mem_cons_of_mem _ h))
        · exact .inr (.inr h)
      · rcases dotGo_sub t _ x h with h | h | h
        · rcases List.mem_append.1 h with h | h
          · exact .inl h
          · exact .inr (.inl (by rw [List.mem_singleton.1 h]; simp))
        · exact .inr (.inl (List.mem_cons_of_mem _ h))
        · exact .inr (.inr h)
theorem joinSl_len_drop (o : List (List UInt8)) : (joinSl o.dropLast).length ≤ (joinSl o).length := by
  cases o with
  | nil => simp
  | cons a t =>
    have := List.dropLast_concat_getLast (l := a :: t) (by simp)
    conv => rhs; rw [← this, joinSl_app]
    rw [List.length_append]; omega
theorem dotGo_len : ∀ (t o : List (List UInt8)), (joinSl (dotGo t o)).length ≤ (joinSl o).length + (joinSl t).length
  | [], o => by simp [dotGo]
  | p :: t, o => by
    have e : (joinSl (p :: t)).length = p.length + 1 + (joinSl t).length := by simp [joinSl]; omega
    have hd := joinSl_len_drop o
    have h1 : ∀ q : List (List UInt8), (joinSl (q ++ [[]])).length = (joinSl q).length + 1 := fun q => by rw [joinSl_app, List.length_append, joinSl_one]; rfl
    rw [dotGo]
    split
    · rename_i hp
      split
      · have := dotGo_len t (o.dropLast ++ [[]]); rw [h1] at this; omega
      · have := dotGo_len t o.dropLast; omega
    · split
      · split
        · have := dotGo_len t (o ++ [[]]); rw [h1] at this; omega
        · have := dotGo_len t o; omega
      · have := dotGo_len t (o ++ [p])
        rw [joinSl_app, List.length_append, joinSl_one, List.length_cons] at this
        omega
theorem dotGo_ne : ∀ (t o : List (List UInt8)), t ≠ [] → dotGo t o ≠ []
  | [p], o, _ => by
    rw [dotGo]
    split
    · simp [dotGo]
    · split <;> simp [dotGo]
  | p :: q :: t, o, _ => by
    rw [dotGo]
    split
    · exact dotGo_ne (q :: t) _ (by simp)
    · split <;> exact dotGo_ne (q :: t) _ (by simp)
/-- a path without dots is a path, and none too long -/
theorem undot_ok {s : List UInt8} (h : rowP s = true) (h0 : s = [] ∨ s.getD 0 0 = 47) : rowP (undotL s) = true ∧ (undotL s).length ≤ s.length ∧ (s ≠ [] → (undotL s).getD 0 0 = 47 ∧ undotL s ≠ []) ∧ (s = [] → undotL s = []) := by
  cases s with
  | nil => exact ⟨rfl, Nat.le_refl _, fun h => absurd rfl h, fun _ => rfl⟩
  | cons c t =>
    obtain rfl : c = 47 := by simpa using h0
    have eu : undotL (47 :: t) = joinSl (dotGo (spl 47 t) []) := by
      unfold undotL
      rw [if_neg (by simp), List.drop_one, List.tail_cons, splitL_eq]
    rw [eu]
    rw [rowP_rowR, Bool.and_eq_true] at h
    have hj := joinSl_spl t
    have hp := rowR_join (L := spl 47 t) (by rw [hj]; exact h.1)
    have hs := dotGo_sub (spl 47 t) []
    have hl := dotGo_len (spl 47 t) []
    have hn := dotGo_ne (spl 47 t) [] (spl_ne 47 t)
    have hall : ∀ x ∈ spl 47 t, ∀ c ∈ x, c.toNat ≠ 63 := fun x hx c hc => by
      have h2 := List.all_eq_true.1 h.2 c (by rw [← hj]; exact List.mem_flatMap.2 ⟨x, hx, List.mem_cons_of_mem _ hc⟩)
      simpa using h2
    generalize dotGo (spl 47 t) [] = Q at hs hl hn ⊢
    refine ⟨?_, by rw [hj] at hl; simpa [joinSl] using hl, fun _ => ?_, fun x => by cases x⟩
    · rw [rowP_rowR, Bool.and_eq_true]
      refine ⟨join_rowR fun x hx => ?_, ?_⟩
      · rcases hs x hx with h | h | h
        · cases h
        · exact hp x h
        · rw [h]; rfl
      · rw [List.all_eq_true]
        intro c hc
        obtain ⟨x, hx, hc⟩ := List.mem_flatMap.1 hc
        rcases List.mem_cons.1 hc with rfl | hc
        · decide
        · rcases hs x hx with h | h | h
          · cases h
          · exact decide_eq_true (hall x h c hc)
          · rw [h] at hc; cases hc
    · cases Q with
      | nil => exact absurd rfl hn
      | cons a r => rw [show joinSl (a :: r) = 47 :: (a ++ joinSl r) by simp [joinSl]]; exact ⟨rfl, by simp⟩
/- the normal form of a row is a row -/
theorem enc_row (v : Nat) (h : v < 256) : rowR (encB v) = true ∧ (encB v).all (fun c => decide (c.toNat ≠ 63)) = true := by
  revert v
  decide +kernel
theorem norm_rowR (s : List UInt8) (h : rowR s = true) : rowR (normL s) = true := by
  refine normL.induct (motive := fun s => rowR s = true → rowR (normL s) = true) ?_ ?_ ?_ s h
  · intro c a b r hc ih hr
    rw [normL, if_pos hc]
    have hb : 16 * hexN a + hexN b < 256 := by have := hexN_lt hc.2.1; have := hexN_lt hc.2.2; omega
    refine rowR_app (enc_row _ hb).1 (ih ?_)
    exact rowR_tail [c, a, b] hr
  · intro c a b r hc ih hr
    rw [normL, if_neg hc]
    have hr' := rowR_tail [c] hr
    rw [rowR, ih hr']
    rw [rowR] at hr
    simp only [Bool.and_eq_true, Bool.or_eq_true, decide_eq_true_eq] at hr ⊢
    refine ⟨⟨hr.1.1, .inl fun e => ?_⟩, trivial⟩
    rcases hr.1.2 with h | h
    · exact h e
    · simp only [hex2, Bool.and_eq_true] at h
      exact hc ⟨UInt8.toNat_inj.1 e, h.1, h.2⟩
  · intro l hn hr
    match l with
    | [] => rfl
    | [a] => simpa [normL] using hr
    | [a, b] => simpa [normL] using hr
    | c :: a :: b :: r => exact (hn c a b r rfl).elim
theorem norm_63 (s : List UInt8) (h : s.all (fun c => decide (c.toNat ≠ 63)) = true) : (normL s).all (fun c => decide (c.toNat ≠ 63)) = true := by
  refine normL.induct (motive := fun s => s.all (fun c => decide (c.toNat ≠ 63)) = true → (normL s).all (fun c => decide (c.toNat ≠ 63)) = true) ?_ ?_ ?_ s h
  · intro c a b r hc ih hr
    rw [normL, if_pos hc, List.all_append]
    have hb : 16 * hexN a + hexN b < 256 := by have := hexN_lt hc.2.1; have := hexN_lt hc.2.2; omega
    rw [(enc_row _ hb).2, Bool.true_and]
    simp only [List.all_cons, Bool.and_eq_true] at hr
    exact ih hr.2.2.2
  · intro c a b r hc ih hr
    rw [normL, if_neg hc]
    rw [List.all_cons, Bool.and_eq_true] at hr
    rw [List.all_cons, hr.1, Bool.true_and]
    exact ih hr.2
  · intro l hn hr
    match l with
    | [] => rfl
    | [a] => simpa [normL] using hr
    | [a, b] => simpa [normL] using hr
    | c :: a :: b :: r => exact (hn c a b r rfl).elim
theorem norm_rowP {s : List UInt8} (h : rowP s = true) : rowP (normL s) = true := by
  rw [rowP_rowR, Bool.and_eq_true] at h ⊢
  exact ⟨norm_rowR s h.1, norm_63 s h.2⟩
theorem norm_head {s : List UInt8} (h : s = [] ∨ s.getD 0 0 = 47) : (s = [] ∧ normL s = []) ∨ (s ≠ [] ∧ normL s ≠ [] ∧ (normL s).getD 0 0 = 47) := by
  match s, h with
  | [], _ => exact .inl ⟨rfl, rfl⟩
  | [a], h => exact .inr ⟨by simp, by simp [normL], by simpa [normL] using h⟩
  | [a, b], h => exact .inr ⟨by simp, by simp [normL], by simpa [normL] using h⟩
  | c :: a :: b :: r, h =>
    have hc : c = 47 := by simpa using h
    subst hc
    rw [normL, if_neg (fun x => by have := x.1; revert this; decide)]
    exact .inr ⟨by simp, by simp, rfl⟩
theorem rb0_iff (s : List UInt8) : decide (rb0 s < 0) = rowR s := by
  rw [← rowQ_rowR, Bool.eq_iff_iff, decide_eq_true_eq]
  unfold rowQ
  rw [List.all_eq_true]
  constructor
  · intro h j hj
    refine Classical.byContradiction fun hc => ?_
    have hc : cell0 s j = false := by simpa using hc
    have := List.mem_range.1 hj
    obtain ⟨k, hk, h1, h2⟩ : ∃ k, k < s.length ∧ (∀ j, j < k → cell0 s j = true) ∧ cell0 s k = false := by
      have : ∀ n, n < s.length → cell0 s n = false → ∃ k, k < s.length ∧ (∀ j, j < k → cell0 s j = true) ∧ cell0 s k = false := by
        intro n
        induction n using Nat.strongRecOn with
        | _ n ih =>
          intro hn hf
          by_cases ha : ∀ j, j < n → cell0 s j = true
          · exact ⟨n, hn, ha, hf⟩
          · obtain ⟨j, hj⟩ := Classical.not_forall.1 ha
            obtain ⟨hj1, hj2⟩ := Classical.not_imp.1 hj
            exact ih j hj1 (by omega) (by simpa using hj2)
      exact this j (by omega) hc
    rw [rb0_at hk h1 h2] at h
    omega
  · intro h
    rw [rb0_no fun j hj => h j (List.mem_range.2 hj)]
    omega
/- addresses -/
def schOk (s : List UInt8) : Bool := lowL s == wHttp || lowL s == wHttps
def behL (a : Adr) : List UInt8 := a.pa ++ (if a.hq = true then 63 :: a.qu else []) ++ (if a.hf = true then 35 :: a.fr else [])
def wrL (a : Adr) : List UInt8 := a.sc ++ wSep ++ a.ho ++ (if a.po = [] then [] else 58 :: a.po) ++ behL a
def synA (a : Adr) : Bool := schOk a.sc && hostL a.ho && (a.po == [] || decide (portN a.po ≠ 0)) && (a.pa == [] || decide ((a.pa.getD 0 0).toNat = 47)) && rowP a.pa && rowR a.qu && rowR a.fr
def checkAdrL (a : Adr) : Int := if synA a = false then 10 else if (a.qu ≠ [] ∧ a.hq = false) ∨ (a.fr ≠ [] ∧ a.hf = false) then 3 else if 2000 < (wrL a).length then 2 else 0
def trimZ (s : List UInt8) : List UInt8 := s.dropWhile fun c => c == 48
def portA (a : Adr) : List UInt8 := if (lowL a.sc = wHttp ∧ trimZ a.po = [56, 48]) ∨ (lowL a.sc = wHttps ∧ trimZ a.po = [52, 52, 51]) then [] else trimZ a.po
def npL (a : Adr) : List UInt8 := if undotL (normL a.pa) = [] then [47] else undotL (normL a.pa)
def normA (a : Adr) : Adr := ⟨lowL a.sc, lowL a.ho, portA a, npL a, normL a.qu, a.hq, [], false⟩
/-- the path of an address -/
def pathL (a : Adr) : List UInt8 := npL a ++ (if a.hq = true then 63 :: normL a.qu else [])
theorem lowB_idem (c : UInt8) : lowB (lowB c) = lowB c := by
  have key : ∀ n, n < 256 → lowB (lowB (UInt8.ofNat n)) = lowB (UInt8.ofNat n) := by decide +kernel
  have := key c.toNat (UInt8.toNat_lt c)
  simpa using this
theorem lowL_len (s : List UInt8) : (lowL s).length = s.length := by simp [lowL]
theorem lowL_idem (s : List UInt8) : lowL (lowL s) = lowL s := by
  unfold lowL
  rw [List.map_map]
  congr 1
  funext c
  exact lowB_idem c
theorem low_lab (c : UInt8) : labB (lowB c) = labB c ∧ ((lowB c).toNat = 45 ↔ c.toNat = 45) ∧ (lowB c = 46 ↔ c = 46) := by
  have key : ∀ n, n < 256 → labB (lowB (UInt8.ofNat n)) = labB (UInt8.ofNat n) ∧ ((lowB (UInt8.ofNat n)).toNat = 45 ↔ (UInt8.ofNat n).toNat = 45) ∧ (lowB (UInt8.ofNat n) = 46 ↔ UInt8.ofNat n = 46) := by decide +kernel
  have := key c.toNat (UInt8.toNat_lt c)
  simpa using this
theorem spl_low : ∀ s : List UInt8, spl 46 (lowL s) = (spl 46 s).map lowL
  | [] => rfl
  | x :: t => by
    show spl 46 (lowB x :: lowL t) = _
    rw [spl, spl, spl_low t]
    by_cases h : x = 46
    · rw [if_pos ((low_lab x).2.2.2 h), if_pos h]; rfl
    · rw [if_neg (fun e => h ((low_lab x).2.2.1 e)), if_neg h, List.map_cons, List.map_tail]
      cases spl 46 t <;> rfl
theorem getD_low (s : List UInt8) (i : Nat) (h : i < s.length) : (lowL s).getD i 0 = lowB (s.getD i 0) := by
  unfold lowL
  rw [List.getD_eq_getElem?_getD, List.getElem?_map, List.getD_eq_getElem?_getD, List.getElem?_eq_getElem h]; rfl
theorem label_low (s : List UInt8) : labelL (lowL s) = labelL s := by
  unfold labelL
  rw [lowL_len]
  by_cases h : 1 ≤ s.length
  · rw [getD_low s 0 (by omega), getD_low s (s.length - 1) (by omega)]
    have e1 : decide ((lowB (s.getD 0 0)).toNat ≠ 45) = decide ((s.getD 0 0).toNat ≠ 45) := decide_eq_decide.2 (not_congr (low_lab _).2.1)
    have e2 : decide ((lowB (s.getD (s.length - 1) 0)).toNat ≠ 45) = decide ((s.getD (s.length - 1) 0).toNat ≠ 45) := decide_eq_decide.2 (not_congr (low_lab _).2.1)
    have e3 : (lowL s).all labB = s.all labB := by
      unfold lowL
      rw [List.all_map]
      congr 1
      funext c
      exact (low_lab c).1
    rw [e1, e2, e3]
  · rw [decide_eq_false h]; rfl
theorem host_low (s : List UInt8) : hostL (lowL s) = hostL s := by
  unfold hostL
  rw [lowL_len, splitL_eq, splitL_eq, spl_low, List.all_map]
  congr 2
  funext x
  exact label_low x
theorem portV_z (t : List UInt8) : portV (48 :: t) = portV t := rfl
theorem trimZ_len (s : List UInt8) : (trimZ s).length ≤ s.length := by
  induction s with
  | nil => simp [trimZ]
  | cons c t ih =>
    unfold trimZ at *
    rw [List.dropWhile_cons]
    split
    · simp only [List.length_cons]; omega
    · exact Nat.le_refl _
theorem trimZ_port {s : List UInt8} (h : portN s ≠ 0) : portN (trimZ s) ≠ 0 := by
  induction s with
  | nil => exact h
  | cons c t ih =>
    by_cases hc : c = 48
    · subst hc
      have e : trimZ (48 :: t) = trimZ t := by unfold trimZ; rw [List.dropWhile_cons, if_pos (by decide)]
      rw [e]
      refine ih ?_
      unfold portN at h ⊢
      rw [portV_z] at h
      split at h
      · rename_i hx
        have ht : t ≠ [] := fun e => by subst e; exact h rfl
        have := List.length_pos_iff.2 ht
        simp only [List.length_cons, List.all_cons, Bool.and_eq_true] at hx
        rw [if_pos ⟨by omega, by omega, hx.2.2.1.2, hx.2.2.2⟩]; exact h
      · exact absurd rfl h
    · have e : trimZ (c :: t) = c :: t := by unfold trimZ; rw [List.dropWhile_cons, if_neg (by simpa using hc)]
      rw [e]; exact h
/-- the normal form of a right address is right, or too long by the / of its empty path -/
theorem norm_right {a : Adr} (h : checkAdrL a = 0) : checkAdrL (normA a) = 0 ∨ (a.pa = [] ∧ checkAdrL (normA a) ≠ 0) := by
  by_cases hp : a.pa = []
  · by_cases h0 : checkAdrL (normA a) = 0
    · exact .inl h0
    · exact .inr ⟨hp, h0⟩
  left
  unfold checkAdrL at h
  split at h
  · cases h
  rename_i h1
  split at h
  · cases h
  rename_i h2
  split at h
  · cases h
  rename_i h3
  have h1 : synA a = true := by simpa using h1
  unfold synA at h1
  simp only [Bool.and_eq_true, Bool.or_eq_true, beq_iff_eq, decide_eq_true_eq] at h1
  obtain ⟨⟨⟨⟨⟨⟨s1, s2⟩, s3⟩, s4⟩, s5⟩, s6⟩, s7⟩ := h1
  have p47 : a.pa = [] ∨ a.pa.getD 0 0 = 47 := s4.imp id fun e => UInt8.toNat_inj.1 e
  obtain ⟨e, _⟩ | ⟨n1, n2, n3⟩ := norm_head p47
  · exact absurd e hp
  obtain ⟨u1, u2, u3, u4⟩ := undot_ok (norm_rowP s5) (.inr n3)
  obtain ⟨u5, u6⟩ := u3 n2
  have eN : npL a = undotL (normL a.pa) := by unfold npL; rw [if_neg u6]
  have lq := normL_len a.qu
  have lp := normL_len a.pa
  have lz := trimZ_len a.po
  have zz : (portA a).length ≤ (trimZ a.po).length := by unfold portA; split <;> simp
  have syn : synA (normA a) = true := by
    unfold synA normA
    simp only [Bool.and_eq_true, Bool.or_eq_true, beq_iff_eq, decide_eq_true_eq]
    refine ⟨⟨⟨⟨⟨⟨?_, by rw [host_low]; exact s2⟩, ?_⟩, .inr (by rw [eN, u5]; rfl)⟩, by rw [eN]; exact u1⟩, norm_rowR _ s6⟩, rfl⟩
    · unfold schOk at s1 ⊢
      rw [lowL_idem]; exact s1
    · unfold portA
      split
      · exact .inl rfl
      · rcases s3 with s3 | s3
        · left; rw [s3]; rfl
        · exact .inr (trimZ_port s3)
  have hq : ¬ ((normA a).qu ≠ [] ∧ (normA a).hq = false ∨ (normA a).fr ≠ [] ∧ (normA a).hf = false) := by
    rintro (x | x)
    · refine h2 (.inl ⟨fun e => x.1 ?_, x.2⟩)
      show normL a.qu = []
      rw [e]; rfl
    · exact x.1 rfl
  unfold checkAdrL
  rw [if_neg (by rw [syn]; simp), if_neg hq, if_neg]
  have w1 : (wrL (normA a)).length ≤ (wrL a).length := by
    unfold wrL behL normA
    simp only [List.length_append, lowL_len, eN]
    have q : (if a.hq = true then 63 :: normL a.qu else []).length ≤ (if a.hq = true then 63 :: a.qu else []).length := by split <;> simp <;> omega
    have p : (if portA a = [] then [] else 58 :: portA a).length ≤ (if a.po = [] then [] else 58 :: a.po).length := by
      by_cases e : a.po = []
      · have : portA a = [] := List.length_eq_zero_iff.1 (by have h0 : (trimZ a.po).length = 0 := (by rw [e]; rfl); omega)
        rw [if_pos this]; simp
      · rw [if_neg e]
        split
        · simp
        · simp only [List.length_cons] at zz lz ⊢; omega
    simp only [Bool.false_eq_true, if_false, List.length_nil]
    omega
  omega
/-- what the program makes of it -/
theorem path_same {a : Adr} (h : checkAdrL a = 0) (n : Adr) (hn : n = if checkAdrL (normA a) = 0 then normA a else ⟨[], [], [], [47], normL a.qu, a.hq, [], false⟩) : n.pa ++ (if n.hq = true then 63 :: n.qu else []) = pathL a := by
  rcases norm_right h with e | ⟨e1, e2⟩
  · rw [hn, if_pos e]; rfl
  · rw [hn, if_neg e2]
    show [47] ++ _ = npL a ++ _
    have : npL a = [47] := by unfold npL; rw [e1]; rfl
    rw [this]

def ckAtoi : Ck
  | [.str s] => some (1 ≤ s.length ∧ s.length ≤ 18 ∧ s.all isDg = true, .tup [.int .i64 (natOf s), .any])
  | _ => none
theorem conAtoi : Con pg 58 ckAtoi := by
  intro args q r h hq
  unfold ckAtoi at h
  split at h
  · cases h
    rename_i s
    refine pcall_shelf (by kernel_rfl) rfl fun w hw => (Tryz.strconv_Atoi ⟨s.toArray⟩ (natOf s) (by show s.toArray.size ≤ _; have := hq.2.1; simp; omega) ?_ w).mono fun e w' h => ?_
    · exact atoi_dig (show s ≠ [] from fun e => by have := hq.1; rw [e] at this; simp at this) hq.2.2
    · obtain ⟨he, t, rfl⟩ := h
      exact ⟨_, he, grow_below (Lib.bytesWorld_below _ _ _), fun γ imm => .tup _ [_, _] rfl fun i hi => by
        match i, hi with
        | 0, _ => exact .pure (.int _ _)
        | 1, _ => exact .any _⟩
  · cases h
attribute [push_cast] ckAtoi

end Go.Abs
