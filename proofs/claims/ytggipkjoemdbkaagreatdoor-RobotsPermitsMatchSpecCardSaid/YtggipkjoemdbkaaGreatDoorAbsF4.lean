/- what functions of this program compute: contracts, each a function's own -/
import Derived.Test.YtggipkjoemdbkaaGreatDoorAbsK2
import Derived.Test.YtggipkjoemdbkaaGreatDoorAbsFacts
import Derived.Test.YtggipkjoemdbkaaGreatDoorAbsF3
import Derived.Test.YtggipkjoemdbkaaGreatDoorAbsShelf
import Derived.Lib.SplitLaws
import Derived.Lib.SlTrimSet
import Derived.Lib.Atoi
import Derived.Lib.Itoa
import Derived.Lib.ItoaNum
import Derived.Lib.AtoiErrMem
import Derived.Lib.Join
import Derived.Lib.Repeat
namespace Go.Abs
open Go Go.Proofs
set_option maxHeartbeats 4000000
set_option maxRecDepth 100000
set_option linter.unusedVariables false
set_option linter.unusedSimpArgs false
theorem slice_drop {s : List UInt8} {a : Nat} (h : a ≤ s.length) : (s.drop a).take (s.length - a) = s.drop a := List.take_of_length_le (by rw [List.length_drop]; omega)
theorem pre1 (s : List UInt8) (a : Nat) (c : UInt8) : hasPre (s.drop a) [c] = isAt s a c.toNat := by
  rw [Bool.eq_iff_iff, isAt_iff]
  unfold hasPre
  rw [Bool.and_eq_true, decide_eq_true_eq, beq_iff_eq, List.length_drop, List.length_singleton]
  constructor
  · rintro ⟨h1, h2⟩
    rw [dropD s a (by omega)] at h2
    have := (List.cons.inj h2).1
    exact ⟨by omega, by rw [this]⟩
  · rintro ⟨h1, h2⟩
    refine ⟨by omega, ?_⟩
    rw [dropD s a h1]
    have : s.getD a 0 = c := UInt8.toNat_inj.1 h2
    rw [this]; rfl
def ckPlaceK : List V → List Blk → Option (Prop × V × List Blk)
  | [.ptr _ 0], [.cells [.str s, .int .i64 a, .str sc, .str _, .str [], .str pa, .str qu, .bool hq, .str fr, .bool hf]] => some (s.length ≤ 2000 ∧ 0 ≤ a ∧ a ≤ s.length, .bool (plcL s a.toNat).ok, [.cells [.str s, .int .i64 (plcL s a.toNat).at', .str sc, .str (plcL s a.toNat).ho, .str (plcL s a.toNat).po, .str pa, .str qu, .bool hq, .str fr, .bool hf]])
  | _, _ => none
def ckPlace : Cf := ⟨fun | [.ptr i _] => [i] | _ => [], ckPlaceK⟩
theorem conPlace : FCon pg 85 ckPlace := by
  have hct := (ctA_ok conHostEnd (ctA_ok conIsHost0 (ctA_ok conHasPre (ctA_ok conIsDig (ctA_ok conPortOf (ctA_ok conIndexByte (ctN_ok _)))))))
  intro args bs q r bs' h hq
  replace h : ckPlaceK args bs = some (q, r, bs') := h
  unfold ckPlaceK at h
  split at h
  · cases h
    rename_i i s a sc ho pa qu hq1 fr hf
    refine ⟨rfl, by first | exact Nat.le_refl _ | exact Nat.zero_le _, ?_⟩
    obtain ⟨h1, h2, h3⟩ := hq
    obtain ⟨a, rfl⟩ : ∃ k : Nat, a = k := ⟨a.toNat, by omega⟩
    rw [Int.toNat_natCast]
    show FCall pg 85 [.ptr (i + 9000) 0] [(i + 9000, .cells [.str s, .int .i64 a, .str sc, .str ho, .str [], .str pa, .str qu, .bool hq1, .str fr, .bool hf])] (.bool (plcL s a).ok) [(i + 9000, .cells [.str s, .int .i64 (plcL s a).at', .str sc, .str (plcL s a).ho, .str (plcL s a).po, .str pa, .str qu, .bool hq1, .str fr, .bool hf])]
    refine fw85 (fun _ => false) [] rfl hct rfl (by simp) (by simp [hlIn, idsIn, Blk.menIn, V.menInL, V.menIn, V.flat, byF, lsF]) (by simp [V.menIn, V.menInL, idsIn]) ?_
    push_cast (config := { maxSteps := 10000000 })
    have hb := hoN_le (s := s) (a := a) (by omega)
    have e1 : runN hostB (s.drop a) = hoN s a := rfl
    rw [e1]
    have e2 : ((a : Int) + (hoN s a : Int)).toNat - a = hoN s a := by omega
    have e3 : ((a : Int) + (hoN s a : Int)).toNat = a + hoN s a := by omega
    have e4 : (s.drop a).take (hoN s a) = cutS s a (hoN s a) := rfl
    rw [e2, e3, e4]
    have pre := pre1 s (a + hoN s a) 58
    have pre : hasPre (s.drop (a + hoN s a)) [58] = isAt s (a + hoN s a) 58 := pre
    rw [pre]
    refine ⟨by omega, by omega, ⟨by omega, by omega⟩, ⟨⟨by omega, by omega⟩, by omega, by omega⟩, by omega, fun h => ?_, fun h => ⟨⟨by omega, by omega⟩, ⟨⟨by omega, by omega⟩, by omega⟩, by omega, fun hc => ⟨⟨by omega, by omega⟩, ?_⟩, fun hc => ?_⟩⟩
    · unfold plcL; rw [if_pos h]; exact ⟨rfl, rfl, rfl, rfl⟩
    · have hc1 := isAt_lt hc
      have hP : plcL s a = if portN (cutS s (a + hoN s a + 1) (poN s (a + hoN s a + 1))) = 0 then ⟨false, a + hoN s a + 1, cutS s a (hoN s a), cutS s (a + hoN s a + 1) (poN s (a + hoN s a + 1))⟩
         else ⟨endB s (a + hoN s a + 1 + poN s (a + hoN s a + 1)), a + hoN s a + 1 + poN s (a + hoN s a + 1), cutS s a (hoN s a), cutS s (a + hoN s a + 1) (poN s (a + hoN s a + 1))⟩ := by
        unfold plcL; rw [if_neg (by rw [h]; simp), if_pos hc]
      rw [hP]
      have hb2 := poN_le (s := s) (a := a + hoN s a + 1) (by omega)
      generalize hB : a + hoN s a + 1 = B at hb2 hP ⊢
      have eB : (a : Int) + (hoN s a : Int) + 1 = (B : Int) := by omega
      rw [eB]
      generalize cutS s a (hoN s a) = H
      refine LoopW.adj ⟨hct, fol⟩ (by kernel_rfl) [] (fun n : Nat => [(0, .ptr (i + 9000) 0), (4, .int .i64 ((B + n : Nat) : Int))]) (fun n => [(i + 9000, .cells [.str s, .int .i64 B, .str sc, .str H, .str [], .str pa, .str qu, .bool hq1, .str fr, .bool hf])]) (fun n => B + n ≤ s.length ∧ ∀ j, j < n → digB ((s.drop B).getD j 0) = true) (fun n => s.length - n) 0 ?_ fun n hn => ?_
      · push_cast (config := { maxSteps := 10000000 })
        exact ⟨by omega, by omega⟩
      · push_cast (config := { maxSteps := 10000000 })
        obtain ⟨n1, n2⟩ := hn
        have e5 : ((B : Int) + (n : Int)).toNat = B + n := by omega
        have e6 : ((B : Int) + (n : Int)).toNat - B = n := by omega
        have e7 : (s.drop B).getD n 0 = s.getD (B + n) 0 := by rw [List.getD_eq_getElem?_getD, List.getD_eq_getElem?_getD, List.getElem?_drop]
        rw [e5]
        rw [e5] at e6
        rw [e6]
        refine ⟨fun h => ⟨h, by omega, h⟩, fun h => ⟨⟨by omega, by omega⟩, n + 1, ⟨by omega, fun j hj => ?_⟩, by omega, by omega⟩, fun h => ?_⟩
        · by_cases e : j = n
          · subst e; rw [e7]; exact h.2
          · exact n2 j (by omega)
        have eN : poN s B = n := by
          unfold poN
          refine runN_at (by rw [List.length_drop]; omega) n2 fun hlt => ?_
          rw [List.length_drop] at hlt
          rw [e7]; exact h (by omega)
        rw [eN]
        have eC : (s.drop B).take n = cutS s B n := rfl
        rw [eC]
        refine ⟨⟨⟨by omega, by omega⟩, by omega, by omega⟩, by omega, fun h0 => ?_, fun h0 => ?_⟩
        · rw [if_pos h0]; exact ⟨rfl, rfl, rfl, rfl⟩
        · rw [if_neg h0]
          refine ⟨fun x => ⟨x, by omega, by omega⟩, ?_, by show _ = ((B + n : Nat) : Int); omega, rfl, rfl⟩
          show _ = endB s (B + n)
          unfold endB
          congr 1
          rw [Bool.eq_iff_iff, beq_iff_eq, decide_eq_true_eq]; omega
    · unfold plcL
      rw [if_neg (by rw [h]; simp), if_neg (by rw [hc]; simp)]
      refine ⟨fun x => ⟨x, by omega, by omega⟩, ?_, by show _ = ((a + hoN s a : Nat) : Int); omega, rfl, rfl⟩
      unfold endB
      congr 1
      rw [Bool.eq_iff_iff, beq_iff_eq, decide_eq_true_eq]; omega
  · cases h
attribute [push_cast] ckPlaceK
def ckRowK : List V → List Blk → Option (Prop × V × List Blk)
  | [.ptr _ 0, .str w], [.cells [.str s, .int .i64 a, .str sc, .str ho, .str po, .str pa, .str qu, .bool hq, .str fr, .bool hf]] => some (s.length ≤ 2000 ∧ 0 ≤ a ∧ a ≤ s.length, .tup [.str (cutS s a.toNat (rdRow s a.toNat w).1), .bool (rdRow s a.toNat w).2], [.cells [.str s, .int .i64 (a + (rdRow s a.toNat w).1), .str sc, .str ho, .str po, .str pa, .str qu, .bool hq, .str fr, .bool hf]])
  | _, _ => none
def ckRow : Cf := ⟨fun | [.ptr i _, _] => [i] | _ => [], ckRowK⟩
theorem conRow : FCon pg 114 ckRow := by
  have hct := (ctA_ok conRowEnd (ctN_ok _))
  intro args bs q r bs' h hq
  replace h : ckRowK args bs = some (q, r, bs') := h
  unfold ckRowK at h
  split at h
  · cases h
    rename_i i w s a sc ho po pa qu hq1 fr hf
    refine ⟨rfl, by first | exact Nat.le_refl _ | exact Nat.zero_le _, ?_⟩
    obtain ⟨h1, h2, h3⟩ := hq
    obtain ⟨a, rfl⟩ : ∃ k : Nat, a = k := ⟨a.toNat, by omega⟩
    rw [Int.toNat_natCast]
    show FCall pg 114 [.ptr (i + 9000) 0, .str w] [(i + 9000, .cells [.str s, .int .i64 a, .str sc, .str ho, .str po, .str pa, .str qu, .bool hq1, .str fr, .bool hf])] (.tup [.str (cutS s a (rdRow s a w).1), .bool (rdRow s a w).2]) [(i + 9000, .cells [.str s, .int .i64 (a + (rdRow s a w).1), .str sc, .str ho, .str po, .str pa, .str qu, .bool hq1, .str fr, .bool hf])]
    refine fw114 (fun _ => false) [] rfl hct rfl (by simp) (by simp [hlIn, idsIn, Blk.menIn, V.menInL, V.menIn, V.flat, byF, lsF]) (by simp [V.menIn, V.menInL, idsIn]) ?_
    push_cast (config := { maxSteps := 10000000 })
    have hb := rdRow_le (s := s) (a := a) (w := w) (by omega)
    have e1 : reL (s.drop a) w (s.length - a + 1) 0 = rdRow s a w := by unfold rdRow; rw [List.length_drop]
    rw [e1]
    have e2 : ((a : Int) + ((rdRow s a w).1 : Int)).toNat - a = (rdRow s a w).1 := by omega
    rw [e2]
    exact ⟨by omega, by omega, ⟨by omega, by omega⟩, ⟨⟨by omega, by omega⟩, by omega, by omega⟩, ⟨by omega, by omega⟩, ⟨rfl, rfl⟩, rfl⟩
  · cases h
attribute [push_cast] ckRowK
@[push_cast] theorem place_ids (i o : Nat) : ckPlace.ids [.ptr i o] = [i] := rfl
@[push_cast] theorem place_k (i : Nat) (s sc ho pa qu fr : List UInt8) (hq hf : Bool) (a : Int) : ckPlace.k [.ptr i 0] [.cells [.str s, .int .i64 a, .str sc, .str ho, .str [], .str pa, .str qu, .bool hq, .str fr, .bool hf]] = some (s.length ≤ 2000 ∧ 0 ≤ a ∧ a ≤ s.length, .bool (plcL s a.toNat).ok, [.cells [.str s, .int .i64 (plcL s a.toNat).at', .str sc, .str (plcL s a.toNat).ho, .str (plcL s a.toNat).po, .str pa, .str qu, .bool hq, .str fr, .bool hf]]) := rfl
@[push_cast] theorem row_ids (i o : Nat) (x : V) : ckRow.ids [.ptr i o, x] = [i] := rfl
@[push_cast] theorem row_k (i : Nat) (w s sc ho po pa qu fr : List UInt8) (hq hf : Bool) (a : Int) : ckRow.k [.ptr i 0, .str w] [.cells [.str s, .int .i64 a, .str sc, .str ho, .str po, .str pa, .str qu, .bool hq, .str fr, .bool hf]] = some (s.length ≤ 2000 ∧ 0 ≤ a ∧ a ≤ s.length, .tup [.str (cutS s a.toNat (rdRow s a.toNat w).1), .bool (rdRow s a.toNat w).2], [.cells [.str s, .int .i64 (a + (rdRow s a.toNat w).1), .str sc, .str ho, .str po, .str pa, .str qu, .bool hq, .str fr, .bool hf]]) := rfl
theorem rest3 {s P Q : List UInt8} {d : Nat} {b : Bool} (h1 : s.length ≤ 2000) (hd : d ≤ s.length) {R : Rst} (hR : R = rst3 s d P Q b) : ((0 ≤ (d : Int) ∧ (d : Int) ≤ s.length) ∧ (d : Int) ≤ s.length) ∧
    ((s.length - d : Nat) : Int) ≤ 4611686018427387904 ∧
      (hasPre (s.drop d) [35] = true → (-9223372036854775808 ≤ ((d + 1 : Nat) : Int) ∧ ((d + 1 : Nat) : Int) ≤ 9223372036854775807) ∧
          (s.length ≤ 2000 ∧ 0 ≤ ((d + 1 : Nat) : Int) ∧ ((d + 1 : Nat) : Int) ≤ s.length) ∧
            ((rdRow s (d + 1) []).2 = false → false = R.ok ∧ ((d + 1 : Nat) : Int) + (rdRow s (d + 1) []).1 = R.at' ∧ P = R.pa ∧ Q = R.qu ∧ b = R.hq ∧ cutS s (d + 1) (rdRow s (d + 1) []).1 = R.fr ∧ true = R.hf) ∧
            ((rdRow s (d + 1) []).2 = true → true = R.ok ∧ ((d + 1 : Nat) : Int) + (rdRow s (d + 1) []).1 = R.at' ∧ P = R.pa ∧ Q = R.qu ∧ b = R.hq ∧ cutS s (d + 1) (rdRow s (d + 1) []).1 = R.fr ∧ true = R.hf)) ∧
      (hasPre (s.drop d) [35] = false → true = R.ok ∧ (d : Int) = R.at' ∧ P = R.pa ∧ Q = R.qu ∧ b = R.hq ∧ [] = R.fr ∧ false = R.hf) := by
  subst hR
  have hp : hasPre (s.drop d) [35] = isAt s d 35 := pre1 s d 35
  rw [hp]
  refine ⟨⟨⟨by omega, by omega⟩, by omega⟩, by omega, fun h => ?_, fun h => ?_⟩
  · have hl := isAt_lt h
    have hr := rdRow_le (s := s) (a := d + 1) (w := []) (by omega)
    unfold rst3
    rw [if_pos h]
    exact ⟨⟨by omega, by omega⟩, ⟨h1, by omega, by omega⟩, fun h2 => ⟨h2.symm, by show _ = ((d + 1 + (rdRow s (d + 1) []).1 : Nat) : Int); omega, rfl, rfl, rfl, rfl, rfl⟩, fun h2 => ⟨h2.symm, by show _ = ((d + 1 + (rdRow s (d + 1) []).1 : Nat) : Int); omega, rfl, rfl, rfl, rfl, rfl⟩⟩
  · unfold rst3
    rw [if_neg (by rw [h]; simp)]
    exact ⟨rfl, rfl, rfl, rfl, rfl, rfl, rfl⟩
def ckRestK : List V → List Blk → Option (Prop × V × List Blk)
  | [.ptr _ 0], [.cells [.str s, .int .i64 a, .str sc, .str ho, .str po, .str _, .str [], .bool false, .str [], .bool false]] => some (s.length ≤ 2000 ∧ 0 ≤ a ∧ a ≤ s.length, .bool (rstL s a.toNat).ok, [.cells [.str s, .int .i64 (rstL s a.toNat).at', .str sc, .str ho, .str po, .str (rstL s a.toNat).pa, .str (rstL s a.toNat).qu, .bool (rstL s a.toNat).hq, .str (rstL s a.toNat).fr, .bool (rstL s a.toNat).hf]])
  | _, _ => none
def ckRest : Cf := ⟨fun | [.ptr i _] => [i] | _ => [], ckRestK⟩
theorem conRest : FCon pg 86 ckRest := by
  have hct := (ctF_ok conRow (ctA_ok conHasPre (ctN_ok _)))
  intro args bs q r bs' h hq
  replace h : ckRestK args bs = some (q, r, bs') := h
  unfold ckRestK at h
  split at h
  · cases h
    rename_i i s a sc ho po pa
    refine ⟨rfl, by first | exact Nat.le_refl _ | exact Nat.zero_le _, ?_⟩
    obtain ⟨h1, h2, h3⟩ := hq
    obtain ⟨a, rfl⟩ : ∃ k : Nat, a = k := ⟨a.toNat, by omega⟩
    rw [Int.toNat_natCast]
    show FCall pg 86 [.ptr (i + 9000) 0] [(i + 9000, .cells [.str s, .int .i64 a, .str sc, .str ho, .str po, .str pa, .str [], .bool false, .str [], .bool false])] (.bool (rstL s a).ok) [(i + 9000, .cells [.str s, .int .i64 (rstL s a).at', .str sc, .str ho, .str po, .str (rstL s a).pa, .str (rstL s a).qu, .bool (rstL s a).hq, .str (rstL s a).fr, .bool (rstL s a).hf])]
    refine fw86 (fun _ => false) [] rfl hct rfl (by simp) (by simp [hlIn, idsIn, Blk.menIn, V.menInL, V.menIn, V.flat, byF, lsF]) (by simp [V.menIn, V.menInL, idsIn]) ?_
    push_cast (config := { maxSteps := 10000000 })
    have hr1 := rdRow_le (s := s) (a := a) (w := [63, 35]) (by omega)
    have hL : rstL s a = if (rdRow s a [63, 35]).2 = false then ⟨false, a + (rdRow s a [63, 35]).1, cutS s a (rdRow s a [63, 35]).1, [], false, [], false⟩ else rst2 s (a + (rdRow s a [63, 35]).1) (cutS s a (rdRow s a [63, 35]).1) := rfl
    generalize rdRow s a [63, 35] = r1 at hr1 hL ⊢
    obtain ⟨n1, o1⟩ := r1
    simp only at hr1 hL ⊢
    obtain ⟨c, hc⟩ : ∃ c : Nat, c = a + n1 := ⟨_, rfl⟩
    have ec : (a : Int) + (n1 : Int) = (c : Int) := by omega
    have ec1 : (c : Int) + 1 = ((c + 1 : Nat) : Int) := by omega
    rw [← hc] at hL hr1
    generalize cutS s a n1 = P at hL ⊢
    simp only [ec, ec1, Int.toNat_natCast]
    refine ⟨⟨h1, by omega⟩, fun h => ?_, fun h => ⟨⟨⟨by omega, by omega⟩, by omega⟩, by omega, fun hq => ?_, fun hq => ?_⟩⟩
    · rw [hL, if_pos h]; exact ⟨rfl, rfl, rfl, rfl, rfl, rfl, rfl⟩
    all_goals rw [if_neg (by rw [h]; simp)] at hL
    all_goals rw [show hasPre (s.drop c) [63] = isAt s c 63 from pre1 s c 63] at hq
    · have hlt := isAt_lt hq
      have hL : rstL s a = if (rdRow s (c + 1) [35]).2 = false then ⟨false, c + 1 + (rdRow s (c + 1) [35]).1, P, cutS s (c + 1) (rdRow s (c + 1) [35]).1, true, [], false⟩ else rst3 s (c + 1 + (rdRow s (c + 1) [35]).1) P (cutS s (c + 1) (rdRow s (c + 1) [35]).1) true := by rw [hL]; unfold rst2; rw [if_pos hq]
      have hr2 := rdRow_le (s := s) (a := c + 1) (w := [35]) (by omega)
      generalize rdRow s (c + 1) [35] = r2 at hr2 hL ⊢
      obtain ⟨n2, o2⟩ := r2
      simp only at hr2 hL ⊢
      obtain ⟨d, hd⟩ : ∃ d : Nat, d = c + 1 + n2 := ⟨_, rfl⟩
      have ed : ((c + 1 : Nat) : Int) + (n2 : Int) = (d : Int) := by omega
      have ed1 : (d : Int) + 1 = ((d + 1 : Nat) : Int) := by omega
      rw [← hd] at hL hr2
      generalize cutS s (c + 1) n2 = Q at hL ⊢
      simp only [ed, ed1, Int.toNat_natCast]
      refine ⟨⟨by omega, by omega⟩, ⟨h1, by omega, by omega⟩, fun ho => ?_, fun ho => ?_⟩
      · rw [hL, if_pos ho]; exact ⟨rfl, rfl, rfl, rfl, rfl, rfl, rfl⟩
      · exact rest3 h1 hr2 (by rw [hL, if_neg (by rw [ho]; simp)])
    · have hL : rstL s a = rst3 s c P [] false := by rw [hL]; unfold rst2; rw [if_neg (by rw [hq]; simp)]
      exact rest3 h1 hr1 hL
  · cases h
attribute [push_cast] ckRestK
@[push_cast] theorem rest_ids (i o : Nat) : ckRest.ids [.ptr i o] = [i] := rfl
@[push_cast] theorem rest_k (i : Nat) (s sc ho po pa : List UInt8) (a : Int) : ckRest.k [.ptr i 0] [.cells [.str s, .int .i64 a, .str sc, .str ho, .str po, .str pa, .str [], .bool false, .str [], .bool false]] = some (s.length ≤ 2000 ∧ 0 ≤ a ∧ a ≤ s.length, .bool (rstL s a.toNat).ok, [.cells [.str s, .int .i64 (rstL s a.toNat).at', .str sc, .str ho, .str po, .str (rstL s a.toNat).pa, .str (rstL s a.toNat).qu, .bool (rstL s a.toNat).hq, .str (rstL s a.toNat).fr, .bool (rstL s a.toNat).hf]]) := rfl
def ckReadA : Ck
  | [.str s] => some (True, .tup [cAdr.enc (readA s).1, .int .i64 (readA s).2.1, .int .i64 (readA s).2.2])
  | _ => none
theorem conReadA : Con pg 60 ckReadA := by
  have hct := (ctA_ok conScheme (ctF_ok conPlace (ctF_ok conRest (ctN_ok _))))
  intro args q r h hq
  unfold ckReadA at h
  split at h
  · cases h
    rename_i s
    refine w60 (fun _ => false) [] rfl hct rfl rfl ?_
    push_cast (config := { maxSteps := 10000000 })
    have hb := sch_b s
    have hp := plc_b (s := s) (a := (schL s).2) hb
    refine ⟨fun h => ?_, fun h => ⟨by omega, fun h1 => ?_, fun h1 => ⟨⟨by omega, hb⟩, fun h2 => ⟨h2, ⟨by omega, hp⟩, fun h3 => ?_, fun h3 => ?_⟩, fun h2 => ⟨fun x => (by rw [h2] at x; cases x), ?_⟩⟩⟩⟩
    · have e : readA s = (noAdr, 0, 2) := by unfold readA; rw [if_pos (by omega)]
      rw [e]; exact ⟨⟨rfl, rfl, rfl, rfl, rfl, rfl, rfl, rfl⟩, rfl, rfl⟩
    · have e : readA s = (noAdr, ((schL s).2 : Int), 10) := by unfold readA; rw [if_neg (by omega), if_pos h1]
      rw [e]; exact ⟨⟨rfl, rfl, rfl, rfl, rfl, rfl, rfl, rfl⟩, rfl, rfl⟩
    · have h3 : (rstL s (plcL s (schL s).2).at').ok = false := h3.resolve_left (by rw [h2]; simp)
      have e : readA s = (noAdr, ((rstL s (plcL s (schL s).2).at').at' : Int), 10) := by unfold readA; rw [if_neg (by omega), if_neg (by rw [h1]; simp), if_neg (by rw [h2]; simp), if_pos h3]
      rw [e]; exact ⟨⟨rfl, rfl, rfl, rfl, rfl, rfl, rfl, rfl⟩, rfl, rfl⟩
    · have e : readA s = (⟨s.take ((schL s).2 - 3), (plcL s (schL s).2).ho, (plcL s (schL s).2).po, (rstL s (plcL s (schL s).2).at').pa, (rstL s (plcL s (schL s).2).at').qu, (rstL s (plcL s (schL s).2).at').hq, (rstL s (plcL s (schL s).2).at').fr, (rstL s (plcL s (schL s).2).at').hf⟩, 0, 0) := by unfold readA; rw [if_neg (by omega), if_neg (by rw [h1]; simp), if_neg (by rw [h2]; simp), if_neg (by rw [h3.2]; simp)]
      rw [e, if_pos h1]; exact ⟨⟨rfl, rfl, rfl, rfl, rfl, rfl, rfl, rfl⟩, rfl, rfl⟩
    · have e : readA s = (noAdr, ((plcL s (schL s).2).at' : Int), 10) := by unfold readA; rw [if_neg (by omega), if_neg (by rw [h1]; simp), if_pos h2]
      rw [e]; exact ⟨⟨rfl, rfl, rfl, rfl, rfl, rfl, rfl, rfl⟩, rfl, rfl⟩
  · cases h
attribute [push_cast] ckReadA

def ckAtoi : Ck
  | [.str s] => some (1 ≤ s.length ∧ s.length ≤ 18 ∧ s.all isDg = true, .tup [.int .i64 (natOf s), .any])
  | _ => none
theorem conAtoi : Con pg 106 ckAtoi := by
  intro args q r h hq
  unfold ckAtoi at h
  split at h
  · cases h
    rename_i s
    refine pcall_shelf (by kernel_rfl) rfl fun w hw => (Tryz.strconv_Atoi ⟨s.toArray⟩ (natOf s) (by show s.toArray.size ≤ _; have := hq.2.1; simp; omega) ?_ w).mono fun e w' h => ?_
    · exact atoi_dig (show s ≠ [] from fun e => by have := hq.1; rw [e] at this; simp at this) hq.2.2
    · obtain ⟨he, t, rfl⟩ := h
      exact ⟨_, he, grow_below (Lib.bytesWorld_below _ _ _), fun γ imm => .tup _ [_, _] rfl fun i hi => by
        match i, hi with
        | 0, _ => exact .pure (.int _ _)
        | 1, _ => exact .any _⟩
  · cases h
attribute [push_cast] ckAtoi

end Go.Abs
