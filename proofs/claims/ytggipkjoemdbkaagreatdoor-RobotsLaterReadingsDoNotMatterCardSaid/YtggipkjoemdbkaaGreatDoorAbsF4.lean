/- what functions of this program compute: contracts, each a function's own -/
import Derived.Test.YtggipkjoemdbkaaGreatDoorAbsK2
import Derived.Test.YtggipkjoemdbkaaGreatDoorAbsFacts
import Derived.Test.YtggipkjoemdbkaaGreatDoorAbsF3
import Derived.Test.YtggipkjoemdbkaaGreatDoorAbsShelf
import Derived.Lib.SplitLaws
import Derived.Lib.SlTrimSet
import Derived.Lib.Atoi
import Derived.Lib.Itoa
import Derived.Lib.ItoaNum
import Derived.Lib.AtoiErrMem
import Derived.Lib.Join
import Derived.Lib.Repeat
import Derived.Lib.Walk
namespace Go.Abs
open Go Go.Proofs
set_option maxHeartbeats 4000000
set_option maxRecDepth 100000
set_option linter.unusedVariables false
set_option linter.unusedSimpArgs false
theorem isAt_iff (s : List UInt8) (a c : Nat) : isAt s a c = true ↔ a < s.length ∧ (s.getD a 0).toNat = c := by
  unfold isAt; rw [Bool.and_eq_true, decide_eq_true_eq, decide_eq_true_eq]
def ckHostEnd : Ck
  | [.str s] => some (s.length ≤ 4611686018427387900, .int .i64 (runN hostB s))
  | _ => none
theorem conHostEnd : Con pg 111 ckHostEnd := by
  have hct := (ctA_ok conIsLet (ctA_ok conIsDig (ctN_ok _)))
  intro args q r h hq
  unfold ckHostEnd at h
  split at h
  · cases h
    rename_i s
    refine w111 (fun _ => false) [] rfl hct rfl rfl ?_
    push_cast (config := { maxSteps := 10000000 })
    refine LoopW.adj ⟨hct, fol⟩ (by kernel_rfl) [] (fun i : Nat => [(0, .str s), (3, .int .i64 i)]) (fun _ => []) (fun i => i ≤ s.length ∧ ∀ j, j < i → hostB (s.getD j 0) = true) (fun i => s.length - i) 0 ?_ fun i hi => ?_
    · push_cast (config := { maxSteps := 10000000 })
      exact Nat.zero_le _
    · push_cast (config := { maxSteps := 10000000 })
      obtain ⟨h1, h2⟩ := hi
      have hb : hostB (s.getD i 0) = true ↔ ((isLet ((s.getD i 0).toNat : Int) = true ∨ isDig ((s.getD i 0).toNat : Int) = true) ∨ ((s.getD i 0).toNat : Int) = 45) ∨ ((s.getD i 0).toNat : Int) = 46 := by
        unfold hostB
        simp only [Bool.or_eq_true, decide_eq_true_eq]
        have e5 : ((s.getD i 0).toNat : Int) = 45 ↔ (s.getD i 0).toNat = 45 := by omega
        have e6 : ((s.getD i 0).toNat : Int) = 46 ↔ (s.getD i 0).toNat = 46 := by omega
        rw [e5, e6]
      refine ⟨fun h => ⟨h, h.1⟩, fun h => ⟨h, fun x => ⟨h, x⟩⟩, fun h => ⟨h, h.1⟩, fun h => ⟨h, fun x => ⟨h, x⟩⟩, fun h => ⟨h, h.1⟩, fun h => ⟨h, fun x => ⟨h, x⟩⟩, fun h => ?_, fun h => ?_⟩
      · have hc := hb.2 h.2
        refine ⟨⟨by omega, by omega⟩, i + 1, ⟨by omega, fun j hj => ?_⟩, by omega, by omega⟩
        by_cases e : j = i
        · subst e; exact hc
        · exact h2 j (by omega)
      · rw [runN_at h1 h2 fun hlt => ?_]
        have := h hlt
        cases hc : hostB (s.getD i 0) with
        | false => rfl
        | true =>
          rcases hb.1 hc with ((x | x) | x) | x
          · rw [this.1.1.1] at x; cases x
          · rw [this.1.1.2] at x; cases x
          · exact absurd x this.1.2
          · exact absurd x this.2
  · cases h
attribute [push_cast] ckHostEnd
theorem dig_dg (s : List UInt8) : s.all digB = s.all isDg := by
  congr 1
  funext c
  have key : ∀ n, n < 256 → digB (UInt8.ofNat n) = isDg (UInt8.ofNat n) := by decide +kernel
  have := key c.toNat (UInt8.toNat_lt c)
  simpa using this
def ckPortOf : Ck
  | [.str s] => some (s.length ≤ 4611686018427387900, .int .i64 (portN s))
  | _ => none
theorem conPortOf : Con pg 70 ckPortOf := by
  have hct := (ctA_ok conTrim (ctN_ok _))
  intro args q r h hq
  unfold ckPortOf at h
  split at h
  · cases h
    rename_i s
    refine w70 (fun _ => false) [] rfl hct rfl rfl ?_
    push_cast (config := { maxSteps := 10000000 })
    have e := trim_dig s
    unfold digs at e
    rw [← dig_dg] at e
    refine ⟨fun h => ⟨h, by omega⟩, fun h => ?_, fun h => ?_⟩
    · unfold portN
      rw [if_neg fun x => ?_]
      rcases h with h | h
      · omega
      · exact h (e.2 x.2.2.1)
    have ha := e.1 h.2
    have hd : ∀ j, j < s.length → 48 ≤ (s.getD j 0).toNat ∧ (s.getD j 0).toNat ≤ 57 := fun j hj => by
      have := List.all_eq_true.1 ha (s.getD j 0) (by rw [List.getD_eq_getElem?_getD, List.getElem?_eq_getElem hj]; exact List.getElem_mem hj)
      unfold digB isDig at this
      simp only [Bool.and_eq_true, decide_eq_true_eq] at this
      omega
    have hN : portN s = if portV s ≤ 65535 then portV s else 0 := by
      unfold portN
      by_cases hv : portV s ≤ 65535
      · rw [if_pos ⟨by omega, by omega, ha, hv⟩, if_pos hv]
      · rw [if_neg (fun x => hv x.2.2.2), if_neg hv]
    rw [hN]
    have hS : ∀ i, i < s.length → portV (s.take (i + 1)) = 10 * portV (s.take i) + (((s.getD i 0).toNat : Int) - 48) := fun i hi => by
      rw [takeG (d := 0) hi]
      unfold portV
      rw [List.foldl_append]; rfl
    refine LoopW.adj ⟨hct, fol⟩ (by kernel_rfl) [] (fun i : Nat => [(0, .str s), (3, .int .i64 (portV (s.take i))), (19, .int .i64 s.length), (20, .int .i64 i)]) (fun _ => []) (fun i => i ≤ s.length ∧ 0 ≤ portV (s.take i) ∧ portV (s.take i) < 10 ^ i) (fun i => s.length - i) 0 ?_ fun i hi => ?_
    · push_cast (config := { maxSteps := 10000000 })
      exact ⟨⟨Nat.zero_le _, by decide, by decide⟩, rfl⟩
    · push_cast (config := { maxSteps := 10000000 })
      obtain ⟨h1, h2, h3⟩ := hi
      refine ⟨fun hlt => ?_, fun hge => ?_⟩
      · have hd1 := hd i hlt
        have hs1 := hS i hlt
        have p5 : (10 : Int) ^ i ≤ 10000 := by
          rcases (by omega : i = 0 ∨ i = 1 ∨ i = 2 ∨ i = 3 ∨ i = 4) with rfl | rfl | rfl | rfl | rfl <;> decide
        have e1 : (((s.getD i 0).toNat : Int) - 48) % 256 = ((s.getD i 0).toNat : Int) - 48 := by omega
        rw [e1]
        exact ⟨⟨by omega, by omega⟩, hlt, ⟨by omega, by omega⟩, ⟨by omega, by omega⟩, ⟨by omega, by omega⟩, i + 1, ⟨by omega, by omega, by rw [hs1, Int.pow_succ]; omega⟩, by omega, by rw [hs1], by omega⟩
      · rw [List.take_of_length_le (by omega)]
        exact ⟨fun h => by rw [if_neg (by omega)], fun h => by rw [if_pos (by omega)]⟩
  · cases h
attribute [push_cast] ckPortOf
theorem low1 {s w : List UInt8} {n : Nat} (h1 : n < s.length) (h2 : n < w.length) : lowL ((s.drop n).take 1) = (w.drop n).take 1 ↔ lowB (s.getD n 0) = w.getD n 0 := by
  rw [dropG (d := 0) h1, dropG (d := 0) h2]
  simp [lowL]
def ckScheme : Ck
  | [.str s] => some (s.length ≤ 2000, .tup [.str (if (schL s).1 = true then s.take ((schL s).2 - 3) else []), .int .i64 (schL s).2, .bool (schL s).1])
  | _ => none
theorem conScheme : Con pg 84 ckScheme := by
  have hct := (ctA_ok conSmallA (ctN_ok _))
  intro args q r h hq
  unfold ckScheme at h
  split at h
  · cases h
    rename_i s
    refine w84 (fun _ => false) [] rfl hct rfl rfl ?_
    push_cast (config := { maxSteps := 10000000 })
    refine LoopW.adj ⟨hct, fol⟩ (by kernel_rfl) [] (fun t : Nat × Nat => [(0, .str s), (3, .int .i64 t.2), (8, .sl 2 (litF [.str (wHttp ++ wSep), .str (wHttps ++ wSep)])), (9, .int .i64 2), (10, .int .i64 t.1)]) (fun _ => []) (fun t => (t.1 = 0 ∧ t.2 = 0) ∨ (t.1 = 1 ∧ t.2 = mt s (wHttp ++ wSep) ∧ t.2 ≠ 7) ∨ (t.1 = 2 ∧ schL s = (false, t.2))) (fun t => 2 - t.1) (0, 0) ?_ fun t ht => ?_
    · push_cast (config := { maxSteps := 10000000 })
      intro i _; rfl
    · obtain ⟨i, m⟩ := t
      have e4 : wHttp.length = 4 := rfl
      have e5 : wHttps.length = 5 := rfl
      have e3 : wSep.length = 3 := rfl
      have e7 : (wHttp ++ wSep).length = 7 := rfl
      have e8 : (wHttps ++ wSep).length = 8 := rfl
      rcases ht with ⟨h1, h2⟩ | ⟨h1, hm, h7'⟩ | ⟨h1, hm⟩
      · obtain rfl : i = 0 := h1
        obtain rfl : m = 0 := h2
        push_cast (config := { maxSteps := 10000000 })
        refine LoopW.adj ⟨hct, fol⟩ (by kernel_rfl) [] (fun n : Nat => [(0, .str s), (3, .int .i64 0), (6, .str (wHttp ++ wSep)), (7, .int .i64 n), (8, .sl 2 (litF [.str (wHttp ++ wSep), .str (wHttps ++ wSep)])), (9, .int .i64 2), (10, .int .i64 0)]) (fun _ => []) (fun n => n ≤ s.length ∧ n ≤ 7 ∧ ∀ j, j < n → lowB (s.getD j 0) = (wHttp ++ wSep).getD j 0) (fun n => 7 - n) 0 ?_ fun n hn => ?_
        · push_cast (config := { maxSteps := 10000000 })
          exact Nat.zero_le _
        · push_cast (config := { maxSteps := 10000000 })
          obtain ⟨n1, n2, n3⟩ := hn
          refine ⟨fun h => ⟨h, by omega, by omega⟩, fun h => ⟨h, ⟨by omega, by omega⟩, by omega, by omega⟩, fun h => ⟨h, by omega⟩, fun h => ⟨h, by omega, by omega⟩, fun h => ⟨h, ⟨by omega, by omega⟩, by omega, by omega⟩, fun h => ?_, fun h => ?_⟩
          · have hc := (low1 (w := wHttp ++ wSep) h.1.2 (by omega)).1 h.2
            refine ⟨⟨by omega, by omega⟩, n + 1, ⟨by omega, by omega, fun j hj => ?_⟩, by omega, by omega⟩
            by_cases e : j = n
            · subst e; exact hc
            · exact n3 j (by omega)
          · have hmt : mt s (wHttp ++ wSep) = n := mt_at n1 (by omega) n3 fun a b x => h ⟨by omega, a⟩ ((low1 (w := wHttp ++ wSep) a b).2 x)
            refine ⟨fun h7 => ?_, fun h7 => ?_⟩
            · have hn : n = 7 := by omega
              subst hn
              have hs : schL s = (true, 7) := by unfold schL; rw [if_pos hmt]
              rw [hs]
              exact ⟨⟨by omega, by omega⟩, ⟨⟨by omega, by omega⟩, by omega⟩, rfl, rfl, rfl⟩
            · exact ⟨((1, n) : Nat × Nat), .inr (.inl ⟨rfl, hmt.symm, by omega⟩), by show 2 - 1 < 2; omega, by show max (0 : Int) n = (n : Int); omega, rfl⟩
      · obtain rfl : i = 1 := h1
        have hm : m = mt s (wHttp ++ wSep) := hm
        have h7' : m ≠ 7 := h7'
        push_cast (config := { maxSteps := 10000000 })
        refine LoopW.adj ⟨hct, fol⟩ (by kernel_rfl) [] (fun n : Nat => [(0, .str s), (3, .int .i64 m), (6, .str (wHttps ++ wSep)), (7, .int .i64 n), (8, .sl 2 (litF [.str (wHttp ++ wSep), .str (wHttps ++ wSep)])), (9, .int .i64 2), (10, .int .i64 1)]) (fun _ => []) (fun n => n ≤ s.length ∧ n ≤ 8 ∧ ∀ j, j < n → lowB (s.getD j 0) = (wHttps ++ wSep).getD j 0) (fun n => 8 - n) 0 ?_ fun n hn => ?_
        · push_cast (config := { maxSteps := 10000000 })
          exact Nat.zero_le _
        · push_cast (config := { maxSteps := 10000000 })
          obtain ⟨n1, n2, n3⟩ := hn
          refine ⟨fun h => ⟨h, by omega, by omega⟩, fun h => ⟨h, ⟨by omega, by omega⟩, by omega, by omega⟩, fun h => ⟨h, by omega⟩, fun h => ⟨h, by omega, by omega⟩, fun h => ⟨h, ⟨by omega, by omega⟩, by omega, by omega⟩, fun h => ?_, fun h => ?_⟩
          · have hc := (low1 (w := wHttps ++ wSep) h.1.2 (by omega)).1 h.2
            refine ⟨⟨by omega, by omega⟩, n + 1, ⟨by omega, by omega, fun j hj => ?_⟩, by omega, by omega⟩
            by_cases e : j = n
            · subst e; exact hc
            · exact n3 j (by omega)
          · have hmt : mt s (wHttps ++ wSep) = n := mt_at n1 (by omega) n3 fun a b x => h ⟨by omega, a⟩ ((low1 (w := wHttps ++ wSep) a b).2 x)
            refine ⟨fun h7 => ?_, fun h7 => ?_⟩
            · have hn : n = 8 := by omega
              subst hn
              have hs : schL s = (true, 8) := by unfold schL; rw [if_neg (by rw [← hm]; exact h7'), if_pos hmt]
              rw [hs]
              exact ⟨⟨by omega, by omega⟩, ⟨⟨by omega, by omega⟩, by omega⟩, rfl, rfl, rfl⟩
            · have hs : schL s = (false, max m n) := by unfold schL; rw [if_neg (by rw [← hm]; exact h7'), if_neg (by rw [hmt]; omega), hmt, ← hm]
              exact ⟨((2, max m n) : Nat × Nat), .inr (.inr ⟨rfl, hs⟩), by show 2 - 2 < 1; omega, by show max (m : Int) n = ((max m n : Nat) : Int); omega, rfl⟩
      · obtain rfl : i = 2 := h1
        have hm : schL s = (false, m) := hm
        push_cast (config := { maxSteps := 10000000 })
        rw [hm]
        exact ⟨rfl, rfl, rfl⟩
  · cases h
attribute [push_cast] ckScheme

theorem slice_drop {s : List UInt8} {a : Nat} (h : a ≤ s.length) : (s.drop a).take (s.length - a) = s.drop a := List.take_of_length_le (by rw [List.length_drop]; omega)
theorem pre1 (s : List UInt8) (a : Nat) (c : UInt8) : hasPre (s.drop a) [c] = isAt s a c.toNat := by
  rw [Bool.eq_iff_iff, isAt_iff]
  unfold hasPre
  rw [Bool.and_eq_true, decide_eq_true_eq, beq_iff_eq, List.length_drop, List.length_singleton]
  constructor
  · rintro ⟨h1, h2⟩
    rw [dropD s a (by omega)] at h2
    have := (List.cons.inj h2).1
    exact ⟨by omega, by rw [this]⟩
  · rintro ⟨h1, h2⟩
    refine ⟨by omega, ?_⟩
    rw [dropD s a h1]
    have : s.getD a 0 = c := UInt8.toNat_inj.1 h2
    rw [this]; rfl
def ckPlaceK : List V → List Blk → Option (Prop × V × List Blk)
  | [.ptr _ 0], [.cells [.str s, .int .i64 a, .str sc, .str _, .str [], .str pa, .str qu, .bool hq, .str fr, .bool hf]] => some (s.length ≤ 2000 ∧ 0 ≤ a ∧ a ≤ s.length, .bool (plcL s a.toNat).ok, [.cells [.str s, .int .i64 (plcL s a.toNat).at', .str sc, .str (plcL s a.toNat).ho, .str (plcL s a.toNat).po, .str pa, .str qu, .bool hq, .str fr, .bool hf]])
  | _, _ => none
def ckPlace : Cf := ⟨fun | [.ptr i _] => [i] | _ => [], ckPlaceK⟩
theorem conPlace : FCon pg 85 ckPlace := by
  have hct := (ctA_ok conHostEnd (ctA_ok conIsHost0 (ctA_ok conHasPre (ctA_ok conIsDig (ctA_ok conPortOf (ctA_ok conIndexByte (ctN_ok _)))))))
  intro args bs q r bs' h hq
  replace h : ckPlaceK args bs = some (q, r, bs') := h
  unfold ckPlaceK at h
  split at h
  · cases h
    rename_i i s a sc ho pa qu hq1 fr hf
    refine ⟨rfl, by first | exact Nat.le_refl _ | exact Nat.zero_le _, ?_⟩
    obtain ⟨h1, h2, h3⟩ := hq
    obtain ⟨a, rfl⟩ : ∃ k : Nat, a = k := ⟨a.toNat, by omega⟩
    rw [Int.toNat_natCast]
    show FCall pg 85 [.ptr (i + 9000) 0] [(i + 9000, .cells [.str s, .int .i64 a, .str sc, .str ho, .str [], .str pa, .str qu, .bool hq1, .str fr, .bool hf])] (.bool (plcL s a).ok) [(i + 9000, .cells [.str s, .int .i64 (plcL s a).at', .str sc, .str (plcL s a).ho, .str (plcL s a).po, .str pa, .str qu, .bool hq1, .str fr, .bool hf])]
    refine fw85 (fun _ => false) [] rfl hct rfl (by simp) (by simp [hlIn, idsIn, Blk.menIn, V.menInL, V.menIn, V.flat, byF, lsF]) (by simp [V.menIn, V.menInL, idsIn]) ?_
    push_cast (config := { maxSteps := 10000000 })
    have hb := hoN_le (s := s) (a := a) (by omega)
    have e1 : runN hostB (s.drop a) = hoN s a := rfl
    rw [e1]
    have e2 : ((a : Int) + (hoN s a : Int)).toNat - a = hoN s a := by omega
    have e3 : ((a : Int) + (hoN s a : Int)).toNat = a + hoN s a := by omega
    have e4 : (s.drop a).take (hoN s a) = cutS s a (hoN s a) := rfl
    rw [e2, e3, e4]
    have pre := pre1 s (a + hoN s a) 58
    have pre : hasPre (s.drop (a + hoN s a)) [58] = isAt s (a + hoN s a) 58 := pre
    rw [pre]
    refine ⟨by omega, by omega, ⟨by omega, by omega⟩, ⟨⟨by omega, by omega⟩, by omega, by omega⟩, by omega, fun h => ?_, fun h => ⟨⟨by omega, by omega⟩, ⟨⟨by omega, by omega⟩, by omega⟩, by omega, fun hc => ⟨⟨by omega, by omega⟩, ?_⟩, fun hc => ?_⟩⟩
    · unfold plcL; rw [if_pos h]; exact ⟨rfl, rfl, rfl, rfl⟩
    · have hc1 := isAt_lt hc
      have hP : plcL s a = if portN (cutS s (a + hoN s a + 1) (poN s (a + hoN s a + 1))) = 0 then ⟨false, a + hoN s a + 1, cutS s a (hoN s a), cutS s (a + hoN s a + 1) (poN s (a + hoN s a + 1))⟩
         else ⟨endB s (a + hoN s a + 1 + poN s (a + hoN s a + 1)), a + hoN s a + 1 + poN s (a + hoN s a + 1), cutS s a (hoN s a), cutS s (a + hoN s a + 1) (poN s (a + hoN s a + 1))⟩ := by
        unfold plcL; rw [if_neg (by rw [h]; simp), if_pos hc]
      rw [hP]
      have hb2 := poN_le (s := s) (a := a + hoN s a + 1) (by omega)
      generalize hB : a + hoN s a + 1 = B at hb2 hP ⊢
      have eB : (a : Int) + (hoN s a : Int) + 1 = (B : Int) := by omega
      rw [eB]
      generalize cutS s a (hoN s a) = H
      refine LoopW.adj ⟨hct, fol⟩ (by kernel_rfl) [] (fun n : Nat => [(0, .ptr (i + 9000) 0), (4, .int .i64 ((B + n : Nat) : Int))]) (fun n => [(i + 9000, .cells [.str s, .int .i64 B, .str sc, .str H, .str [], .str pa, .str qu, .bool hq1, .str fr, .bool hf])]) (fun n => B + n ≤ s.length ∧ ∀ j, j < n → digB ((s.drop B).getD j 0) = true) (fun n => s.length - n) 0 ?_ fun n hn => ?_
      · push_cast (config := { maxSteps := 10000000 })
        exact ⟨by omega, by omega⟩
      · push_cast (config := { maxSteps := 10000000 })
        obtain ⟨n1, n2⟩ := hn
        have e5 : ((B : Int) + (n : Int)).toNat = B + n := by omega
        have e6 : ((B : Int) + (n : Int)).toNat - B = n := by omega
        have e7 : (s.drop B).getD n 0 = s.getD (B + n) 0 := by rw [List.getD_eq_getElem?_getD, List.getD_eq_getElem?_getD, List.getElem?_drop]
        rw [e5]
        rw [e5] at e6
        rw [e6]
        refine ⟨fun h => ⟨h, by omega, h⟩, fun h => ⟨⟨by omega, by omega⟩, n + 1, ⟨by omega, fun j hj => ?_⟩, by omega, by omega⟩, fun h => ?_⟩
        · by_cases e : j = n
          · subst e; rw [e7]; exact h.2
          · exact n2 j (by omega)
        have eN : poN s B = n := by
          unfold poN
          refine runN_at (by rw [List.length_drop]; omega) n2 fun hlt => ?_
          rw [List.length_drop] at hlt
          rw [e7]; exact h (by omega)
        rw [eN]
        have eC : (s.drop B).take n = cutS s B n := rfl
        rw [eC]
        refine ⟨⟨⟨by omega, by omega⟩, by omega, by omega⟩, by omega, fun h0 => ?_, fun h0 => ?_⟩
        · rw [if_pos h0]; exact ⟨rfl, rfl, rfl, rfl⟩
        · rw [if_neg h0]
          refine ⟨fun x => ⟨x, by omega, by omega⟩, ?_, by show _ = ((B + n : Nat) : Int); omega, rfl, rfl⟩
          show _ = endB s (B + n)
          unfold endB
          congr 1
          rw [Bool.eq_iff_iff, beq_iff_eq, decide_eq_true_eq]; omega
    · unfold plcL
      rw [if_neg (by rw [h]; simp), if_neg (by rw [hc]; simp)]
      refine ⟨fun x => ⟨x, by omega, by omega⟩, ?_, by show _ = ((a + hoN s a : Nat) : Int); omega, rfl, rfl⟩
      unfold endB
      congr 1
      rw [Bool.eq_iff_iff, beq_iff_eq, decide_eq_true_eq]; omega
  · cases h
attribute [push_cast] ckPlaceK
def ckRowK : List V → List Blk → Option (Prop × V × List Blk)
  | [.ptr _ 0, .str w], [.cells [.str s, .int .i64 a, .str sc, .str ho, .str po, .str pa, .str qu, .bool hq, .str fr, .bool hf]] => some (s.length ≤ 2000 ∧ 0 ≤ a ∧ a ≤ s.length, .tup [.str (cutS s a.toNat (rdRow s a.toNat w).1), .bool (rdRow s a.toNat w).2], [.cells [.str s, .int .i64 (a + (rdRow s a.toNat w).1), .str sc, .str ho, .str po, .str pa, .str qu, .bool hq, .str fr, .bool hf]])
  | _, _ => none
def ckRow : Cf := ⟨fun | [.ptr i _, _] => [i] | _ => [], ckRowK⟩
theorem conRow : FCon pg 114 ckRow := by
  have hct := (ctA_ok conRowEnd (ctN_ok _))
  intro args bs q r bs' h hq
  replace h : ckRowK args bs = some (q, r, bs') := h
  unfold ckRowK at h
  split at h
  · cases h
    rename_i i w s a sc ho po pa qu hq1 fr hf
    refine ⟨rfl, by first | exact Nat.le_refl _ | exact Nat.zero_le _, ?_⟩
    obtain ⟨h1, h2, h3⟩ := hq
    obtain ⟨a, rfl⟩ : ∃ k : Nat, a = k := ⟨a.toNat, by omega⟩
    rw [Int.toNat_natCast]
    show FCall pg 114 [.ptr (i + 9000) 0, .str w] [(i + 9000, .cells [.str s, .int .i64 a, .str sc, .str ho, .str po, .str pa, .str qu, .bool hq1, .str fr, .bool hf])] (.tup [.str (cutS s a (rdRow s a w).1), .bool (rdRow s a w).2]) [(i + 9000, .cells [.str s, .int .i64 (a + (rdRow s a w).1), .str sc, .str ho, .str po, .str pa, .str qu, .bool hq1, .str fr, .bool hf])]
    refine fw114 (fun _ => false) [] rfl hct rfl (by simp) (by simp [hlIn, idsIn, Blk.menIn, V.menInL, V.menIn, V.flat, byF, lsF]) (by simp [V.menIn, V.menInL, idsIn]) ?_
    push_cast (config := { maxSteps := 10000000 })
    have hb := rdRow_le (s := s) (a := a) (w := w) (by omega)
    have e1 : reL (s.drop a) w (s.length - a + 1) 0 = rdRow s a w := by unfold rdRow; rw [List.length_drop]
    rw [e1]
    have e2 : ((a : Int) + ((rdRow s a w).1 : Int)).toNat - a = (rdRow s a w).1 := by omega
    rw [e2]
    exact ⟨by omega, by omega, ⟨by omega, by omega⟩, ⟨⟨by omega, by omega⟩, by omega, by omega⟩, ⟨by omega, by omega⟩, ⟨rfl, rfl⟩, rfl⟩
  · cases h
attribute [push_cast] ckRowK
@[push_cast] theorem place_ids (i o : Nat) : ckPlace.ids [.ptr i o] = [i] := rfl
@[push_cast] theorem place_k (i : Nat) (s sc ho pa qu fr : List UInt8) (hq hf : Bool) (a : Int) : ckPlace.k [.ptr i 0] [.cells [.str s, .int .i64 a, .str sc, .str ho, .str [], .str pa, .str qu, .bool hq, .str fr, .bool hf]] = some (s.length ≤ 2000 ∧ 0 ≤ a ∧ a ≤ s.length, .bool (plcL s a.toNat).ok, [.cells [.str s, .int .i64 (plcL s a.toNat).at', .str sc, .str (plcL s a.toNat).ho, .str (plcL s a.toNat).po, .str pa, .str qu, .bool hq, .str fr, .bool hf]]) := rfl
@[push_cast] theorem row_ids (i o : Nat) (x : V) : ckRow.ids [.ptr i o, x] = [i] := rfl
@[push_cast] theorem row_k (i : Nat) (w s sc ho po pa qu fr : List UInt8) (hq hf : Bool) (a : Int) : ckRow.k [.ptr i 0, .str w] [.cells [.str s, .int .i64 a, .str sc, .str ho, .str po, .str pa, .str qu, .bool hq, .str fr, .bool hf]] = some (s.length ≤ 2000 ∧ 0 ≤ a ∧ a ≤ s.length, .tup [.str (cutS s a.toNat (rdRow s a.toNat w).1), .bool (rdRow s a.toNat w).2], [.cells [.str s, .int .i64 (a + (rdRow s a.toNat w).1), .str sc, .str ho, .str po, .str pa, .str qu, .bool hq, .str fr, .bool hf]]) := rfl
theorem rest3 {s P Q : List UInt8} {d : Nat} {b : Bool} (h1 : s.length ≤ 2000) (hd : d ≤ s.length) {R : Rst} (hR : R = rst3 s d P Q b) : ((0 ≤ (d : Int) ∧ (d : Int) ≤ s.length) ∧ (d : Int) ≤ s.length) ∧
    ((s.length - d : Nat) : Int) ≤ 4611686018427387904 ∧
      (hasPre (s.drop d) [35] = true → (-9223372036854775808 ≤ ((d + 1 : Nat) : Int) ∧ ((d + 1 : Nat) : Int) ≤ 9223372036854775807) ∧
          (s.length ≤ 2000 ∧ 0 ≤ ((d + 1 : Nat) : Int) ∧ ((d + 1 : Nat) : Int) ≤ s.length) ∧
            ((rdRow s (d + 1) []).2 = false → false = R.ok ∧ ((d + 1 : Nat) : Int) + (rdRow s (d + 1) []).1 = R.at' ∧ P = R.pa ∧ Q = R.qu ∧ b = R.hq ∧ cutS s (d + 1) (rdRow s (d + 1) []).1 = R.fr ∧ true = R.hf) ∧
            ((rdRow s (d + 1) []).2 = true → true = R.ok ∧ ((d + 1 : Nat) : Int) + (rdRow s (d + 1) []).1 = R.at' ∧ P = R.pa ∧ Q = R.qu ∧ b = R.hq ∧ cutS s (d + 1) (rdRow s (d + 1) []).1 = R.fr ∧ true = R.hf)) ∧
      (hasPre (s.drop d) [35] = false → true = R.ok ∧ (d : Int) = R.at' ∧ P = R.pa ∧ Q = R.qu ∧ b = R.hq ∧ [] = R.fr ∧ false = R.hf) := by
  subst hR
  have hp : hasPre (s.drop d) [35] = isAt s d 35 := pre1 s d 35
  rw [hp]
  refine ⟨⟨⟨by omega, by omega⟩, by omega⟩, by omega, fun h => ?_, fun h => ?_⟩
  · have hl := isAt_lt h
    have hr := rdRow_le (s := s) (a := d + 1) (w := []) (by omega)
    unfold rst3
    rw [if_pos h]
    exact ⟨⟨by omega, by omega⟩, ⟨h1, by omega, by omega⟩, fun h2 => ⟨h2.symm, by show _ = ((d + 1 + (rdRow s (d + 1) []).1 : Nat) : Int); omega, rfl, rfl, rfl, rfl, rfl⟩, fun h2 => ⟨h2.symm, by show _ = ((d + 1 + (rdRow s (d + 1) []).1 : Nat) : Int); omega, rfl, rfl, rfl, rfl, rfl⟩⟩
  · unfold rst3
    rw [if_neg (by rw [h]; simp)]
    exact ⟨rfl, rfl, rfl, rfl, rfl, rfl, rfl⟩
def ckRestK : List V → List Blk → Option (Prop × V × List Blk)
  | [.ptr _ 0], [.cells [.str s, .int .i64 a, .str sc, .str ho, .str po, .str _, .str [], .bool false, .str [], .bool false]] => some (s.length ≤ 2000 ∧ 0 ≤ a ∧ a ≤ s.length, .bool (rstL s a.toNat).ok, [.cells [.str s, .int .i64 (rstL s a.toNat).at', .str sc, .str ho, .str po, .str (rstL s a.toNat).pa, .str (rstL s a.toNat).qu, .bool (rstL s a.toNat).hq, .str (rstL s a.toNat).fr, .bool (rstL s a.toNat).hf]])
  | _, _ => none
def ckRest : Cf := ⟨fun | [.ptr i _] => [i] | _ => [], ckRestK⟩
theorem conRest : FCon pg 86 ckRest := by
  have hct := (ctF_ok conRow (ctA_ok conHasPre (ctN_ok _)))
  intro args bs q r bs' h hq
  replace h : ckRestK args bs = some (q, r, bs') := h
  unfold ckRestK at h
  split at h
  · cases h
    rename_i i s a sc ho po pa
    refine ⟨rfl, by first | exact Nat.le_refl _ | exact Nat.zero_le _, ?_⟩
    obtain ⟨h1, h2, h3⟩ := hq
    obtain ⟨a, rfl⟩ : ∃ k : Nat, a = k := ⟨a.toNat, by omega⟩
    rw [Int.toNat_natCast]
    show FCall pg 86 [.ptr (i + 9000) 0] [(i + 9000, .cells [.str s, .int .i64 a, .str sc, .str ho, .str po, .str pa, .str [], .bool false, .str [], .bool false])] (.bool (rstL s a).ok) [(i + 9000, .cells [.str s, .int .i64 (rstL s a).at', .str sc, .str ho, .str po, .str (rstL s a).pa, .str (rstL s a).qu, .bool (rstL s a).hq, .str (rstL s a).fr, .bool (rstL s a).hf])]
    refine fw86 (fun _ => false) [] rfl hct rfl (by simp) (by simp [hlIn, idsIn, Blk.menIn, V.menInL, V.menIn, V.flat, byF, lsF]) (by simp [V.menIn, V.menInL, idsIn]) ?_
    push_cast (config := { maxSteps := 10000000 })
    have hr1 := rdRow_le (s := s) (a := a) (w := [63, 35]) (by omega)
    have hL : rstL s a = if (rdRow s a [63, 35]).2 = false then ⟨false, a + (rdRow s a [63, 35]).1, cutS s a (rdRow s a [63, 35]).1, [], false, [], false⟩ else rst2 s (a + (rdRow s a [63, 35]).1) (cutS s a (rdRow s a [63, 35]).1) := rfl
    generalize rdRow s a [63, 35] = r1 at hr1 hL ⊢
    obtain ⟨n1, o1⟩ := r1
    simp only at hr1 hL ⊢
    obtain ⟨c, hc⟩ : ∃ c : Nat, c = a + n1 := ⟨_, rfl⟩
    have ec : (a : Int) + (n1 : Int) = (c : Int) := by omega
    have ec1 : (c : Int) + 1 = ((c + 1 : Nat) : Int) := by omega
    rw [← hc] at hL hr1
    generalize cutS s a n1 = P at hL ⊢
    simp only [ec, ec1, Int.toNat_natCast]
    refine ⟨⟨h1, by omega⟩, fun h => ?_, fun h => ⟨⟨⟨by omega, by omega⟩, by omega⟩, by omega, fun hq => ?_, fun hq => ?_⟩⟩
    · rw [hL, if_pos h]; exact ⟨rfl, rfl, rfl, rfl, rfl, rfl, rfl⟩
    all_goals rw [if_neg (by rw [h]; simp)] at hL
    all_goals rw [show hasPre (s.drop c) [63] = isAt s c 63 from pre1 s c 63] at hq
    · have hlt := isAt_lt hq
      have hL : rstL s a = if (rdRow s (c + 1) [35]).2 = false then ⟨false, c + 1 + (rdRow s (c + 1) [35]).1, P, cutS s (c + 1) (rdRow s (c + 1) [35]).1, true, [], false⟩ else rst3 s (c + 1 + (rdRow s (c + 1) [35]).1) P (cutS s (c + 1) (rdRow s (c + 1) [35]).1) true := by rw [hL]; unfold rst2; rw [if_pos hq]
      have hr2 := rdRow_le (s := s) (a := c + 1) (w := [35]) (by omega)
      generalize rdRow s (c + 1) [35] = r2 at hr2 hL ⊢
      obtain ⟨n2, o2⟩ := r2
      simp only at hr2 hL ⊢
      obtain ⟨d, hd⟩ : ∃ d : Nat, d = c + 1 + n2 := ⟨_, rfl⟩
      have ed : ((c + 1 : Nat) : Int) + (n2 : Int) = (d : Int) := by omega
      have ed1 : (d : Int) + 1 = ((d + 1 : Nat) : Int) := by omega
      rw [← hd] at hL hr2
      generalize cutS s (c + 1) n2 = Q at hL ⊢
      simp only [ed, ed1, Int.toNat_natCast]
      refine ⟨⟨by omega, by omega⟩, ⟨h1, by omega, by omega⟩, fun ho => ?_, fun ho => ?_⟩
      · rw [hL, if_pos ho]; exact ⟨rfl, rfl, rfl, rfl, rfl, rfl, rfl⟩
      · exact rest3 h1 hr2 (by rw [hL, if_neg (by rw [ho]; simp)])
    · have hL : rstL s a = rst3 s c P [] false := by rw [hL]; unfold rst2; rw [if_neg (by rw [hq]; simp)]
      exact rest3 h1 hr1 hL
  · cases h
attribute [push_cast] ckRestK
@[push_cast] theorem rest_ids (i o : Nat) : ckRest.ids [.ptr i o] = [i] := rfl
@[push_cast] theorem rest_k (i : Nat) (s sc ho po pa : List UInt8) (a : Int) : ckRest.k [.ptr i 0] [.cells [.str s, .int .i64 a, .str sc, .str ho, .str po, .str pa, .str [], .bool false, .str [], .bool false]] = some (s.length ≤ 2000 ∧ 0 ≤ a ∧ a ≤ s.length, .bool (rstL s a.toNat).ok, [.cells [.str s, .int .i64 (rstL s a.toNat).at', .str sc, .str ho, .str po, .str (rstL s a.toNat).pa, .str (rstL s a.toNat).qu, .bool (rstL s a.toNat).hq, .str (rstL s a.toNat).fr, .bool (rstL s a.toNat).hf]]) := rfl
def ckReadA : Ck
  | [.str s] => some (True, .tup [cAdr.enc (readA s).1, .int .i64 (readA s).2.1, .int .i64 (readA s).2.2])
  | _ => none
theorem conReadA : Con pg 60 ckReadA := by
  have hct := (ctA_ok conScheme (ctF_ok conPlace (ctF_ok conRest (ctN_ok _))))
  intro args q r h hq
  unfold ckReadA at h
  split at h
  · cases h
    rename_i s
    refine w60 (fun _ => false) [] rfl hct rfl rfl ?_
    push_cast (config := { maxSteps := 10000000 })
    have hb := sch_b s
    have hp := plc_b (s := s) (a := (schL s).2) hb
    refine ⟨fun h => ?_, fun h => ⟨by omega, fun h1 => ?_, fun h1 => ⟨⟨by omega, hb⟩, fun h2 => ⟨h2, ⟨by omega, hp⟩, fun h3 => ?_, fun h3 => ?_⟩, fun h2 => ⟨fun x => (by rw [h2] at x; cases x), ?_⟩⟩⟩⟩
    · have e : readA s = (noAdr, 0, 2) := by unfold readA; rw [if_pos (by omega)]
      rw [e]; exact ⟨⟨rfl, rfl, rfl, rfl, rfl, rfl, rfl, rfl⟩, rfl, rfl⟩
    · have e : readA s = (noAdr, ((schL s).2 : Int), 10) := by unfold readA; rw [if_neg (by omega), if_pos h1]
      rw [e]; exact ⟨⟨rfl, rfl, rfl, rfl, rfl, rfl, rfl, rfl⟩, rfl, rfl⟩
    · have h3 : (rstL s (plcL s (schL s).2).at').ok = false := h3.resolve_left (by rw [h2]; simp)
      have e : readA s = (noAdr, ((rstL s (plcL s (schL s).2).at').at' : Int), 10) := by unfold readA; rw [if_neg (by omega), if_neg (by rw [h1]; simp), if_neg (by rw [h2]; simp), if_pos h3]
      rw [e]; exact ⟨⟨rfl, rfl, rfl, rfl, rfl, rfl, rfl, rfl⟩, rfl, rfl⟩
    · have e : readA s = (⟨s.take ((schL s).2 - 3), (plcL s (schL s).2).ho, (plcL s (schL s).2).po, (rstL s (plcL s (schL s).2).at').pa, (rstL s (plcL s (schL s).2).at').qu, (rstL s (plcL s (schL s).2).at').hq, (rstL s (plcL s (schL s).2).at').fr, (rstL s (plcL s (schL s).2).at').hf⟩, 0, 0) := by unfold readA; rw [if_neg (by omega), if_neg (by rw [h1]; simp), if_neg (by rw [h2]; simp), if_neg (by rw [h3.2]; simp)]
      rw [e, if_pos h1]; exact ⟨⟨rfl, rfl, rfl, rfl, rfl, rfl, rfl, rfl⟩, rfl, rfl⟩
    · have e : readA s = (noAdr, ((plcL s (schL s).2).at' : Int), 10) := by unfold readA; rw [if_neg (by omega), if_neg (by rw [h1]; simp), if_pos h2]
      rw [e]; exact ⟨⟨rfl, rfl, rfl, rfl, rfl, rfl, rfl, rfl⟩, rfl, rfl⟩
  · cases h
attribute [push_cast] ckReadA

def ckAtoi : Ck
  | [.str s] => some (1 ≤ s.length ∧ s.length ≤ 18 ∧ s.all isDg = true, .tup [.int .i64 (natOf s), .any])
  | _ => none
theorem conAtoi : Con pg 106 ckAtoi := by
  intro args q r h hq
  unfold ckAtoi at h
  split at h
  · cases h
    rename_i s
    refine pcall_shelf (by kernel_rfl) rfl fun w hw => (Tryz.strconv_Atoi ⟨s.toArray⟩ (natOf s) (by show s.toArray.size ≤ _; have := hq.2.1; simp; omega) ?_ w).mono fun e w' h => ?_
    · exact atoi_dig (show s ≠ [] from fun e => by have := hq.1; rw [e] at this; simp at this) hq.2.2
    · obtain ⟨he, t, rfl⟩ := h
      exact ⟨_, he, grow_below (Lib.bytesWorld_below _ _ _), fun γ imm => .tup _ [_, _] rfl fun i hi => by
        match i, hi with
        | 0, _ => exact .pure (.int _ _)
        | 1, _ => exact .any _⟩
  · cases h
attribute [push_cast] ckAtoi

end Go.Abs
