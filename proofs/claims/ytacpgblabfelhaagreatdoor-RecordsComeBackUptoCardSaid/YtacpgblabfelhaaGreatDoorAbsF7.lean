/- what functions of this program compute: contracts, each a function's own -/
import Derived.Test.YtacpgblabfelhaaGreatDoorAbsK2
import Derived.Test.YtacpgblabfelhaaGreatDoorAbsFacts
import Derived.Test.YtacpgblabfelhaaGreatDoorAbsF6
import Derived.Test.YtacpgblabfelhaaGreatDoorAbsShelf
import Derived.Lib.SlTrimSet
import Derived.Lib.Atoi
import Derived.Lib.Itoa
import Derived.Lib.ItoaNum
import Derived.Lib.AtoiErrMem
import Derived.Lib.ItoaLen
import Derived.Lib.SplitLaws
import Derived.Shelf.Bytes.SlIndexWhole
import Derived.Lib.Index
import Derived.Lib.IndexBytes
import Derived.Shelf.Spec.SlicesGrow
namespace Go.Abs
open Go Go.Proofs
set_option maxHeartbeats 4000000
set_option maxRecDepth 100000
set_option linter.unusedVariables false
set_option linter.unusedSimpArgs false
theorem digs_fld {s : List UInt8} {a n : Nat} (h : (fld s a n).all isDg = true) (hl : a < s.length) (hn : 1 ≤ n) : digsL (List.take n (List.drop a s)) = true := by
  unfold fld at h
  unfold digsL
  rw [h, Bool.true_and, decide_eq_true_eq, List.length_take, List.length_drop]
  omega
theorem cap_fld {s : List UInt8} {a n : Nat} (h : digsL (fld s a n) = true) (hn : n ≤ 4) : capL (stripZ (fld s a n)) 9999 = natOf (fld s a n) := by
  have hl : (fld s a n).length ≤ 4 := by unfold fld; rw [List.length_take]; omega
  have hb := natOf_le (digs_all h).2 hl
  exact cap_small (by omega) (by omega)
def clD (s : List UInt8) : Nat → List V
  | 0 => [.int .i64 0, .int .i64 0, .int .i64 0, .int .i64 0, .int .i64 0]
  | 1 => [.int .i64 (natOf (fld s 5 2)), .int .i64 0, .int .i64 0, .int .i64 0, .int .i64 0]
  | 2 => [.int .i64 (natOf (fld s 5 2)), .int .i64 (natOf (fld s 12 4)), .int .i64 0, .int .i64 0, .int .i64 0]
  | 3 => [.int .i64 (natOf (fld s 5 2)), .int .i64 (natOf (fld s 12 4)), .int .i64 (natOf (fld s 17 2)), .int .i64 0, .int .i64 0]
  | 4 => [.int .i64 (natOf (fld s 5 2)), .int .i64 (natOf (fld s 12 4)), .int .i64 (natOf (fld s 17 2)), .int .i64 (natOf (fld s 20 2)), .int .i64 0]
  | _ => [.int .i64 (natOf (fld s 5 2)), .int .i64 (natOf (fld s 12 4)), .int .i64 (natOf (fld s 17 2)), .int .i64 (natOf (fld s 20 2)), .int .i64 (natOf (fld s 23 2))]
@[push_cast] theorem clD0 (s : List UInt8) : clD s 0 = [.int .i64 0, .int .i64 0, .int .i64 0, .int .i64 0, .int .i64 0] := rfl
@[push_cast] theorem clD1 (s : List UInt8) : clD s 1 = [.int .i64 (natOf (fld s 5 2)), .int .i64 0, .int .i64 0, .int .i64 0, .int .i64 0] := rfl
@[push_cast] theorem clD2 (s : List UInt8) : clD s 2 = [.int .i64 (natOf (fld s 5 2)), .int .i64 (natOf (fld s 12 4)), .int .i64 0, .int .i64 0, .int .i64 0] := rfl
@[push_cast] theorem clD3 (s : List UInt8) : clD s 3 = [.int .i64 (natOf (fld s 5 2)), .int .i64 (natOf (fld s 12 4)), .int .i64 (natOf (fld s 17 2)), .int .i64 0, .int .i64 0] := rfl
@[push_cast] theorem clD4 (s : List UInt8) : clD s 4 = [.int .i64 (natOf (fld s 5 2)), .int .i64 (natOf (fld s 12 4)), .int .i64 (natOf (fld s 17 2)), .int .i64 (natOf (fld s 20 2)), .int .i64 0] := rfl
@[push_cast] theorem clD5 (s : List UInt8) : clD s 5 = [.int .i64 (natOf (fld s 5 2)), .int .i64 (natOf (fld s 12 4)), .int .i64 (natOf (fld s 17 2)), .int .i64 (natOf (fld s 20 2)), .int .i64 (natOf (fld s 23 2))] := rfl
theorem mIdx_at {w : List UInt8} {t : Nat} (h : t < 12) (e : mnN.getD t [] = w) (hn : ∀ j, j < t → mnN.getD j [] ≠ w) : mIdx w = t :=
  idxL_at (l := mnN) h e.symm fun j hj e2 => hn j hj e2.symm
theorem mIdx_no {w : List UInt8} (hn : ∀ j, j < 12 → mnN.getD j [] ≠ w) : mIdx w = -1 :=
  idxL_no (l := mnN) fun j hj e2 => hn j hj e2.symm
theorem conReadDate2 : Con pg 155 ckReadDate := by
  have hct := (ctA_ok conIsDigits (ctA_ok conCap (ctA_ok conMonthName (ctA_ok conMonthDays (ctA_ok conWithin2b (ctA_ok conYearDays (ctA_ok conDateOf2 (ctN_ok _))))))))
  intro args q r h hq
  unfold ckReadDate at h
  split at h
  · cases h
    rename_i s
    refine w155 (fun _ => false) [] rfl hct rfl rfl ?_
    push_cast (config := { maxSteps := 10000000 })
    have hno : ¬ rdB s = true → 0 = rdV s ∧ (10 : Int) = if rdB s = true then 0 else 10 := fun h => by
      have : rdB s = false := by simpa using h
      unfold rdV; rw [this]; exact ⟨rfl, rfl⟩
    have rd29 : rdB s = true → s.length = 29 := fun h => (rdB_fields h).1
    refine ⟨fun h => hno fun hr => h (by have := rd29 hr; omega), fun h29 => ?_⟩
    refine LoopW.adj ⟨hct, fol⟩ (by kernel_rfl) [] (fun i : Nat => [(0, .str s), (4, .ptr 4 0), (16, .sl 5 (lsF cInt [5, 12, 17, 20, 23])), (17, .int .i64 5), (18, .int .i64 i)]) (fun i => [(4, .cells (clD s i))]) (fun i => i ≤ 5 ∧ ∀ j, j < i → ((fL s).getD j []).all isDg = true) (fun i => 5 - i) 0 ?_ fun i hi => ?_
    · push_cast (config := { maxSteps := 10000000 })
      intro i hi
      rcases (by omega : i = 0 ∨ i = 1 ∨ i = 2 ∨ i = 3 ∨ i = 4) with rfl | rfl | rfl | rfl | rfl <;> rfl
    · obtain ⟨h1, h2⟩ := hi
      rcases (by omega : i = 0 ∨ i = 1 ∨ i = 2 ∨ i = 3 ∨ i = 4 ∨ i = 5) with rfl | rfl | rfl | rfl | rfl | rfl
      · push_cast (config := { maxSteps := 10000000 })
        refine ⟨⟨by omega, by omega⟩, by omega, fun h => hno fun hr => ?_, fun h => ⟨⟨by omega, by omega⟩, ⟨h, by omega⟩, 1, ⟨by omega, fun j hj => ?_⟩, by omega, rfl, ?_⟩⟩
        · have hf := rdB_fields hr
          rw [digs_fld (s := s) (a := 5) (n := 2) hf.2.1 (by omega) (by omega)] at h; cases h
        · by_cases e : j = 0
          · subst e; exact (digs_all h).2
          · exact h2 j (by omega)
        · rw [show capL (stripZ (List.take 2 (List.drop 5 s))) 9999 = _ from cap_fld (s := s) (a := 5) (n := 2) h (by omega)]
          push_cast (config := { maxSteps := 10000000 })
      · push_cast (config := { maxSteps := 10000000 })
        refine ⟨⟨by omega, by omega⟩, by omega, fun h => hno fun hr => ?_, fun h => ⟨⟨by omega, by omega⟩, ⟨h, by omega⟩, 2, ⟨by omega, fun j hj => ?_⟩, by omega, rfl, ?_⟩⟩
        · have hf := rdB_fields hr
          rw [digs_fld (s := s) (a := 12) (n := 4) hf.2.2.1 (by omega) (by omega)] at h; cases h
        · by_cases e : j = 1
          · subst e; exact (digs_all h).2
          · exact h2 j (by omega)
        · rw [show capL (stripZ (List.take 4 (List.drop 12 s))) 9999 = _ from cap_fld (s := s) (a := 12) (n := 4) h (by omega)]
          push_cast (config := { maxSteps := 10000000 })
      · push_cast (config := { maxSteps := 10000000 })
        refine ⟨⟨by omega, by omega⟩, by omega, fun h => hno fun hr => ?_, fun h => ⟨⟨by omega, by omega⟩, ⟨h, by omega⟩, 3, ⟨by omega, fun j hj => ?_⟩, by omega, rfl, ?_⟩⟩
        · have hf := rdB_fields hr
          rw [digs_fld (s := s) (a := 17) (n := 2) hf.2.2.2.1 (by omega) (by omega)] at h; cases h
        · by_cases e : j = 2
          · subst e; exact (digs_all h).2
          · exact h2 j (by omega)
        · rw [show capL (stripZ (List.take 2 (List.drop 17 s))) 9999 = _ from cap_fld (s := s) (a := 17) (n := 2) h (by omega)]
          push_cast (config := { maxSteps := 10000000 })
      · push_cast (config := { maxSteps := 10000000 })
        refine ⟨⟨by omega, by omega⟩, by omega, fun h => hno fun hr => ?_, fun h => ⟨⟨by omega, by omega⟩, ⟨h, by omega⟩, 4, ⟨by omega, fun j hj => ?_⟩, by omega, rfl, ?_⟩⟩
        · have hf := rdB_fields hr
          rw [digs_fld (s := s) (a := 20) (n := 2) hf.2.2.2.2.1 (by omega) (by omega)] at h; cases h
        · by_cases e : j = 3
          · subst e; exact (digs_all h).2
          · exact h2 j (by omega)
        · rw [show capL (stripZ (List.take 2 (List.drop 20 s))) 9999 = _ from cap_fld (s := s) (a := 20) (n := 2) h (by omega)]
          push_cast (config := { maxSteps := 10000000 })
      · push_cast (config := { maxSteps := 10000000 })
        refine ⟨⟨by omega, by omega⟩, by omega, fun h => hno fun hr => ?_, fun h => ⟨⟨by omega, by omega⟩, ⟨h, by omega⟩, 5, ⟨by omega, fun j hj => ?_⟩, by omega, rfl, ?_⟩⟩
        · have hf := rdB_fields hr
          rw [digs_fld (s := s) (a := 23) (n := 2) hf.2.2.2.2.2.1 (by omega) (by omega)] at h; cases h
        · by_cases e : j = 4
          · subst e; exact (digs_all h).2
          · exact h2 j (by omega)
        · rw [show capL (stripZ (List.take 2 (List.drop 23 s))) 9999 = _ from cap_fld (s := s) (a := 23) (n := 2) h (by omega)]
          push_cast (config := { maxSteps := 10000000 })
      · push_cast (config := { maxSteps := 10000000 })
        have g0 : (fld s 5 2).all isDg = true := h2 0 (by omega)
        have g1 : (fld s 12 4).all isDg = true := h2 1 (by omega)
        have g2 : (fld s 17 2).all isDg = true := h2 2 (by omega)
        have g3 : (fld s 20 2).all isDg = true := h2 3 (by omega)
        have g4 : (fld s 23 2).all isDg = true := h2 4 (by omega)
        have b0 := natOf_le g0 (k := 2) (by simp [fld]; omega)
        have b1 := natOf_le g1 (k := 4) (by simp [fld]; omega)
        have b2 := natOf_le g2 (k := 2) (by simp [fld]; omega)
        have b3 := natOf_le g3 (k := 2) (by simp [fld]; omega)
        have b4 := natOf_le g4 (k := 2) (by simp [fld]; omega)
        have hM : (daysI (natOf (fld s 12 4)) (mIdx (fld s 8 3) + 1) + natOf (fld s 5 2) - 1) * 86400 + (natOf (fld s 17 2) : Int) * 3600 + (natOf (fld s 20 2) : Int) * 60 + natOf (fld s 23 2) = momF s := rfl
        have hf := fun hr => rdB_fields (s := s) hr
        generalize natOf (fld s 5 2) = n0 at *
        generalize natOf (fld s 12 4) = n1 at *
        generalize natOf (fld s 17 2) = n2 at *
        generalize natOf (fld s 20 2) = n3 at *
        generalize natOf (fld s 23 2) = n4 at *
        refine LoopW.adj ⟨hct, fol⟩ (by kernel_rfl) [] (fun t : Nat => [(0, .str s), (4, .ptr 4 0), (8, .int .i64 (1 + t))]) (fun t => [(4, .cells [.int .i64 n0, .int .i64 n1, .int .i64 n2, .int .i64 n3, .int .i64 n4])]) (fun t => t ≤ 12 ∧ ∀ j, j < t → mnN.getD j [] ≠ fld s 8 3) (fun t => 12 - t) 0 ?_ fun t ht => ?_
        · push_cast (config := { maxSteps := 10000000 })
        · push_cast (config := { maxSteps := 10000000 })
          obtain ⟨t1, t2⟩ := ht
          have e1 : (1 + (t : Int) - 1).toNat = t := by omega
          rw [e1]
          refine ⟨fun h => ⟨h, by omega, h⟩, fun h => ⟨h, by omega, by omega⟩, fun h => ⟨⟨by omega, by omega⟩, t + 1, ⟨by omega, fun j hj => ?_⟩, by omega, by omega⟩, fun hx => ?_⟩
          · by_cases e : j = t
            · subst e; exact h.2
            · exact t2 j (by omega)
          have hmi : t < 12 → mIdx (fld s 8 3) = t := fun h => mIdx_at h (hx (by omega)) t2
          have hmn : ¬ t < 12 → mIdx (fld s 8 3) = -1 := fun h => mIdx_no fun j hj => t2 j (by omega)
          refine ⟨fun h => ⟨h, by omega, by omega, by omega⟩, fun h => hno fun hr => ?_, fun h => ⟨⟨by omega, by omega⟩, ?_⟩⟩
          · have hq := hf hr
            by_cases ht : t < 12
            · rw [hmi ht, show (t : Int) + 1 = 1 + t by omega] at hq
              omega
            · rw [hmn ht] at hq; omega
          have ht12 : t < 12 := by omega
          rw [hmi ht12, show (t : Int) + 1 = 1 + t by omega] at hM
          have ml := monthLongI_b (n1 : Int) (1 + t)
          have hdb := daysI_bb (y := n1) (m := 1 + t) (by omega) (by omega) (by omega)
          refine LoopW.adj ⟨hct, fol⟩ (by kernel_rfl) [] (fun k : Nat => [(0, .str s), (4, .ptr 4 0), (8, .int .i64 (1 + t)), (9, .int .i64 (n0 - 1 + daysI (1970 + k) 1)), (10, .int .i64 (1970 + k))]) (fun k => [(4, .cells [.int .i64 n0, .int .i64 n1, .int .i64 n2, .int .i64 n3, .int .i64 n4])]) (fun k => 1970 + (k : Int) ≤ n1) (fun k => n1 - k) 0 ?_ fun k hk => ?_
          · push_cast (config := { maxSteps := 10000000 })
            have e : daysI 1970 1 = 0 := by rw [daysI_1]; omega
            simp [e]; omega
          · push_cast (config := { maxSteps := 10000000 })
            have hk2 := daysI_bb (y := 1970 + k) (m := 1) (by omega) (by omega) (by omega)
            have hnx := daysI_next (1970 + k)
            have hyl : yearLong (1970 + k) = 365 ∨ yearLong (1970 + k) = 366 := by unfold yearLong; split <;> simp
            refine ⟨fun h => ⟨⟨by omega, by omega⟩, ⟨by omega, by omega⟩, ⟨by omega, by omega⟩, k + 1, by omega, by omega, ?_, by omega⟩, fun h => ?_⟩
            · rw [show 1970 + ((k + 1 : Nat) : Int) = 1970 + (k : Int) + 1 by omega]; omega
            have ek : 1970 + (k : Int) = n1 := by omega
            rw [ek]
            refine LoopW.adj ⟨hct, fol⟩ (by kernel_rfl) [] (fun k : Nat => [(0, .str s), (4, .ptr 4 0), (8, .int .i64 (1 + t)), (9, .int .i64 (n0 - 1 + daysI n1 (1 + k))), (11, .int .i64 (1 + k))]) (fun k => [(4, .cells [.int .i64 n0, .int .i64 n1, .int .i64 n2, .int .i64 n3, .int .i64 n4])]) (fun k => k ≤ t) (fun k => t - k) 0 ?_ fun k hk3 => ?_
            · push_cast (config := { maxSteps := 10000000 })
              simp
            · push_cast (config := { maxSteps := 10000000 })
              have hk4 := daysI_bb (y := n1) (m := 1 + k) (by omega) (by omega) (by omega)
              have hnm := daysI_month (y := n1) (m := 1 + k) (by omega)
              have mlk := monthLongI_b (n1 : Int) (1 + k)
              refine ⟨fun h => ⟨⟨by omega, by omega, by omega⟩, ⟨by omega, by omega⟩, ⟨by omega, by omega⟩, k + 1, by omega, by omega, ?_, by omega⟩, fun h => ?_⟩
              · rw [show 1 + ((k + 1 : Nat) : Int) = 1 + (k : Int) + 1 by omega]; omega
              obtain rfl : k = t := by omega
              have hM2 : (n0 - 1 + daysI n1 (1 + k)) * 86400 + (n2 : Int) * 3600 + (n3 : Int) * 60 + n4 = momF s := by rw [← hM]; omega
              have hup : daysI n1 (1 + k + 1) ≤ 2932897 := by
                have a1 := daysI_mmono (y := n1) (m := 1 + k + 1) (k := 13) (by omega) (by omega)
                rw [daysI_13] at a1
                have a2 : daysI ((n1 : Int) + 1) 1 ≤ 2932897 := by rw [daysI_1]; omega
                omega
              refine ⟨⟨by omega, by omega⟩, ⟨by omega, by omega⟩, ⟨by omega, by omega⟩, ⟨by omega, by omega⟩, ⟨by omega, by omega⟩, ⟨by omega, by omega⟩, ⟨by omega, by omega⟩, ?_⟩
              have hr1 : 0 ≤ momF s ∧ momF s ≤ 253402300799 := by rw [← hM2]; constructor <;> omega
              rw [hM2]
              refine ⟨fun h => hno fun hr => ?_, fun h => ?_⟩
              · exact h (of_decide_eq_true hr).2.2
              · have hr : rdB s = true := decide_eq_true ⟨hr1.1, hr1.2, h⟩
                unfold rdV; rw [hr]; exact ⟨rfl, rfl⟩
  · cases h

theorem lineS_pre : ∀ (w l : List UInt8), bareL w = true → (lineS l = some w ↔ ∃ r, l = w ++ (13 :: 10 :: r))
  | [], l, _ => by
    match l with
    | [] => simp [lineS]
    | [c] =>
      rw [lineS]
      by_cases h1 : c = 13
      · simp [h1]
      · by_cases h2 : c = 10 <;> simp [h1, h2, lineS]
    | c :: d :: t =>
      rw [lineS]
      by_cases h1 : c = 13
      · subst h1
        by_cases h2 : d = 10 <;> simp [h2]
      · rw [if_neg h1]
        by_cases h2 : c = 10
        · simp [h2]
        · rw [if_neg h2]
          simp [h1]
  | x :: w, l, hb => by
    unfold bareL at hb
    rw [List.all_cons, Bool.and_eq_true, Bool.and_eq_true, decide_eq_true_eq, decide_eq_true_eq] at hb
    obtain ⟨⟨hx1, hx2⟩, hw⟩ := hb
    match l with
    | [] => simp [lineS]
    | c :: t =>
      rw [lineS]
      have ih := lineS_pre w t hw
      by_cases h1 : c = 13
      · subst h1
        rw [if_pos rfl]
        constructor
        · intro h
          split at h <;> cases h
        · rintro ⟨r, h⟩
          rw [List.cons_append, List.cons.injEq] at h
          exact absurd h.1.symm hx1
      · rw [if_neg h1]
        by_cases h2 : c = 10
        · subst h2
          rw [if_pos rfl]
          constructor
          · intro h; cases h
          · rintro ⟨r, h⟩
            rw [List.cons_append, List.cons.injEq] at h
            exact absurd h.1.symm hx2
        · rw [if_neg h2]
          constructor
          · intro h
            rw [Option.map_eq_some_iff] at h
            obtain ⟨s, h3, h4⟩ := h
            cases h4
            obtain ⟨r, rfl⟩ := ih.1 h3
            exact ⟨r, rfl⟩
          · rintro ⟨r, h⟩
            rw [List.cons_append, List.cons.injEq] at h
            rw [h.1, ih.2 ⟨r, h.2⟩]; rfl
theorem lnS_pre {B : List UInt8} {a : Nat} (w : List UInt8) (hw : bareL w = true) : (lnB B a && (lnS B a == w)) = hasPre (B.drop a) (w ++ [13, 10]) := by
  have h := lineS_pre w (B.drop a) hw
  rw [Bool.eq_iff_iff, hasPre_iff]
  unfold lnB lnS
  cases e : lineS (B.drop a) with
  | none =>
    rw [e] at h
    simp only [Option.isSome_none, Bool.false_and, Bool.false_eq_true, false_iff]
    rintro ⟨r, h2⟩
    have := h.2 ⟨r, by rw [h2]; simp⟩
    cases this
  | some s =>
    rw [e] at h
    simp only [Option.isSome_some, Option.getD_some, Bool.true_and, beq_iff_eq]
    constructor
    · rintro rfl
      obtain ⟨r, h2⟩ := h.1 rfl
      exact ⟨r, by rw [h2]; simp⟩
    · rintro ⟨r, h2⟩
      have := h.2 ⟨r, by rw [h2]; simp⟩
      cases this
      rfl
theorem pre_kept (B : List UInt8) (a : Nat) : hasPre (B.drop a) [75, 69, 80, 84, 47, 49, 13, 10] = wholeB B a wKept0 := by
  unfold wholeB
  rw [lnS_pre wKept0 (by decide)]
  rfl
/-- the state of the reference's reader, and what it has read -/
structure Tp where
  a : Nat
  z : Int
  r : Rcd
  ln : Int
  dg : List UInt8
  pd : List UInt8
def tp1 (B : List UInt8) (a : Nat) : Tp := if wholeB B a wKept0 = true then ⟨a + 8, -1, noRec, 0, [], []⟩ else ⟨a, a, noRec, 0, [], []⟩
def tp2 (B : List UInt8) (x : Tp) : Tp := { x with a := tA B x.a x.z wId, z := sZ B x.a x.z wId, r := { x.r with id := sS B x.a x.z wId } }
def tp3 (B : List UInt8) (x : Tp) : Tp :=
  if x.z < 0 ∧ hasPre (B.drop x.a) [111, 102, 58, 32] = true then { x with a := x.a + (4 + (sS B x.a x.z wOf).length + 2), z := if sS B x.a x.z wOf = [] then stZ x.a (sZ B x.a x.z wOf) else sZ B x.a x.z wOf, r := { x.r with ow := sS B x.a x.z wOf } } else x
def tp4 (B : List UInt8) (x : Tp) : Tp :=
  if kindI (sS B x.a x.z wKind) = 0 then { x with z := stZ x.a (sZ B x.a x.z wKind), r := { x.r with ki := 0 } } else { x with a := x.a + (6 + (kindW.getD (kindI (sS B x.a x.z wKind) - 1).toNat []).length + 2), z := sZ B x.a x.z wKind, r := { x.r with ki := kindI (sS B x.a x.z wKind) } }
def tq4 (B : List UInt8) (x : Tp) : Tp :=
  { x with z := if rdB (sS B x.a x.z wDate) = true then sZ B x.a x.z wDate else stZ x.a (sZ B x.a x.z wDate), r := { x.r with ti := rdV (sS B x.a x.z wDate) }, pd := sS B x.a x.z wDate }
def tp5 (B : List UInt8) (x : Tp) : Tp := { x with a := x.a + (6 + x.pd.length + 2) }
def tp6 (B : List UInt8) (x : Tp) : Tp := { x with a := tA B x.a x.z wKey, z := sZ B x.a x.z wKey, r := { x.r with ke := sS B x.a x.z wKey } }
def tp7 (B : List UInt8) (x : Tp) : Tp := { x with a := (rH B x.a x.z).2.1, z := (rH B x.a x.z).2.2, r := { x.r with hd := (rH B x.a x.z).1 } }
def tp8 (B : List UInt8) (x : Tp) : Tp := { x with z := if digL (sS B x.a x.z wLng) 9 = true then sZ B x.a x.z wLng else stZ x.a (sZ B x.a x.z wLng), ln := if digL (sS B x.a x.z wLng) 9 = true then (natOf (sS B x.a x.z wLng) : Int) else 0, pd := sS B x.a x.z wLng }
def tq5 (B : List UInt8) (x : Tp) : Tp := tp8 B (tp7 B (tp6 B (tp5 B x)))
def tp9 (B : List UInt8) (x : Tp) : Tp := { x with a := x.a + (8 + x.pd.length + 2) }
def tp10 (B : List UInt8) (x : Tp) : Tp := { x with z := if dgB (sS B x.a x.z wDig) = true then sZ B x.a x.z wDig else stZ x.a (sZ B x.a x.z wDig), dg := sS B x.a x.z wDig }
def tq6 (B : List UInt8) (x : Tp) : Tp := tp10 B (tp9 B x)
def tp11 (B : List UInt8) (x : Tp) : Tp := { x with a := x.a + (8 + x.dg.length + 2) }
def tp12 (B : List UInt8) (x : Tp) : Tp := if x.z < 0 then { x with a := x.a + 2, z := if lnB B x.a = false ∨ ¬ l6S B x.a = [] then stZ x.a x.z else x.z } else x
def tq7 (B : List UInt8) (x : Tp) : Tp := tp12 B (tp11 B x)
def topL (B : List UInt8) (a : Nat) : Tp := tq7 B (tq6 B (tq5 B (tq4 B (tp4 B (tp3 B (tp2 B (tp1 B a)))))))
def ckTopK : List V → List Blk → Option (Prop × V × List Blk)
  | [.ptr _ 0], [.cells [.sl n f, .int .i64 a, .int .i64 z]] => some (isBy n f ∧ n ≤ 500000 ∧ 0 ≤ a ∧ a ≤ n ∧ z = -1, .tup [.agg [.int .i64 (topL (bytesOf n f) a.toNat).r.ki, .str (topL (bytesOf n f) a.toNat).r.id, .str (topL (bytesOf n f) a.toNat).r.ow, .int .i64 (topL (bytesOf n f) a.toNat).r.ti, .str (topL (bytesOf n f) a.toNat).r.ke, .sl (topL (bytesOf n f) a.toNat).r.hd.length (lsF cHd (topL (bytesOf n f) a.toNat).r.hd), .nilsl], .int .i64 (topL (bytesOf n f) a.toNat).ln, .str (topL (bytesOf n f) a.toNat).dg], [.cells [.sl n f, .int .i64 (topL (bytesOf n f) a.toNat).a, .int .i64 (topL (bytesOf n f) a.toNat).z]])
  | _, _ => none
def ckTop : Cf := ⟨fun | [.ptr i _] => [i] | _ => [], ckTopK⟩
theorem sS_le {B : List UInt8} {n a : Nat} {z : Int} {w : List UInt8} (hb : B.length = n) (h : z < 0 → a ≤ n) : (sS B a z w).length ≤ n := by
  unfold sS
  split
  · simp
  split
  · rw [← hb]; exact lineV_le w (by rw [hb]; exact h (by omega))
  · simp
theorem sZ_ge {B : List UInt8} {a : Nat} {z : Int} (w : List UInt8) (h : -1 ≤ z) : -1 ≤ sZ B a z w := by
  unfold sZ
  split
  · exact h
  split
  · exact h
  · omega
theorem stZ_ge {a z : Int} (h : -1 ≤ z) (ha : 0 ≤ a) : -1 ≤ stZ a z := by unfold stZ; split <;> omega
theorem sZ_neg {B : List UInt8} {a : Nat} {z : Int} {w : List UInt8} (h : sZ B a z w < 0) : z < 0 ∧ lineOk B a w = true := by
  unfold sZ at h
  split at h
  · omega
  split at h
  · exact ⟨h, by assumption⟩
  · omega
theorem lineOk_fit {B : List UInt8} {a : Nat} {w : List UInt8} (ha : a ≤ B.length) (h : lineOk B a w = true) : a + (w.length + 2 + (lineV B a w).length + 2) = lnN B a ∧ lnN B a ≤ B.length := by
  unfold lineOk at h
  simp only [Bool.and_eq_true] at h
  have := (l6S_eq h.1).2
  obtain ⟨r, hr⟩ := hasPre_iff.1 h.2
  have hlen := congrArg List.length hr
  simp only [List.length_append, List.length_cons, List.length_nil] at hlen
  unfold lineV
  rw [List.length_drop]
  have hf := ln_fit ha h.1
  omega
theorem sS_ok {B : List UInt8} {a : Nat} {z : Int} {w : List UInt8} (h : sZ B a z w < 0) : sS B a z w = lineV B a w := by
  obtain ⟨h1, h2⟩ := sZ_neg h
  unfold sS
  rw [if_neg (by omega), if_pos h2]
theorem tA_fit {B : List UInt8} {n a : Nat} {z : Int} (w : List UInt8) (hb : B.length = n) (h : z < 0 → a ≤ n) : (sZ B a z w < 0 → tA B a z w ≤ n) ∧ (tA B a z w ≤ a ∨ tA B a z w ≤ n) := by
  unfold tA
  constructor
  · intro hs
    obtain ⟨h1, h2⟩ := sZ_neg hs
    rw [if_neg (by omega), if_pos h2]
    have := (lineOk_fit (by rw [hb]; exact h h1) h2).2
    omega
  · split
    · exact .inl (Nat.le_refl _)
    split
    · rename_i h1 h2
      have := (lineOk_fit (by rw [hb]; exact h (by omega)) h2).2
      exact .inr (by omega)
    · exact .inl (Nat.le_refl _)
theorem said_fit {B : List UInt8} {n a : Nat} {z : Int} (w : List UInt8) (hb : B.length = n) (h : z < 0 → a ≤ n) (hs : sZ B a z w < 0) : a + (w.length + 2 + (sS B a z w).length + 2) ≤ n := by
  obtain ⟨h1, h2⟩ := sZ_neg hs
  rw [sS_ok hs]
  have := lineOk_fit (by rw [hb]; exact h h1) h2
  omega
theorem stZ_no {a : Nat} {z : Int} : ¬ stZ a z < 0 := by unfold stZ; split <;> omega
theorem kindI_word {v : List UInt8} (h : ¬ kindI v = 0) : kindW.getD (kindI v - 1).toNat [] = v := by
  have hb := kindI_b v
  unfold kindI at h hb ⊢
  unfold idxL at h hb ⊢
  split at h
  · rename_i k e
    rw [List.findIdx?_eq_some_iff_getElem] at e
    obtain ⟨hk, h1, _⟩ := e
    rw [show ((k : Int) + 1 - 1).toNat = k by omega, List.getD_eq_getElem?_getD, List.getElem?_eq_getElem hk]
    exact beq_iff_eq.1 h1
  · omega
theorem rH_fit {B : List UInt8} {n a : Nat} {z : Int} (hb : B.length = n) (h : z < 0 → a ≤ n) (hz : -1 ≤ z) : ((rH B a z).2.2 < 0 → (rH B a z).2.1 ≤ n) ∧ ((rH B a z).2.1 ≤ a ∨ (rH B a z).2.1 ≤ n) ∧ -1 ≤ (rH B a z).2.2 := by
  unfold rH
  split
  · exact ⟨fun x => by simp only at x; omega, .inl (Nat.le_refl _), hz⟩
  · rename_i h0
    have := (hds_le (B := B) (B.length + 1) a [] (by rw [hb]; exact h (by omega)) (nohds _) (Nat.zero_le _)).1
    rw [hb] at this
    split
    · exact ⟨fun _ => by rw [hb]; exact this, .inr (by rw [hb]; exact this), hz⟩
    · refine ⟨fun _ => by rw [hb]; exact this, .inr (by rw [hb]; exact this), ?_⟩
      simp only
      omega
attribute [irreducible] tq4 tq5 tq6 tq7 tp2 tp3 tp4
theorem conTop6 : FCon pg 110 ckTop := by
  have hct := (ctF_ok conBegins (ctF_ok conNext (ctF_ok conStop (ctF_ok conTold (ctF_ok conSaid (ctF_ok conHeads6 (ctF_ok conLn6 (ctA_ok conKindOf (ctA_ok conKindW (ctA_ok conReadDate2 (ctA_ok conPlainNum (ctA_ok conIsDigest6 (ctN_ok _)))))))))))))
  intro args bs q r bs' h hq
  replace h : ckTopK args bs = some (q, r, bs') := h
  unfold ckTopK at h
  split at h
  · cases h
    rename_i i n f a z
    refine ⟨rfl, by first | exact Nat.le_refl _ | exact Nat.zero_le _, ?_⟩
    obtain ⟨h1, h2, h3, h4, rfl⟩ := hq
    obtain ⟨a, rfl⟩ : ∃ k : Nat, a = k := ⟨a.toNat, by omega⟩
    rw [Int.toNat_natCast]
    have hb := bytesOf_len n f
    generalize hR : topL (bytesOf n f) a = R
    show FCall pg 110 [.ptr (i + 9000) 0] [(i + 9000, .cells [.sl n f, .int .i64 (a : Nat), .int .i64 (-1)])] (.tup [.agg [.int .i64 R.r.ki, .str R.r.id, .str R.r.ow, .int .i64 R.r.ti, .str R.r.ke, .sl R.r.hd.length (lsF cHd R.r.hd), .nilsl], .int .i64 R.ln, .str R.dg]) [(i + 9000, .cells [.sl n f, .int .i64 (R.a : Nat), .int .i64 R.z])]
    refine fw110 (fun d => decide (d = 20005 ∨ d = 20011 ∨ d = 20015 ∨ d = 20019 ∨ d = 20027 ∨ d = 20031 ∨ d = 20037)) [] rfl hct rfl (by simp) (by simp [hlIn, idsIn, Blk.menIn, V.menInL, V.menIn, V.flat, byF, lsF]) (by simp [V.menIn, V.menInL, idsIn]) ?_
    push_cast (config := { maxSteps := 10000000 })
    refine SeqW.cut ⟨hct, fol⟩ (by kernel_rfl) (by kernel_rfl) [] (fun t : Tp => [(0, .ptr (i + 9000) 0), (2, .ptr 2 0), (5, .ptr 5 0)]) (fun t => [(i + 9000, .cells [.sl n f, .int .i64 t.a, .int .i64 t.z]), (2, .cells [.int .i64 0, .str [], .str [], .int .i64 0, .str [], .nilsl, .nilsl]), (5, .cells [.int .i64 t.r.ki, .str t.r.id, .str t.r.ow, .int .i64 0, .str t.r.ke, .nilsl, .nilsl])]) (fun t => ((t.z < 0 → t.a ≤ n) ∧ t.a ≤ 1100000 ∧ -1 ≤ t.z ∧ t.r = noRec) ∧ tq7 (bytesOf n f) (tq6 (bytesOf n f) (tq5 (bytesOf n f) (tq4 (bytesOf n f) (tp4 (bytesOf n f) (tp3 (bytesOf n f) (tp2 (bytesOf n f) t)))))) = R) ?_ fun t ht => ?_
    · push_cast (config := { maxSteps := 10000000 })
      rw [pre_kept]
      unfold topL at hR
      refine ⟨⟨h1, by omega, by omega⟩, fun g => ?_, fun g => ?_⟩
      · have e : tp1 (bytesOf n f) a = ⟨a + 8, -1, noRec, 0, [], []⟩ := by unfold tp1; rw [if_pos g]
        rw [e] at hR
        unfold wholeB at g
        simp only [Bool.and_eq_true, beq_iff_eq] at g
        have hf := ln_fit (b := bytesOf n f) (a := a) (by omega) g.1
        have h8 := congrArg List.length g.2
        have h9 : wKept0.length = 6 := rfl
        exact ⟨by omega, ⟨a + 8, -1, noRec, 0, [], []⟩, ⟨⟨fun _ => by show a + 8 ≤ n; omega, by show a + 8 ≤ 1100000; omega, by show (-1 : Int) ≤ -1; omega, rfl⟩, hR⟩, ⟨by show (a : Int) + 8 = ((a + 8 : Nat) : Int); omega, rfl⟩, rfl, rfl, rfl, rfl⟩
      · have e : tp1 (bytesOf n f) a = ⟨a, a, noRec, 0, [], []⟩ := by unfold tp1; rw [if_neg (by rw [g]; simp)]
        rw [e] at hR
        exact ⟨⟨a, a, noRec, 0, [], []⟩, ⟨⟨fun _ => by show a ≤ n; omega, by show a ≤ 1100000; omega, by show (-1 : Int) ≤ a; omega, rfl⟩, hR⟩, ⟨rfl, rfl⟩, rfl, rfl, rfl, rfl⟩
    clear hR
    obtain ⟨hI, hT⟩ := ht
    push_cast (config := { maxSteps := 10000000 })
    obtain ⟨b1, b2, b3, b4⟩ := hI
    refine ⟨⟨h1, by omega, by omega, b1⟩, ?_⟩
    refine SeqW.cut ⟨hct, fol⟩ (by kernel_rfl) (by kernel_rfl) [] (fun t : Tp => [(0, .ptr (i + 9000) 0), (2, .ptr 2 0), (5, .ptr 5 0)]) (fun t => [(i + 9000, .cells [.sl n f, .int .i64 t.a, .int .i64 t.z]), (2, .cells [.int .i64 0, .str [], .str [], .int .i64 0, .str [], .nilsl, .nilsl]), (5, .cells [.int .i64 t.r.ki, .str t.r.id, .str t.r.ow, .int .i64 0, .str t.r.ke, .nilsl, .nilsl])]) (fun t => ((t.z < 0 → t.a ≤ n) ∧ t.a ≤ 1700000 ∧ -1 ≤ t.z ∧ t.r.ti = 0 ∧ t.r.ke = [] ∧ t.r.hd = [] ∧ t.r.bd = []) ∧ tq7 (bytesOf n f) (tq6 (bytesOf n f) (tq5 (bytesOf n f) (tq4 (bytesOf n f) (tp4 (bytesOf n f) t)))) = R) ?_ fun t ht => ?_
    · push_cast (config := { maxSteps := 10000000 })
      have q := tA_fit [105, 100] hb b1
      have q2 := sZ_ge (B := bytesOf n f) (a := t.a) [105, 100] b3
      have e2 : tp2 (bytesOf n f) t = ⟨tA (bytesOf n f) t.a t.z [105, 100], sZ (bytesOf n f) t.a t.z [105, 100], { t.r with id := sS (bytesOf n f) t.a t.z [105, 100] }, t.ln, t.dg, t.pd⟩ := by
        unfold tp2
        rfl
      rw [e2] at hT
      clear e2
      generalize tA (bytesOf n f) t.a t.z [105, 100] = A2 at *
      generalize sZ (bytesOf n f) t.a t.z [105, 100] = Z2 at *
      generalize sS (bytesOf n f) t.a t.z [105, 100] = S2 at *
      obtain ⟨q1, q3⟩ := q
      have q4 := sS_le (w := [111, 102]) hb q1
      have q5 := sZ_ge (B := bytesOf n f) (a := A2) [111, 102] q2
      have hQ : ¬ (Z2 < 0 ∧ hasPre ((bytesOf n f).drop A2) [111, 102, 58, 32] = true) → tp3 (bytesOf n f) ⟨A2, Z2, { t.r with id := S2 }, t.ln, t.dg, t.pd⟩ = ⟨A2, Z2, { t.r with id := S2 }, t.ln, t.dg, t.pd⟩ := fun g => by
        unfold tp3
        rw [if_neg g]
      refine ⟨fun hz => ⟨hz, ⟨h1, by omega, q1 hz⟩, fun g => ⟨⟨h1, by omega, q1⟩, fun e => ?_, fun e => ?_⟩, fun g => ?_⟩, fun hz => ⟨fun x => hz x, ?_⟩⟩
      · have e3 : tp3 (bytesOf n f) ⟨A2, Z2, { t.r with id := S2 }, t.ln, t.dg, t.pd⟩ = ⟨A2 + (4 + (sS (bytesOf n f) A2 Z2 [111, 102]).length + 2), stZ A2 (sZ (bytesOf n f) A2 Z2 [111, 102]), { t.r with id := S2, ow := sS (bytesOf n f) A2 Z2 [111, 102] }, t.ln, t.dg, t.pd⟩ := by
          unfold tp3
          rw [if_pos g]
          rw [if_pos (show sS (bytesOf n f) A2 Z2 wOf = [] from e)]
          rfl
        rw [e3] at hT
        refine ⟨by omega, ⟨by omega, by omega⟩, _, ⟨⟨fun x => absurd x stZ_no, ?_, stZ_ge q5 (by omega), ?_, ?_, ?_, ?_⟩, hT⟩, ⟨?_, rfl⟩, rfl, rfl, rfl, rfl⟩
        · show A2 + _ ≤ 1700000; omega
        · show t.r.ti = 0; rw [b4]; rfl
        · show t.r.ke = []; rw [b4]; rfl
        · show t.r.hd = []; rw [b4]; rfl
        · show t.r.bd = []; rw [b4]; rfl
        · push_cast; omega
      · have e3 : tp3 (bytesOf n f) ⟨A2, Z2, { t.r with id := S2 }, t.ln, t.dg, t.pd⟩ = ⟨A2 + (4 + (sS (bytesOf n f) A2 Z2 [111, 102]).length + 2), sZ (bytesOf n f) A2 Z2 [111, 102], { t.r with id := S2, ow := sS (bytesOf n f) A2 Z2 [111, 102] }, t.ln, t.dg, t.pd⟩ := by
          unfold tp3
          rw [if_pos g]
          rw [if_neg (show ¬ sS (bytesOf n f) A2 Z2 wOf = [] from e)]
          rfl
        rw [e3] at hT
        refine ⟨by omega, ⟨by omega, by omega⟩, _, ⟨⟨fun x => ?_, ?_, q5, ?_, ?_, ?_, ?_⟩, hT⟩, ⟨?_, rfl⟩, rfl, rfl, rfl, rfl⟩
        · have := said_fit [111, 102] hb q1 x
          simp only [List.length_cons, List.length_nil] at this
          show A2 + _ ≤ n
          omega
        · show A2 + _ ≤ 1700000; omega
        · show t.r.ti = 0; rw [b4]; rfl
        · show t.r.ke = []; rw [b4]; rfl
        · show t.r.hd = []; rw [b4]; rfl
        · show t.r.bd = []; rw [b4]; rfl
        · push_cast; omega
      · rw [hQ (fun x => by rw [g x.1] at x; exact absurd x.2 (by simp))] at hT
        exact ⟨_, ⟨⟨q1, by show A2 ≤ 1700000; omega, q2, by show t.r.ti = 0; rw [b4]; rfl, by show t.r.ke = []; rw [b4]; rfl, by show t.r.hd = []; rw [b4]; rfl, by show t.r.bd = []; rw [b4]; rfl⟩, hT⟩, ⟨rfl, rfl⟩, rfl, rfl, rfl, rfl⟩
      · rw [hQ (fun x => hz x.1)] at hT
        exact ⟨_, ⟨⟨q1, by show A2 ≤ 1700000; omega, q2, by show t.r.ti = 0; rw [b4]; rfl, by show t.r.ke = []; rw [b4]; rfl, by show t.r.hd = []; rw [b4]; rfl, by show t.r.bd = []; rw [b4]; rfl⟩, hT⟩, ⟨rfl, rfl⟩, rfl, rfl, rfl, rfl⟩
    obtain ⟨hI, hT⟩ := ht
    push_cast (config := { maxSteps := 10000000 })
    clear b1 b2 b3 b4
    obtain ⟨b1, b2, b3, b4, b5, b6, b7⟩ := hI
    refine ⟨⟨h1, by omega, b1⟩, ?_⟩
    refine SeqW.cut ⟨hct, fol⟩ (by kernel_rfl) (by kernel_rfl) [] (fun t : Tp => [(0, .ptr (i + 9000) 0), (2, .ptr 2 0), (5, .ptr 5 0)]) (fun t => [(i + 9000, .cells [.sl n f, .int .i64 t.a, .int .i64 t.z]), (2, .cells [.int .i64 0, .str [], .str [], .int .i64 0, .str [], .nilsl, .nilsl]), (5, .cells [.int .i64 t.r.ki, .str t.r.id, .str t.r.ow, .int .i64 0, .str t.r.ke, .nilsl, .nilsl])]) (fun t => ((t.z < 0 → t.a ≤ n) ∧ t.a ≤ 2300000 ∧ -1 ≤ t.z ∧ t.r.ti = 0 ∧ t.r.ke = [] ∧ t.r.hd = [] ∧ t.r.bd = []) ∧ tq7 (bytesOf n f) (tq6 (bytesOf n f) (tq5 (bytesOf n f) (tq4 (bytesOf n f) t))) = R) ?_ fun t ht => ?_
    · push_cast (config := { maxSteps := 10000000 })
      have q4 := sS_le (w := [107, 105, 110, 100]) hb b1
      have q5 := sZ_ge (B := bytesOf n f) (a := t.a) [107, 105, 110, 100] b3
      have q6 := said_fit [107, 105, 110, 100] hb b1
      have q7 : sZ (bytesOf n f) t.a t.z [107, 105, 110, 100] < 0 → sS (bytesOf n f) t.a t.z [107, 105, 110, 100] = lineV (bytesOf n f) t.a [107, 105, 110, 100] := sS_ok
      have e0 : kindI (sS (bytesOf n f) t.a t.z [107, 105, 110, 100]) = 0 → tp4 (bytesOf n f) t = ⟨t.a, stZ t.a (sZ (bytesOf n f) t.a t.z [107, 105, 110, 100]), { t.r with ki := 0 }, t.ln, t.dg, t.pd⟩ := fun g => by
        unfold tp4
        rw [if_pos (show kindI (sS (bytesOf n f) t.a t.z wKind) = 0 from g)]
        rfl
      have e1 : ¬ kindI (sS (bytesOf n f) t.a t.z [107, 105, 110, 100]) = 0 → tp4 (bytesOf n f) t = ⟨t.a + (6 + (kindW.getD (kindI (sS (bytesOf n f) t.a t.z [107, 105, 110, 100]) - 1).toNat []).length + 2), sZ (bytesOf n f) t.a t.z [107, 105, 110, 100], { t.r with ki := kindI (sS (bytesOf n f) t.a t.z [107, 105, 110, 100]) }, t.ln, t.dg, t.pd⟩ := fun g => by
        unfold tp4
        rw [if_neg (show ¬ kindI (sS (bytesOf n f) t.a t.z wKind) = 0 from g)]
        rfl
      generalize sZ (bytesOf n f) t.a t.z [107, 105, 110, 100] = Z2 at *
      generalize sS (bytesOf n f) t.a t.z [107, 105, 110, 100] = S2 at *
      have kb := kindI_b S2
      have kl := kindW_le (kindI S2 - 1).toNat
      refine ⟨fun g => ?_, fun g => ?_⟩
      · rw [e0 g] at hT
        refine ⟨_, ⟨?_, hT⟩, ⟨rfl, rfl⟩, g, rfl, rfl, rfl⟩
        exact ⟨fun x => absurd x stZ_no, by show t.a ≤ 2300000; omega, stZ_ge q5 (by omega), b4, b5, b6, b7⟩
      · rw [e1 g] at hT
        have kw := congrArg List.length (kindI_word g)
        refine ⟨⟨by omega, by omega⟩, by omega, ⟨by omega, by omega⟩, _, ⟨?_, hT⟩, ⟨?_, rfl⟩, rfl, rfl, rfl, rfl⟩
        · refine ⟨fun x => ?_, by show t.a + _ ≤ 2300000; omega, q5, b4, b5, b6, b7⟩
          have := q6 x
          simp only [List.length_cons, List.length_nil] at this
          show t.a + _ ≤ n
          omega
        · push_cast; omega
    obtain ⟨hI, hT⟩ := ht
    push_cast (config := { maxSteps := 10000000 })
    clear b1 b2 b3 b4 b5 b6 b7
    obtain ⟨b1, b2, b3, b4, b5, b6, b7⟩ := hI
    have q4 := sS_le (w := [100, 97, 116, 101]) hb b1
    refine ⟨⟨h1, by omega, b1⟩, by omega, ?_⟩
    refine SeqW.cut ⟨hct, fol⟩ (by kernel_rfl) (by kernel_rfl) [] (fun t : Tp => [(0, .ptr (i + 9000) 0), (2, .ptr 2 0), (5, .ptr 5 0), (6, .str t.pd), (7, .int .i64 t.r.ti)]) (fun t => [(i + 9000, .cells [.sl n f, .int .i64 t.a, .int .i64 t.z]), (2, .cells [.int .i64 0, .str [], .str [], .int .i64 0, .str [], .nilsl, .nilsl]), (5, .cells [.int .i64 t.r.ki, .str t.r.id, .str t.r.ow, .int .i64 0, .str t.r.ke, .nilsl, .nilsl])]) (fun t => ((t.z < 0 → t.a ≤ n) ∧ t.a ≤ 2900000 ∧ -1 ≤ t.z ∧ t.r.ke = [] ∧ t.r.hd = [] ∧ t.r.bd = [] ∧ t.pd.length ≤ n ∧ (t.z < 0 → t.a + (6 + t.pd.length + 2) ≤ n)) ∧ tq7 (bytesOf n f) (tq6 (bytesOf n f) (tq5 (bytesOf n f) t)) = R) ?_ fun t ht => ?_
    · push_cast (config := { maxSteps := 10000000 })
      have q5 := sZ_ge (B := bytesOf n f) (a := t.a) [100, 97, 116, 101] b3
      have q6 := said_fit [100, 97, 116, 101] hb b1
      have e0 : tq4 (bytesOf n f) t = ⟨t.a, if rdB (sS (bytesOf n f) t.a t.z [100, 97, 116, 101]) = true then sZ (bytesOf n f) t.a t.z [100, 97, 116, 101] else stZ t.a (sZ (bytesOf n f) t.a t.z [100, 97, 116, 101]), { t.r with ti := rdV (sS (bytesOf n f) t.a t.z [100, 97, 116, 101]) }, t.ln, t.dg, sS (bytesOf n f) t.a t.z [100, 97, 116, 101]⟩ := by
        unfold tq4
        rfl
      rw [e0] at hT
      clear e0
      generalize sZ (bytesOf n f) t.a t.z [100, 97, 116, 101] = Z2 at *
      generalize sS (bytesOf n f) t.a t.z [100, 97, 116, 101] = S2 at *
      cases hr : rdB S2 with
      | false =>
        rw [hr] at hT
        refine ⟨fun _ => ⟨_, ⟨?_, hT⟩, ⟨rfl, rfl⟩, ⟨rfl, rfl⟩, rfl, rfl, rfl, rfl⟩, fun h => absurd h (by decide)⟩
        exact ⟨fun x => absurd x stZ_no, by show t.a ≤ 2900000; omega, stZ_ge q5 (by omega), b5, b6, b7, q4, fun x => absurd x stZ_no⟩
      | true =>
        rw [hr] at hT
        refine ⟨fun h => absurd rfl h, fun _ => ⟨_, ⟨?_, hT⟩, ⟨rfl, rfl⟩, ⟨rfl, rfl⟩, rfl, rfl, rfl, rfl⟩⟩
        have q8 : Z2 < 0 → t.a + (6 + S2.length + 2) ≤ n := fun x => by
          have := q6 x
          simp only [List.length_cons, List.length_nil] at this
          omega
        exact ⟨fun x => by have := q8 x; show t.a ≤ n; omega, by show t.a ≤ 2900000; omega, q5, b5, b6, b7, q4, q8⟩
    obtain ⟨hI, hT⟩ := ht
    push_cast (config := { maxSteps := 10000000 })
    clear b1 b2 b3 b4 b5 b6 b7 q4
    obtain ⟨b1, b2, b3, b5, b6, b7, b8, b9⟩ := hI
    have eA : ((t.a : Int) + (t.pd.length + 1 + 1 + 1 + 1 + 1 + 1 + 2)).toNat = t.a + (6 + t.pd.length + 2) := by omega
    rw [eA]
    have c2 := tA_fit [107, 101, 121] hb b9
    have c3 := sZ_ge (B := bytesOf n f) (a := t.a + (6 + t.pd.length + 2)) [107, 101, 121] b3
    have e5 : tq5 (bytesOf n f) t = tp8 (bytesOf n f) (tp7 (bytesOf n f) ⟨tA (bytesOf n f) (t.a + (6 + t.pd.length + 2)) t.z [107, 101, 121], sZ (bytesOf n f) (t.a + (6 + t.pd.length + 2)) t.z [107, 101, 121], { t.r with ke := sS (bytesOf n f) (t.a + (6 + t.pd.length + 2)) t.z [107, 101, 121] }, t.ln, t.dg, t.pd⟩) := by
      unfold tq5
      rfl
    rw [e5] at hT
    clear e5
    generalize tA (bytesOf n f) (t.a + (6 + t.pd.length + 2)) t.z [107, 101, 121] = A6 at *
    generalize sZ (bytesOf n f) (t.a + (6 + t.pd.length + 2)) t.z [107, 101, 121] = Z6 at *
    generalize sS (bytesOf n f) (t.a + (6 + t.pd.length + 2)) t.z [107, 101, 121] = S6 at *
    have c4 := rH_fit hb c2.1 c3
    have e7 : tp7 (bytesOf n f) ⟨A6, Z6, { t.r with ke := S6 }, t.ln, t.dg, t.pd⟩ = ⟨(rH (bytesOf n f) A6 Z6).2.1, (rH (bytesOf n f) A6 Z6).2.2, { t.r with ke := S6, hd := (rH (bytesOf n f) A6 Z6).1 }, t.ln, t.dg, t.pd⟩ := rfl
    rw [e7] at hT
    clear e7
    generalize rH (bytesOf n f) A6 Z6 = H at *
    obtain ⟨Hh, Ha, Hz⟩ := H
    simp only at hT c4 ⊢
    have c5 := sS_le (w := [108, 101, 110, 103, 116, 104]) hb c4.1
    refine ⟨by omega, ⟨by omega, by omega⟩, ⟨h1, by omega, by omega, by omega, fun x => by have := b9 x; omega⟩, ⟨h1, by omega, c2.1⟩, ⟨h1, by omega, c4.1⟩, by omega, ?_⟩
    refine SeqW.cut ⟨hct, fol⟩ (by kernel_rfl) (by kernel_rfl) [] (fun t : Tp => [(0, .ptr (i + 9000) 0), (2, .ptr 2 0), (5, .ptr 5 0), (9, .str t.pd), (10, .int .i64 t.ln)]) (fun t => [(i + 9000, .cells [.sl n f, .int .i64 t.a, .int .i64 t.z]), (2, .cells [.int .i64 0, .str [], .str [], .int .i64 0, .str [], .nilsl, .nilsl]), (5, .cells [.int .i64 t.r.ki, .str t.r.id, .str t.r.ow, .int .i64 t.r.ti, .str t.r.ke, .sl t.r.hd.length (lsF cHd t.r.hd), .nilsl])]) (fun t => ((t.z < 0 → t.a ≤ n) ∧ t.a ≤ 3500000 ∧ -1 ≤ t.z ∧ t.r.bd = [] ∧ t.pd.length ≤ n ∧ (t.z < 0 → t.a + (8 + t.pd.length + 2) ≤ n)) ∧ tq7 (bytesOf n f) (tq6 (bytesOf n f) t) = R) ?_ fun t ht => ?_
    · push_cast (config := { maxSteps := 10000000 })
      have q5 := sZ_ge (B := bytesOf n f) (a := Ha) [108, 101, 110, 103, 116, 104] c4.2.2
      have q6 := said_fit [108, 101, 110, 103, 116, 104] hb c4.1
      have e8 : tp8 (bytesOf n f) ⟨Ha, Hz, { t.r with ke := S6, hd := Hh }, t.ln, t.dg, t.pd⟩ = ⟨Ha, if digL (sS (bytesOf n f) Ha Hz [108, 101, 110, 103, 116, 104]) 9 = true then sZ (bytesOf n f) Ha Hz [108, 101, 110, 103, 116, 104] else stZ Ha (sZ (bytesOf n f) Ha Hz [108, 101, 110, 103, 116, 104]), { t.r with ke := S6, hd := Hh }, if digL (sS (bytesOf n f) Ha Hz [108, 101, 110, 103, 116, 104]) 9 = true then (natOf (sS (bytesOf n f) Ha Hz [108, 101, 110, 103, 116, 104]) : Int) else 0, t.dg, sS (bytesOf n f) Ha Hz [108, 101, 110, 103, 116, 104]⟩ := rfl
      rw [e8] at hT
      clear e8
      generalize sZ (bytesOf n f) Ha Hz [108, 101, 110, 103, 116, 104] = Z8 at *
      generalize sS (bytesOf n f) Ha Hz [108, 101, 110, 103, 116, 104] = S8 at *
      cases hr : digL S8 9 with
      | false =>
        rw [hr] at hT
        refine ⟨fun _ => ⟨_, ⟨?_, hT⟩, ⟨rfl, rfl⟩, ⟨rfl, rfl⟩, rfl, rfl, rfl, rfl, rfl, rfl, fun _ _ => rfl⟩, fun h => absurd h (by decide)⟩
        exact ⟨fun x => absurd x stZ_no, by show Ha ≤ 3500000; omega, stZ_ge q5 (by omega), b7, c5, fun x => absurd x stZ_no⟩
      | true =>
        rw [hr] at hT
        refine ⟨fun h => absurd h (by decide), fun _ => ⟨_, ⟨?_, hT⟩, ⟨rfl, rfl⟩, ⟨rfl, rfl⟩, rfl, rfl, rfl, rfl, rfl, rfl, fun _ _ => rfl⟩⟩
        have q8 : Z8 < 0 → Ha + (8 + S8.length + 2) ≤ n := fun x => by
          have := q6 x
          simp only [List.length_cons, List.length_nil] at this
          omega
        exact ⟨fun x => by have := q8 x; show Ha ≤ n; omega, by show Ha ≤ 3500000; omega, q5, b7, c5, q8⟩
    obtain ⟨hI, hT⟩ := ht
    push_cast (config := { maxSteps := 10000000 })
    clear b1 b2 b3 b5 b6 b7 b8 b9 c2 c3 c4 c5 eA
    obtain ⟨b1, b2, b3, b7, b8, b9⟩ := hI
    have eA : ((t.a : Int) + (t.pd.length + 1 + 1 + 1 + 1 + 1 + 1 + 1 + 1 + 2)).toNat = t.a + (8 + t.pd.length + 2) := by omega
    rw [eA]
    have c5 := sS_le (w := [100, 105, 103, 101, 115, 116]) hb b9
    refine ⟨by omega, ⟨by omega, by omega⟩, ⟨h1, by omega, by omega, fun x => by have := b9 x; omega⟩, ?_⟩
    refine SeqW.cut ⟨hct, fol⟩ (by kernel_rfl) (by kernel_rfl) [] (fun t : Tp => [(0, .ptr (i + 9000) 0), (2, .ptr 2 0), (5, .ptr 5 0), (10, .int .i64 t.ln), (12, .str t.dg)]) (fun t => [(i + 9000, .cells [.sl n f, .int .i64 t.a, .int .i64 t.z]), (2, .cells [.int .i64 0, .str [], .str [], .int .i64 0, .str [], .nilsl, .nilsl]), (5, .cells [.int .i64 t.r.ki, .str t.r.id, .str t.r.ow, .int .i64 t.r.ti, .str t.r.ke, .sl t.r.hd.length (lsF cHd t.r.hd), .nilsl])]) (fun t => ((t.z < 0 → t.a ≤ n) ∧ t.a ≤ 4100000 ∧ -1 ≤ t.z ∧ t.r.bd = [] ∧ t.dg.length ≤ n ∧ (t.z < 0 → t.a + (8 + t.dg.length + 2) ≤ n)) ∧ tq7 (bytesOf n f) t = R) ?_ fun t ht => ?_
    · push_cast (config := { maxSteps := 10000000 })
      have q5 := sZ_ge (B := bytesOf n f) (a := t.a + (8 + t.pd.length + 2)) [100, 105, 103, 101, 115, 116] b3
      have q6 := said_fit [100, 105, 103, 101, 115, 116] hb b9
      have e8 : tq6 (bytesOf n f) t = ⟨t.a + (8 + t.pd.length + 2), if dgB (sS (bytesOf n f) (t.a + (8 + t.pd.length + 2)) t.z [100, 105, 103, 101, 115, 116]) = true then sZ (bytesOf n f) (t.a + (8 + t.pd.length + 2)) t.z [100, 105, 103, 101, 115, 116] else stZ (t.a + (8 + t.pd.length + 2) : Nat) (sZ (bytesOf n f) (t.a + (8 + t.pd.length + 2)) t.z [100, 105, 103, 101, 115, 116]), t.r, t.ln, sS (bytesOf n f) (t.a + (8 + t.pd.length + 2)) t.z [100, 105, 103, 101, 115, 116], t.pd⟩ := by
        unfold tq6
        rfl
      rw [e8] at hT
      clear e8
      have eB : (t.a : Int) + (t.pd.length + 1 + 1 + 1 + 1 + 1 + 1 + 1 + 1 + 2) = ((t.a + (8 + t.pd.length + 2) : Nat) : Int) := by omega
      rw [eB]
      generalize sZ (bytesOf n f) (t.a + (8 + t.pd.length + 2)) t.z [100, 105, 103, 101, 115, 116] = Z8 at *
      generalize sS (bytesOf n f) (t.a + (8 + t.pd.length + 2)) t.z [100, 105, 103, 101, 115, 116] = S8 at *
      cases hr : dgB S8 with
      | false =>
        rw [hr] at hT
        refine ⟨by omega, fun _ => ⟨_, ⟨?_, hT⟩, ⟨rfl, rfl⟩, ⟨rfl, rfl⟩, rfl, rfl, rfl, rfl, rfl, rfl, fun _ _ => rfl⟩, fun h => absurd h (by decide)⟩
        exact ⟨fun x => absurd x stZ_no, by show t.a + _ ≤ 4100000; omega, stZ_ge q5 (by omega), b7, c5, fun x => absurd x stZ_no⟩
      | true =>
        rw [hr] at hT
        refine ⟨by omega, fun h => absurd h (by decide), fun _ => ⟨_, ⟨?_, hT⟩, ⟨rfl, rfl⟩, ⟨rfl, rfl⟩, rfl, rfl, rfl, rfl, rfl, rfl, fun _ _ => rfl⟩⟩
        have q8 : Z8 < 0 → t.a + (8 + t.pd.length + 2) + (8 + S8.length + 2) ≤ n := fun x => by
          have := q6 x
          simp only [List.length_cons, List.length_nil] at this
          omega
        exact ⟨fun x => by have := q8 x; show t.a + _ ≤ n; omega, by show t.a + _ ≤ 4100000; omega, q5, b7, c5, q8⟩
    obtain ⟨hI, hT⟩ := ht
    push_cast (config := { maxSteps := 10000000 })
    clear b1 b2 b3 b7 b8 b9 c5 eA
    obtain ⟨b1, b2, b3, b7, b8, b9⟩ := hI
    have eA : (t.a : Int) + (t.dg.length + 1 + 1 + 1 + 1 + 1 + 1 + 1 + 1 + 2) = ((t.a + (8 + t.dg.length + 2) : Nat) : Int) := by omega
    refine ⟨by omega, ⟨by omega, by omega⟩, ?_⟩
    rw [eA]
    refine SeqW.cut ⟨hct, fol⟩ (by kernel_rfl) (by kernel_rfl) [] (fun t : Tp => [(0, .ptr (i + 9000) 0), (2, .ptr 2 0), (5, .ptr 5 0), (10, .int .i64 t.ln), (12, .str t.dg)]) (fun t => [(i + 9000, .cells [.sl n f, .int .i64 t.a, .int .i64 t.z]), (2, .cells [.int .i64 0, .str [], .str [], .int .i64 0, .str [], .nilsl, .nilsl]), (5, .cells [.int .i64 t.r.ki, .str t.r.id, .str t.r.ow, .int .i64 t.r.ti, .str t.r.ke, .sl t.r.hd.length (lsF cHd t.r.hd), .nilsl])]) (fun t => ((t.z < 0 → t.a ≤ n) ∧ t.a ≤ 4700000 ∧ -1 ≤ t.z ∧ t.r.bd = []) ∧ t = R) ?_ fun t ht => ?_
    · push_cast (config := { maxSteps := 10000000 })
      have eT : ((t.a : Int) + (8 + t.dg.length + 1 + 1)).toNat = t.a + (8 + t.dg.length + 2) := by omega
      have e8 : tq7 (bytesOf n f) t = tp12 (bytesOf n f) ⟨t.a + (8 + t.dg.length + 2), t.z, t.r, t.ln, t.dg, t.pd⟩ := by
        unfold tq7
        rfl
      rw [e8] at hT
      clear e8
      rw [eT]
      refine ⟨fun hz => ⟨⟨h1, by omega, by omega, by have := b9 hz; omega⟩, fun g => ⟨⟨by omega, by omega⟩, ?_⟩, fun g => ⟨⟨by omega, by omega⟩, ?_⟩⟩, fun hz => ?_⟩
      · have e9 : tp12 (bytesOf n f) ⟨t.a + (8 + t.dg.length + 2), t.z, t.r, t.ln, t.dg, t.pd⟩ = ⟨t.a + (8 + t.dg.length + 2) + 2, stZ (t.a + (8 + t.dg.length + 2) : Nat) t.z, t.r, t.ln, t.dg, t.pd⟩ := by
          unfold tp12
          rw [if_pos hz, if_pos g]
        rw [e9] at hT
        refine ⟨_, ⟨?_, hT⟩, ⟨rfl, rfl⟩, ⟨?_, ?_⟩, rfl, rfl, rfl, rfl, rfl, rfl, fun _ _ => rfl⟩
        · exact ⟨fun x => absurd x stZ_no, by show t.a + _ + 2 ≤ 4700000; omega, stZ_ge b3 (by omega), b7⟩
        · first | (push_cast; done) | (push_cast; omega)
        · unfold stZ; split <;> first | rfl | omega
      · have e9 : tp12 (bytesOf n f) ⟨t.a + (8 + t.dg.length + 2), t.z, t.r, t.ln, t.dg, t.pd⟩ = ⟨t.a + (8 + t.dg.length + 2) + 2, t.z, t.r, t.ln, t.dg, t.pd⟩ := by
          unfold tp12
          rw [if_pos hz, if_neg (fun x => x.elim (fun y => by rw [g.1] at y; cases y) (fun y => y g.2))]
        rw [e9] at hT
        refine ⟨_, ⟨?_, hT⟩, ⟨rfl, rfl⟩, ⟨?_, rfl⟩, rfl, rfl, rfl, rfl, rfl, rfl, fun _ _ => rfl⟩
        · have hf := ln_fit (b := bytesOf n f) (by have := b9 hz; omega) g.1
          exact ⟨fun x => by show t.a + _ + 2 ≤ n; omega, by show t.a + _ + 2 ≤ 4700000; omega, b3, b7⟩
        · first | (push_cast; done) | (push_cast; omega)
      · have e9 : tp12 (bytesOf n f) ⟨t.a + (8 + t.dg.length + 2), t.z, t.r, t.ln, t.dg, t.pd⟩ = ⟨t.a + (8 + t.dg.length + 2), t.z, t.r, t.ln, t.dg, t.pd⟩ := by
          unfold tp12
          rw [if_neg hz]
        rw [e9] at hT
        refine ⟨_, ⟨?_, hT⟩, ⟨rfl, rfl⟩, ⟨?_, rfl⟩, rfl, rfl, rfl, rfl, rfl, rfl, fun _ _ => rfl⟩
        · exact ⟨fun x => absurd x hz, by show t.a + _ ≤ 4700000; omega, b3, b7⟩
        · first | (push_cast; done) | (push_cast; omega)
    obtain ⟨hI, hT⟩ := ht
    push_cast (config := { maxSteps := 10000000 })
    clear b1 b2 b3 b7 b8 b9
    obtain ⟨b1, b2, b3, b7⟩ := hI
    subst hT
    exact ⟨⟨⟨rfl, rfl, rfl, rfl, rfl, ⟨rfl, fun _ _ => rfl⟩⟩, rfl, rfl⟩, rfl, rfl⟩
  · cases h
@[push_cast] theorem top_ids (i o : Nat) : ckTop.ids [.ptr i o] = [i] := rfl
@[push_cast] theorem top_k (i n : Nat) (f : Nat → V) (a z : Int) : ckTop.k [.ptr i 0] [.cells [.sl n f, .int .i64 a, .int .i64 z]] = some (isBy n f ∧ n ≤ 500000 ∧ 0 ≤ a ∧ a ≤ n ∧ z = -1, .tup [.agg [.int .i64 (topL (bytesOf n f) a.toNat).r.ki, .str (topL (bytesOf n f) a.toNat).r.id, .str (topL (bytesOf n f) a.toNat).r.ow, .int .i64 (topL (bytesOf n f) a.toNat).r.ti, .str (topL (bytesOf n f) a.toNat).r.ke, .sl (topL (bytesOf n f) a.toNat).r.hd.length (lsF cHd (topL (bytesOf n f) a.toNat).r.hd), .nilsl], .int .i64 (topL (bytesOf n f) a.toNat).ln, .str (topL (bytesOf n f) a.toNat).dg], [.cells [.sl n f, .int .i64 (topL (bytesOf n f) a.toNat).a, .int .i64 (topL (bytesOf n f) a.toNat).z]]) := rfl

end Go.Abs
