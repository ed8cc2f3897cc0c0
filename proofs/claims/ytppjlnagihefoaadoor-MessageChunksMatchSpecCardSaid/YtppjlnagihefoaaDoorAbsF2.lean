/- what functions of this program compute: contracts, each a function's own -/
import Derived.Test.YtppjlnagihefoaaDoorAbsA44
import Derived.Test.YtppjlnagihefoaaDoorAbsFacts
import Derived.Test.YtppjlnagihefoaaDoorAbsF1
import Derived.Test.YtppjlnagihefoaaDoorAbsShelf
import Derived.Lib.Walk
import Derived.Lib.BitFns
import Derived.Lib.TrailingZeros
import Derived.Lib.ItoaLen
namespace Go.Abs
open Go Go.Proofs
set_option maxHeartbeats 4000000
set_option maxRecDepth 100000
set_option linter.unusedVariables false
set_option linter.unusedSimpArgs false
def monthLongI (y m : Int) : Int :=
  if m = 4 ∨ m = 6 ∨ m = 9 ∨ m = 11 then 30 else if m = 2 then (if y % 4 = 0 ∧ (y % 100 ≠ 0 ∨ y % 400 = 0) then 29 else 28) else 31
def ckMonthLong : Ck
  | [.int .i64 y, .int .i64 m] => some (0 ≤ y ∧ y ≤ 1000000, .int .i64 (monthLongI y m))
  | _ => none
theorem conMonthLong : Con pg 45 ckMonthLong := by
  have hct := ctN_ok pg
  intro args q r h hq
  unfold ckMonthLong at h
  split at h
  · cases h
    rename_i y m
    refine w45 (fun _ => false) [] rfl hct rfl rfl ?_
    push_cast (config := { maxSteps := 10000000 })
    unfold monthLongI
    (repeat' (first | apply And.intro | intro _)) <;> (try first | assumption | contradiction | omega | exact rfl | exact trivial)
  · cases h
attribute [push_cast] ckMonthLong
def monthsSum (y : Int) : Nat → Int
  | 0 => 0
  | k + 1 => monthsSum y k + monthLongI y ((k : Int) + 1)
def daysI (y m : Int) : Int := 365 * (y - 1) + (y - 1) / 4 - (y - 1) / 100 + (y - 1) / 400 - 719162 + monthsSum y (m - 1).toNat
theorem monthLongI_b (y m : Int) : 28 ≤ monthLongI y m ∧ monthLongI y m ≤ 31 := by
  unfold monthLongI
  (repeat' (first | apply And.intro | intro _)) <;> (try first | assumption | contradiction | omega | exact rfl | exact trivial)
theorem monthsSum_b (y : Int) (k : Nat) : 0 ≤ monthsSum y k ∧ monthsSum y k ≤ 31 * k := by
  induction k with
  | zero => simp [monthsSum]
  | succ k ih => have := monthLongI_b y ((k : Int) + 1); simp only [monthsSum]; omega
theorem daysI_1 (y : Int) : daysI y 1 = 365 * (y - 1) + (y - 1) / 4 - (y - 1) / 100 + (y - 1) / 400 - 719162 := by
  unfold daysI
  rw [show ((1 : Int) - 1).toNat = 0 from rfl]
  simp only [monthsSum]; omega
attribute [irreducible] daysI
def ckDays : Ck
  | [.int .i64 y, .int .i64 m] => some (1 ≤ y ∧ y ≤ 1000000 ∧ m ≤ 13, .int .i64 (daysI y m))
  | _ => none
theorem conDays : Con pg 35 ckDays := by
  have hct := (ctA_ok conMonthLong (ctN_ok _))
  intro args q r h hq
  unfold ckDays at h
  split at h
  · cases h
    rename_i y m
    refine w35 (fun _ => false) [] rfl hct rfl rfl ?_
    push_cast (config := { maxSteps := 10000000 })
    (repeat (refine ⟨by omega, ?_⟩))
    refine LoopW.adj ⟨hct, fol⟩ (by kernel_rfl) [] (fun k : Nat => [(0, .int .i64 y), (1, .int .i64 m), (6, .int .i64 (daysI y 1 + monthsSum y k)), (7, .int .i64 (k + 1))]) (fun _ => []) (fun k => (k : Int) + 1 ≤ 13 ∧ ((k : Int) + 1 ≤ m ∨ k = 0)) (fun k => 13 - k) 0 ?_ fun k hk => ?_
    · push_cast (config := { maxSteps := 10000000 })
      have e1 : daysI y 1 = 365 * (y - 1) + (y - 1) / 4 - (y - 1) / 100 + (y - 1) / 400 - 719162 := daysI_1 y
      simp only [e1, monthsSum]
      (repeat' (first | apply And.intro | intro _)) <;> (try first | assumption | contradiction | omega | exact rfl | exact trivial)
    · push_cast (config := { maxSteps := 10000000 })
      have := monthsSum_b y k
      have := monthLongI_b y ((k : Int) + 1)
      have e1 : daysI y 1 = 365 * (y - 1) + (y - 1) / 4 - (y - 1) / 100 + (y - 1) / 400 - 719162 := daysI_1 y
      (repeat' (first | apply And.intro | intro _)) <;> (try omega)
      · refine ⟨k + 1, by omega, by omega, ?_, by omega⟩
        simp only [monthsSum]; omega
      · have e2 : (m - 1).toNat = k ∨ (k = 0 ∧ (m - 1).toNat = 0) := by omega
        have e3 : (m - 1).toNat = k := by omega
        rw [e1]
        unfold daysI
        rw [e3]
  · cases h
attribute [push_cast] ckDays

def yearF (d : Int) : Nat → Int → Int
  | 0, y => y
  | n + 1, y => if daysI (y + 1) 1 ≤ d then yearF d n (y + 1) else y
def monthF (y d : Int) : Nat → Int → Int
  | 0, m => m
  | n + 1, m => if m < 12 ∧ daysI y (m + 1) ≤ d then monthF y d n (m + 1) else m
def yearI (d : Int) : Int := yearF d 1000 (1970 + d / 366)
def monthI (d : Int) : Int := monthF (yearI d) d 12 1
def dateI (n : Int) : V := .agg [.int .i64 (yearI (n / 86400)), .int .i64 (monthI (n / 86400)), .int .i64 (n / 86400 - daysI (yearI (n / 86400)) (monthI (n / 86400)) + 1), .int .i64 (n % 86400 / 3600), .int .i64 (n % 86400 / 60 % 60), .int .i64 (n % 86400 % 60)]
def ckDateOf : Ck
  | [.int .i64 n] => some (0 ≤ n ∧ n ≤ 253402300799, dateI n)
  | _ => none
theorem daysI_lo {y d : Int} (h : daysI y 1 ≤ d) (hy : 1 ≤ y) (hd : d ≤ 2932896) : y ≤ 10100 := by
  rw [daysI_1] at h
  omega
theorem daysI_y0 (d : Int) (h0 : 0 ≤ d) (hd : d ≤ 2932896) : daysI (1970 + d / 366) 1 ≤ d := by
  rw [daysI_1]
  omega
theorem daysI_step {y d : Int} (h : daysI y 1 ≤ d) (hy : 1970 + d / 366 ≤ y) (h0 : 0 ≤ d) (hd : d ≤ 2932896) : y ≤ 1970 + d / 366 + 900 := by
  rw [daysI_1] at h
  omega
theorem conDateOf : Con pg 26 ckDateOf := by
  have hct := (ctA_ok conDays (ctN_ok _))
  intro args q r h hq
  unfold ckDateOf at h
  split at h
  · cases h
    rename_i n
    refine w26 (fun _ => false) [] rfl hct rfl rfl ?_
    push_cast (config := { maxSteps := 10000000 })
    (repeat (refine ⟨by omega, ?_⟩))
    generalize hd : n / 86400 = d at *
    have h0 : 0 ≤ d ∧ d ≤ 2932896 := by omega
    refine LoopW.adj ⟨hct, fol⟩ (by kernel_rfl) [] (fun t : Nat => [(2, .ptr 2 0), (3, .int .i64 d), (5, .ptr 5 0)]) (fun t => [(2, .cells [.int .i64 0, .int .i64 0, .int .i64 0, .int .i64 0, .int .i64 0, .int .i64 0]), (5, .cells [.int .i64 (1970 + d / 366 + t), .int .i64 1, .int .i64 0, .int .i64 (n % 86400 / 3600), .int .i64 (n % 86400 / 60 % 60), .int .i64 (n % 86400 % 60)])]) (fun t => daysI (1970 + d / 366 + t) 1 ≤ d ∧ t ≤ 900 ∧ yearF d (1000 - t) (1970 + d / 366 + t) = yearI d) (fun t => 1000 - t) 0 ?_ fun t ht => ?_
    · push_cast (config := { maxSteps := 10000000 })
      have := daysI_y0 d h0.1 h0.2
      simp [this, yearI]
    · push_cast (config := { maxSteps := 10000000 })
      obtain ⟨t1, t2, t3⟩ := ht
      obtain ⟨m, hm⟩ : ∃ m, 1000 - t = m + 1 := ⟨999 - t, by omega⟩
      rw [hm] at t3
      simp only [yearF] at t3
      refine ⟨by omega, by omega, fun h => ⟨by omega, t + 1, ⟨?_, ?_, ?_⟩, by omega, by omega⟩, fun h => ?_⟩
      · rw [show 1970 + d / 366 + ((t + 1 : Nat) : Int) = 1970 + d / 366 + t + 1 by omega]; exact h
      · have := daysI_step h (by omega) h0.1 h0.2; omega
      · rw [if_pos h] at t3
        rw [show 1970 + d / 366 + ((t + 1 : Nat) : Int) = 1970 + d / 366 + t + 1 by omega, show 1000 - (t + 1) = m by omega]; exact t3
      · rw [if_neg h] at t3
        rw [t3]
        have hY : 1970 ≤ yearI d ∧ yearI d ≤ 10999 := by omega
        have hYd : daysI (yearI d) 1 ≤ d := by rw [← t3]; exact t1
        clear t3 h t1
        refine LoopW.adj ⟨hct, fol⟩ (by kernel_rfl) [] (fun t : Nat => [(2, .ptr 2 0), (3, .int .i64 d), (5, .ptr 5 0)]) (fun t => [(2, .cells [.int .i64 0, .int .i64 0, .int .i64 0, .int .i64 0, .int .i64 0, .int .i64 0]), (5, .cells [.int .i64 (yearI d), .int .i64 (1 + t), .int .i64 0, .int .i64 (n % 86400 / 3600), .int .i64 (n % 86400 / 60 % 60), .int .i64 (n % 86400 % 60)])]) (fun t => t ≤ 11 ∧ daysI (yearI d) (1 + t) ≤ d ∧ monthF (yearI d) d (12 - t) (1 + t) = monthI d) (fun t => 12 - t) 0 ?_ fun t ht => ?_
        · push_cast (config := { maxSteps := 10000000 })
          simp [hYd, monthI]
        · push_cast (config := { maxSteps := 10000000 })
          obtain ⟨t1, t2, t3⟩ := ht
          obtain ⟨m, hm⟩ : ∃ m, 12 - t = m + 1 := ⟨11 - t, by omega⟩
          rw [hm] at t3
          simp only [monthF] at t3
          refine ⟨fun h => by omega, fun h => by omega, fun h => ⟨by omega, t + 1, ⟨by omega, ?_, ?_⟩, by omega, by omega⟩, fun h => ⟨by omega, ?_⟩⟩
          · rw [show 1 + ((t + 1 : Nat) : Int) = 1 + t + 1 by omega]; exact h.2
          · rw [if_pos h] at t3
            rw [show 1 + ((t + 1 : Nat) : Int) = 1 + t + 1 by omega, show 12 - (t + 1) = m by omega]; exact t3
          · have h' : ¬(1 + (t : Int) < 12 ∧ daysI (yearI d) (1 + t + 1) ≤ d) := fun hh => h hh.1 hh.2
            rw [if_neg h'] at t3
            unfold dateI
            rw [hd, ← t3]
            have b1 : -800000 ≤ daysI (yearI d) (1 + (t : Int)) ∧ daysI (yearI d) (1 + (t : Int)) ≤ 9000000 := by
              have := monthsSum_b (yearI d) (1 + (t : Int) - 1).toNat
              unfold daysI
              omega
            push_cast (config := { maxSteps := 10000000 })
            (repeat' (first | apply And.intro | intro _)) <;> (try first | assumption | contradiction | omega | exact rfl | exact trivial)
  · cases h
attribute [push_cast] ckDateOf

def paddedL (n k : Int) : List UInt8 := Lib.repeatL [48] (max 0 (k - (Lib.itoa n).length)).toNat ++ Lib.itoa n
def ckPadded : Ck
  | [.int .i64 n, .int .i64 k] => some (-9223372036854775808 ≤ n ∧ n ≤ 9223372036854775807 ∧ 0 ≤ k ∧ k ≤ 1000, .str (paddedL n k))
  | _ => none
theorem paddedL_len {n k : Int} (h1 : -9223372036854775808 ≤ n) (h2 : n ≤ 9223372036854775807) (h3 : 0 ≤ k) (h4 : k ≤ 1000) : (paddedL n k).length ≤ 1021 := by
  have := Lib.itoa_length_le n h1 h2
  unfold paddedL
  simp only [List.length_append, Lib.repeatL_length, List.length_cons, List.length_nil]
  omega
theorem conPadded : Con pg 28 ckPadded := by
  have hct := (ctA_ok conItoa (ctA_ok conRepeat (ctN_ok _)))
  intro args q r h hq
  unfold ckPadded at h
  split at h
  · cases h
    rename_i n k
    refine w28 (fun _ => false) [] rfl hct rfl rfl ?_
    push_cast (config := { maxSteps := 10000000 })
    have := Lib.itoa_length_le n hq.1 hq.2.1
    have e : (Lib.repeatL [48] (max 0 (k - (Lib.itoa n).length)).toNat).length = (max 0 (k - (Lib.itoa n).length)).toNat := by simp [Lib.repeatL_length]
    refine ⟨by omega, by omega, by omega, by omega, rfl⟩
  · cases h
attribute [push_cast] ckPadded
def wdN : List (List UInt8) := [[77, 111, 110], [84, 117, 101], [87, 101, 100], [84, 104, 117], [70, 114, 105], [83, 97, 116], [83, 117, 110]]
def mnN : List (List UInt8) := [[74, 97, 110], [70, 101, 98], [77, 97, 114], [65, 112, 114], [77, 97, 121], [74, 117, 110], [74, 117, 108], [65, 117, 103], [83, 101, 112], [79, 99, 116], [78, 111, 118], [68, 101, 99]]
def ckWeekdays : Ck
  | [] => some (True, .sl 7 fun i => .str (wdN.getD i []))
  | _ => none
theorem conWeekdays : Con pg 27 ckWeekdays := by
  have hct := ctN_ok pg
  intro args q r h hq
  unfold ckWeekdays at h
  split at h
  · cases h
    refine w27 (fun _ => false) [] rfl hct rfl rfl ?_
    push_cast (config := { maxSteps := 10000000 })
    intro i hi
    rcases (by omega : i = 0 ∨ i = 1 ∨ i = 2 ∨ i = 3 ∨ i = 4 ∨ i = 5 ∨ i = 6) with rfl | rfl | rfl | rfl | rfl | rfl | rfl <;> rfl
  · cases h
attribute [push_cast] ckWeekdays
def ckMonths : Ck
  | [] => some (True, .sl 12 fun i => .str (mnN.getD i []))
  | _ => none
theorem conMonths : Con pg 29 ckMonths := by
  have hct := ctN_ok pg
  intro args q r h hq
  unfold ckMonths at h
  split at h
  · cases h
    refine w29 (fun _ => false) [] rfl hct rfl rfl ?_
    push_cast (config := { maxSteps := 10000000 })
    intro i hi
    rcases (by omega : i = 0 ∨ i = 1 ∨ i = 2 ∨ i = 3 ∨ i = 4 ∨ i = 5 ∨ i = 6 ∨ i = 7 ∨ i = 8 ∨ i = 9 ∨ i = 10 ∨ i = 11) with rfl | rfl | rfl | rfl | rfl | rfl | rfl | rfl | rfl | rfl | rfl | rfl <;> rfl
  · cases h
attribute [push_cast] ckMonths
theorem yearF_b (d : Int) : ∀ (n : Nat) (y : Int), daysI y 1 ≤ d → y ≤ yearF d n y ∧ daysI (yearF d n y) 1 ≤ d
  | 0, y, h => ⟨Int.le_refl _, h⟩
  | n + 1, y, h => by
    simp only [yearF]
    split
    · rename_i h1
      have := yearF_b d n (y + 1) h1
      exact ⟨by omega, this.2⟩
    · exact ⟨Int.le_refl _, h⟩
theorem monthF_b (y d : Int) : ∀ (n : Nat) (m : Int), 1 ≤ m → m ≤ 12 → daysI y m ≤ d → 1 ≤ monthF y d n m ∧ monthF y d n m ≤ 12 ∧ daysI y (monthF y d n m) ≤ d
  | 0, m, h1, h2, h => ⟨h1, h2, h⟩
  | n + 1, m, h1, h2, h => by
    simp only [monthF]
    split
    · rename_i h3
      exact monthF_b y d n (m + 1) (by omega) (by omega) h3.2
    · exact ⟨h1, h2, h⟩
theorem date_b {d : Int} (h0 : 0 ≤ d) (h1 : d ≤ 2932896) : 1970 ≤ yearI d ∧ yearI d ≤ 10100 ∧ 1 ≤ monthI d ∧ monthI d ≤ 12 ∧ -800000 ≤ daysI (yearI d) (monthI d) ∧ daysI (yearI d) (monthI d) ≤ d := by
  have a := yearF_b d 1000 _ (daysI_y0 d h0 h1)
  have hy : 1970 ≤ yearI d := by have := a.1; unfold yearI; omega
  have hd : daysI (yearI d) 1 ≤ d := a.2
  have b := monthF_b (yearI d) d 12 1 (by omega) (by omega) hd
  have c := daysI_lo hd (by omega) h1
  refine ⟨hy, c, b.1, b.2.1, ?_, b.2.2⟩
  have := monthsSum_b (yearI d) (monthI d - 1).toNat
  unfold daysI
  omega
theorem wdN_b (i : Nat) : (wdN.getD i []).length ≤ 3 := by
  by_cases h : i < 7
  · rcases (by omega : i = 0 ∨ i = 1 ∨ i = 2 ∨ i = 3 ∨ i = 4 ∨ i = 5 ∨ i = 6) with rfl | rfl | rfl | rfl | rfl | rfl | rfl <;> decide
  · rw [List.getD_eq_getElem?_getD, List.getElem?_eq_none (by simp [wdN]; omega)]; simp
theorem mnN_b (i : Nat) : (mnN.getD i []).length ≤ 3 := by
  by_cases h : i < 12
  · rcases (by omega : i = 0 ∨ i = 1 ∨ i = 2 ∨ i = 3 ∨ i = 4 ∨ i = 5 ∨ i = 6 ∨ i = 7 ∨ i = 8 ∨ i = 9 ∨ i = 10 ∨ i = 11) with rfl | rfl | rfl | rfl | rfl | rfl | rfl | rfl | rfl | rfl | rfl | rfl <;> decide
  · rw [List.getD_eq_getElem?_getD, List.getElem?_eq_none (by simp [mnN]; omega)]; simp
def dateTextL (n : Int) : List UInt8 :=
  let d := n / 86400
  let y := yearI d
  let m := monthI d
  wdN.getD ((d + 3) % 7).toNat [] ++ [44, 32] ++ paddedL (d - daysI y m + 1) 2 ++ [32] ++ mnN.getD (m - 1).toNat [] ++ [32] ++ paddedL y 4 ++ [32] ++ paddedL (n % 86400 / 3600) 2 ++ [58] ++ paddedL (n % 86400 / 60 % 60) 2 ++ [58] ++ paddedL (n % 86400 % 60) 2 ++ [32, 71, 77, 84]
def ckDateText0 : Ck
  | [.int .i64 n] => some (0 ≤ n ∧ n ≤ 253402300799, .str (dateTextL n))
  | _ => none
theorem conDateText0 : Con pg 20 ckDateText0 := by
  have hct := (ctA_ok conDateOf (ctA_ok conWeekdays (ctA_ok conMonths (ctA_ok conPadded (ctN_ok _)))))
  intro args q r h hq
  unfold ckDateText0 at h
  split at h
  · cases h
    rename_i n
    refine w20 (fun _ => false) [] rfl hct rfl rfl ?_
    push_cast (config := { maxSteps := 10000000 })
    (repeat (refine ⟨by omega, ?_⟩))
    unfold dateI
    push_cast (config := { maxSteps := 10000000 })
    have h0 : 0 ≤ n / 86400 ∧ n / 86400 ≤ 2932896 := by omega
    have b := date_b h0.1 h0.2
    have l1 := wdN_b ((n / 86400 + 3) % 7).toNat
    have l2 := mnN_b (monthI (n / 86400) - 1).toNat
    have l3 := paddedL_len (n := n / 86400 - daysI (yearI (n / 86400)) (monthI (n / 86400)) + 1) (k := 2) (by omega) (by omega) (by omega) (by omega)
    have l4 := paddedL_len (n := yearI (n / 86400)) (k := 4) (by omega) (by omega) (by omega) (by omega)
    have l5 := paddedL_len (n := n % 86400 / 3600) (k := 2) (by omega) (by omega) (by omega) (by omega)
    have l6 := paddedL_len (n := n % 86400 / 60 % 60) (k := 2) (by omega) (by omega) (by omega) (by omega)
    have l7 := paddedL_len (n := n % 86400 % 60) (k := 2) (by omega) (by omega) (by omega) (by omega)
    (repeat (refine ⟨by omega, ?_⟩))
    simp [dateTextL]
  · cases h
attribute [push_cast] ckDateText0
def ckIsMoment : Ck
  | [.int .i64 n] => some (True, .bool (decide (0 ≤ n) && decide (n ≤ 253402300799)))
  | _ => none
theorem conIsMoment : Con pg 19 ckIsMoment := by
  have hct := ctN_ok pg
  intro args q r h hq
  unfold ckIsMoment at h
  split at h
  · cases h
    rename_i n
    refine w19 (fun _ => false) [] rfl hct rfl rfl ?_
    push_cast (config := { maxSteps := 10000000 })
    skip
  · cases h
attribute [push_cast] ckIsMoment
def ckDateText : Ck
  | [.int .i64 n] => some (-9223372036854775808 ≤ n ∧ n ≤ 9223372036854775807, .tup [.str (if 0 ≤ n ∧ n ≤ 253402300799 then dateTextL n else []), .int .i64 (if 0 ≤ n ∧ n ≤ 253402300799 then 0 else 1)])
  | _ => none
theorem conDateText : Con pg 13 ckDateText := by
  have hct := (ctA_ok conIsMoment (ctA_ok conDateText0 (ctN_ok _)))
  intro args q r h hq
  unfold ckDateText at h
  split at h
  · cases h
    rename_i n
    refine w13 (fun _ => false) [] rfl hct rfl rfl ?_
    push_cast (config := { maxSteps := 10000000 })
    refine ⟨fun h => ?_, fun h => ?_⟩
    · have h' : ¬(0 ≤ n ∧ n ≤ 253402300799) := fun hh => h hh.1 hh.2
      rw [if_neg h', if_neg h']; exact ⟨rfl, rfl⟩
    · rw [if_pos h, if_pos h]; exact ⟨h, rfl, rfl⟩
  · cases h
attribute [push_cast] ckDateText

def awakeL : List UInt8 := [84, 104, 117, 44, 32, 48, 49, 32, 74, 97, 110, 32, 49, 57, 55, 48, 32, 48, 48, 58, 48, 48, 58, 48, 48, 32, 71, 77, 84]
theorem dateText_0 : dateTextL 0 = awakeL := by
  have e0 : yearI 0 = 1970 := by
    unfold yearI
    rw [show (1970 : Int) + 0 / 366 = 1970 from rfl, show (1000 : Nat) = 999 + 1 from rfl]
    simp only [yearF]
    rw [daysI_1, if_neg (by omega)]
  have e1 : monthI 0 = 1 := by
    unfold monthI
    rw [e0, show (12 : Nat) = 11 + 1 from rfl]
    simp only [monthF]
    rw [if_neg]
    rintro ⟨_, h⟩
    unfold daysI at h
    revert h; decide
  have e2 : daysI 1970 1 = 0 := by rw [daysI_1]; omega
  have i1 : Lib.itoa 1 = [49] := by unfold Lib.itoa; rw [if_neg (by omega)]; exact Lib.decDigits_one (i := 1) (by omega)
  have i0 : Lib.itoa 0 = [48] := by unfold Lib.itoa; rw [if_neg (by omega)]; exact Lib.decDigits_one (i := 0) (by omega)
  have i2 : Lib.itoa 1970 = [49, 57, 55, 48] := by
    unfold Lib.itoa; rw [if_neg (by omega)]
    rw [show (1970 : Int).toNat = 1970 from rfl]
    rw [Lib.decDigits, dif_neg (by omega), Lib.decDigits, dif_neg (by omega), Lib.decDigits_two (by omega) (by omega)]
    rfl
  unfold dateTextL
  rw [show (0 : Int) / 86400 = 0 from rfl]
  simp only [e0, e1, e2]
  unfold paddedL
  rw [show (0 : Int) - 0 + 1 = 1 from rfl, show (0 : Int) % 86400 / 3600 = 0 from rfl, show (0 : Int) % 86400 / 60 % 60 = 0 from rfl, show (0 : Int) % 86400 % 60 = 0 from rfl, i1, i0, i2]
  rfl
def ckAwake2 : Ck
  | [] => some (True, .bool true)
  | _ => none
theorem conAwake2 : Con pg 6 ckAwake2 := by
  have hct := (ctA_ok conDateText (ctN_ok _))
  intro args q r h hq
  unfold ckAwake2 at h
  split at h
  · cases h
    refine w6 (fun _ => false) [] rfl hct rfl rfl ?_
    push_cast (config := { maxSteps := 10000000 })
    rw [dateText_0]
    rfl
  · cases h
attribute [push_cast] ckAwake2

def ckLawCM : Ck
  | [.sl n f, .int .i64 k, .sl m g] => some (isBy n f ∧ isBy m g ∧ m ≤ 140737488355328, .bool true)
  | _ => none
theorem conLawCM : Con pg 4 ckLawCM := by
  have hct := (ctA_ok conChunks (ctA_ok conRchunks (ctA_ok conReadChunks (ctA_ok conRReadChunks (ctA_ok conBEqual (ctA_ok conAwake2 (ctN_ok _)))))))
  intro args q r h hq
  unfold ckLawCM at h
  split at h
  · cases h
    rename_i n f k m g
    refine w4 (fun _ => false) [] rfl hct rfl rfl ?_
    push_cast (config := { maxSteps := 10000000 })
    exact ⟨hq.1, hq.1, ⟨hq.2.1, hq.2.2⟩, ⟨hq.2.1, hq.2.2⟩, isBy_by _, isBy_by _⟩
  · cases h
attribute [push_cast] ckLawCM
theorem allLawCM {H : Type} (ds : List (DataW H)) (hh : hasD [.list (.int .u8), .int .i64, .list (.int .u8)] ds) : PCall pg 4 (ds.map toV) (.bool true) := by
  obtain ⟨d1, d2, d3, rfl, a, b, c⟩ := hasD3 hh
  obtain ⟨n, f, e1, h1, _⟩ := shBytes a
  obtain ⟨k, e2, _⟩ := shInt b
  obtain ⟨m, g, e3, h3, h4⟩ := shBytes c
  simp only [List.map_cons, List.map_nil, e1, e2, e3]
  have hr : reachBytes ≤ 140737488355328 := by unfold reachBytes; omega
  exact conLawCM _ _ _ rfl ⟨h1, h3, Nat.le_trans h4 hr⟩

end Go.Abs
