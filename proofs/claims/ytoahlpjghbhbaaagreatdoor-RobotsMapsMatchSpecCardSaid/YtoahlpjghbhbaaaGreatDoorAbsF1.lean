/- what functions of this program compute: contracts, each a function's own -/
import Derived.Test.YtoahlpjghbhbaaaGreatDoorAbsK3
import Derived.Test.YtoahlpjghbhbaaaGreatDoorAbsFacts
import Derived.Test.YtoahlpjghbhbaaaGreatDoorAbsF0
import Derived.Test.YtoahlpjghbhbaaaGreatDoorAbsShelf
import Derived.Lib.SplitLaws
import Derived.Lib.Overlaps
import Derived.Deep.AppendSrc
import Derived.Laws.NewBlocks
import Derived.WalkKit
import Derived.Lib.Walk
import Derived.Lib.AppendStr
import Derived.Lib.AppendZeros
import Derived.Lib.UnsafeStr
import Derived.Lib.Builder
import Derived.Laws.Externs
import Derived.Lib.Repeat
import Derived.Lib.ItoaLen
import Derived.Lib.SlTrimSet
import Derived.Lib.Atoi
import Derived.Lib.Itoa
import Derived.Lib.ItoaNum
import Derived.Lib.AtoiErrMem
import Derived.Lib.Replace
import Derived.Lib.ReplaceLaws
namespace Go.Abs
open Go Go.Proofs
set_option maxHeartbeats 4000000
set_option maxRecDepth 100000
set_option linter.unusedVariables false
set_option linter.unusedSimpArgs false
def yearF (d : Int) : Nat → Int → Int
  | 0, y => y
  | n + 1, y => if daysI (y + 1) 1 ≤ d then yearF d n (y + 1) else y
def monthF (y d : Int) : Nat → Int → Int
  | 0, m => m
  | n + 1, m => if m < 12 ∧ daysI y (m + 1) ≤ d then monthF y d n (m + 1) else m
def yearI (d : Int) : Int := yearF d 1000 (1970 + d / 366)
def monthI (d : Int) : Int := monthF (yearI d) d 12 1
def dateI (n : Int) : V := .agg [.int .i64 (yearI (n / 86400)), .int .i64 (monthI (n / 86400)), .int .i64 (n / 86400 - daysI (yearI (n / 86400)) (monthI (n / 86400)) + 1), .int .i64 (n % 86400 / 3600), .int .i64 (n % 86400 / 60 % 60), .int .i64 (n % 86400 % 60)]
def ckDateOf : Ck
  | [.int .i64 n] => some (0 ≤ n ∧ n ≤ 253402300799, dateI n)
  | _ => none
theorem daysI_lo {y d : Int} (h : daysI y 1 ≤ d) (hy : 1 ≤ y) (hd : d ≤ 2932896) : y ≤ 10100 := by
  rw [daysI_1] at h
  omega
theorem daysI_y0 (d : Int) (h0 : 0 ≤ d) (hd : d ≤ 2932896) : daysI (1970 + d / 366) 1 ≤ d := by
  rw [daysI_1]
  omega
theorem daysI_step {y d : Int} (h : daysI y 1 ≤ d) (hy : 1970 + d / 366 ≤ y) (h0 : 0 ≤ d) (hd : d ≤ 2932896) : y ≤ 1970 + d / 366 + 900 := by
  rw [daysI_1] at h
  omega
attribute [push_cast] ckDateOf
def ckItoa : Ck
  | [.int .i64 n] => some (-9223372036854775808 ≤ n ∧ n ≤ 9223372036854775807, .str (Lib.itoa n))
  | _ => none
theorem conItoa : Con pg 52 ckItoa := by
  intro args q r h hq
  unfold ckItoa at h
  split at h
  · cases h
    refine pcall_shelf (by kernel_rfl) rfl fun w hw => (Tryz.strconv_Itoa _ hq.1 hq.2 w (tabPow hw)).mono fun e w' h => ?_
    obtain ⟨he, k, os, rfl⟩ := h
    exact shelf_str he (grow_drew _ _ _)
  · cases h
attribute [push_cast] ckItoa
def ckRepeat : Ck
  | [.str s, .int .i64 n] => some (0 ≤ n ∧ n ≤ 1000000 ∧ s.length ≤ 1000000, .str (Lib.repeatL s n.toNat))
  | _ => none
theorem conRepeat : Con pg 80 ckRepeat := by
  intro args q r h hq
  unfold ckRepeat at h
  split at h
  · cases h
    rename_i s n
    obtain ⟨k, rfl⟩ : ∃ k : Nat, n = k := ⟨n.toNat, by omega⟩
    refine pcall_shelf (by kernel_rfl) rfl fun w hw => (Tryz.strings_Repeat ⟨s.toArray⟩ k w (by omega) ?_).mono fun e w' h => ?_
    · show s.toArray.size * k ≤ _
      have : s.length * k ≤ 1000000 * 1000000 := Nat.mul_le_mul (by omega) (by omega)
      simp; omega
    · exact shelf_str (by simpa using h.1) (grow_below h.2)
  · cases h
attribute [push_cast] ckRepeat

def paddedL (n k : Int) : List UInt8 := Lib.repeatL [48] (max 0 (k - (Lib.itoa n).length)).toNat ++ Lib.itoa n
def ckPadded : Ck
  | [.int .i64 n, .int .i64 k] => some (-9223372036854775808 ≤ n ∧ n ≤ 9223372036854775807 ∧ 0 ≤ k ∧ k ≤ 1000, .str (paddedL n k))
  | _ => none
theorem paddedL_len {n k : Int} (h1 : -9223372036854775808 ≤ n) (h2 : n ≤ 9223372036854775807) (h3 : 0 ≤ k) (h4 : k ≤ 1000) : (paddedL n k).length ≤ 1021 := by
  have := Lib.itoa_length_le n h1 h2
  unfold paddedL
  simp only [List.length_append, Lib.repeatL_length, List.length_cons, List.length_nil]
  omega
attribute [push_cast] ckPadded
def wdN : List (List UInt8) := [[77, 111, 110], [84, 117, 101], [87, 101, 100], [84, 104, 117], [70, 114, 105], [83, 97, 116], [83, 117, 110]]
def mnN : List (List UInt8) := [[74, 97, 110], [70, 101, 98], [77, 97, 114], [65, 112, 114], [77, 97, 121], [74, 117, 110], [74, 117, 108], [65, 117, 103], [83, 101, 112], [79, 99, 116], [78, 111, 118], [68, 101, 99]]
def ckWeekdays : Ck
  | [] => some (True, .sl 7 fun i => .str (wdN.getD i []))
  | _ => none
attribute [push_cast] ckWeekdays
def ckMonths : Ck
  | [] => some (True, .sl 12 fun i => .str (mnN.getD i []))
  | _ => none
attribute [push_cast] ckMonths
theorem yearF_b (d : Int) : ∀ (n : Nat) (y : Int), daysI y 1 ≤ d → y ≤ yearF d n y ∧ daysI (yearF d n y) 1 ≤ d
  | 0, y, h => ⟨Int.le_refl _, h⟩
  | n + 1, y, h => by
    simp only [yearF]
    split
    · rename_i h1
      have := yearF_b d n (y + 1) h1
      exact ⟨by omega, this.2⟩
    · exact ⟨Int.le_refl _, h⟩
theorem monthF_b (y d : Int) : ∀ (n : Nat) (m : Int), 1 ≤ m → m ≤ 12 → daysI y m ≤ d → 1 ≤ monthF y d n m ∧ monthF y d n m ≤ 12 ∧ daysI y (monthF y d n m) ≤ d
  | 0, m, h1, h2, h => ⟨h1, h2, h⟩
  | n + 1, m, h1, h2, h => by
    simp only [monthF]
    split
    · rename_i h3
      exact monthF_b y d n (m + 1) (by omega) (by omega) h3.2
    · exact ⟨h1, h2, h⟩
theorem date_b {d : Int} (h0 : 0 ≤ d) (h1 : d ≤ 2932896) : 1970 ≤ yearI d ∧ yearI d ≤ 10100 ∧ 1 ≤ monthI d ∧ monthI d ≤ 12 ∧ -800000 ≤ daysI (yearI d) (monthI d) ∧ daysI (yearI d) (monthI d) ≤ d := by
  have a := yearF_b d 1000 _ (daysI_y0 d h0 h1)
  have hy : 1970 ≤ yearI d := by have := a.1; unfold yearI; omega
  have hd : daysI (yearI d) 1 ≤ d := a.2
  have b := monthF_b (yearI d) d 12 1 (by omega) (by omega) hd
  have c := daysI_lo hd (by omega) h1
  refine ⟨hy, c, b.1, b.2.1, ?_, b.2.2⟩
  have := monthsSum_b (yearI d) (monthI d - 1).toNat
  unfold daysI
  omega
theorem wdN_b (i : Nat) : (wdN.getD i []).length ≤ 3 := by
  by_cases h : i < 7
  · rcases (by omega : i = 0 ∨ i = 1 ∨ i = 2 ∨ i = 3 ∨ i = 4 ∨ i = 5 ∨ i = 6) with rfl | rfl | rfl | rfl | rfl | rfl | rfl <;> decide
  · rw [List.getD_eq_getElem?_getD, List.getElem?_eq_none (by simp [wdN]; omega)]; simp
theorem mnN_b (i : Nat) : (mnN.getD i []).length ≤ 3 := by
  by_cases h : i < 12
  · rcases (by omega : i = 0 ∨ i = 1 ∨ i = 2 ∨ i = 3 ∨ i = 4 ∨ i = 5 ∨ i = 6 ∨ i = 7 ∨ i = 8 ∨ i = 9 ∨ i = 10 ∨ i = 11) with rfl | rfl | rfl | rfl | rfl | rfl | rfl | rfl | rfl | rfl | rfl | rfl <;> decide
  · rw [List.getD_eq_getElem?_getD, List.getElem?_eq_none (by simp [mnN]; omega)]; simp
def dateTextL (n : Int) : List UInt8 :=
  let d := n / 86400
  let y := yearI d
  let m := monthI d
  wdN.getD ((d + 3) % 7).toNat [] ++ [44, 32] ++ paddedL (d - daysI y m + 1) 2 ++ [32] ++ mnN.getD (m - 1).toNat [] ++ [32] ++ paddedL y 4 ++ [32] ++ paddedL (n % 86400 / 3600) 2 ++ [58] ++ paddedL (n % 86400 / 60 % 60) 2 ++ [58] ++ paddedL (n % 86400 % 60) 2 ++ [32, 71, 77, 84]
def ckDateText0 : Ck
  | [.int .i64 n] => some (0 ≤ n ∧ n ≤ 253402300799, .str (dateTextL n))
  | _ => none
attribute [push_cast] ckDateText0
def ckIsMoment : Ck
  | [.int .i64 n] => some (True, .bool (decide (0 ≤ n) && decide (n ≤ 253402300799)))
  | _ => none
attribute [push_cast] ckIsMoment
def ckDateText : Ck
  | [.int .i64 n] => some (-9223372036854775808 ≤ n ∧ n ≤ 9223372036854775807, .tup [.str (if 0 ≤ n ∧ n ≤ 253402300799 then dateTextL n else []), .int .i64 (if 0 ≤ n ∧ n ≤ 253402300799 then 0 else 1)])
  | _ => none
attribute [push_cast] ckDateText
def leapB (y : Int) : Bool := decide (y % 4 = 0 ∧ (y % 100 ≠ 0 ∨ y % 400 = 0))
def ckLeap : Ck
  | [.int .i64 y] => some (0 ≤ y ∧ y ≤ 1000000, .bool (leapB y))
  | _ => none
attribute [push_cast] ckLeap
def yearLong (y : Int) : Int := if leapB y = true then 366 else 365
def ckYearDays : Ck
  | [.int .i64 y] => some (0 ≤ y ∧ y ≤ 1000000, .int .i64 (yearLong y))
  | _ => none
attribute [push_cast] ckYearDays
theorem vle_i64 {a b : Int} (h : a = b) : vle (V.int .i64 a) (V.int .i64 b) := by subst h; push_cast; try trivial
def ckMonthDays : Ck
  | [.int .i64 y, .int .i64 m] => some (0 ≤ y ∧ y ≤ 1000000 ∧ 1 ≤ m ∧ m ≤ 12, .int .i64 (monthLongI y m))
  | _ => none
attribute [push_cast] ckMonthDays
def ckMonthName : Ck
  | [.int .i64 m] => some (1 ≤ m ∧ m ≤ 12, .str (mnN.getD (m - 1).toNat []))
  | _ => none
attribute [push_cast] ckMonthName
def twoL (n : Int) : List UInt8 := [UInt8.ofNat (48 + (n / 10 % 10)).toNat, UInt8.ofNat (48 + n % 10).toNat]
def ckTwo : Ck
  | [.int .i64 n] => some (0 ≤ n ∧ n ≤ 1000000, .str (twoL n))
  | _ => none
attribute [push_cast] ckTwo
def befI (y : Int) : Int := 365 * (y - 1) + (y - 1) / 4 - (y - 1) / 100 + (y - 1) / 400
def ckMonthLong4 : Ck
  | [.int .i64 y, .int .i64 m] => some (0 ≤ y ∧ y ≤ 1000000, .int .i64 (monthLongI y m))
  | _ => none
theorem conMonthLong4 : Con pg 50 ckMonthLong4 := by
  have hct := ctN_ok pg
  intro args q r h hq
  unfold ckMonthLong4 at h
  split at h
  · cases h
    rename_i y m
    refine w50 (fun _ => false) [] rfl hct rfl rfl ?_
    push_cast (config := { maxSteps := 10000000 })
    unfold monthLongI
    (repeat' (first | apply And.intro | intro _)) <;> (try first | assumption | contradiction | omega | exact rfl | exact trivial)
  · cases h
attribute [push_cast] ckMonthLong4
def ckBef4 : Ck
  | [.int .i64 y] => some (1 ≤ y ∧ y ≤ 1000000, .int .i64 (befI y))
  | _ => none
theorem conBef4 : Con pg 49 ckBef4 := by
  have hct := ctN_ok pg
  intro args q r h hq
  unfold ckBef4 at h
  split at h
  · cases h
    rename_i y
    refine w49 (fun _ => false) [] rfl hct rfl rfl ?_
    push_cast (config := { maxSteps := 10000000 })
    unfold befI
    (repeat' (first | apply And.intro | intro _)) <;> (try first | assumption | contradiction | omega | exact rfl | exact trivial)
  · cases h
attribute [push_cast] ckBef4
theorem conBef4r : Con pg 54 ckBef4 := by
  have hct := ctN_ok pg
  intro args q r h hq
  unfold ckBef4 at h
  split at h
  · cases h
    rename_i y
    refine w54 (fun _ => false) [] rfl hct rfl rfl ?_
    push_cast (config := { maxSteps := 10000000 })
    unfold befI
    (repeat' (first | apply And.intro | intro _)) <;> (try first | assumption | contradiction | omega | exact rfl | exact trivial)
  · cases h
attribute [push_cast] ckBef4
theorem conIsLong4 : Con pg 83 ckLeap := by
  have hct := ctN_ok pg
  intro args q r h hq
  unfold ckLeap at h
  split at h
  · cases h
    rename_i y
    refine w83 (fun _ => false) [] rfl hct rfl rfl ?_
    push_cast (config := { maxSteps := 10000000 })
    obtain ⟨q1, q2⟩ := hq
    refine ⟨q1, fun h => ⟨h, q1⟩, fun h => ⟨h, q1⟩, ?_⟩
    rw [Bool.eq_iff_iff]
    simp only [leapB, Bool.or_eq_true, Bool.and_eq_true, beq_iff_eq, bne_iff_ne, ne_eq, decide_eq_true_eq]
    omega
  · cases h
attribute [push_cast] ckLeap
def ckDaysOf4 : Ck
  | [.int .i64 y, .int .i64 m] => some (0 ≤ y ∧ y ≤ 1000000, .int .i64 (monthLongI y m))
  | _ => none
theorem conDaysOf4 : Con pg 55 ckDaysOf4 := by
  have hct := (ctA_ok conIsLong4 (ctN_ok _))
  intro args q r h hq
  unfold ckDaysOf4 at h
  split at h
  · cases h
    rename_i y m
    refine w55 (fun _ => false) [] rfl hct rfl rfl ?_
    push_cast (config := { maxSteps := 10000000 })
    unfold monthLongI
    unfold leapB
    simp only [decide_eq_true_eq, decide_eq_false_iff_not]
    (repeat' (first | apply And.intro | intro _)) <;> (try first | assumption | contradiction | omega | exact rfl | exact trivial)
  · cases h
attribute [push_cast] ckDaysOf4
/-- a weight's text -/
def wtL (n : Int) : List UInt8 := if n = 10 then [49, 46, 48] else [48, 46] ++ Lib.itoa n
theorem itoa_10 : Lib.itoa 0 = [48] ∧ Lib.itoa 1 = [49] ∧ Lib.itoa 2 = [50] ∧ Lib.itoa 3 = [51] ∧ Lib.itoa 4 = [52] ∧ Lib.itoa 5 = [53] ∧ Lib.itoa 6 = [54] ∧ Lib.itoa 7 = [55] ∧ Lib.itoa 8 = [56] ∧ Lib.itoa 9 = [57] := by decide +kernel
theorem itoa_d {n : Int} (h : 0 ≤ n) (h1 : n < 10) : Lib.itoa n = [UInt8.ofNat (48 + n.toNat)] := by
  obtain ⟨a, b, c, d, e, f, g, i, j, k⟩ := itoa_10
  rcases (by omega : n = 0 ∨ n = 1 ∨ n = 2 ∨ n = 3 ∨ n = 4 ∨ n = 5 ∨ n = 6 ∨ n = 7 ∨ n = 8 ∨ n = 9) with rfl | rfl | rfl | rfl | rfl | rfl | rfl | rfl | rfl | rfl <;> assumption
def ckWt : Ck
  | [.int .i64 n] => some (0 ≤ n ∧ n ≤ 10, .str (wtL n))
  | _ => none
theorem conWt : Con pg 26 ckWt := by
  have hct := (ctA_ok conItoa (ctN_ok _))
  intro args q r h hq
  unfold ckWt at h
  split at h
  · cases h
    rename_i n
    refine w26 (fun _ => false) [] rfl hct rfl rfl ?_
    push_cast (config := { maxSteps := 10000000 })
    obtain ⟨q1, q2⟩ := hq
    refine ⟨fun h => by rw [h]; rfl, fun h => ⟨⟨by omega, by omega⟩, ?_, by unfold wtL; rw [if_neg h]; rfl⟩⟩
    rw [itoa_d q1 (by omega)]
    show (2 : Int) + 1 ≤ _
    omega
  · cases h
attribute [push_cast] ckWt
theorem conWt4 : Con pg 31 ckWt := by
  have hct := (ctA_ok conItoa (ctN_ok _))
  intro args q r h hq
  unfold ckWt at h
  split at h
  · cases h
    rename_i n
    refine w31 (fun _ => false) [] rfl hct rfl rfl ?_
    push_cast (config := { maxSteps := 10000000 })
    obtain ⟨q1, q2⟩ := hq
    rw [itoa_d (n := n / 10) (by omega) (by omega), itoa_d (n := n % 10) (by omega) (by omega)]
    refine ⟨⟨q1, by omega, by omega⟩, ⟨by omega, by omega⟩, (by show (1 : Int) + 1 ≤ _; omega), q1, ⟨by omega, by omega⟩, (by show (1 : Int) + 1 + 1 ≤ _; omega), ?_⟩
    unfold wtL
    split
    · rename_i h; subst h; rfl
    · rename_i h
      rw [itoa_d q1 (by omega), show n / 10 = 0 by omega, show n % 10 = n by omega]; rfl
  · cases h
attribute [push_cast] ckWt
/-- the words of a list -/
def tgA (b : Bool) : List UInt8 := bif b then [115, 105, 116, 101, 109, 97, 112, 105, 110, 100, 101, 120] else [117, 114, 108, 115, 101, 116]
def tgO (b : Bool) : List UInt8 := bif b then [115, 105, 116, 101, 109, 97, 112] else [117, 114, 108]
def ckTags : Ck
  | [.bool b] => some (True, .tup [.str (tgA b), .str (tgO b)])
  | _ => none
theorem conTags : Con pg 14 ckTags := by
  have hct := ctN_ok pg
  intro args q r h hq
  unfold ckTags at h
  split at h
  · cases h
    rename_i b
    refine w14 (fun _ => false) [] rfl hct rfl rfl ?_
    push_cast (config := { maxSteps := 10000000 })
    exact ⟨fun h => by rw [h]; exact ⟨rfl, rfl⟩, fun h => by rw [h]; exact ⟨rfl, rfl⟩⟩
  · cases h
attribute [push_cast] ckTags
theorem conNames : Con pg 18 ckTags := by
  have hct := ctN_ok pg
  intro args q r h hq
  unfold ckTags at h
  split at h
  · cases h
    rename_i b
    refine w18 (fun _ => false) [] rfl hct rfl rfl ?_
    push_cast (config := { maxSteps := 10000000 })
    exact ⟨fun h => by rw [h]; exact ⟨rfl, rfl⟩, fun h => by rw [h]; exact ⟨rfl, rfl⟩⟩
  · cases h
attribute [push_cast] ckTags

/-- a cutset of ASCII bytes -/
def asciiC (c : List UInt8) : Bool := c.all fun b => decide (b.toNat < 128)
theorem asciiC_at {c : List UInt8} (h : asciiC c = true) : ∀ (j : Nat) b, c[j]? = some b → b.toNat < 128 := by
  intro j b hb
  simp only [asciiC, List.all_eq_true, decide_eq_true_eq] at h
  exact h b (List.mem_of_getElem? hb)
def ckTrim : Ck
  | [.str s, .str c] => some (s.length ≤ 4611686018427387904 ∧ c.length < 4294967281 ∧ asciiC c = true, .str (Lib.trimS s c))
  | _ => none
theorem conTrim : Con pg 67 ckTrim := by
  intro args q r h hq
  unfold ckTrim at h
  split at h
  · cases h
    rename_i s c
    refine pcall_shelf (by kernel_rfl) rfl fun w hw => (Tryz.strings_TrimL ⟨s.toArray⟩ ⟨c.toArray⟩ w ?_ ?_ ?_).mono fun e w' h => ?_
    · show s.toArray.size ≤ _
      have := hq.1
      simp; omega
    · show c.toArray.size < _
      have := hq.2.1
      simp; omega
    · exact asciiC_at hq.2.2
    · exact shelf_str h.1 (grow_below h.2)
  · cases h
attribute [push_cast] ckTrim
@[push_cast] theorem asciiC_nil : asciiC [] = true := rfl
@[push_cast] theorem asciiC_cons (b : UInt8) (c : List UInt8) : asciiC (b :: c) = (decide (b.toNat < 128) && asciiC c) := rfl

theorem isBy_lit {l : List V} (h : ∀ i, i < l.length → ∃ n, l.getD i .any = .int .u8 n ∧ 0 ≤ n ∧ n < 256) : isBy l.length (litF l) := by
  refine ⟨(bytesOf_len _ _).symm, fun i hi => ?_⟩
  obtain ⟨n, e, h0, h1⟩ := h i hi
  have : litF l i = .int .u8 n := e
  rw [this]
  unfold byF bytesOf
  rw [List.getD_eq_getElem?_getD, List.getElem?_map, List.getElem?_range hi]
  simp only [Option.map_some, Option.getD_some, this, V.toByte]
  rw [UInt8.toNat_ofNat']
  congr 1
  omega
theorem shBytes {m : Nat} {v : V} (h : Sh.has (.list (.int .u8)) m v) : ∃ (n : Nat) (f : Nat → V), v = .sl n f ∧ isBy n f ∧ n ≤ reachBytes := by
  obtain ⟨l, ms, rfl, h1, h2, h3, h4⟩ := h
  have wf : ∀ n : Int, (Lit.int .u8 n).wf = true → 0 ≤ n ∧ n < 256 := fun n hn => by
    simp only [Lit.wf, Bool.and_eq_true, decide_eq_true_eq] at hn
    have e1 : IntKind.u8.min = 0 := rfl
    have e2 : IntKind.u8.max = 255 := rfl
    omega
  refine ⟨_, _, rfl, isBy_lit fun i hi => ?_, h3⟩
  obtain ⟨n, e, w, _⟩ := h4 i hi
  exact ⟨n, e, wf n w⟩
theorem hasD3 {H : Type} {s1 s2 s3 : Sh} {ds : List (DataW H)} (h : hasD [s1, s2, s3] ds) : ∃ a b c, ds = [a, b, c] ∧ s1.has (bulkD a) (toV a) ∧ s2.has (bulkD b) (toV b) ∧ s3.has (bulkD c) (toV c) := by
  match ds, h with
  | [a, b, c], ⟨h1, h2, h3, _⟩ => exact ⟨a, b, c, rfl, h1, h2, h3⟩
theorem shInt {k : IntKind} {m : Nat} {v : V} (h : Sh.has (.int k) m v) : ∃ n, v = .int k n ∧ (Lit.int k n).wf = true := by
  obtain ⟨n, e, w, _⟩ := h
  exact ⟨n, e, w⟩

def okAt (s : List UInt8) (i : Nat) : Bool := !(decide ((s.getD i 0).toNat < 33) || decide (126 < (s.getD i 0).toNat) || (s.getD i 0).toNat == 35 || ((s.getD i 0).toNat == 36 && decide (i + 1 < s.length)))
def patOk (s : List UInt8) : Bool := decide (1 ≤ s.length) && decide (s.length ≤ 300) && ((s.getD 0 0).toNat == 47 || (s.getD 0 0).toNat == 42) && (List.range s.length).all (okAt s)
theorem okAt_iff (s : List UInt8) (i : Nat) : okAt s i = true ↔ ¬ (s.getD i 0).toNat < 33 ∧ ¬ 126 < (s.getD i 0).toNat ∧ ¬ (s.getD i 0).toNat = 35 ∧ ¬ ((s.getD i 0).toNat = 36 ∧ i + 1 < s.length) := by
  simp [okAt]
  omega
theorem patOk_iff (s : List UInt8) : patOk s = true ↔ 1 ≤ s.length ∧ s.length ≤ 300 ∧ ((s.getD 0 0).toNat = 47 ∨ (s.getD 0 0).toNat = 42) ∧ ∀ i, i < s.length → okAt s i = true := by
  simp only [patOk, Bool.and_eq_true, Bool.or_eq_true, decide_eq_true_eq, beq_iff_eq, List.all_eq_true, List.mem_range, and_assoc]
theorem boolF {b : Bool} (h : ¬ b = true) : false = b := by cases b <;> simp_all

def isHexB (c : UInt8) : Bool := isHex (c.toNat : Int)
def hexN (c : UInt8) : Nat := (hexV (c.toNat : Int)).toNat
def encB (v : Nat) : List UInt8 := if isFreeI (v : Int) = true then [UInt8.ofNat v] else [37, hexRow.getD (v / 16) 0, hexRow.getD (v % 16) 0]
/-- the normal form of what is escaped -/
def normL : List UInt8 → List UInt8
  | c :: a :: b :: r => if c = 37 ∧ isHexB a = true ∧ isHexB b = true then encB (16 * hexN a + hexN b) ++ normL r else c :: normL (a :: b :: r)
  | l => l
/-- every mark has its two digits -/
def wfL : List UInt8 → Bool
  | [] => true
  | [a] => !(a == 37)
  | [a, b] => !(a == 37) && !(b == 37)
  | c :: a :: b :: r => if c = 37 then isHexB a && isHexB b && wfL r else wfL (a :: b :: r)
theorem normL_hex {s : List UInt8} {i : Nat} (h : i + 2 < s.length) (h0 : s.getD i 0 = 37) (h1 : isHexB (s.getD (i + 1) 0) = true) (h2 : isHexB (s.getD (i + 2) 0) = true) :
    normL (s.drop i) = encB (16 * hexN (s.getD (i + 1) 0) + hexN (s.getD (i + 2) 0)) ++ normL (s.drop (i + 3)) := by
  rw [drop_at (by omega : i < s.length), drop_at (by omega : i + 1 < s.length), drop_at (by omega : i + 1 + 1 < s.length), normL, if_pos ⟨h0, h1, h2⟩]
theorem normL_no {s : List UInt8} {i : Nat} (h : i < s.length) (hn : ¬ (s.getD i 0 = 37 ∧ i + 2 < s.length ∧ isHexB (s.getD (i + 1) 0) = true ∧ isHexB (s.getD (i + 2) 0) = true)) :
    normL (s.drop i) = s.getD i 0 :: normL (s.drop (i + 1)) := by
  by_cases h2 : i + 2 < s.length
  · rw [drop_at (by omega : i < s.length), drop_at (by omega : i + 1 < s.length), drop_at (by omega : i + 1 + 1 < s.length), normL, if_neg (fun hh => hn ⟨hh.1, h2, hh.2.1, hh.2.2⟩)]
  · rw [drop_at h]
    generalize s.getD i 0 = c
    have hl : (s.drop (i + 1)).length ≤ 1 := by simp; omega
    match hd : s.drop (i + 1), hl with
    | [], _ => simp [normL]
    | [a], _ => simp [normL]
theorem wfL_hex {s : List UInt8} {i : Nat} (h : i < s.length) (h0 : s.getD i 0 = 37) (hw : wfL (s.drop i) = true) : i + 2 < s.length ∧ isHexB (s.getD (i + 1) 0) = true ∧ isHexB (s.getD (i + 2) 0) = true ∧ wfL (s.drop (i + 3)) = true := by
  by_cases h2 : i + 2 < s.length
  · rw [drop_at (by omega : i < s.length), drop_at (by omega : i + 1 < s.length), drop_at (by omega : i + 1 + 1 < s.length), wfL, if_pos h0] at hw
    simp only [Bool.and_eq_true] at hw
    exact ⟨h2, hw.1.1, hw.1.2, hw.2⟩
  · rw [drop_at h, h0] at hw
    have hl : (s.drop (i + 1)).length ≤ 1 := by simp; omega
    match hd : s.drop (i + 1), hl with
    | [], _ => rw [hd] at hw; simp [wfL] at hw
    | [a], _ => rw [hd] at hw; simp [wfL] at hw
theorem wfL_no {s : List UInt8} {i : Nat} (h : i < s.length) (h0 : ¬ s.getD i 0 = 37) (hw : wfL (s.drop i) = true) : wfL (s.drop (i + 1)) = true := by
  rw [drop_at h] at hw
  revert hw h0
  generalize s.getD i 0 = c
  generalize s.drop (i + 1) = t
  intro h0 hw
  match t with
  | [] => rfl
  | [a] => simp [wfL] at hw ⊢; exact hw.2
  | a :: b :: r => simpa [wfL, h0] using hw
theorem normL_len (s : List UInt8) : (normL s).length ≤ s.length := by
  refine normL.induct (motive := fun s => (normL s).length ≤ s.length) ?_ ?_ ?_ s
  · intro c a b r h ih
    rw [normL, if_pos h]
    simp only [List.length_append, List.length_cons]
    have : (encB (16 * hexN a + hexN b)).length ≤ 3 := by unfold encB; split <;> simp
    omega
  · intro c a b r h ih
    rw [normL, if_neg h]
    simp only [List.length_cons] at ih ⊢
    omega
  · intro l h
    match l with
    | [] => simp [normL]
    | [a] => simp [normL]
    | [a, b] => simp [normL]
    | c :: a :: b :: r => exact (h c a b r rfl).elim
theorem hexV_lt {c : Int} (h : isHex c = true) : 0 ≤ hexV c ∧ hexV c < 16 := by
  simp only [isHex, isDig, Bool.or_eq_true, Bool.and_eq_true, decide_eq_true_eq] at h
  simp only [hexV, isDig, Bool.and_eq_true, decide_eq_true_eq]
  split <;> (try split) <;> omega
theorem nib_or : ∀ a b : Fin 16, bitsI .or .u8 (((a.1 : Nat) : Int) * 2 ^ min 4 IntKind.u8.bits % 256) ((b.1 : Nat) : Int) = 16 * a.1 + b.1 := by decide
theorem nib_and : ∀ v : Fin 256, bitsI .and .u8 ((v.1 : Nat) : Int) 15 = ((v.1 % 16 : Nat) : Int) := by decide
theorem nib_shr (v : Nat) : Int.fdiv ((v : Nat) : Int) (2 ^ min 4 IntKind.u8.bits) = ((v / 16 : Nat) : Int) := by
  show Int.fdiv (v : Int) 16 = _
  rw [Int.fdiv_eq_ediv_of_nonneg _ (by omega)]; omega
theorem or_hex {a b : UInt8} (ha : isHexB a = true) (hb : isHexB b = true) : bitsI .or .u8 (hexV (a.toNat : Int) * 2 ^ min 4 IntKind.u8.bits % 256) (hexV (b.toNat : Int)) = ((16 * hexN a + hexN b : Nat) : Int) := by
  have h1 := hexV_lt ha
  have h2 := hexV_lt hb
  have := nib_or ⟨hexN a, by unfold hexN; omega⟩ ⟨hexN b, by unfold hexN; omega⟩
  have e1 : ((hexN a : Nat) : Int) = hexV (a.toNat : Int) := by unfold hexN; omega
  have e2 : ((hexN b : Nat) : Int) = hexV (b.toNat : Int) := by unfold hexN; omega
  simp only [e1, e2] at this
  rw [this, ← e1, ← e2]; omega
theorem hexN_lt {a : UInt8} (ha : isHexB a = true) : hexN a < 16 := by have := hexV_lt ha; unfold hexN; omega
theorem ofNat_toNat {v : Nat} (h : v < 256) : (UInt8.ofNat v).toNat = v := by simp [UInt8.toNat_ofNat']; omega

def ckPat : Ck
  | [.str s] => some (True, .bool (patOk s))
  | _ => none
theorem conPat : Con pg 45 ckPat := by
  have hct := ctN_ok pg
  intro args q r h hq
  unfold ckPat at h
  split at h
  · cases h
    rename_i s
    refine w45 (fun _ => false) [] rfl hct rfl rfl ?_
    push_cast (config := { maxSteps := 10000000 })
    refine ⟨by omega, by omega, by omega, fun h0 => ?_, fun h0 => LoopW.by ⟨hct, fol⟩ (by kernel_rfl) (fun i : Nat => [(0, .str s), (23, .int .i64 s.length), (24, .int .i64 i)]) (fun _ => []) (fun i => i ≤ s.length ∧ ∀ j, j < i → okAt s j = true) (fun i => s.length - i) 0 ⟨⟨by omega, fun j hj => by omega⟩, by push_cast⟩ fun i hi => ?_⟩
    · refine boolF fun hp => ?_
      have := (patOk_iff s).1 hp
      omega
    · push_cast (config := { maxSteps := 10000000 })
      refine ⟨fun h1 => ⟨by omega, by omega, by omega, by omega, by omega, by omega, fun h2 => boolF fun hp => ?_, fun h2 => ⟨by omega, i + 1, ⟨by omega, fun j hj => ?_⟩, by omega, by omega⟩⟩, fun h1 => ((patOk_iff s).2 ⟨by omega, by omega, by omega, fun j hj => hi.2 j (by omega)⟩).symm⟩
      · have := (okAt_iff s i).1 (((patOk_iff s).1 hp).2.2.2 i (by omega))
        omega
      · by_cases e : j = i
        · subst e
          exact (okAt_iff s j).2 (by omega)
        · exact hi.2 j (by omega)
  · cases h
attribute [push_cast] ckPat

def ckWithin : Ck
  | [.int .i64 n, .int .i64 a, .int .i64 b] => some (True, .bool (decide (a ≤ n) && decide (n ≤ b)))
  | _ => none
theorem conWithin : Con pg 61 ckWithin := by
  intro args q r h hq
  unfold ckWithin at h
  split at h
  · cases h
    refine w61 (fun _ => false) [] rfl (ctN_ok _) rfl rfl ?_
    push_cast (config := { maxSteps := 10000000 })
  · cases h
attribute [push_cast] ckWithin

attribute [push_cast] ckPat
def stepR (s : List UInt8) (can : Nat → Bool) (c : Nat) : Nat → Bool := fun k => if c = 42 then (List.range (k + 1)).any can else decide (0 < k) && can (k - 1) && (s.getD (k - 1) 0).toNat == c
def reachN (p s : List UInt8) : Nat → Nat → Bool
  | 0 => fun k => k == 0
  | i + 1 => stepR s (reachN p s i) (p.getD i 0).toNat
def fitsB (p s : List UInt8) (whole : Bool) : Bool := if whole = true then reachN p s p.length s.length else (List.range (s.length + 1)).any (reachN p s p.length)

def hasSuf (s t : List UInt8) : Bool := decide (t.length ≤ s.length) && (s.drop (s.length - t.length) == t)

theorem last_app (a : List UInt8) {b : List UInt8} (h : b ≠ []) : (a ++ b).getLast? = b.getLast? := by
  rw [List.getLast?_append]
  cases hb : b.getLast? with
  | none => simp [h] at hb
  | some x => rfl
theorem encB_last (v : Nat) (h : v < 256) : (encB v).getLast? ≠ some 36 := by
  unfold encB
  split
  · rename_i hf
    intro he
    simp only [List.getLast?_singleton, Option.some.injEq] at he
    have : v = 36 := by have := congrArg UInt8.toNat he; rw [ofNat_toNat h] at this; exact this
    subst this
    revert hf; decide
  · intro he
    have aux : ∀ n : Fin 16, ¬ hexRow.getD n.1 0 = 36 := by decide
    simp only [List.getLast?_cons_cons, List.getLast?_singleton, Option.some.injEq] at he
    exact aux ⟨v % 16, by omega⟩ he
theorem encB_ne (v : Nat) : encB v ≠ [] := by unfold encB; split <;> simp
theorem normL_nil {s : List UInt8} (h : normL s = []) : s = [] := by
  match s with
  | [] => rfl
  | [a] => simp [normL] at h
  | [a, b] => simp [normL] at h
  | c :: a :: b :: r =>
    simp only [normL] at h
    split at h
    · simp [encB_ne] at h
    · simp at h
theorem normL_last (s : List UInt8) : (normL s).getLast? = some 36 → s.getLast? = some 36 := by
  refine normL.induct (motive := fun s => (normL s).getLast? = some 36 → s.getLast? = some 36) ?_ ?_ ?_ s
  · intro c a b r h ih hl
    rw [normL, if_pos h] at hl
    cases r with
    | nil =>
      simp only [normL, List.append_nil] at hl
      exact absurd hl (encB_last _ (by have := hexN_lt h.2.1; have := hexN_lt h.2.2; omega))
    | cons d r =>
      have hne : normL (d :: r) ≠ [] := fun e => by have := normL_nil e; cases this
      rw [last_app _ hne] at hl
      have := ih hl
      simpa using this
  · intro c a b r h ih hl
    rw [normL, if_neg h] at hl
    have hne : normL (a :: b :: r) ≠ [] := fun e => by have := normL_nil e; cases this
    have : (c :: normL (a :: b :: r)).getLast? = (normL (a :: b :: r)).getLast? := by
      rw [show c :: normL (a :: b :: r) = [c] ++ normL (a :: b :: r) from rfl, last_app _ hne]
    rw [this] at hl
    simpa using ih hl
  · intro l h hl
    match l with
    | [] => simp [normL] at hl
    | [a] => simpa [normL] using hl
    | [a, b] => simpa [normL] using hl
    | c :: a :: b :: r => exact (h c a b r rfl).elim
theorem normL_dollar (s : List UInt8) : normL (s ++ [36]) = normL s ++ [36] := by
  refine normL.induct (motive := fun s => normL (s ++ [36]) = normL s ++ [36]) ?_ ?_ ?_ s
  · intro c a b r h ih
    simp only [List.cons_append, normL, if_pos h, ih, List.append_assoc]
  · intro c a b r h ih
    simp only [List.cons_append, normL, if_neg h]
    simpa using ih
  · intro l h
    match l with
    | [] => rfl
    | [a] => rfl
    | [a, b] =>
      have : isHexB 36 = false := by decide
      simp [normL, this]
    | c :: a :: b :: r => exact (h c a b r rfl).elim
theorem reachN_app (p q s : List UInt8) : ∀ i, i ≤ p.length → reachN (p ++ q) s i = reachN p s i
  | 0, _ => rfl
  | i + 1, h => by
    simp only [reachN]
    rw [reachN_app p q s i (by omega)]
    congr 1
    rw [List.getD_eq_getElem?_getD, List.getElem?_append_left (by omega), List.getD_eq_getElem?_getD]
theorem fits_star (p s : List UInt8) : fitsB (p ++ [42]) s true = fitsB p s false := by
  have h : ((p ++ [42]).getD p.length 0).toNat = 42 := by simp
  simp only [fitsB, if_true, List.length_append, List.length_cons, List.length_nil, reachN]
  rw [h, reachN_app p [42] s p.length (Nat.le_refl _)]
  simp [stepR]
def matchesB (p s : List UInt8) : Bool := if hasSuf p [36] = true then fitsB (normL (p.take (p.length - 1))) s true else fitsB (normL p) s false
theorem suf_iff (p : List UInt8) (c : UInt8) : hasSuf p [c] = true ↔ p = p.take (p.length - 1) ++ [c] := by
  unfold hasSuf
  simp only [List.length_cons, List.length_nil, Bool.and_eq_true, decide_eq_true_eq, beq_iff_eq]
  constructor
  · intro ⟨h1, h2⟩
    conv => lhs; rw [← List.take_append_drop (p.length - 1) p]
    rw [h2]
  · intro h
    have hl : 1 ≤ p.length := by rw [h]; simp
    refine ⟨by omega, ?_⟩
    conv => lhs; rw [h]
    rw [List.drop_append_of_le_length (by simp)]
    simp
theorem suf_last (p : List UInt8) (c : UInt8) : hasSuf p [c] = true ↔ p.getLast? = some c := by
  rw [suf_iff]
  constructor
  · intro h; rw [h]; simp
  · intro h
    obtain ⟨ys, rfl⟩ := List.getLast?_eq_some_iff.1 h
    simp
theorem matches_ref (p s : List UInt8) : fitsB ((if hasSuf (normL p) [36] = true then (normL p).take ((normL p).length - 1) else normL p) ++ (if hasSuf (normL p) [36] = true then [] else [42])) s true = matchesB p s := by
  unfold matchesB
  by_cases h : hasSuf p [36] = true
  · have hp := (suf_iff p 36).1 h
    have hn : normL p = normL (p.take (p.length - 1)) ++ [36] := by
      conv => lhs; rw [hp]
      exact normL_dollar _
    have h2 : hasSuf (normL p) [36] = true := (suf_last _ _).2 (by rw [hn]; simp)
    rw [if_pos h, if_pos h2, if_pos h2, List.append_nil, hn]
    simp
  · have h2 : ¬ hasSuf (normL p) [36] = true := fun h2 => h ((suf_last _ _).2 (normL_last _ ((suf_last _ _).1 h2)))
    rw [if_neg h, if_neg h2, if_neg h2, fits_star]
/-- Matches: whether, and the error -/
def matchesR (p s : List UInt8) : Bool × Int := if patOk p = true then (if 2000 < s.length then (false, 2) else (matchesB p s, 0)) else (false, 3)

def V.toB : V → Bool
  | .bool b => b
  | _ => false
/-- the first place where p holds; -1: none -/
def findI (n : Nat) (p : Nat → Bool) : Int := match (List.range n).find? p with
  | some i => i
  | none => -1
def ckIndexB : Ck
  | [.sl n f, .bool b] => some (n ≤ 1152921504606846976 ∧ ∀ i, i < n → f i = .bool (f i).toB, .int .i64 (findI n fun i => b == (f i).toB))
  | _ => none
theorem findI_at {n : Nat} {p : Nat → Bool} {i : Nat} (hi : i < n) (h : p i = true) (hn : ∀ j, j < i → p j = false) : findI n p = i := by
  unfold findI
  have : (List.range n).find? p = some i := by
    rw [List.find?_range_eq_some]
    exact ⟨h, by simpa using hi, fun j hj => by simp [hn j hj]⟩
  rw [this]
theorem findI_no {n : Nat} {p : Nat → Bool} (hn : ∀ j, j < n → p j = false) : findI n p = -1 := by
  unfold findI
  have : (List.range n).find? p = none := by
    rw [List.find?_eq_none]
    intro j hj
    simp [hn j (by simpa using hj)]
  rw [this]
theorem conIndexB : Con pg 128 ckIndexB := by
  intro args q r h hq
  unfold ckIndexB at h
  split at h
  · cases h
    rename_i n f b
    generalize hg : (fun i => (f i).toB) = g at *
    refine pcall_args (args' := [.sl n fun i => .bool (g i), .bool b]) ⟨VLe.sl rfl fun i hi => by rw [hq.2 i hi, ← hg], VLe.refl _, trivial⟩ ?_
    have hr : (findI n fun i => b == (f i).toB) = findI n fun i => b == g i := by rw [← hg]
    rw [hr]
    refine w128 (fun _ => false) [] rfl (ctN_ok _) rfl rfl ?_
    push_cast (config := { maxSteps := 10000000 })
    refine LoopW.by ⟨ctN_ok _, fol⟩ (by kernel_rfl) (fun i : Nat => [(0, .sl n fun i => .bool (g i)), (1, .bool b), (7, .int .i64 n), (8, .int .i64 i)]) (fun _ => []) (fun i => i ≤ n ∧ ∀ j, j < i → (b == g j) = false) (fun i => n - i) 0 ?_ fun i hi => ?_
    · push_cast
      exact ⟨by omega, fun j hj => by omega⟩
    · push_cast (config := { maxSteps := 10000000 })
      refine ⟨fun h1 => ⟨by omega, fun h2 => (findI_at h1 (by simp [h2]) hi.2).symm, fun h2 => ⟨by omega, i + 1, ⟨by omega, fun j hj => ?_⟩, by omega, by omega⟩⟩, fun h1 => (findI_no fun j hj => hi.2 j (by omega)).symm⟩
      by_cases e : j = i
      · subst e; exact h2
      · simpa using hi.2 j (by omega)
  · cases h
attribute [push_cast] ckIndexB
def ckContainsB : Ck
  | [.sl n f, .bool b] => some (n ≤ 1152921504606846976 ∧ ∀ i, i < n → f i = .bool (f i).toB, .bool ((List.range n).any fun i => b == (f i).toB))
  | _ => none
theorem findI_any (n : Nat) (p : Nat → Bool) : decide (0 ≤ findI n p) = (List.range n).any p := by
  unfold findI
  cases h : (List.range n).find? p with
  | none =>
    rw [List.find?_eq_none] at h
    have : (List.range n).any p = false := by
      rw [List.any_eq_false]
      exact fun x hx => h x hx
    rw [this]; rfl
  | some i =>
    have h1 := List.find?_some h
    have h2 := List.mem_of_find?_eq_some h
    have : (List.range n).any p = true := List.any_eq_true.2 ⟨i, h2, h1⟩
    rw [this]; simp
theorem conContainsB : Con pg 104 ckContainsB := by
  intro args q r h hq
  unfold ckContainsB at h
  split at h
  · cases h
    refine w104 (fun _ => false) [] rfl (ctA_ok conIndexB (ctN_ok _)) rfl rfl ?_
    push_cast (config := { maxSteps := 10000000 })
    exact ⟨hq, findI_any _ _⟩
  · cases h
attribute [push_cast] ckContainsB V.toB

def ckFits : Ck
  | [.str p, .str s, .bool w] => some (p.length ≤ 1048576 ∧ s.length ≤ 1048576, .bool (fitsB p s w))
  | _ => none
theorem conFits : Con pg 77 ckFits := by
  have hct : CtOk pg (ctA 104 ckContainsB ctN) := ctA_ok conContainsB (ctN_ok _)
  intro args q r h hq
  unfold ckFits at h
  split at h
  · cases h
    rename_i p s w
    refine w77 (fun _ => false) [] rfl hct rfl rfl ?_
    push_cast (config := { maxSteps := 10000000 })
    refine ⟨?_, ?_, ?_, ?_, LoopW.adj ⟨hct, fol⟩ (by kernel_rfl) [.ren 26 15] (fun i : Nat => [(0, .str p), (1, .str s), (2, .bool w), (7, .vec 15 (s.length + 1)), (19, .int .i64 p.length), (20, .int .i64 i)]) (fun i => [(15, .vec 1 (s.length + 1) fun k => .bool (reachN p s i k))]) (fun i => i ≤ p.length) (fun i => p.length - i) 0 ?_ fun i hi => ?_⟩
    rotate_left 4
    · push_cast (config := { maxSteps := 10000000 })
      refine ⟨by omega, fun k hk => ?_⟩
      simp only [setF, reachN]
      by_cases hk0 : k = 0 <;> simp [hk0]
    · push_cast (config := { maxSteps := 10000000 })
      refine ⟨fun hip => ⟨by omega, by omega, LoopW.adj ⟨hct, fol⟩ (by kernel_rfl) [] (fun k : Nat => [(0, .str p), (1, .str s), (2, .bool w), (7, .vec 15 (s.length + 1)), (19, .int .i64 p.length), (20, .int .i64 i), (8, .int .i64 i), (9, .vec 26 (s.length + 1)), (10, .bool (decide ((p.getD i 0).toNat = 42) && (List.range k).any (reachN p s i))), (28, .int .i64 (s.length + 1 : Nat)), (29, .int .i64 k)])
        (fun k => [(15, .vec 1 (s.length + 1) fun k => .bool (reachN p s i k)), (26, .vec 1 (s.length + 1) fun j => .bool (decide (j < k) && reachN p s (i + 1) j))]) (fun k => k ≤ s.length + 1) (fun k => s.length + 1 - k) 0 ?_ fun k hk => ?_⟩, ?_⟩
      · push_cast (config := { maxSteps := 10000000 })
        exact ⟨by simp, fun j _ => by simp⟩
      · push_cast (config := { maxSteps := 10000000 })
        have c42 : ((((p.getD i 0).toNat : Nat) : Int) = 42) ↔ (p.getD i 0).toNat = 42 := by omega
        have any1 : (List.range (k + 1)).any (reachN p s i) = ((List.range k).any (reachN p s i) || reachN p s i k) := by simp [List.range_succ]
        refine ⟨fun h1 => ⟨by omega, fun h2 => ⟨fun h => (by first | exact h | exact ⟨h, by omega⟩ | omega), fun h => (by first | exact h | exact ⟨h, by omega⟩ | omega), by omega, by omega, by omega, k + 1, by omega, by omega, ⟨?_, by omega⟩, fun j hj => ?_⟩, fun h2 => ⟨fun h3 => ⟨by omega, by omega, by omega, fun h => (by first | exact h | exact ⟨h, by omega⟩ | omega), fun h => (by first | exact h | exact ⟨h, by omega⟩ | omega), fun h => (by first | exact h | exact ⟨h, by omega⟩ | omega), by omega, by omega, by omega, k + 1, by omega, by omega, ⟨?_, by omega⟩, fun j hj => ?_⟩, fun h3 => ⟨by omega, k + 1, by omega, by omega, ⟨?_, by omega⟩, fun j hj => ?_⟩⟩⟩, fun h1 => ⟨by omega, i + 1, by omega, by omega, by omega, fun j hj => ?_⟩⟩
        · rw [any1]; simp [-List.getD_eq_getElem?_getD, c42.1 h2]
        · simp only [setF]
          by_cases e : j = k
          · subst e; simp [-List.getD_eq_getElem?_getD, reachN, stepR, c42.1 h2, any1]
          · have : (j < k + 1) ↔ j < k := by omega
            simp [-List.getD_eq_getElem?_getD, e, this]
        · have : ¬ (p.getD i 0).toNat = 42 := fun h => h2 (c42.2 h)
          simp [-List.getD_eq_getElem?_getD, this]
        · have n42 : ¬ (p.getD i 0).toNat = 42 := fun h => h2 (c42.2 h)
          have hk1 : ((k : Int) - 1).toNat = k - 1 := by omega
          have hb : ∀ a b : Nat, ((a : Int) == (b : Int)) = (a == b) := fun a b => by rw [Bool.eq_iff_iff]; simp only [beq_iff_eq]; omega
          simp only [setF, hk1, hb]
          by_cases e : j = k
          · subst e
            have h0 : 0 < j := by omega
            simp [-List.getD_eq_getElem?_getD, reachN, stepR, n42, h0]
          · have : (j < k + 1) ↔ j < k := by omega
            simp [-List.getD_eq_getElem?_getD, e, this]
        · have : ¬ (p.getD i 0).toNat = 42 := fun h => h2 (c42.2 h)
          simp [-List.getD_eq_getElem?_getD, this]
        · have hk0 : k = 0 := by omega
          subst hk0
          by_cases e : j = 0
          · subst e
            have : ¬ (p.getD i 0).toNat = 42 := fun h => h2 (c42.2 h)
            simp [-List.getD_eq_getElem?_getD, reachN, stepR, this]
          · have : ¬ j < 1 := by omega
            simp [-List.getD_eq_getElem?_getD, this]
        · have : j < k := by omega
          simp [-List.getD_eq_getElem?_getD, this]
      · intro h1
        have hi' : i = p.length := by omega
        subst hi'
        refine ⟨fun h => ⟨by omega, by omega, by simp [fitsB, h]⟩, fun h => ?_⟩
        exact ⟨by omega, by simp [fitsB, h]⟩
    all_goals omega
  · cases h
attribute [push_cast] ckFits

def ckHexV : Ck
  | [.int .u8 c] => some (0 ≤ c ∧ c < 256 ∧ isHex c = true, .int .u8 (hexV c))
  | _ => none
theorem conHexV : Con pg 129 ckHexV := by
  intro args q r h hq
  unfold ckHexV at h
  split at h
  · cases h
    refine w129 (fun _ => false) [] rfl (ctA_ok conIsDig (ctN_ok _)) rfl rfl ?_
    push_cast (config := { maxSteps := 10000000 })
    rename_i c
    obtain ⟨h1, h2, h3⟩ := hq
    simp only [hexV]
    simp only [isHex, isDig, Bool.or_eq_true, Bool.and_eq_true, decide_eq_true_eq] at h3
    simp only [isDig, Bool.and_eq_true, decide_eq_true_eq, Bool.and_eq_false_imp, decide_eq_false_iff_not]
    refine ⟨fun h => ?_, fun h => ⟨fun h' => ?_, fun h' => ?_⟩⟩
    · rw [if_pos h]; omega
    · rw [if_neg (by omega), if_pos h']; omega
    · rw [if_neg (by omega), if_neg h']; omega
  · cases h
attribute [push_cast] ckHexV

def ckNormalRow : Ck
  | [.str s] => some (wfL s = true ∧ s.length ≤ 1073741824, .str (normL s))
  | _ => none
theorem conNormalRow : Con pg 106 ckNormalRow := by
  have hct := (ctA_ok conHexV (ctA_ok conIsLet (ctA_ok conIsDig (ctN_ok _))))
  intro args q r h hq
  unfold ckNormalRow at h
  split at h
  · cases h
    rename_i s
    refine w106 (fun _ => false) [] rfl hct rfl rfl ?_
    push_cast (config := { maxSteps := 10000000 })
    refine LoopW.adj ⟨hct, fol⟩ (by kernel_rfl) [.nv 3 21 1 (byF [])] (fun t : Nat × List UInt8 => [(0, .str s), (3, .vec 21 t.2.length), (4, .int .i64 t.1)]) (fun t => [(21, .vec 1 t.2.length (byF t.2))]) (fun t => t.1 ≤ s.length ∧ t.2 ++ normL (s.drop t.1) = normL s ∧ wfL (s.drop t.1) = true) (fun t => s.length - t.1) (0, []) ?_ fun t ht => ?_
    · push_cast (config := { maxSteps := 10000000 })
      simp [hq.1]
    · obtain ⟨i, l⟩ := t
      push_cast (config := { maxSteps := 10000000 })
      obtain ⟨h1, h2, h3⟩ : i ≤ s.length ∧ l ++ normL (s.drop i) = normL s ∧ wfL (s.drop i) = true := ht
      have hl : l.length ≤ s.length := by
        have k1 := congrArg List.length h2
        have k2 := normL_len s
        simp only [List.length_append] at k1; omega
      refine ⟨fun hi => ⟨hi, fun hc => ⟨hi, by omega, by omega, (i + 1, l ++ [s.getD i 0]), ⟨by simp; omega, ?_, ?_⟩, by simp; omega, by simp, by simp, fun j hj => ?_⟩, fun hc => ?_⟩, fun hn => ?_⟩
      · rw [normL_no hi (fun h => hc (by rw [h.1]; rfl))] at h2
        simpa using h2
      · exact wfL_no hi (fun h => hc (by rw [h]; rfl)) h3
      · exact appF_lit (bs := [s.getD i 0]) rfl hj
      · have hc' : s.getD i 0 = 37 := (u8_eq _ _).2 hc
        obtain ⟨k1, k2, k3, k4⟩ := wfL_hex hi hc' h3
        have hN1 := hexN_lt k2
        have hN2 := hexN_lt k3
        rw [or_hex k2 k3]
        have e := normL_hex k1 hc' k2 k3
        generalize hv : 16 * hexN (s.getD (i + 1) 0) + hexN (s.getD (i + 2) 0) = v at *
        have hv' : v < 256 := by omega
        have a1 := nib_and ⟨v, hv'⟩
        simp only at a1
        rw [a1, nib_shr]
        have hle := u8_lt (s.getD (i + 1) 0)
        have hle2 := u8_lt (s.getD (i + 2) 0)
        refine ⟨by omega, by omega, ⟨by omega, k2⟩, by omega, by omega, ⟨by omega, k3⟩, fun hf => ⟨by omega, by omega, by omega, (i + 3, l ++ [UInt8.ofNat v]), ⟨by simp; omega, ?_, k4⟩, by simp; omega, by simp; omega, by simp, fun j hj => ?_⟩, fun hf => ⟨by omega, by omega, by omega, by omega, by omega, (i + 3, l ++ [37, hexRow.getD (v / 16) 0, hexRow.getD (v % 16) 0]), ⟨by simp; omega, ?_, k4⟩, by simp; omega, by simp; omega, by simp, fun j hj => ?_⟩⟩
        · rw [e, encB, if_pos (by simp only [isFreeI]; grind)] at h2
          simpa using h2
        · refine appF_lit ?_ hj
          simp [ofNat_toNat hv']
        · rw [e, encB, if_neg (by simp only [isFreeI]; grind)] at h2
          simpa using h2
        · refine appF_lit ?_ hj
          have e1 : ((v : Int) / 16).toNat = v / 16 := by omega
          have e2 : ((v : Int) % 16).toNat = v % 16 := by omega
          simp [hexRow, e1, e2]
      · have : i = s.length := by omega
        subst this
        rw [bytesOf_byF]
        simpa [normL] using h2
  · cases h
attribute [push_cast] ckNormalRow

theorem normL_app {a b : List UInt8} (h : (37 : UInt8) ∉ a) : normL (a ++ b) = a ++ normL b := by
  induction a with
  | nil => rfl
  | cons c r ih =>
    have h1 : c ≠ 37 := fun e => h (by simp [e])
    have h2 := ih fun hm => h (by simp [hm])
    have := normL_no (s := c :: (r ++ b)) (i := 0) (by simp) (fun hh => h1 (by simpa using hh.1))
    simp only [List.drop_zero, List.getD_cons_zero] at this
    rw [List.cons_append, this]
    simp [h2]
def ckNormalRowS : Ck
  | [.str s] => some (s.length ≤ 1073741824, .str (normL s))
  | _ => none
theorem conNormalRowS : Con pg 78 ckNormalRowS := by
  have hct := (ctA_ok conIndexByte (ctA_ok conIsHex (ctA_ok conNormalRow (ctN_ok _))))
  intro args q r h hq
  unfold ckNormalRowS at h
  split at h
  · cases h
    rename_i s
    refine w78 (fun _ => false) [] rfl hct rfl rfl ?_
    push_cast (config := { maxSteps := 10000000 })
    refine LoopW.adj ⟨hct, fol⟩ (by kernel_rfl) [] (fun t : List UInt8 × List UInt8 => [(0, .str t.1), (3, .str t.2)]) (fun _ => []) (fun t => t.2 ++ normL t.1 = normL s ∧ t.1.length ≤ s.length) (fun t => t.1.length) (s, []) ?_ fun t ht => ?_
    · push_cast (config := { maxSteps := 10000000 })
      simp
    · obtain ⟨r, l⟩ := t
      push_cast (config := { maxSteps := 10000000 })
      obtain ⟨h1, h2⟩ : l ++ normL r = normL s ∧ r.length ≤ s.length := ht
      have key : ∀ k : Nat, Lib.indexByte r 37 = (k : Int) → normL r = r.take k ++ normL (r.drop k) ∧ k < r.length ∧ r.getD k 0 = 37 := fun k hk => ⟨by
        conv => lhs; rw [← List.take_append_drop k r]
        exact normL_app (idx_take_mem hk), (idx_at hk).1, (idx_at hk).2.1⟩
      have hl : l.length + (normL r).length ≤ s.length := by
        have k1 := congrArg List.length h1
        have k2 := normL_len s
        simp only [List.length_append] at k1; omega
      refine ⟨fun hr => ⟨fun hn => ?_, fun hn => ?_⟩, fun hr => ?_⟩
      · have := normL_app (a := r) (b := []) (idx_no_mem hn)
        simp [normL] at this
        rw [this] at h1
        exact ⟨by omega, h1⟩
      · obtain ⟨k, hk⟩ : ∃ k : Nat, Lib.indexByte r 37 = (k : Int) := ⟨(Lib.indexByte r 37).toNat, by omega⟩
        obtain ⟨k1, k2, k3⟩ := key k hk
        rw [hk]
        push_cast (config := { maxSteps := 10000000 })
        rw [k1] at h1
        refine ⟨by omega, fun h => by omega, fun h => by omega, fun h => ⟨h, by omega⟩, fun h => ⟨h, by omega⟩, fun h => ?_, fun h => ?_⟩
        · obtain ⟨⟨a1, a2⟩, a3⟩ := h
          have e := normL_hex (s := r) (i := k) (by omega) k3 a2 a3
          have e2 : normL ((r.drop k).take 3) = encB (16 * hexN (r.getD (k + 1) 0) + hexN (r.getD (k + 2) 0)) := by
            rw [drop_at (by omega : k < r.length), drop_at (by omega : k + 1 < r.length), drop_at (by omega : k + 1 + 1 < r.length)]
            simp only [List.take_succ_cons, List.take_zero, normL]
            rw [if_pos ⟨k3, a2, a3⟩, List.append_nil]
          have e3 : wfL ((r.drop k).take 3) = true := by
            rw [drop_at (by omega : k < r.length), drop_at (by omega : k + 1 < r.length), drop_at (by omega : k + 1 + 1 < r.length)]
            simp only [List.take_succ_cons, List.take_zero, wfL]
            rw [if_pos k3]
            simp only [Bool.and_true, Bool.and_eq_true]
            exact ⟨a2, a3⟩
          have e4 := normL_len ((r.drop k).take 3)
          simp only [List.length_take, List.length_drop] at e4
          refine ⟨by omega, by omega, by omega, by omega, ⟨e3, by omega⟩, by omega, by omega, by omega, (r.drop (k + 3), l ++ r.take k ++ normL ((r.drop k).take 3)), ⟨?_, by simp; omega⟩, by simp; omega, rfl, rfl⟩
          rw [e] at h1
          rw [e2]
          simpa using h1
        · have e := normL_no (s := r) (i := k) k2 (fun hh => by
            have := h ⟨by omega, hh.2.2.1⟩
            have h3 := hh.2.2.2
            simp only [isHexB] at h3
            rw [this] at h3; cases h3)
          refine ⟨by omega, by omega, by omega, by omega, by omega, (r.drop (k + 1), l ++ r.take (k + 1)), ⟨?_, by simp; omega⟩, by simp; omega, rfl, rfl⟩
          rw [e] at h1
          have : r.take (k + 1) = r.take k ++ [r.getD k 0] := by
            rw [List.take_add_one, List.getD_eq_getElem?_getD, List.getElem?_eq_getElem k2]; rfl
          rw [this]
          simpa using h1
      · subst hr
        simpa [normL] using h1
  · cases h
attribute [push_cast] ckNormalRowS

def ckHasSuf : Ck
  | [.str s, .str t] => some ((s.length : Int) ≤ 4611686018427387904, .bool (hasSuf s t))
  | _ => none
theorem conHasSuf : Con pg 127 ckHasSuf := by
  intro args q r h hq
  unfold ckHasSuf at h
  split at h
  · cases h
    refine w127 (fun _ => false) [] rfl (ctN_ok _) rfl rfl ?_
    push_cast (config := { maxSteps := 10000000 })
    rename_i s t
    exact ⟨by omega, by omega, by unfold hasSuf; rfl⟩
  · cases h
attribute [push_cast] ckHasSuf

def ckCutSuf : Ck
  | [.str s, .str t] => some ((s.length : Int) ≤ 4611686018427387904, .tup [.str (bif hasSuf s t then s.take (s.length - t.length) else s), .bool (hasSuf s t)])
  | _ => none
theorem conCutSuf1 : Con pg 103 ckCutSuf := by
  intro args q r h hq
  unfold ckCutSuf at h
  split at h
  · cases h
    refine w103 (fun _ => false) [] rfl (ctA_ok conHasSuf (ctN_ok _)) rfl rfl ?_
    push_cast (config := { maxSteps := 10000000 })
    rename_i s t
    have hlen : hasSuf s t = true → t.length ≤ s.length := fun h => by simp [hasSuf] at h; exact h.1
    refine ⟨hq, fun h => by simp [h], fun h => ?_⟩
    have := hlen h
    rw [h]
    exact ⟨by omega, by omega, rfl, rfl⟩
  · cases h
attribute [push_cast] ckCutSuf
theorem conCutSuf : Con pg 76 ckCutSuf := by
  intro args q r h hq
  unfold ckCutSuf at h
  split at h
  · cases h
    refine w76 (fun _ => false) [] rfl (ctA_ok conCutSuf1 (ctN_ok _)) rfl rfl ?_
    push_cast (config := { maxSteps := 10000000 })
    exact hq
  · cases h

def ckMatch : Ck
  | [.str p, .str s] => some (p.length ≤ 1048000 ∧ s.length ≤ 1048000, .bool (matchesB p s))
  | _ => none
theorem conMatch : Con pg 46 ckMatch := by
  have hct := (ctA_ok conFits (ctA_ok conNormalRowS (ctA_ok conCutSuf (ctN_ok _))))
  intro args q r h hq
  unfold ckMatch at h
  split at h
  · cases h
    rename_i p s
    refine w46 (fun _ => false) [] rfl hct rfl rfl ?_
    push_cast (config := { maxSteps := 10000000 })
    have := normL_len (if hasSuf p [36] = true then p.take (p.length - 1) else p)
    cases h : hasSuf p [36]
    · simp only [h, cond_false, Bool.false_eq_true, if_false] at this ⊢
      exact ⟨by omega, by omega, by omega, by simp [matchesB, h]⟩
    · simp only [h, cond_true, if_true] at this ⊢
      have h2 : (p.take (p.length - 1)).length ≤ p.length := by simp
      exact ⟨by omega, by omega, by omega, by simp [matchesB, h]⟩
  · cases h
attribute [push_cast] ckMatch

def ckMatches : Ck
  | [.str p, .str s] => some (True, .tup [.bool (matchesR p s).1, .int .i64 (matchesR p s).2])
  | _ => none
theorem conMatches : Con pg 22 ckMatches := by
  have hct := (ctA_ok conPat (ctA_ok conMatch (ctN_ok _)))
  intro args q r h hq
  unfold ckMatches at h
  split at h
  · cases h
    rename_i p s
    refine w22 (fun _ => false) [] rfl hct rfl rfl ?_
    push_cast (config := { maxSteps := 10000000 })
    refine ⟨fun h => by simp [matchesR, h], fun h => ⟨fun h2 => ?_, fun h2 => ?_⟩⟩
    · rw [matchesR, if_pos h, if_pos (by omega)]; simp
    · have := (patOk_iff p).1 h
      rw [matchesR, if_pos h, if_neg (by omega)]
      exact ⟨by omega, rfl, rfl⟩
  · cases h
attribute [push_cast] ckMatches

def ckAwake : Ck
  | [] => some (True, .bool true)
  | _ => none
theorem conAwake4 : Con pg 8 ckAwake := by
  have hct := (ctA_ok conMatches (ctN_ok _))
  intro args q r h hq
  unfold ckAwake at h
  split at h
  · cases h
    refine w8 (fun _ => false) [] rfl hct rfl rfl ?_
    push_cast (config := { maxSteps := 10000000 })
    decide
  · cases h
attribute [push_cast] ckAwake

/-- how a thing is coded -/
structure Cod (α : Type) where
  enc : α → V
  dec : V → α
  d : α
  ok : ∀ a, dec (enc a) = a
section
variable {α : Type} (c : Cod α)
def lsF (l : List α) : Nat → V := fun i => c.enc (l.getD i c.d)
/-- f's first n are the things l -/
def LsI (n : Nat) (f : Nat → V) (l : List α) : Prop := n = l.length ∧ ∀ i, i < n → f i = lsF c l i
def lsOf (n : Nat) (f : Nat → V) : List α := (List.range n).map fun i => c.dec (f i)
def isLs (n : Nat) (f : Nat → V) : Prop := LsI c n f (lsOf c n f)
variable {c}
theorem lsOf_len (n : Nat) (f : Nat → V) : (lsOf c n f).length = n := by simp [lsOf]
theorem LsI.ls (l : List α) : LsI c l.length (lsF c l) l := ⟨rfl, fun _ _ => rfl⟩
theorem LsI.of {n : Nat} {f : Nat → V} {l : List α} (h : LsI c n f l) : lsOf c n f = l := by
  obtain ⟨rfl, h⟩ := h
  apply List.ext_getElem
  · simp [lsOf]
  · intro i h1 h2
    simp only [lsOf, List.getElem_map, List.getElem_range]
    rw [h i h2]
    unfold lsF
    rw [c.ok, List.getD_eq_getElem?_getD, List.getElem?_eq_getElem h2]; rfl
theorem LsI.is {n : Nat} {f : Nat → V} {l : List α} (h : LsI c n f l) : isLs c n f := by unfold isLs; rw [h.of]; exact h
theorem LsI.vle {n : Nat} {f : Nat → V} {l : List α} (h : LsI c n f l) : VLe (.sl n f) (.sl l.length (lsF c l)) := VLe.sl h.1 h.2
theorem isLs.vle {n : Nat} {f : Nat → V} (h : isLs c n f) : VLe (.sl n f) (.sl (lsOf c n f).length (lsF c (lsOf c n f))) := LsI.vle h
theorem isLs_ls (l : List α) : isLs c l.length (lsF c l) := (LsI.ls l).is
theorem lsOf_ls (l : List α) : lsOf c l.length (lsF c l) = l := (LsI.ls l).of
theorem LsI.app {n m k : Nat} {f g : Nat → V} {a b : List α} (h1 : LsI c n f a) (h2 : LsI c m g b) (hk : k = n + m) : LsI c k (appF n f g) (a ++ b) := by
  obtain ⟨e1, h1⟩ := h1
  obtain ⟨e2, h2⟩ := h2
  refine ⟨by simp; omega, fun i hi => ?_⟩
  unfold appF
  by_cases h : i < n
  · rw [show decide (i < n) = true from by simp [h], cond_true, h1 i h]
    unfold lsF
    rw [List.getD_eq_getElem?_getD, List.getD_eq_getElem?_getD, List.getElem?_append_left (by omega)]
  · rw [show decide (i < n) = false from by simp [h], cond_false, h2 (i - n) (by omega)]
    unfold lsF
    rw [List.getD_eq_getElem?_getD, List.getD_eq_getElem?_getD, List.getElem?_append_right (by omega), e1]
theorem LsI.one {f : Nat → V} {a : α} (h : f 0 = c.enc a) : LsI c 1 f [a] := ⟨rfl, fun i hi => by
  have : i = 0 := by omega
  subst this
  exact h⟩
theorem LsI.nil (f : Nat → V) : LsI c 0 f [] := ⟨rfl, fun i hi => by omega⟩
theorem LsI.sh {n l k : Nat} {f : Nat → V} {s : List α} (h : LsI c n f s) (hk : l + k ≤ n) : LsI c k (shF f l) ((s.drop l).take k) := by
  obtain ⟨e, h⟩ := h
  refine ⟨by simp; omega, fun i hi => ?_⟩
  unfold shF
  rw [h (i + l) (by omega)]
  unfold lsF
  rw [List.getD_eq_getElem?_getD, List.getD_eq_getElem?_getD, List.getElem?_take_of_lt hi, List.getElem?_drop, Nat.add_comm]
theorem LsI.eq {n : Nat} {f : Nat → V} {s t : List α} (h : LsI c n f s) (e : s = t) : LsI c n f t := e ▸ h
theorem LsI.len {n m : Nat} {f : Nat → V} {s : List α} (h : LsI c n f s) (e : n = m) : LsI c m f s := e ▸ h
theorem LsI.pure {n : Nat} {f : Nat → V} {s : List α} (h : LsI c n f s) (hc : ∀ a, (c.enc a).isPure = true) : ∀ i, i < n → (f i).isPure = true := fun i hi => by rw [h.2 i hi]; exact hc _
theorem LsI.flat {n m : Nat} {f : Nat → V} {s : List α} (h : LsI c n f s) (hc : ∀ a, (c.enc a).flat.length = m) : ∀ i, i < n → (f i).flat.length = m := fun i hi => by rw [h.2 i hi]; exact hc _
end
/- strings -/
def decStr : V → List UInt8
  | .str s => s
  | _ => []
def cStr : Cod (List UInt8) := ⟨.str, decStr, [], fun _ => rfl⟩
@[push_cast] theorem lsF_str (l : List (List UInt8)) (i : Nat) : lsF cStr l i = .str (l.getD i []) := rfl
/- numbers -/
def decInt : V → Int
  | .int _ n => n
  | _ => 0
def cInt : Cod Int := ⟨.int .i64, decInt, 0, fun _ => rfl⟩
@[push_cast] theorem lsF_int (l : List Int) (i : Nat) : lsF cInt l i = .int .i64 (l.getD i 0) := rfl
/- a name and a value -/
structure Hd where
  name : List UInt8
  value : List UInt8
deriving DecidableEq
def decHd : V → Hd
  | .agg [.str a, .str b] => ⟨a, b⟩
  | _ => ⟨[], []⟩
def cHd : Cod Hd := ⟨fun h => .agg [.str h.name, .str h.value], decHd, ⟨[], []⟩, fun _ => rfl⟩
@[push_cast] theorem lsF_hd (l : List Hd) (i : Nat) : lsF cHd l i = .agg [.str (l.getD i ⟨[], []⟩).name, .str (l.getD i ⟨[], []⟩).value] := rfl
/- lists, place by place -/
theorem all_at' {α : Type} {p : α → Bool} {d : α} {s : List α} (h : ∀ j, j < s.length → p (s.getD j d) = true) : s.all p = true := by
  rw [List.all_eq_true]
  intro x hx
  obtain ⟨j, hj, rfl⟩ := List.getElem_of_mem hx
  have := h j hj
  rwa [List.getD_eq_getElem?_getD, List.getElem?_eq_getElem hj] at this
theorem all_no' {α : Type} {p : α → Bool} {d : α} {s : List α} {j : Nat} (hj : j < s.length) (h : p (s.getD j d) = false) : s.all p = false := by
  rw [List.all_eq_false]
  refine ⟨s[j], List.getElem_mem hj, ?_⟩
  rw [List.getD_eq_getElem?_getD, List.getElem?_eq_getElem hj] at h
  simpa using h
theorem dropG {α : Type} {d : α} {s : List α} {i : Nat} (h : i < s.length) : s.drop i = s.getD i d :: s.drop (i + 1) := by
  rw [List.drop_eq_getElem_cons h, List.getD_eq_getElem?_getD, List.getElem?_eq_getElem h]; rfl
theorem takeG {α : Type} {d : α} {s : List α} {k : Nat} (h : k < s.length) : s.take (k + 1) = s.take k ++ [s.getD k d] := by
  rw [List.take_add_one, List.getD_eq_getElem?_getD, List.getElem?_eq_getElem h]; rfl
@[push_cast] theorem appF_z (f g : Nat → V) : appF 0 f g = g := by funext i; simp [appF]
attribute [push_cast] Nat.zero_add Nat.not_lt_zero
@[push_cast] theorem litF_zero (x : V) (l : List V) : litF (x :: l) 0 = x := rfl
@[push_cast] theorem litF_succ (x : V) (l : List V) (k : Nat) : litF (x :: l) (k + 1) = litF l k := by simp [litF]
@[push_cast] theorem ble_dec (a b : Nat) : Nat.ble a b = decide (a ≤ b) := by
  rw [Bool.eq_iff_iff, Nat.ble_eq]; simp
attribute [push_cast] lsOf_ls bytesOf_by
@[push_cast] theorem isLs_lsT {α : Type} {c : Cod α} (l : List α) : isLs c l.length (lsF c l) = True := eq_true (isLs_ls l)
@[push_cast] theorem isBy_byT (s : List UInt8) : isBy s.length (byF s) = True := eq_true (isBy_by s)
@[push_cast] theorem hd_eta (h : Hd) : (⟨h.name, h.value⟩ : Hd) = h := rfl
@[push_cast] theorem kill_by (d : Nat) (s : List UInt8) (i : Nat) : V.kill d (byF s i) = byF s i := rfl
@[push_cast] theorem frz_by (d z n : Nat) (f : Nat → V) (s : List UInt8) (i : Nat) : frzV d z n f (byF s i) = byF s i := rfl
@[push_cast] theorem pure_by (s : List UInt8) (i : Nat) : (byF s i).isPure = true := rfl
@[push_cast] theorem ren_by (a b : Nat) (s : List UInt8) (i : Nat) : V.ren a b (byF s i) = byF s i := rfl
@[push_cast] theorem beq_dec (a b : Nat) : Nat.beq a b = decide (a = b) := by
  rw [Bool.eq_iff_iff]; simp

theorem maxLen {w : World} (h : pg.ok w) : ∃ m, w.cell? ⟨0, 0, none⟩ = some (.int .i64 m) := by
  obtain ⟨w0, ⟨_, h1⟩, h2⟩ := h
  obtain ⟨m, hm⟩ := (Tryz.laysM146).s1_3 w0 h1
  exact ⟨m, by rw [cell_same (h2 0 (by decide))]; exact hm⟩
theorem grow_drewN (w : World) (n : Nat) : World.grow w (w.drewN n) := ⟨rfl, rfl, rfl, Nat.le_refl _, fun _ _ => rfl⟩
def ckCut : Ck
  | [.str s, .str sep] => some (s.length < 4294967281, .tup [.str (Lib.cut s sep).1, .str (Lib.cut s sep).2.1, .bool (Lib.cut s sep).2.2])
  | _ => none
attribute [push_cast] ckCut
def ckContains : Ck
  | [.str s, .str sub] => some (s.length < 4294967281, .bool (Lib.contains s sub))
  | _ => none
attribute [push_cast] ckContains
/-- the parts of a string between a byte -/
def splitL (s : List UInt8) (c : UInt8) : List (List UInt8) := (Lib.splitB ⟨#[c]⟩ 0 (Lib.countB ⟨s.toArray⟩ ⟨#[c]⟩) ⟨s.toArray⟩).map fun b => b.data.toList
def ckSplit : Ck
  | [.str s, .str [c]] => some (s.length < 4294967281, .sl (splitL s c).length (lsF cStr (splitL s c)))
  | _ => none
theorem conSplit : Con pg 114 ckSplit := by
  intro args q r h hq
  unfold ckSplit at h
  split at h
  · cases h
    rename_i s c
    refine pcall_shelf2 (by kernel_rfl) rfl fun w hw => ?_
    obtain ⟨m, hm⟩ := maxLen hw
    refine (Tryz.strings_Split ⟨s.toArray⟩ ⟨#[c]⟩ m w (by show s.toArray.size < _; simpa using hq) hm (Nat.le_refl 1)).mono fun e w' h => ?_
    have hl : (splitL s c).length = Lib.countB ⟨s.toArray⟩ ⟨#[c]⟩ + 1 := by
      unfold splitL
      rw [List.length_map]
      exact Lib.splitB_all ⟨#[c]⟩ (Nat.le_refl 1) 0 _ _ rfl
    refine shelf_strs (l := fun i => (splitL s c).getD i []) (by rw [hl]; exact h.1) h.2 (by omega) (fun i hi => ?_) fun i hi => rfl
    unfold splitL at hi ⊢
    rw [List.length_map] at hi
    simp [List.getD_eq_getElem?_getD, List.getElem?_eq_getElem hi]
  · cases h
attribute [push_cast] ckSplit

end Go.Abs
