/- what functions of this program compute: contracts, each a function's own -/
import Derived.Test.YtppjlnagihefoaaDoorAbsA44
import Derived.Test.YtppjlnagihefoaaDoorAbsFacts
import Derived.Test.YtppjlnagihefoaaDoorAbsF1
import Derived.Test.YtppjlnagihefoaaDoorAbsShelf
import Derived.Lib.Walk
import Derived.Lib.BitFns
import Derived.Lib.TrailingZeros
import Derived.Lib.ItoaLen
namespace Go.Abs
open Go Go.Proofs
set_option maxHeartbeats 4000000
set_option maxRecDepth 100000
set_option linter.unusedVariables false
set_option linter.unusedSimpArgs false
def paddedL (n k : Int) : List UInt8 := Lib.repeatL [48] (max 0 (k - (Lib.itoa n).length)).toNat ++ Lib.itoa n
def ckPadded : Ck
  | [.int .i64 n, .int .i64 k] => some (-9223372036854775808 ≤ n ∧ n ≤ 9223372036854775807 ∧ 0 ≤ k ∧ k ≤ 1000, .str (paddedL n k))
  | _ => none
theorem paddedL_len {n k : Int} (h1 : -9223372036854775808 ≤ n) (h2 : n ≤ 9223372036854775807) (h3 : 0 ≤ k) (h4 : k ≤ 1000) : (paddedL n k).length ≤ 1021 := by
  have := Lib.itoa_length_le n h1 h2
  unfold paddedL
  simp only [List.length_append, Lib.repeatL_length, List.length_cons, List.length_nil]
  omega
theorem conPadded : Con pg 28 ckPadded := by
  have hct := (ctA_ok conItoa (ctA_ok conRepeat (ctN_ok _)))
  intro args q r h hq
  unfold ckPadded at h
  split at h
  · cases h
    rename_i n k
    refine w28 (fun _ => false) [] rfl hct rfl rfl ?_
    push_cast (config := { maxSteps := 10000000 })
    have := Lib.itoa_length_le n hq.1 hq.2.1
    have e : (Lib.repeatL [48] (max 0 (k - (Lib.itoa n).length)).toNat).length = (max 0 (k - (Lib.itoa n).length)).toNat := by simp [Lib.repeatL_length]
    refine ⟨by omega, by omega, by omega, by omega, rfl⟩
  · cases h
attribute [push_cast] ckPadded
def wdN : List (List UInt8) := [[77, 111, 110], [84, 117, 101], [87, 101, 100], [84, 104, 117], [70, 114, 105], [83, 97, 116], [83, 117, 110]]
def mnN : List (List UInt8) := [[74, 97, 110], [70, 101, 98], [77, 97, 114], [65, 112, 114], [77, 97, 121], [74, 117, 110], [74, 117, 108], [65, 117, 103], [83, 101, 112], [79, 99, 116], [78, 111, 118], [68, 101, 99]]
def ckWeekdays : Ck
  | [] => some (True, .sl 7 fun i => .str (wdN.getD i []))
  | _ => none
theorem conWeekdays : Con pg 27 ckWeekdays := by
  have hct := ctN_ok pg
  intro args q r h hq
  unfold ckWeekdays at h
  split at h
  · cases h
    refine w27 (fun _ => false) [] rfl hct rfl rfl ?_
    push_cast (config := { maxSteps := 10000000 })
    intro i hi
    rcases (by omega : i = 0 ∨ i = 1 ∨ i = 2 ∨ i = 3 ∨ i = 4 ∨ i = 5 ∨ i = 6) with rfl | rfl | rfl | rfl | rfl | rfl | rfl <;> rfl
  · cases h
attribute [push_cast] ckWeekdays
def ckMonths : Ck
  | [] => some (True, .sl 12 fun i => .str (mnN.getD i []))
  | _ => none
theorem conMonths : Con pg 29 ckMonths := by
  have hct := ctN_ok pg
  intro args q r h hq
  unfold ckMonths at h
  split at h
  · cases h
    refine w29 (fun _ => false) [] rfl hct rfl rfl ?_
    push_cast (config := { maxSteps := 10000000 })
    intro i hi
    rcases (by omega : i = 0 ∨ i = 1 ∨ i = 2 ∨ i = 3 ∨ i = 4 ∨ i = 5 ∨ i = 6 ∨ i = 7 ∨ i = 8 ∨ i = 9 ∨ i = 10 ∨ i = 11) with rfl | rfl | rfl | rfl | rfl | rfl | rfl | rfl | rfl | rfl | rfl | rfl <;> rfl
  · cases h
attribute [push_cast] ckMonths
theorem yearF_b (d : Int) : ∀ (n : Nat) (y : Int), daysI y 1 ≤ d → y ≤ yearF d n y ∧ daysI (yearF d n y) 1 ≤ d
  | 0, y, h => ⟨Int.le_refl _, h⟩
  | n + 1, y, h => by
    simp only [yearF]
    split
    · rename_i h1
      have := yearF_b d n (y + 1) h1
      exact ⟨by omega, this.2⟩
    · exact ⟨Int.le_refl _, h⟩
theorem monthF_b (y d : Int) : ∀ (n : Nat) (m : Int), 1 ≤ m → m ≤ 12 → daysI y m ≤ d → 1 ≤ monthF y d n m ∧ monthF y d n m ≤ 12 ∧ daysI y (monthF y d n m) ≤ d
  | 0, m, h1, h2, h => ⟨h1, h2, h⟩
  | n + 1, m, h1, h2, h => by
    simp only [monthF]
    split
    · rename_i h3
      exact monthF_b y d n (m + 1) (by omega) (by omega) h3.2
    · exact ⟨h1, h2, h⟩
theorem date_b {d : Int} (h0 : 0 ≤ d) (h1 : d ≤ 2932896) : 1970 ≤ yearI d ∧ yearI d ≤ 10100 ∧ 1 ≤ monthI d ∧ monthI d ≤ 12 ∧ -800000 ≤ daysI (yearI d) (monthI d) ∧ daysI (yearI d) (monthI d) ≤ d := by
  have a := yearF_b d 1000 _ (daysI_y0 d h0 h1)
  have hy : 1970 ≤ yearI d := by have := a.1; unfold yearI; omega
  have hd : daysI (yearI d) 1 ≤ d := a.2
  have b := monthF_b (yearI d) d 12 1 (by omega) (by omega) hd
  have c := daysI_lo hd (by omega) h1
  refine ⟨hy, c, b.1, b.2.1, ?_, b.2.2⟩
  have := monthsSum_b (yearI d) (monthI d - 1).toNat
  unfold daysI
  omega
theorem wdN_b (i : Nat) : (wdN.getD i []).length ≤ 3 := by
  by_cases h : i < 7
  · rcases (by omega : i = 0 ∨ i = 1 ∨ i = 2 ∨ i = 3 ∨ i = 4 ∨ i = 5 ∨ i = 6) with rfl | rfl | rfl | rfl | rfl | rfl | rfl <;> decide
  · rw [List.getD_eq_getElem?_getD, List.getElem?_eq_none (by simp [wdN]; omega)]; simp
theorem mnN_b (i : Nat) : (mnN.getD i []).length ≤ 3 := by
  by_cases h : i < 12
  · rcases (by omega : i = 0 ∨ i = 1 ∨ i = 2 ∨ i = 3 ∨ i = 4 ∨ i = 5 ∨ i = 6 ∨ i = 7 ∨ i = 8 ∨ i = 9 ∨ i = 10 ∨ i = 11) with rfl | rfl | rfl | rfl | rfl | rfl | rfl | rfl | rfl | rfl | rfl | rfl <;> decide
  · rw [List.getD_eq_getElem?_getD, List.getElem?_eq_none (by simp [mnN]; omega)]; simp
def dateTextL (n : Int) : List UInt8 :=
  let d := n / 86400
  let y := yearI d
  let m := monthI d
  wdN.getD ((d + 3) % 7).toNat [] ++ [44, 32] ++ paddedL (d - daysI y m + 1) 2 ++ [32] ++ mnN.getD (m - 1).toNat [] ++ [32] ++ paddedL y 4 ++ [32] ++ paddedL (n % 86400 / 3600) 2 ++ [58] ++ paddedL (n % 86400 / 60 % 60) 2 ++ [58] ++ paddedL (n % 86400 % 60) 2 ++ [32, 71, 77, 84]
def ckDateText0 : Ck
  | [.int .i64 n] => some (0 ≤ n ∧ n ≤ 253402300799, .str (dateTextL n))
  | _ => none
theorem conDateText0 : Con pg 20 ckDateText0 := by
  have hct := (ctA_ok conDateOf (ctA_ok conWeekdays (ctA_ok conMonths (ctA_ok conPadded (ctN_ok _)))))
  intro args q r h hq
  unfold ckDateText0 at h
  split at h
  · cases h
    rename_i n
    refine w20 (fun _ => false) [] rfl hct rfl rfl ?_
    push_cast (config := { maxSteps := 10000000 })
    (repeat (refine ⟨by omega, ?_⟩))
    unfold dateI
    push_cast (config := { maxSteps := 10000000 })
    have h0 : 0 ≤ n / 86400 ∧ n / 86400 ≤ 2932896 := by omega
    have b := date_b h0.1 h0.2
    have l1 := wdN_b ((n / 86400 + 3) % 7).toNat
    have l2 := mnN_b (monthI (n / 86400) - 1).toNat
    have l3 := paddedL_len (n := n / 86400 - daysI (yearI (n / 86400)) (monthI (n / 86400)) + 1) (k := 2) (by omega) (by omega) (by omega) (by omega)
    have l4 := paddedL_len (n := yearI (n / 86400)) (k := 4) (by omega) (by omega) (by omega) (by omega)
    have l5 := paddedL_len (n := n % 86400 / 3600) (k := 2) (by omega) (by omega) (by omega) (by omega)
    have l6 := paddedL_len (n := n % 86400 / 60 % 60) (k := 2) (by omega) (by omega) (by omega) (by omega)
    have l7 := paddedL_len (n := n % 86400 % 60) (k := 2) (by omega) (by omega) (by omega) (by omega)
    (repeat (refine ⟨by omega, ?_⟩))
    simp [dateTextL]
  · cases h
attribute [push_cast] ckDateText0
def ckIsMoment : Ck
  | [.int .i64 n] => some (True, .bool (decide (0 ≤ n) && decide (n ≤ 253402300799)))
  | _ => none
theorem conIsMoment : Con pg 19 ckIsMoment := by
  have hct := ctN_ok pg
  intro args q r h hq
  unfold ckIsMoment at h
  split at h
  · cases h
    rename_i n
    refine w19 (fun _ => false) [] rfl hct rfl rfl ?_
    push_cast (config := { maxSteps := 10000000 })
    skip
  · cases h
attribute [push_cast] ckIsMoment
def ckDateText : Ck
  | [.int .i64 n] => some (-9223372036854775808 ≤ n ∧ n ≤ 9223372036854775807, .tup [.str (if 0 ≤ n ∧ n ≤ 253402300799 then dateTextL n else []), .int .i64 (if 0 ≤ n ∧ n ≤ 253402300799 then 0 else 1)])
  | _ => none
theorem conDateText : Con pg 13 ckDateText := by
  have hct := (ctA_ok conIsMoment (ctA_ok conDateText0 (ctN_ok _)))
  intro args q r h hq
  unfold ckDateText at h
  split at h
  · cases h
    rename_i n
    refine w13 (fun _ => false) [] rfl hct rfl rfl ?_
    push_cast (config := { maxSteps := 10000000 })
    refine ⟨fun h => ?_, fun h => ?_⟩
    · have h' : ¬(0 ≤ n ∧ n ≤ 253402300799) := fun hh => h hh.1 hh.2
      rw [if_neg h', if_neg h']; exact ⟨rfl, rfl⟩
    · rw [if_pos h, if_pos h]; exact ⟨h, rfl, rfl⟩
  · cases h
attribute [push_cast] ckDateText

def awakeL : List UInt8 := [84, 104, 117, 44, 32, 48, 49, 32, 74, 97, 110, 32, 49, 57, 55, 48, 32, 48, 48, 58, 48, 48, 58, 48, 48, 32, 71, 77, 84]
theorem dateText_0 : dateTextL 0 = awakeL := by
  have e0 : yearI 0 = 1970 := by
    unfold yearI
    rw [show (1970 : Int) + 0 / 366 = 1970 from rfl, show (1000 : Nat) = 999 + 1 from rfl]
    simp only [yearF]
    rw [daysI_1, if_neg (by omega)]
  have e1 : monthI 0 = 1 := by
    unfold monthI
    rw [e0, show (12 : Nat) = 11 + 1 from rfl]
    simp only [monthF]
    rw [if_neg]
    rintro ⟨_, h⟩
    unfold daysI at h
    revert h; decide
  have e2 : daysI 1970 1 = 0 := by rw [daysI_1]; omega
  have i1 : Lib.itoa 1 = [49] := by unfold Lib.itoa; rw [if_neg (by omega)]; exact Lib.decDigits_one (i := 1) (by omega)
  have i0 : Lib.itoa 0 = [48] := by unfold Lib.itoa; rw [if_neg (by omega)]; exact Lib.decDigits_one (i := 0) (by omega)
  have i2 : Lib.itoa 1970 = [49, 57, 55, 48] := by
    unfold Lib.itoa; rw [if_neg (by omega)]
    rw [show (1970 : Int).toNat = 1970 from rfl]
    rw [Lib.decDigits, dif_neg (by omega), Lib.decDigits, dif_neg (by omega), Lib.decDigits_two (by omega) (by omega)]
    rfl
  unfold dateTextL
  rw [show (0 : Int) / 86400 = 0 from rfl]
  simp only [e0, e1, e2]
  unfold paddedL
  rw [show (0 : Int) - 0 + 1 = 1 from rfl, show (0 : Int) % 86400 / 3600 = 0 from rfl, show (0 : Int) % 86400 / 60 % 60 = 0 from rfl, show (0 : Int) % 86400 % 60 = 0 from rfl, i1, i0, i2]
  rfl
def ckAwake2 : Ck
  | [] => some (True, .bool true)
  | _ => none
theorem conAwake2 : Con pg 6 ckAwake2 := by
  have hct := (ctA_ok conDateText (ctN_ok _))
  intro args q r h hq
  unfold ckAwake2 at h
  split at h
  · cases h
    refine w6 (fun _ => false) [] rfl hct rfl rfl ?_
    push_cast (config := { maxSteps := 10000000 })
    rw [dateText_0]
    rfl
  · cases h
attribute [push_cast] ckAwake2

def ckRC2 : Ck
  | [.nilsl] => some (True, .tup [.sl (readC []).1.length (byF (readC []).1), .int .i64 (readC []).2.1, .int .i64 (readC []).2.2.1, .int .i64 (readC []).2.2.2])
  | x => ckReadChunks x
theorem conRC2 : Con pg 7 ckRC2 := by
  intro args q r h hq
  unfold ckRC2 at h
  split at h
  · cases h
    refine pcall_args (args' := [.sl 0 (byF [])]) ⟨VLe.nilsl _, trivial⟩ ?_
    exact conReadChunks _ _ _ rfl ⟨isBy_by [], by omega⟩
  · exact conReadChunks _ _ _ h hq
attribute [push_cast] ckRC2
def ckLawCB : Ck
  | [.sl n f, .int .i64 k, .int .i64 g] => some (isBy n f ∧ -9223372036854775808 ≤ g ∧ g ≤ 9223372036854775807, .bool true)
  | _ => none
theorem chunksR_ok {k : Int} {s : List UInt8} : ((chunksR k s).2 ≠ 0 → (chunksR k s).1.length = 0) ∧ ((chunksR k s).2 = 0 → s.length ≤ 200000 ∧ 1 ≤ k ∧ k ≤ 65536 ∧ (chunksR k s).1 = chunksL k.toNat s) := by
  unfold chunksR
  split
  · simp
  · split
    · simp
    · refine ⟨fun h => absurd rfl h, fun _ => ⟨by omega, by omega, by omega, rfl⟩⟩
theorem back_facts {k : Int} {s : List UInt8} (h : (chunksR k s).2 = 0) : readC (chunksR k s).1 = (s, (chunksR k s).1.length, 0, 0) ∧ (chunksR k s).1.length ≤ 140737488355328 ∧ s.length ≤ 200000 ∧ ∀ j, j < (chunksR k s).1.length → ∃ i a, readC ((chunksR k s).1.take j) = (s.take i, a, j, 15) := by
  obtain ⟨h1, h2, h3, h4⟩ := chunksR_ok.2 h
  rw [h4]
  have hl := chunksL_len (k := k.toNat) (by omega) (by omega) _ s (Nat.le_refl _)
  exact ⟨readC_all (by omega) (by omega) h1, by omega, h1, fun j hj => readC_part (by omega) (by omega) h1 hj⟩
theorem conLawCB : Con pg 3 ckLawCB := by
  have hct := ctA_ok conChunks (ctA_ok conRC2 (ctA_ok conBEqual (ctA_ok conBHasPrefix (ctA_ok conAwake2 (ctN_ok pg)))))
  intro args q r h hq
  unfold ckLawCB at h
  split at h
  · cases h
    rename_i n f k g
    refine pcall_args (args' := [.sl (bytesOf n f).length (byF (bytesOf n f)), .int .i64 k, .int .i64 g]) ⟨hq.1.vle, VLe.refl _, VLe.refl _, trivial⟩ ?_
    obtain ⟨_, hg1, hg2⟩ := hq
    generalize bytesOf n f = s
    have ib := isBy_by s
    have ibb := bytesOf_by s
    refine w3 (fun _ => false) [] rfl hct rfl rfl ?_
    push_cast (config := { maxSteps := 10000000 })
    rw [ibb]
    have hno := (chunksR_ok (k := k) (s := s)).1
    have hyes := back_facts (k := k) (s := s)
    generalize chunksR k s = R at hno hyes ⊢
    obtain ⟨L, e⟩ := R
    simp only at hno hyes ⊢
    have iL := isBy_by L
    have iLL := bytesOf_by L
    rw [iLL]
    refine ⟨ib, fun he => by have := hno he; omega, fun he => ?_⟩
    obtain ⟨r1, r2, r3, r4⟩ := hyes he
    rw [r1]
    simp only
    rw [ibb]
    refine ⟨⟨iL, r2⟩, fun _ => ⟨⟨⟨rfl, rfl⟩, trivial⟩, ib, ib⟩, fun h => by simp at h, fun _ hg => ⟨by omega, by omega, by omega, ?_⟩⟩
    by_cases hz : (L.length : Int) - g = 0
    · obtain ⟨i, a, hr⟩ := r4 0 (by omega)
      rw [List.take_zero] at hr
      simp only [hz, decide_true, cond_true]
      push_cast (config := { maxSteps := 10000000 })
      rw [hr]
      have it := isBy_by (s.take i)
      have itt := bytesOf_by (s.take i)
      simp only
      push_cast (config := { maxSteps := 10000000 })
      rw [List.length_take] at it itt
      have et : s.take (min i s.length) = s.take i := by simp [List.take_eq_take_iff]
      rw [ibb, itt, et]
      exact ⟨by omega, fun h => ⟨h, ib, it, by omega, by omega⟩, by omega, by omega, rfl⟩
    · obtain ⟨j, hj⟩ : ∃ j : Nat, (L.length : Int) - g = j := ⟨((L.length : Int) - g).toNat, by omega⟩
      obtain ⟨i, a, hr⟩ := r4 j (by omega)
      have bj := ByI.sh (l := 0) (k := j) (ByI.by L) (by omega)
      rw [List.drop_zero] at bj
      simp only [hz, decide_false, cond_false]
      push_cast (config := { maxSteps := 10000000 })
      rw [hj]
      simp only [Int.toNat_natCast]
      rw [bj.bytes, hr]
      have it := isBy_by (s.take i)
      have itt := bytesOf_by (s.take i)
      simp only
      rw [ibb, itt]
      have hlt : (s.take i).length ≤ s.length := by simp; omega
      have et : s.take (s.take i).length = s.take i := by simp [List.take_eq_take_iff]
      exact ⟨⟨bj.is, by omega⟩, fun h => ⟨h, by omega, by omega⟩, fun h => ⟨h, ib, it, by omega, by omega⟩, ⟨rfl, trivial⟩, hlt, et⟩
  · cases h
theorem allLawCB {H : Type} (ds : List (DataW H)) (hh : hasD [.list (.int .u8), .int .i64, .int .i64] ds) : PCall pg 3 (ds.map toV) (.bool true) := by
  obtain ⟨d1, d2, d3, rfl, a, b, c⟩ := hasD3 hh
  obtain ⟨n, f, e1, h1, _⟩ := shBytes a
  obtain ⟨k, e2, _⟩ := shInt b
  obtain ⟨g, e3, w⟩ := shInt c
  simp only [List.map_cons, List.map_nil, e1, e2, e3]
  simp only [Lit.wf, Bool.and_eq_true, decide_eq_true_eq] at w
  have m1 : IntKind.i64.min = -9223372036854775808 := rfl
  have m2 : IntKind.i64.max = 9223372036854775807 := rfl
  exact conLawCB _ _ _ rfl ⟨h1, by omega, by omega⟩

end Go.Abs
