/- what functions of this program compute: contracts, each a function's own -/
import Derived.Test.YtpamahgbkmcpoaaDoorAbsK2
import Derived.Test.YtpamahgbkmcpoaaDoorAbsFacts
import Derived.Test.YtpamahgbkmcpoaaDoorAbsF0
import Derived.Test.YtpamahgbkmcpoaaDoorAbsShelf
import Derived.Lib.ItoaLen
import Derived.Lib.SlTrimSet
import Derived.Lib.Atoi
import Derived.Lib.Itoa
import Derived.Lib.ItoaNum
import Derived.Lib.AtoiErrMem
namespace Go.Abs
open Go Go.Proofs
set_option maxHeartbeats 4000000
set_option maxRecDepth 100000
set_option linter.unusedVariables false
set_option linter.unusedSimpArgs false
theorem u8n {a b : Int} (h : a = b) : UInt8.ofNat a.toNat = UInt8.ofNat b.toNat := by rw [h]
theorem padded2 {n : Int} (h0 : 0 ≤ n) (h1 : n ≤ 99) : paddedL n 2 = twoL n := by
  obtain ⟨k, rfl⟩ : ∃ k : Nat, n = k := ⟨n.toNat, by omega⟩
  unfold paddedL twoL
  rw [itoa_nat]
  by_cases h : k < 10
  · rw [dec_small h]
    rw [show (48 + (k : Int) / 10 % 10).toNat = 48 by omega, show (48 + (k : Int) % 10).toNat = 48 + k by omega]
    rfl
  · rw [dec_step (by omega), dec_small (by omega)]
    rw [show (48 + (k : Int) / 10 % 10).toNat = 48 + k / 10 by omega, show (48 + (k : Int) % 10).toNat = 48 + k % 10 by omega]
    rfl
theorem padded4 {n : Int} (h0 : 1000 ≤ n) (h1 : n ≤ 9999) : paddedL n 4 = twoL (n / 100) ++ twoL n := by
  obtain ⟨k, rfl⟩ : ∃ k : Nat, n = k := ⟨n.toNat, by omega⟩
  unfold paddedL twoL
  rw [itoa_nat, dec_step (by omega), dec_step (n := k / 10) (by omega), dec_step (n := k / 10 / 10) (by omega), dec_small (by omega)]
  rw [show (48 + (k : Int) / 100 / 10 % 10).toNat = 48 + k / 10 / 10 / 10 by omega, show (48 + (k : Int) / 100 % 10).toNat = 48 + k / 10 / 10 % 10 by omega, show (48 + (k : Int) / 10 % 10).toNat = 48 + k / 10 % 10 by omega, show (48 + (k : Int) % 10).toNat = 48 + k % 10 by omega]
  rfl
theorem dayName (d : Int) : List.take ((3 * ((d + 4) % 7) + 3).toNat - (3 * ((d + 4) % 7)).toNat) (List.drop (3 * ((d + 4) % 7)).toNat ([83, 117, 110, 77, 111, 110, 84, 117, 101, 87, 101, 100, 84, 104, 117, 70, 114, 105, 83, 97, 116] : List UInt8)) = wdN.getD ((d + 3) % 7).toNat [] := by
  rcases (by omega : d % 7 = 0 ∨ d % 7 = 1 ∨ d % 7 = 2 ∨ d % 7 = 3 ∨ d % 7 = 4 ∨ d % 7 = 5 ∨ d % 7 = 6) with h | h | h | h | h | h | h
  · rw [show (d + 4) % 7 = 4 by omega, show (d + 3) % 7 = 3 by omega]; rfl
  · rw [show (d + 4) % 7 = 5 by omega, show (d + 3) % 7 = 4 by omega]; rfl
  · rw [show (d + 4) % 7 = 6 by omega, show (d + 3) % 7 = 5 by omega]; rfl
  · rw [show (d + 4) % 7 = 0 by omega, show (d + 3) % 7 = 6 by omega]; rfl
  · rw [show (d + 4) % 7 = 1 by omega, show (d + 3) % 7 = 0 by omega]; rfl
  · rw [show (d + 4) % 7 = 2 by omega, show (d + 3) % 7 = 1 by omega]; rfl
  · rw [show (d + 4) % 7 = 3 by omega, show (d + 3) % 7 = 2 by omega]; rfl
theorem conDateOf2 : Con pg 66 ckDateText0 := by
  have hct := (ctA_ok conYearDays (ctA_ok conMonthDays (ctA_ok conTwo (ctA_ok conMonthName (ctN_ok _)))))
  intro args q r h hq
  unfold ckDateText0 at h
  split at h
  · cases h
    rename_i n
    refine w66 (fun _ => false) [] rfl hct rfl rfl ?_
    push_cast (config := { maxSteps := 10000000 })
    (repeat (refine ⟨by omega, ?_⟩))
    generalize hd : n / 86400 = d at *
    have h0 : 0 ≤ d ∧ d ≤ 2932896 := by omega
    refine LoopW.adj ⟨hct, fol⟩ (by kernel_rfl) [] (fun t : Nat => [(3, .int .i64 (d - daysI (1970 + t) 1)), (4, .int .i64 (n % 86400)), (5, .int .i64 ((d + 4) % 7)), (6, .int .i64 (1970 + t)), (7, .int .i64 1)]) (fun _ => []) (fun t => daysI (1970 + t) 1 ≤ d) (fun t => 9000 - t) 0 ?_ fun t ht => ?_
    · push_cast (config := { maxSteps := 10000000 })
      have e : daysI 1970 1 = 0 := by rw [daysI_1]; omega
      simp [e]; omega
    · push_cast (config := { maxSteps := 10000000 })
      have hlo : (t : Int) ≤ 8029 := by have := daysI_1 (1970 + t); omega
      have hnx := daysI_next (1970 + t)
      have hyl : yearLong (1970 + t) = 365 ∨ yearLong (1970 + t) = 366 := by unfold yearLong; split <;> simp
      have hge : 0 ≤ daysI (1970 + t) 1 := by have := daysI_1 (1970 + t); omega
      refine ⟨⟨by omega, by omega⟩, fun h => ⟨⟨by omega, by omega⟩, ⟨by omega, by omega⟩, ⟨by omega, by omega⟩, t + 1, ?_, by omega, ?_, by omega⟩, fun h => ?_⟩
      · rw [show 1970 + ((t + 1 : Nat) : Int) = 1970 + (t : Int) + 1 by omega]; omega
      · rw [show 1970 + ((t + 1 : Nat) : Int) = 1970 + (t : Int) + 1 by omega]; omega
      · have hY : yearI d = 1970 + t := yearI_is h0.1 h0.2 ht (by omega)
        generalize 1970 + (t : Int) = y at *
        have hy : 1970 ≤ y ∧ y ≤ 9999 := by have := yearI_9999 h0.1 h0.2; have := (date_b h0.1 h0.2).1; omega
        refine LoopW.adj ⟨hct, fol⟩ (by kernel_rfl) [] (fun t : Nat => [(3, .int .i64 (d - daysI y (1 + t))), (4, .int .i64 (n % 86400)), (5, .int .i64 ((d + 4) % 7)), (6, .int .i64 y), (7, .int .i64 (1 + t))]) (fun _ => []) (fun t => daysI y (1 + t) ≤ d ∧ t ≤ 11) (fun t => 12 - t) 0 ?_ fun t ht2 => ?_
        · push_cast (config := { maxSteps := 10000000 })
          simpa using ht
        · push_cast (config := { maxSteps := 10000000 })
          have hm := daysI_month (y := y) (m := 1 + t) (by omega)
          have hml := monthLongI_b y (1 + t)
          have hmm := daysI_mmono (y := y) (m := 1) (k := 1 + t) (by omega) (by omega)
          have h12 : (t : Int) + 1 = 12 → d < daysI y (1 + t + 1) := fun e => by
            rw [show 1 + (t : Int) + 1 = 13 by omega, daysI_13]; omega
          have hl2 : ∀ x, (twoL x).length = 2 := fun _ => rfl
          have hl3 := mnN_b (1 + (t : Int) - 1).toNat
          have q1 : (0 ≤ y ∧ y ≤ 1000000 ∧ 1 ≤ 1 + (t : Int) ∧ 1 + (t : Int) ≤ 12) := by omega
          refine ⟨q1, fun h => ⟨q1, ⟨by omega, by omega⟩, ⟨by omega, by omega⟩, t + 1, ⟨?_, ?_⟩, by omega, ?_, by omega⟩, fun h => ?_⟩
          · rw [show 1 + ((t + 1 : Nat) : Int) = 1 + (t : Int) + 1 by omega]; omega
          · by_cases e : (t : Int) + 1 = 12
            · have := h12 e; omega
            · omega
          · rw [show 1 + ((t + 1 : Nat) : Int) = 1 + (t : Int) + 1 by omega]; omega
          have hM : monthI d = 1 + t := monthI_is h0.1 h0.2 (by omega) (by omega) (by rw [hY]; exact ht2.1) (by rw [hY]; omega)
          simp only [hl2]
          have hd2 : d - daysI y (1 + t) ≤ 30 := by omega
          (repeat (refine ⟨by omega, ?_⟩))
          rw [dayName]
          unfold dateTextL
          simp only [hd, hY, hM]
          rw [padded2 (n := d - daysI y (1 + t) + 1) (by omega) (by omega), padded4 (n := y) (by omega) (by omega), padded2 (n := n % 86400 / 3600) (by omega) (by omega), padded2 (n := n % 86400 / 60 % 60) (by omega) (by omega), padded2 (n := n % 86400 % 60) (by omega) (by omega)]
          simp only [List.append_assoc]
  · cases h

/- a moment's text, read -/
def fld (s : List UInt8) (a n : Nat) : List UInt8 := (s.drop a).take n
def mIdx (w : List UInt8) : Int := match mnN.findIdx? (· == w) with
  | some k => k
  | none => -1
def momF (s : List UInt8) : Int := (daysI (natOf (fld s 12 4)) (mIdx (fld s 8 3) + 1) + natOf (fld s 5 2) - 1) * 86400 + (natOf (fld s 17 2) : Int) * 3600 + (natOf (fld s 20 2) : Int) * 60 + natOf (fld s 23 2)
def rdB (s : List UInt8) : Bool := decide (0 ≤ momF s ∧ momF s ≤ 253402300799 ∧ dateTextL (momF s) = s)
def rdV (s : List UInt8) : Int := if rdB s = true then momF s else 0
theorem ofN {k : Nat} (h : k < 256) : (UInt8.ofNat k).toNat = k := by rw [UInt8.toNat_ofNat']; omega
theorem natOf_two {n : Int} (h0 : 0 ≤ n) (h1 : n ≤ 99) : (natOf (twoL n) : Int) = n := by
  unfold natOf twoL
  simp only [List.foldl_cons, List.foldl_nil]
  rw [ofN (by omega), ofN (by omega)]
  omega
theorem natOf_four {n : Int} (h0 : 0 ≤ n) (h1 : n ≤ 9999) : (natOf (twoL (n / 100) ++ twoL n) : Int) = n := by
  unfold natOf twoL
  simp only [List.cons_append, List.nil_append, List.foldl_cons, List.foldl_nil]
  rw [ofN (by omega), ofN (by omega), ofN (by omega), ofN (by omega)]
  omega
theorem dig_two (n : Int) (h0 : 0 ≤ n) : (twoL n).all isDg = true := by
  unfold twoL isDg
  simp only [List.all_cons, List.all_nil, Bool.and_true, Bool.and_eq_true, decide_eq_true_eq]
  rw [ofN (by omega), ofN (by omega)]
  omega
theorem wdN_3 {i : Int} (h0 : 0 ≤ i) (h1 : i < 7) : ∃ a b c, wdN.getD i.toNat [] = [a, b, c] := by
  rcases (by omega : i = 0 ∨ i = 1 ∨ i = 2 ∨ i = 3 ∨ i = 4 ∨ i = 5 ∨ i = 6) with rfl | rfl | rfl | rfl | rfl | rfl | rfl <;> exact ⟨_, _, _, rfl⟩
theorem mnN_3 {i : Int} (h0 : 0 ≤ i) (h1 : i < 12) : ∃ a b c, mnN.getD i.toNat [] = [a, b, c] ∧ mIdx [a, b, c] = i := by
  rcases (by omega : i = 0 ∨ i = 1 ∨ i = 2 ∨ i = 3 ∨ i = 4 ∨ i = 5 ∨ i = 6 ∨ i = 7 ∨ i = 8 ∨ i = 9 ∨ i = 10 ∨ i = 11) with rfl | rfl | rfl | rfl | rfl | rfl | rfl | rfl | rfl | rfl | rfl | rfl <;> exact ⟨_, _, _, rfl, by decide⟩
/-- what stands in a moment's text -/
theorem date_fields {n : Int} (h0 : 0 ≤ n) (h1 : n ≤ 253402300799) :
    let d := n / 86400
    let y := yearI d
    let m := monthI d
    (dateTextL n).length = 29 ∧ fld (dateTextL n) 5 2 = twoL (d - daysI y m + 1) ∧ mIdx (fld (dateTextL n) 8 3) = m - 1 ∧ fld (dateTextL n) 12 4 = twoL (y / 100) ++ twoL y ∧ fld (dateTextL n) 17 2 = twoL (n % 86400 / 3600) ∧ fld (dateTextL n) 20 2 = twoL (n % 86400 / 60 % 60) ∧ fld (dateTextL n) 23 2 = twoL (n % 86400 % 60) ∧
    1 ≤ m ∧ m ≤ 12 ∧ 1970 ≤ y ∧ y ≤ 9999 ∧ daysI y m ≤ d ∧ d < daysI y m + monthLongI y m := by
  have hd : 0 ≤ n / 86400 ∧ n / 86400 ≤ 2932896 := by omega
  simp only
  generalize hdd : n / 86400 = d at *
  have b := date_b hd.1 hd.2
  have u := monthI_up hd.1 hd.2
  have y9 := yearI_9999 hd.1 hd.2
  rw [daysI_month b.2.2.1] at u
  have ml := monthLongI_b (yearI d) (monthI d)
  obtain ⟨a1, a2, a3, ea⟩ := wdN_3 (i := (d + 3) % 7) (by omega) (by omega)
  obtain ⟨c1, c2, c3, ec, ei⟩ := mnN_3 (i := monthI d - 1) (by omega) (by omega)
  have e : dateTextL n = [a1, a2, a3] ++ [44, 32] ++ twoL (d - daysI (yearI d) (monthI d) + 1) ++ [32] ++ [c1, c2, c3] ++ [32] ++ (twoL (yearI d / 100) ++ twoL (yearI d)) ++ [32] ++ twoL (n % 86400 / 3600) ++ [58] ++ twoL (n % 86400 / 60 % 60) ++ [58] ++ twoL (n % 86400 % 60) ++ [32, 71, 77, 84] := by
    unfold dateTextL
    simp only [hdd]
    rw [ea, ec, padded2 (n := d - daysI (yearI d) (monthI d) + 1) (by omega) (by omega), padded4 (n := yearI d) (by omega) (by omega), padded2 (n := n % 86400 / 3600) (by omega) (by omega), padded2 (n := n % 86400 / 60 % 60) (by omega) (by omega), padded2 (n := n % 86400 % 60) (by omega) (by omega)]
  rw [e]
  refine ⟨rfl, rfl, ?_, rfl, rfl, rfl, rfl, by omega, by omega, by omega, by omega, by omega, by omega⟩
  exact ei
theorem momF_date {n : Int} (h0 : 0 ≤ n) (h1 : n ≤ 253402300799) : momF (dateTextL n) = n := by
  obtain ⟨_, f1, f2, f3, f4, f5, f6, m1, m2, y1, y2, d1, d2⟩ := date_fields h0 h1
  have ml := monthLongI_b (yearI (n / 86400)) (monthI (n / 86400))
  unfold momF
  rw [f1, f2, f3, f4, f5, f6, natOf_two (by omega) (by omega), natOf_four (by omega) (by omega), natOf_two (by omega) (by omega), natOf_two (by omega) (by omega), natOf_two (by omega) (by omega), show monthI (n / 86400) - 1 + 1 = monthI (n / 86400) by omega]
  omega
theorem rdB_date {n : Int} (h0 : 0 ≤ n) (h1 : n ≤ 253402300799) : rdB (dateTextL n) = true := by
  unfold rdB
  rw [momF_date h0 h1]
  exact decide_eq_true ⟨h0, h1, rfl⟩
/-- what is read was written well -/
theorem rdB_fields {s : List UInt8} (h : rdB s = true) : s.length = 29 ∧ (fld s 5 2).all isDg = true ∧ (fld s 12 4).all isDg = true ∧ (fld s 17 2).all isDg = true ∧ (fld s 20 2).all isDg = true ∧ (fld s 23 2).all isDg = true ∧ 0 ≤ mIdx (fld s 8 3) ∧ mIdx (fld s 8 3) ≤ 11 ∧ 1970 ≤ natOf (fld s 12 4) ∧ natOf (fld s 17 2) ≤ 23 ∧ natOf (fld s 20 2) ≤ 59 ∧ natOf (fld s 23 2) ≤ 59 ∧ 1 ≤ natOf (fld s 5 2) ∧ (natOf (fld s 5 2) : Int) ≤ monthLongI (natOf (fld s 12 4)) (mIdx (fld s 8 3) + 1) := by
  obtain ⟨h0, h1, h2⟩ := of_decide_eq_true h
  generalize momF s = n at h0 h1 h2
  subst h2
  obtain ⟨l, f1, f2, f3, f4, f5, f6, m1, m2, y1, y2, d1, d2⟩ := date_fields h0 h1
  have ml := monthLongI_b (yearI (n / 86400)) (monthI (n / 86400))
  have n1 := natOf_two (n := n / 86400 - daysI (yearI (n / 86400)) (monthI (n / 86400)) + 1) (by omega) (by omega)
  have n2 := natOf_four (n := yearI (n / 86400)) (by omega) (by omega)
  have n3 := natOf_two (n := n % 86400 / 3600) (by omega) (by omega)
  have n4 := natOf_two (n := n % 86400 / 60 % 60) (by omega) (by omega)
  have n5 := natOf_two (n := n % 86400 % 60) (by omega) (by omega)
  rw [f1, f2, f3, f4, f5, f6, n2, show monthI (n / 86400) - 1 + 1 = monthI (n / 86400) by omega]
  refine ⟨l, dig_two _ (by omega), ?_, dig_two _ (by omega), dig_two _ (by omega), dig_two _ (by omega), by omega, by omega, by omega, by omega, by omega, by omega, by omega, by omega⟩
  rw [List.all_append, dig_two _ (by omega), dig_two _ (by omega)]; rfl
def fL (s : List UInt8) : List (List UInt8) := [fld s 5 2, fld s 12 4, fld s 17 2, fld s 20 2, fld s 23 2]
def nL (s : List UInt8) : List Int := (fL s).map fun x => (natOf x : Int)
theorem mIdx_b (w : List UInt8) : -1 ≤ mIdx w ∧ mIdx w ≤ 11 := by
  unfold mIdx
  cases h : mnN.findIdx? (· == w) with
  | none => simp
  | some k =>
    have := (List.findIdx?_eq_some_iff_getElem.1 h).1
    have hl : mnN.length = 12 := rfl
    simp only; omega
theorem rd_no {s : List UInt8} (h : ¬ rdB s = true) : 0 = rdV s ∧ false = rdB s := by
  have : rdB s = false := by simpa using h
  unfold rdV; rw [this]; exact ⟨rfl, rfl⟩
theorem natOf_le {s : List UInt8} {k : Nat} (h : s.all isDg = true) (hk : s.length ≤ k) : natOf s < 10 ^ k :=
  Nat.lt_of_lt_of_le (natOf_lt s h) (Nat.pow_le_pow_right (by omega) hk)
theorem daysI_bb {y m : Int} (h1 : 1970 ≤ y) (h2 : y ≤ 9999) (h3 : m ≤ 13) : 0 ≤ daysI y m ∧ daysI y m ≤ 3000000 := by
  have := monthsSum_b y (m - 1).toNat
  unfold daysI; omega

def idxL (l : List (List UInt8)) (w : List UInt8) : Int := match l.findIdx? (· == w) with
  | some k => k
  | none => -1
theorem idxL_at {l : List (List UInt8)} {w : List UInt8} {i : Nat} (hi : i < l.length) (h : w = l.getD i []) (hn : ∀ j, j < i → ¬ w = l.getD j []) : idxL l w = i := by
  unfold idxL
  have : l.findIdx? (· == w) = some i := by
    rw [List.findIdx?_eq_some_iff_getElem]
    refine ⟨hi, ?_, fun j hj => ?_⟩
    · rw [List.getD_eq_getElem?_getD, List.getElem?_eq_getElem hi] at h; simp [h]
    · have h1 := hn j hj
      rw [List.getD_eq_getElem?_getD, List.getElem?_eq_getElem (by omega)] at h1
      simp only [Option.getD_some] at h1
      simp only [Bool.not_eq_true, beq_eq_false_iff_ne]
      exact fun e => h1 e.symm
  rw [this]
theorem idxL_no {l : List (List UInt8)} {w : List UInt8} (hn : ∀ j, j < l.length → ¬ w = l.getD j []) : idxL l w = -1 := by
  unfold idxL
  have : l.findIdx? (· == w) = none := by
    rw [List.findIdx?_eq_none_iff]
    intro x hx
    obtain ⟨j, hj, rfl⟩ := List.getElem_of_mem hx
    have h1 := hn j hj
    rw [List.getD_eq_getElem?_getD, List.getElem?_eq_getElem hj] at h1
    simp only [Option.getD_some] at h1
    exact beq_eq_false_iff_ne.2 fun e => h1 e.symm
  rw [this]
def ckIndexStr : Ck
  | [.sl n f, .str w] => some (isLs cStr n f ∧ n ≤ 4611686018427387904, .int .i64 (idxL (lsOf cStr n f) w))
  | _ => none
theorem conIndexStr : Con pg 106 ckIndexStr := by
  have hct := ctN_ok pg
  intro args q r h hq
  unfold ckIndexStr at h
  split at h
  · cases h
    rename_i n f w
    refine pcall_args (args' := [.sl (lsOf cStr n f).length (lsF cStr (lsOf cStr n f)), .str w]) ⟨isLs.vle hq.1, VLe.refl _, trivial⟩ ?_
    have hn : (lsOf cStr n f).length ≤ 4611686018427387904 := by rw [lsOf_len]; exact hq.2
    generalize lsOf cStr n f = a at hn ⊢
    refine w106 (fun _ => false) [] rfl hct rfl rfl ?_
    push_cast (config := { maxSteps := 10000000 })
    refine LoopW.adj ⟨hct, fol⟩ (by kernel_rfl) [] (fun i : Nat => [(0, .sl a.length (lsF cStr a)), (1, .str w), (7, .int .i64 a.length), (8, .int .i64 i)]) (fun _ => []) (fun i => i ≤ a.length ∧ ∀ j, j < i → ¬ w = a.getD j []) (fun i => a.length - i) 0 ?_ fun i hi => ?_
    · push_cast (config := { maxSteps := 10000000 })
      exact Nat.zero_le _
    · push_cast (config := { maxSteps := 10000000 })
      obtain ⟨h1, h2⟩ := hi
      refine ⟨fun h => ⟨h, fun h3 => (idxL_at h h3 h2).symm, fun h3 => ⟨by omega, i + 1, ⟨by omega, fun j hj => ?_⟩, by omega, by omega⟩⟩, fun h => (idxL_no fun j hj => h2 j (by omega)).symm⟩
      by_cases e : j = i
      · subst e; exact h3
      · exact h2 j (by omega)
  · cases h
attribute [push_cast] ckIndexStr

def ckAtoi : Ck
  | [.str s] => some (1 ≤ s.length ∧ s.length ≤ 18 ∧ s.all isDg = true, .tup [.int .i64 (natOf s), .any])
  | _ => none
theorem conAtoi : Con pg 107 ckAtoi := by
  intro args q r h hq
  unfold ckAtoi at h
  split at h
  · cases h
    rename_i s
    refine pcall_shelf (by kernel_rfl) rfl fun w hw => (Tryd.strconv_Atoi ⟨s.toArray⟩ (natOf s) (by show s.toArray.size ≤ _; have := hq.2.1; simp; omega) ?_ w).mono fun e w' h => ?_
    · exact atoi_dig (show s ≠ [] from fun e => by have := hq.1; rw [e] at this; simp at this) hq.2.2
    · obtain ⟨he, t, rfl⟩ := h
      exact ⟨_, he, grow_below (Lib.bytesWorld_below _ _ _), fun γ imm => .tup _ [_, _] rfl fun i hi => by
        match i, hi with
        | 0, _ => exact .pure (.int _ _)
        | 1, _ => exact .any _⟩
  · cases h
attribute [push_cast] ckAtoi

def ckReadDate0 : Ck
  | [.str s] => some (s.length ≤ 4611686018427387904, .tup [.int .i64 (rdV s), .bool (rdB s)])
  | _ => none
theorem conReadDate0 : Con pg 67 ckReadDate0 := by
  have hct := (ctA_ok conMonths (ctA_ok conIndexStr (ctA_ok conTrim (ctA_ok conAtoi (ctA_ok conDays (ctA_ok conIsMoment (ctA_ok conDateText0 (ctN_ok _))))))))
  intro args q r h hq
  unfold ckReadDate0 at h
  split at h
  · cases h
    rename_i s
    refine w67 (fun _ => false) [.frz 90] rfl hct rfl rfl ?_
    push_cast (config := { maxSteps := 10000000 })
    have rd29 : rdB s = true → s.length = 29 := fun h => (rdB_fields h).1
    refine ⟨fun h => ?_, fun h => ⟨⟨by omega, by omega⟩, LsI.is (c := cStr) (LsI.ls mnN), ?_⟩⟩
    · have : rdB s = false := by
        cases hb : rdB s with
        | false => rfl
        | true => exact absurd (by have := rd29 hb; omega) h
      unfold rdV; rw [this]; exact ⟨rfl, rfl⟩
    rw [show (lsOf cStr 12 fun i => V.str (mnN.getD i [])) = mnN from lsOf_ls (c := cStr) mnN]
    change (-9223372036854775808 ≤ mIdx (fld s 8 3) + 1 ∧ mIdx (fld s 8 3) + 1 ≤ 9223372036854775807) ∧ _
    have hmi := mIdx_b (fld s 8 3)
    refine ⟨⟨by omega, by omega⟩, ⟨by omega, by omega⟩, ⟨by omega, by omega⟩, ⟨by omega, by omega⟩, ⟨by omega, by omega⟩, ⟨by omega, by omega⟩, ?_⟩
    refine LoopW.adj ⟨hct, fol⟩ (by kernel_rfl) [.nv 5 90 1 (lsF cInt [])] (fun i : Nat => [(0, .str s), (4, .int .i64 (mIdx (fld s 8 3) + 1)), (5, .vec 90 i), (29, .sl 5 (lsF cStr (fL s))), (30, .int .i64 5), (31, .int .i64 i)]) (fun i => [(90, .vec 1 i (lsF cInt (nL s)))]) (fun i => i ≤ 5 ∧ ∀ j, j < i → ((fL s).getD j []).all isDg = true) (fun i => 5 - i) 0 ?_ fun i hi => ?_
    · push_cast (config := { maxSteps := 10000000 })
      refine ⟨rfl, fun i hi => ?_⟩
      rcases (by omega : i = 0 ∨ i = 1 ∨ i = 2 ∨ i = 3 ∨ i = 4) with rfl | rfl | rfl | rfl | rfl <;> rfl
    · push_cast (config := { maxSteps := 10000000 })
      obtain ⟨h1, h2⟩ := hi
      refine ⟨fun h => ?_, fun h5 => ?_⟩
      · have hfl : 1 ≤ ((fL s).getD i []).length ∧ ((fL s).getD i []).length ≤ 4 := by
          rcases (by omega : i = 0 ∨ i = 1 ∨ i = 2 ∨ i = 3 ∨ i = 4) with rfl | rfl | rfl | rfl | rfl <;> simp [fL, fld] <;> omega
        refine ⟨h, by omega, fun h3 => ?_, fun h3 => ⟨⟨hfl.1, by omega, (trim_dig _).1 h3⟩, ⟨by omega, by omega⟩, ⟨by omega, by omega⟩, i + 1, ⟨by omega, fun j hj => ?_⟩, by omega, ⟨rfl, by omega⟩, rfl, fun j hj => ?_⟩⟩
        · refine rd_no fun hr => h3 ((trim_dig _).2 ?_)
          have hf := rdB_fields hr
          rcases (by omega : i = 0 ∨ i = 1 ∨ i = 2 ∨ i = 3 ∨ i = 4) with rfl | rfl | rfl | rfl | rfl
          · exact hf.2.1
          · exact hf.2.2.1
          · exact hf.2.2.2.1
          · exact hf.2.2.2.2.1
          · exact hf.2.2.2.2.2.1
        · by_cases e : j = i
          · subst e; exact (trim_dig _).1 h3
          · exact h2 j (by omega)
        · unfold appF
          by_cases e : j < i
          · rw [decide_eq_true e]; rfl
          · rw [decide_eq_false e]
            simp only [cond_false]
            obtain rfl : j = i := by omega
            rw [Nat.sub_self]
            rcases (by omega : j = 0 ∨ j = 1 ∨ j = 2 ∨ j = 3 ∨ j = 4) with rfl | rfl | rfl | rfl | rfl <;> rfl
      · obtain rfl : i = 5 := by omega
        have e0 : (nL s).getD 0 0 = natOf (fld s 5 2) := rfl
        have e1 : (nL s).getD 1 0 = natOf (fld s 12 4) := rfl
        have e2 : (nL s).getD 2 0 = natOf (fld s 17 2) := rfl
        have e3 : (nL s).getD 3 0 = natOf (fld s 20 2) := rfl
        have e4 : (nL s).getD 4 0 = natOf (fld s 23 2) := rfl
        rw [e0, e1, e2, e3, e4]
        change _ ∧ _ ∧ _ ∧ (_ → _)
        have b0 := natOf_le (h2 0 (by omega)) (k := 2) (by simp [fL, fld]; omega)
        have b1 := natOf_le (h2 1 (by omega)) (k := 4) (by simp [fL, fld]; omega)
        have b2 := natOf_le (h2 2 (by omega)) (k := 2) (by simp [fL, fld]; omega)
        have b3 := natOf_le (h2 3 (by omega)) (k := 2) (by simp [fL, fld]; omega)
        have b4 := natOf_le (h2 4 (by omega)) (k := 2) (by simp [fL, fld]; omega)
        change natOf (fld s 5 2) < 10 ^ 2 at b0
        change natOf (fld s 12 4) < 10 ^ 4 at b1
        change natOf (fld s 17 2) < 10 ^ 2 at b2
        change natOf (fld s 20 2) < 10 ^ 2 at b3
        change natOf (fld s 23 2) < 10 ^ 2 at b4
        have hno : rdB s = false → 0 = rdV s ∧ false = rdB s := fun h => by unfold rdV; rw [h]; exact ⟨rfl, rfl⟩
        refine ⟨fun h => ⟨h, by omega⟩, fun h => ⟨h, by omega⟩, fun h => rd_no fun hr => ?_, fun h => ?_⟩
        · have hf := rdB_fields hr
          rcases h with h | h <;> omega
        · have hdb := daysI_bb (y := natOf (fld s 12 4)) (m := mIdx (fld s 8 3) + 1) (by omega) (by omega) (by omega)
          have hM : (daysI (natOf (fld s 12 4)) (mIdx (fld s 8 3) + 1) + natOf (fld s 5 2) - 1) * 86400 + (natOf (fld s 17 2) : Int) * 3600 + (natOf (fld s 20 2) : Int) * 60 + natOf (fld s 23 2) = momF s := rfl
          rw [hM]
          refine ⟨by omega, by omega, ⟨by omega, by omega, by omega⟩, by omega, by omega, ⟨by omega, by omega⟩, ⟨by omega, by omega⟩, ⟨by omega, by omega⟩, by omega, by omega, ⟨by omega, by omega⟩, ⟨by omega, by omega⟩, by omega, by omega, ⟨by omega, by omega⟩, ⟨by omega, by omega⟩, by omega, by omega, ?_⟩
          have hMb : -9223372036854775808 ≤ momF s ∧ momF s ≤ 9223372036854775807 := by rw [← hM]; constructor <;> omega
          refine ⟨hMb, fun h => rd_no fun hr => ?_, fun h => ?_⟩
          · obtain ⟨r1, r2, r3⟩ := of_decide_eq_true hr
            rcases h with h | h
            · exact h r1 r2
            · exact h r3
          · have hr : rdB s = true := decide_eq_true ⟨h.1.1, h.1.2, h.2⟩
            unfold rdV; rw [hr]; exact ⟨rfl, rfl⟩
  · cases h
attribute [push_cast] ckReadDate0
def ckReadDate : Ck
  | [.str s] => some (s.length ≤ 4611686018427387904, .tup [.int .i64 (rdV s), .int .i64 (if rdB s = true then 0 else 10)])
  | _ => none
theorem conReadDate : Con pg 27 ckReadDate := by
  have hct := (ctA_ok conReadDate0 (ctN_ok _))
  intro args q r h hq
  unfold ckReadDate at h
  split at h
  · cases h
    rename_i s
    refine w27 (fun _ => false) [] rfl hct rfl rfl ?_
    push_cast (config := { maxSteps := 10000000 })
    exact ⟨hq, fun h => by unfold rdV; rw [h]; exact ⟨rfl, rfl⟩, fun h => by rw [h]; rfl⟩
  · cases h
attribute [push_cast] ckReadDate

def digsL (s : List UInt8) : Bool := s.all isDg && decide (1 ≤ s.length)
theorem digsL_no {s : List UInt8} (h : s.all isDg = false) : false = digsL s := by unfold digsL; rw [h, Bool.false_and]
def ckIsDigits : Ck
  | [.str s] => some (s.length ≤ 4611686018427387904, .bool (digsL s))
  | _ => none
theorem conIsDigits : Con pg 68 ckIsDigits := by
  have hct := ctN_ok pg
  intro args q r h hq
  unfold ckIsDigits at h
  split at h
  · cases h
    rename_i s
    refine w68 (fun _ => false) [] rfl hct rfl rfl ?_
    push_cast (config := { maxSteps := 10000000 })
    refine LoopW.adj ⟨hct, fol⟩ (by kernel_rfl) [] (fun i : Nat => [(0, .str s), (3, .int .i64 i)]) (fun _ => []) (fun i => i ≤ s.length ∧ ∀ j, j < i → isDg (s.getD j 0) = true) (fun i => s.length - i) 0 ?_ fun i hi => ?_
    · push_cast (config := { maxSteps := 10000000 })
      exact Nat.zero_le _
    · push_cast (config := { maxSteps := 10000000 })
      obtain ⟨h1, h2⟩ := hi
      (repeat' (first | apply And.intro | intro _)) <;> (try first | assumption | contradiction | omega | exact rfl | exact trivial)
      · rename_i a b
        exact digsL_no (all_no' (d := 0) a (by unfold isDg; exact decide_eq_false (by omega)))
      · rename_i a b
        refine ⟨i + 1, ⟨by omega, fun j hj => ?_⟩, by omega, by omega⟩
        by_cases e : j = i
        · subst e; exact decide_eq_true (by omega)
        · exact h2 j (by omega)
      · unfold digsL
        rw [all_at' fun j hj => h2 j (by omega), Bool.true_and]
        cases s <;> simp
  · cases h
attribute [push_cast] ckIsDigits
def plainL (s : List UInt8) : Bool := digsL s && (decide (s.length = 1) || decide (s.getD 0 0 ≠ 48))
/-- of digits: the number, or a limit -/
def capL (s : List UInt8) (n : Int) : Int := if 15 < s.length then n else min (natOf s : Int) n
/-- without 0s at its head, but for the last byte -/
def stripZ : List UInt8 → List UInt8
  | c :: d :: t => if c = 48 then stripZ (d :: t) else c :: d :: t
  | s => s
theorem stripZ_hit {s : List UInt8} (h1 : 1 < s.length) (h2 : s.getD 0 0 = 48) : stripZ s = stripZ (s.drop 1) := by
  match s, h1, h2 with
  | c :: d :: t, _, h2 => simp only [List.getD_cons_zero] at h2; rw [stripZ, if_pos h2]; rfl
theorem stripZ_miss {s : List UInt8} (h : 1 < s.length → ¬ s.getD 0 0 = 48) : stripZ s = s := by
  match s, h with
  | [], _ => rfl
  | [c], _ => rfl
  | c :: d :: t, h => rw [stripZ, if_neg (by simpa using h (by simp))]
theorem natOf_zero (s : List UInt8) : natOf (48 :: s) = natOf s := rfl
theorem natOf_strip (s : List UInt8) : natOf (stripZ s) = natOf s := by
  fun_induction stripZ s with
  | case1 d t ih => rw [ih, natOf_zero]
  | case2 c d t h => rfl
  | case3 s h => rfl
theorem stripZ_len (s : List UInt8) : (stripZ s).length ≤ s.length := by
  fun_induction stripZ s with
  | case1 d t ih => simp only [List.length_cons] at ih ⊢; omega
  | case2 c d t h => exact Nat.le_refl _
  | case3 s h => exact Nat.le_refl _
def ckCap : Ck
  | [.str s, .int .i64 n] => some (digsL s = true ∧ s.length ≤ 4611686018427387904, .int .i64 (capL (stripZ s) n))
  | _ => none
theorem digs_all {s : List UInt8} (h : digsL s = true) : 1 ≤ s.length ∧ s.all isDg = true := by
  simp only [digsL, Bool.and_eq_true, decide_eq_true_eq] at h
  exact ⟨h.2, h.1⟩
theorem plain_digs {s : List UInt8} (h : plainL s = true) : digsL s = true ∧ stripZ s = s := by
  simp only [plainL, Bool.and_eq_true, Bool.or_eq_true, decide_eq_true_eq] at h
  refine ⟨h.1, stripZ_miss fun h1 => ?_⟩
  rcases h.2 with h2 | h2
  · omega
  · exact h2
theorem plain_all {s : List UInt8} (h : plainL s = true) : 1 ≤ s.length ∧ s.all isDg = true ∧ (s.length = 1 ∨ s.getD 0 0 ≠ 48) := by
  simp only [plainL, digsL, Bool.and_eq_true, Bool.or_eq_true, decide_eq_true_eq] at h
  exact ⟨h.1.2, h.1.1, h.2⟩
theorem cap_small {s : List UInt8} {n : Int} (h : s.length ≤ 15) (hn : (natOf s : Int) ≤ n) : capL (stripZ s) n = natOf s := by
  have := stripZ_len s
  unfold capL
  rw [if_neg (by omega), natOf_strip]; omega
theorem conCap : Con pg 69 ckCap := by
  have hct := (ctA_ok conAtoi (ctN_ok _))
  intro args q r h hq
  unfold ckCap at h
  split at h
  · cases h
    rename_i s n
    refine w69 (fun _ => false) [] rfl hct rfl rfl ?_
    push_cast (config := { maxSteps := 10000000 })
    refine LoopW.adj ⟨hct, fol⟩ (by kernel_rfl) [] (fun t : List UInt8 => [(0, .str t), (1, .int .i64 n)]) (fun _ => []) (fun t => t.length ≤ s.length ∧ digsL t = true ∧ stripZ t = stripZ s) (fun t => t.length) s ?_ fun t hi => ?_
    · push_cast (config := { maxSteps := 10000000 })
      exact ⟨Nat.le_refl _, hq.1⟩
    · push_cast (config := { maxSteps := 10000000 })
      obtain ⟨i1, i2, i3⟩ := hi
      obtain ⟨p1, p2⟩ := digs_all i2
      refine ⟨fun h => ⟨h, by omega⟩, fun h => ⟨by omega, t.drop 1, ⟨by simp; omega, ?_, ?_⟩, by simp; omega, ?_⟩, fun h => ?_⟩
      · have hc : 1 < t.length ∧ _ := ⟨by omega, h.2⟩
        unfold digsL
        rw [Bool.and_eq_true, decide_eq_true_eq]
        refine ⟨?_, by simp; omega⟩
        rw [List.all_eq_true] at p2 ⊢
        exact fun x hx => p2 x (List.mem_of_mem_drop hx)
      · rw [← i3, stripZ_hit (by omega) ((u8_eq _ _).2 h.2)]
      · rfl
      · have hz : stripZ s = t := by rw [← i3]; exact stripZ_miss fun h1 e => h (by omega) ((u8_eq _ _).1 e)
        rw [hz]
        refine ⟨fun h5 => ?_, fun h5 => ⟨⟨p1, by omega, p2⟩, ?_⟩⟩
        · unfold capL; rw [if_pos (by omega)]
        · unfold capL; rw [if_neg (by omega)]
  · cases h
attribute [push_cast] ckCap

theorem digs_fld {s : List UInt8} {a n : Nat} (h : (fld s a n).all isDg = true) (hl : a < s.length) (hn : 1 ≤ n) : digsL (List.take n (List.drop a s)) = true := by
  unfold fld at h
  unfold digsL
  rw [h, Bool.true_and, decide_eq_true_eq, List.length_take, List.length_drop]
  omega
theorem cap_fld {s : List UInt8} {a n : Nat} (h : digsL (fld s a n) = true) (hn : n ≤ 4) : capL (stripZ (fld s a n)) 9999 = natOf (fld s a n) := by
  have hl : (fld s a n).length ≤ 4 := by unfold fld; rw [List.length_take]; omega
  have hb := natOf_le (digs_all h).2 hl
  exact cap_small (by omega) (by omega)
def clD (s : List UInt8) : Nat → List V
  | 0 => [.int .i64 0, .int .i64 0, .int .i64 0, .int .i64 0, .int .i64 0]
  | 1 => [.int .i64 (natOf (fld s 5 2)), .int .i64 0, .int .i64 0, .int .i64 0, .int .i64 0]
  | 2 => [.int .i64 (natOf (fld s 5 2)), .int .i64 (natOf (fld s 12 4)), .int .i64 0, .int .i64 0, .int .i64 0]
  | 3 => [.int .i64 (natOf (fld s 5 2)), .int .i64 (natOf (fld s 12 4)), .int .i64 (natOf (fld s 17 2)), .int .i64 0, .int .i64 0]
  | 4 => [.int .i64 (natOf (fld s 5 2)), .int .i64 (natOf (fld s 12 4)), .int .i64 (natOf (fld s 17 2)), .int .i64 (natOf (fld s 20 2)), .int .i64 0]
  | _ => [.int .i64 (natOf (fld s 5 2)), .int .i64 (natOf (fld s 12 4)), .int .i64 (natOf (fld s 17 2)), .int .i64 (natOf (fld s 20 2)), .int .i64 (natOf (fld s 23 2))]
@[push_cast] theorem clD0 (s : List UInt8) : clD s 0 = [.int .i64 0, .int .i64 0, .int .i64 0, .int .i64 0, .int .i64 0] := rfl
@[push_cast] theorem clD1 (s : List UInt8) : clD s 1 = [.int .i64 (natOf (fld s 5 2)), .int .i64 0, .int .i64 0, .int .i64 0, .int .i64 0] := rfl
@[push_cast] theorem clD2 (s : List UInt8) : clD s 2 = [.int .i64 (natOf (fld s 5 2)), .int .i64 (natOf (fld s 12 4)), .int .i64 0, .int .i64 0, .int .i64 0] := rfl
@[push_cast] theorem clD3 (s : List UInt8) : clD s 3 = [.int .i64 (natOf (fld s 5 2)), .int .i64 (natOf (fld s 12 4)), .int .i64 (natOf (fld s 17 2)), .int .i64 0, .int .i64 0] := rfl
@[push_cast] theorem clD4 (s : List UInt8) : clD s 4 = [.int .i64 (natOf (fld s 5 2)), .int .i64 (natOf (fld s 12 4)), .int .i64 (natOf (fld s 17 2)), .int .i64 (natOf (fld s 20 2)), .int .i64 0] := rfl
@[push_cast] theorem clD5 (s : List UInt8) : clD s 5 = [.int .i64 (natOf (fld s 5 2)), .int .i64 (natOf (fld s 12 4)), .int .i64 (natOf (fld s 17 2)), .int .i64 (natOf (fld s 20 2)), .int .i64 (natOf (fld s 23 2))] := rfl
theorem mIdx_at {w : List UInt8} {t : Nat} (h : t < 12) (e : mnN.getD t [] = w) (hn : ∀ j, j < t → mnN.getD j [] ≠ w) : mIdx w = t :=
  idxL_at (l := mnN) h e.symm fun j hj e2 => hn j hj e2.symm
theorem mIdx_no {w : List UInt8} (hn : ∀ j, j < 12 → mnN.getD j [] ≠ w) : mIdx w = -1 :=
  idxL_no (l := mnN) fun j hj e2 => hn j hj e2.symm
theorem conReadDate2 : Con pg 28 ckReadDate := by
  have hct := (ctA_ok conIsDigits (ctA_ok conCap (ctA_ok conMonthName (ctA_ok conMonthDays (ctA_ok conWithin2b (ctA_ok conYearDays (ctA_ok conDateOf2 (ctN_ok _))))))))
  intro args q r h hq
  unfold ckReadDate at h
  split at h
  · cases h
    rename_i s
    refine w28 (fun _ => false) [] rfl hct rfl rfl ?_
    push_cast (config := { maxSteps := 10000000 })
    have hno : ¬ rdB s = true → 0 = rdV s ∧ (10 : Int) = if rdB s = true then 0 else 10 := fun h => by
      have : rdB s = false := by simpa using h
      unfold rdV; rw [this]; exact ⟨rfl, rfl⟩
    have rd29 : rdB s = true → s.length = 29 := fun h => (rdB_fields h).1
    refine ⟨fun h => hno fun hr => h (by have := rd29 hr; omega), fun h29 => ?_⟩
    refine LoopW.adj ⟨hct, fol⟩ (by kernel_rfl) [] (fun i : Nat => [(0, .str s), (4, .ptr 4 0), (16, .sl 5 (lsF cInt [5, 12, 17, 20, 23])), (17, .int .i64 5), (18, .int .i64 i)]) (fun i => [(4, .cells (clD s i))]) (fun i => i ≤ 5 ∧ ∀ j, j < i → ((fL s).getD j []).all isDg = true) (fun i => 5 - i) 0 ?_ fun i hi => ?_
    · push_cast (config := { maxSteps := 10000000 })
      intro i hi
      rcases (by omega : i = 0 ∨ i = 1 ∨ i = 2 ∨ i = 3 ∨ i = 4) with rfl | rfl | rfl | rfl | rfl <;> rfl
    · obtain ⟨h1, h2⟩ := hi
      rcases (by omega : i = 0 ∨ i = 1 ∨ i = 2 ∨ i = 3 ∨ i = 4 ∨ i = 5) with rfl | rfl | rfl | rfl | rfl | rfl
      · push_cast (config := { maxSteps := 10000000 })
        refine ⟨⟨by omega, by omega⟩, by omega, fun h => hno fun hr => ?_, fun h => ⟨⟨by omega, by omega⟩, ⟨h, by omega⟩, 1, ⟨by omega, fun j hj => ?_⟩, by omega, rfl, ?_⟩⟩
        · have hf := rdB_fields hr
          rw [digs_fld (s := s) (a := 5) (n := 2) hf.2.1 (by omega) (by omega)] at h; cases h
        · by_cases e : j = 0
          · subst e; exact (digs_all h).2
          · exact h2 j (by omega)
        · rw [show capL (stripZ (List.take 2 (List.drop 5 s))) 9999 = _ from cap_fld (s := s) (a := 5) (n := 2) h (by omega)]
          push_cast (config := { maxSteps := 10000000 })
      · push_cast (config := { maxSteps := 10000000 })
        refine ⟨⟨by omega, by omega⟩, by omega, fun h => hno fun hr => ?_, fun h => ⟨⟨by omega, by omega⟩, ⟨h, by omega⟩, 2, ⟨by omega, fun j hj => ?_⟩, by omega, rfl, ?_⟩⟩
        · have hf := rdB_fields hr
          rw [digs_fld (s := s) (a := 12) (n := 4) hf.2.2.1 (by omega) (by omega)] at h; cases h
        · by_cases e : j = 1
          · subst e; exact (digs_all h).2
          · exact h2 j (by omega)
        · rw [show capL (stripZ (List.take 4 (List.drop 12 s))) 9999 = _ from cap_fld (s := s) (a := 12) (n := 4) h (by omega)]
          push_cast (config := { maxSteps := 10000000 })
      · push_cast (config := { maxSteps := 10000000 })
        refine ⟨⟨by omega, by omega⟩, by omega, fun h => hno fun hr => ?_, fun h => ⟨⟨by omega, by omega⟩, ⟨h, by omega⟩, 3, ⟨by omega, fun j hj => ?_⟩, by omega, rfl, ?_⟩⟩
        · have hf := rdB_fields hr
          rw [digs_fld (s := s) (a := 17) (n := 2) hf.2.2.2.1 (by omega) (by omega)] at h; cases h
        · by_cases e : j = 2
          · subst e; exact (digs_all h).2
          · exact h2 j (by omega)
        · rw [show capL (stripZ (List.take 2 (List.drop 17 s))) 9999 = _ from cap_fld (s := s) (a := 17) (n := 2) h (by omega)]
          push_cast (config := { maxSteps := 10000000 })
      · push_cast (config := { maxSteps := 10000000 })
        refine ⟨⟨by omega, by omega⟩, by omega, fun h => hno fun hr => ?_, fun h => ⟨⟨by omega, by omega⟩, ⟨h, by omega⟩, 4, ⟨by omega, fun j hj => ?_⟩, by omega, rfl, ?_⟩⟩
        · have hf := rdB_fields hr
          rw [digs_fld (s := s) (a := 20) (n := 2) hf.2.2.2.2.1 (by omega) (by omega)] at h; cases h
        · by_cases e : j = 3
          · subst e; exact (digs_all h).2
          · exact h2 j (by omega)
        · rw [show capL (stripZ (List.take 2 (List.drop 20 s))) 9999 = _ from cap_fld (s := s) (a := 20) (n := 2) h (by omega)]
          push_cast (config := { maxSteps := 10000000 })
      · push_cast (config := { maxSteps := 10000000 })
        refine ⟨⟨by omega, by omega⟩, by omega, fun h => hno fun hr => ?_, fun h => ⟨⟨by omega, by omega⟩, ⟨h, by omega⟩, 5, ⟨by omega, fun j hj => ?_⟩, by omega, rfl, ?_⟩⟩
        · have hf := rdB_fields hr
          rw [digs_fld (s := s) (a := 23) (n := 2) hf.2.2.2.2.2.1 (by omega) (by omega)] at h; cases h
        · by_cases e : j = 4
          · subst e; exact (digs_all h).2
          · exact h2 j (by omega)
        · rw [show capL (stripZ (List.take 2 (List.drop 23 s))) 9999 = _ from cap_fld (s := s) (a := 23) (n := 2) h (by omega)]
          push_cast (config := { maxSteps := 10000000 })
      · push_cast (config := { maxSteps := 10000000 })
        have g0 : (fld s 5 2).all isDg = true := h2 0 (by omega)
        have g1 : (fld s 12 4).all isDg = true := h2 1 (by omega)
        have g2 : (fld s 17 2).all isDg = true := h2 2 (by omega)
        have g3 : (fld s 20 2).all isDg = true := h2 3 (by omega)
        have g4 : (fld s 23 2).all isDg = true := h2 4 (by omega)
        have b0 := natOf_le g0 (k := 2) (by simp [fld]; omega)
        have b1 := natOf_le g1 (k := 4) (by simp [fld]; omega)
        have b2 := natOf_le g2 (k := 2) (by simp [fld]; omega)
        have b3 := natOf_le g3 (k := 2) (by simp [fld]; omega)
        have b4 := natOf_le g4 (k := 2) (by simp [fld]; omega)
        have hM : (daysI (natOf (fld s 12 4)) (mIdx (fld s 8 3) + 1) + natOf (fld s 5 2) - 1) * 86400 + (natOf (fld s 17 2) : Int) * 3600 + (natOf (fld s 20 2) : Int) * 60 + natOf (fld s 23 2) = momF s := rfl
        have hf := fun hr => rdB_fields (s := s) hr
        generalize natOf (fld s 5 2) = n0 at *
        generalize natOf (fld s 12 4) = n1 at *
        generalize natOf (fld s 17 2) = n2 at *
        generalize natOf (fld s 20 2) = n3 at *
        generalize natOf (fld s 23 2) = n4 at *
        refine LoopW.adj ⟨hct, fol⟩ (by kernel_rfl) [] (fun t : Nat => [(0, .str s), (4, .ptr 4 0), (8, .int .i64 (1 + t))]) (fun t => [(4, .cells [.int .i64 n0, .int .i64 n1, .int .i64 n2, .int .i64 n3, .int .i64 n4])]) (fun t => t ≤ 12 ∧ ∀ j, j < t → mnN.getD j [] ≠ fld s 8 3) (fun t => 12 - t) 0 ?_ fun t ht => ?_
        · push_cast (config := { maxSteps := 10000000 })
        · push_cast (config := { maxSteps := 10000000 })
          obtain ⟨t1, t2⟩ := ht
          have e1 : (1 + (t : Int) - 1).toNat = t := by omega
          rw [e1]
          refine ⟨fun h => ⟨h, by omega, h⟩, fun h => ⟨h, by omega, by omega⟩, fun h => ⟨⟨by omega, by omega⟩, t + 1, ⟨by omega, fun j hj => ?_⟩, by omega, by omega⟩, fun hx => ?_⟩
          · by_cases e : j = t
            · subst e; exact h.2
            · exact t2 j (by omega)
          have hmi : t < 12 → mIdx (fld s 8 3) = t := fun h => mIdx_at h (hx (by omega)) t2
          have hmn : ¬ t < 12 → mIdx (fld s 8 3) = -1 := fun h => mIdx_no fun j hj => t2 j (by omega)
          refine ⟨fun h => ⟨h, by omega, by omega, by omega⟩, fun h => hno fun hr => ?_, fun h => ⟨⟨by omega, by omega⟩, ?_⟩⟩
          · have hq := hf hr
            by_cases ht : t < 12
            · rw [hmi ht, show (t : Int) + 1 = 1 + t by omega] at hq
              omega
            · rw [hmn ht] at hq; omega
          have ht12 : t < 12 := by omega
          rw [hmi ht12, show (t : Int) + 1 = 1 + t by omega] at hM
          have ml := monthLongI_b (n1 : Int) (1 + t)
          have hdb := daysI_bb (y := n1) (m := 1 + t) (by omega) (by omega) (by omega)
          refine LoopW.adj ⟨hct, fol⟩ (by kernel_rfl) [] (fun k : Nat => [(0, .str s), (4, .ptr 4 0), (8, .int .i64 (1 + t)), (9, .int .i64 (n0 - 1 + daysI (1970 + k) 1)), (10, .int .i64 (1970 + k))]) (fun k => [(4, .cells [.int .i64 n0, .int .i64 n1, .int .i64 n2, .int .i64 n3, .int .i64 n4])]) (fun k => 1970 + (k : Int) ≤ n1) (fun k => n1 - k) 0 ?_ fun k hk => ?_
          · push_cast (config := { maxSteps := 10000000 })
            have e : daysI 1970 1 = 0 := by rw [daysI_1]; omega
            simp [e]; omega
          · push_cast (config := { maxSteps := 10000000 })
            have hk2 := daysI_bb (y := 1970 + k) (m := 1) (by omega) (by omega) (by omega)
            have hnx := daysI_next (1970 + k)
            have hyl : yearLong (1970 + k) = 365 ∨ yearLong (1970 + k) = 366 := by unfold yearLong; split <;> simp
            refine ⟨fun h => ⟨⟨by omega, by omega⟩, ⟨by omega, by omega⟩, ⟨by omega, by omega⟩, k + 1, by omega, by omega, ?_, by omega⟩, fun h => ?_⟩
            · rw [show 1970 + ((k + 1 : Nat) : Int) = 1970 + (k : Int) + 1 by omega]; omega
            have ek : 1970 + (k : Int) = n1 := by omega
            rw [ek]
            refine LoopW.adj ⟨hct, fol⟩ (by kernel_rfl) [] (fun k : Nat => [(0, .str s), (4, .ptr 4 0), (8, .int .i64 (1 + t)), (9, .int .i64 (n0 - 1 + daysI n1 (1 + k))), (11, .int .i64 (1 + k))]) (fun k => [(4, .cells [.int .i64 n0, .int .i64 n1, .int .i64 n2, .int .i64 n3, .int .i64 n4])]) (fun k => k ≤ t) (fun k => t - k) 0 ?_ fun k hk3 => ?_
            · push_cast (config := { maxSteps := 10000000 })
              simp
            · push_cast (config := { maxSteps := 10000000 })
              have hk4 := daysI_bb (y := n1) (m := 1 + k) (by omega) (by omega) (by omega)
              have hnm := daysI_month (y := n1) (m := 1 + k) (by omega)
              have mlk := monthLongI_b (n1 : Int) (1 + k)
              refine ⟨fun h => ⟨⟨by omega, by omega, by omega⟩, ⟨by omega, by omega⟩, ⟨by omega, by omega⟩, k + 1, by omega, by omega, ?_, by omega⟩, fun h => ?_⟩
              · rw [show 1 + ((k + 1 : Nat) : Int) = 1 + (k : Int) + 1 by omega]; omega
              obtain rfl : k = t := by omega
              have hM2 : (n0 - 1 + daysI n1 (1 + k)) * 86400 + (n2 : Int) * 3600 + (n3 : Int) * 60 + n4 = momF s := by rw [← hM]; omega
              have hup : daysI n1 (1 + k + 1) ≤ 2932897 := by
                have a1 := daysI_mmono (y := n1) (m := 1 + k + 1) (k := 13) (by omega) (by omega)
                rw [daysI_13] at a1
                have a2 : daysI ((n1 : Int) + 1) 1 ≤ 2932897 := by rw [daysI_1]; omega
                omega
              refine ⟨⟨by omega, by omega⟩, ⟨by omega, by omega⟩, ⟨by omega, by omega⟩, ⟨by omega, by omega⟩, ⟨by omega, by omega⟩, ⟨by omega, by omega⟩, ⟨by omega, by omega⟩, ?_⟩
              have hr1 : 0 ≤ momF s ∧ momF s ≤ 253402300799 := by rw [← hM2]; constructor <;> omega
              rw [hM2]
              refine ⟨fun h => hno fun hr => ?_, fun h => ?_⟩
              · exact h (of_decide_eq_true hr).2.2
              · have hr : rdB s = true := decide_eq_true ⟨hr1.1, hr1.2, h⟩
                unfold rdV; rw [hr]; exact ⟨rfl, rfl⟩
  · cases h

/-- a value that stands for a coded thing -/
def isC {α : Type} (c : Cod α) (x : V) : Prop := VLe x (c.enc (c.dec x))
theorem isC_enc {α : Type} (c : Cod α) (a : α) : isC c (c.enc a) := by unfold isC; rw [c.ok]; exact VLe.refl _
/-- strings of heads are not long -/
def hdsOk (l : List Hd) : Prop := ∀ h ∈ l, h.name.length ≤ 140737488355328 ∧ h.value.length ≤ 140737488355328
theorem hdsOk_at {l : List Hd} (h : hdsOk l) {i : Nat} (hi : i < l.length) : (l.getD i ⟨[], []⟩).name.length ≤ 140737488355328 ∧ (l.getD i ⟨[], []⟩).value.length ≤ 140737488355328 := by
  rw [List.getD_eq_getElem?_getD, List.getElem?_eq_getElem hi]; exact h _ (List.getElem_mem hi)
@[push_cast] theorem lsF_hdfl (l : List Hd) (i : Nat) : (lsF cHd l i).flat = [.str (l.getD i ⟨[], []⟩).name, .str (l.getD i ⟨[], []⟩).value] := rfl
/-- an answer -/
structure Ans where
  st : Int
  re : List UInt8
  hd : List Hd
  bd : List UInt8
deriving DecidableEq
def decAns : V → Ans
  | .agg [.int _ st, .str re, .sl n f, .sl m g] => ⟨st, re, lsOf cHd n f, bytesOf m g⟩
  | _ => ⟨0, [], [], []⟩
def cAns : Cod Ans := ⟨fun a => .agg [.int .i64 a.st, .str a.re, .sl a.hd.length (lsF cHd a.hd), .sl a.bd.length (byF a.bd)], decAns, ⟨0, [], [], []⟩, fun a => by simp [decAns, lsOf_ls, bytesOf_by]⟩
@[push_cast] theorem enc_ans (a : Ans) : cAns.enc a = .agg [.int .i64 a.st, .str a.re, .sl a.hd.length (lsF cHd a.hd), .sl a.bd.length (byF a.bd)] := rfl
@[push_cast] theorem dec_ans (k : IntKind) (st : Int) (re : List UInt8) (n m : Nat) (f g : Nat → V) : cAns.dec (.agg [.int k st, .str re, .sl n f, .sl m g]) = ⟨st, re, lsOf cHd n f, bytesOf m g⟩ := rfl
theorem isC_ans {st : Int} {re : List UInt8} {n m : Nat} {f g : Nat → V} (h1 : isLs cHd n f) (h2 : isBy m g) : isC cAns (.agg [.int .i64 st, .str re, .sl n f, .sl m g]) :=
  VLe.agg ⟨VLe.refl _, VLe.refl _, isLs.vle h1, isBy.vle h2, trivial⟩
def ansOk (a : Ans) : Prop := hdsOk a.hd ∧ a.re.length ≤ 140737488355328 ∧ a.hd.length ≤ 140737488355328 ∧ a.bd.length ≤ 140737488355328
theorem reach_le : reachBytes ≤ 140737488355328 := by unfold reachBytes; omega
theorem hasL_cons {s : Sh} {ss : List Sh} {ms : List Nat} {vs : List V} (h : Sh.hasL (s :: ss) ms vs) : ∃ m v ms' vs', vs = v :: vs' ∧ s.has m v ∧ Sh.hasL ss ms' vs' := by
  cases ms with
  | nil => simp [Sh.hasL] at h
  | cons m ms => cases vs with
    | nil => simp [Sh.hasL] at h
    | cons v vs => exact ⟨m, v, ms, vs, rfl, h.1, h.2⟩
theorem hasL_nil {ms : List Nat} {vs : List V} (h : Sh.hasL [] ms vs) : vs = [] := by
  cases ms with
  | nil => cases vs with
    | nil => rfl
    | cons _ _ => simp [Sh.hasL] at h
  | cons _ _ => simp [Sh.hasL] at h
theorem shHead {m : Nat} {v : V} (h : Sh.has (.tup [.str, .str]) m v) : ∃ a, v = cHd.enc a ∧ a.name.length ≤ 140737488355328 ∧ a.value.length ≤ 140737488355328 := by
  obtain ⟨l, ms, rfl, -, hl⟩ := h
  obtain ⟨m1, v1, ms, l, rfl, h1, hl⟩ := hasL_cons hl
  obtain ⟨m2, v2, ms, l, rfl, h2, hl⟩ := hasL_cons hl
  obtain rfl := hasL_nil hl
  obtain ⟨s, rfl, -, b1⟩ := h1
  obtain ⟨t, rfl, -, b2⟩ := h2
  have := reach_le
  exact ⟨⟨s, t⟩, rfl, by show s.length ≤ _; omega, by show t.length ≤ _; omega⟩
theorem shList {α : Type} {c : Cod α} {s : Sh} {p : α → Prop} (hs : ∀ m v, s.has m v → ∃ a, v = c.enc a ∧ p a) {m : Nat} {v : V} (h : Sh.has (.list s) m v) : ∃ (n : Nat) (f : Nat → V), v = .sl n f ∧ isLs c n f ∧ n ≤ 140737488355328 ∧ ∀ a ∈ lsOf c n f, p a := by
  obtain ⟨l, ms, rfl, h1, h2, h3, h4⟩ := h
  have at' : ∀ i, i < l.length → ∃ a, litF l i = c.enc a ∧ p a := fun i hi => hs _ _ (h4 i hi)
  have := reach_le
  refine ⟨_, _, rfl, ⟨by simp [lsOf], fun i hi => ?_⟩, by omega, fun a ha => ?_⟩
  · obtain ⟨a, e, _⟩ := at' i hi
    unfold lsF lsOf
    rw [List.getD_eq_getElem?_getD, List.getElem?_map, List.getElem?_range hi]
    simp only [Option.map_some, Option.getD_some]
    rw [e, c.ok]
  · simp only [lsOf, List.mem_map, List.mem_range] at ha
    obtain ⟨i, hi, rfl⟩ := ha
    obtain ⟨a, e, hp⟩ := at' i hi
    rw [e, c.ok]; exact hp
theorem shStr {m : Nat} {v : V} (h : Sh.has .str m v) : ∃ a, v = cStr.enc a ∧ a.length ≤ 140737488355328 := by
  obtain ⟨s, rfl, -, b⟩ := h
  have := reach_le
  exact ⟨s, rfl, by omega⟩
theorem shAns {m : Nat} {v : V} (h : Sh.has (.tup [.int .i64, .str, .list (.tup [.str, .str]), .list (.int .u8)]) m v) : isC cAns v ∧ ansOk (cAns.dec v) := by
  obtain ⟨l, ms, rfl, -, hl⟩ := h
  obtain ⟨m1, v1, ms, l, rfl, h1, hl⟩ := hasL_cons hl
  obtain ⟨m2, v2, ms, l, rfl, h2, hl⟩ := hasL_cons hl
  obtain ⟨m3, v3, ms, l, rfl, h3, hl⟩ := hasL_cons hl
  obtain ⟨m4, v4, ms, l, rfl, h4, hl⟩ := hasL_cons hl
  obtain rfl := hasL_nil hl
  obtain ⟨st, rfl, _⟩ := shInt h1
  obtain ⟨re, rfl, b2⟩ := shStr h2
  obtain ⟨n, f, rfl, i3, b3, k3⟩ := shList (c := cHd) (fun m v h => shHead h) h3
  obtain ⟨k, g, rfl, i4, b4⟩ := shBytes h4
  have := reach_le
  refine ⟨isC_ans i3 i4, ?_⟩
  show ansOk ⟨st, re, lsOf cHd n f, bytesOf k g⟩
  refine ⟨k3, b2, ?_, ?_⟩
  · show (lsOf cHd n f).length ≤ _
    rw [lsOf_len]; exact b3
  · show (bytesOf k g).length ≤ _
    rw [bytesOf_len]; omega
theorem hasD2 {H : Type} {s1 s2 : Sh} {ds : List (DataW H)} (h : hasD [s1, s2] ds) : ∃ a b, ds = [a, b] ∧ s1.has (bulkD a) (toV a) ∧ s2.has (bulkD b) (toV b) := by
  match ds, h with
  | [a, b], ⟨h1, h2, _⟩ => exact ⟨a, b, rfl, h1, h2⟩
theorem hasD1 {H : Type} {s1 : Sh} {ds : List (DataW H)} (h : hasD [s1] ds) : ∃ a, ds = [a] ∧ s1.has (bulkD a) (toV a) := by
  match ds, h with
  | [a], ⟨h1, _⟩ => exact ⟨a, rfl, h1⟩
theorem hasD4 {H : Type} {s1 s2 s3 s4 : Sh} {ds : List (DataW H)} (h : hasD [s1, s2, s3, s4] ds) : ∃ a b c d, ds = [a, b, c, d] ∧ s1.has (bulkD a) (toV a) ∧ s2.has (bulkD b) (toV b) ∧ s3.has (bulkD c) (toV c) ∧ s4.has (bulkD d) (toV d) := by
  match ds, h with
  | [a, b, c, d], ⟨h1, h2, h3, h4, _⟩ => exact ⟨a, b, c, d, rfl, h1, h2, h3, h4⟩
@[push_cast] theorem isC_ansT (a : Ans) : isC cAns (.agg [.int .i64 a.st, .str a.re, .sl a.hd.length (lsF cHd a.hd), .sl a.bd.length (byF a.bd)]) = True := eq_true (isC_enc cAns a)
@[push_cast] theorem ans_eta (a : Ans) : (⟨a.st, a.re, a.hd, a.bd⟩ : Ans) = a := rfl

theorem conDateText2 : Con pg 26 ckDateText := by
  have hct := (ctA_ok conWithin2b (ctA_ok conDateOf2 (ctN_ok _)))
  intro args q r h hq
  unfold ckDateText at h
  split at h
  · cases h
    rename_i n
    refine w26 (fun _ => false) [] rfl hct rfl rfl ?_
    push_cast (config := { maxSteps := 10000000 })
    refine ⟨fun h => ?_, fun h => ?_⟩
    · have h' : ¬(0 ≤ n ∧ n ≤ 253402300799) := fun hh => h hh.1 hh.2
      rw [if_neg h', if_neg h']; exact ⟨rfl, rfl⟩
    · rw [if_pos h, if_pos h]; exact ⟨h, rfl, rfl⟩
  · cases h
def ckLawDates : Ck
  | [.int .i64 n, .str s] => some (-9223372036854775808 ≤ n ∧ n ≤ 9223372036854775807 ∧ s.length ≤ 4611686018427387904, .bool true)
  | _ => none
theorem conLawDates : Con pg 6 ckLawDates := by
  have hct := (ctA_ok conDateText (ctA_ok conDateText2 (ctA_ok conReadDate (ctA_ok conReadDate2 (ctA_ok conAwake2 (ctN_ok _))))))
  intro args q r h hq
  unfold ckLawDates at h
  split at h
  · cases h
    rename_i n s
    refine w6 (fun _ => false) [] rfl hct rfl rfl ?_
    push_cast (config := { maxSteps := 10000000 })
    obtain ⟨q1, q2, q3⟩ := hq
    refine ⟨⟨q1, q2⟩, ⟨q1, q2⟩, q3, q3, fun h => ?_⟩
    have hn : 0 ≤ n ∧ n ≤ 253402300799 := by
      by_cases h0 : 0 ≤ n ∧ n ≤ 253402300799
      · exact h0
      · rw [if_neg h0] at h; omega
    have hr := rdB_date hn.1 hn.2
    have hl := (date_fields hn.1 hn.2).1
    rw [if_pos hn, hr]
    unfold rdV
    rw [hr, momF_date hn.1 hn.2]
    refine ⟨by omega, fun h => ?_⟩
    simp at h
  · cases h
attribute [push_cast] ckLawDates
theorem allLawDates {H : Type} (ds : List (DataW H)) (hh : hasD [.int .i64, .str] ds) : PCall pg 6 (ds.map toV) (.bool true) := by
  obtain ⟨d1, d2, rfl, a, b⟩ := hasD2 hh
  obtain ⟨k, e1, l1⟩ := shInt a
  obtain ⟨s, e2, l2⟩ := shStr b
  simp only [List.map_cons, List.map_nil, e1, e2]
  simp only [Lit.wf, Bool.and_eq_true, decide_eq_true_eq] at l1
  exact conLawDates _ _ _ rfl ⟨l1.1, l1.2, by omega⟩

end Go.Abs
