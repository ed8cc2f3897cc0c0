/- what functions of this program compute: contracts, each a function's own -/
import Derived.Test.YtmeckghkmpmdjaaGreatDoorAbsK2
import Derived.Test.YtmeckghkmpmdjaaGreatDoorAbsFacts
import Derived.Test.YtmeckghkmpmdjaaGreatDoorAbsF2
import Derived.Test.YtmeckghkmpmdjaaGreatDoorAbsShelf
import Derived.Lib.SlTrimSet
import Derived.Lib.Atoi
import Derived.Lib.Itoa
import Derived.Lib.ItoaNum
import Derived.Lib.AtoiErrMem
import Derived.Lib.ItoaLen
namespace Go.Abs
open Go Go.Proofs
set_option maxHeartbeats 4000000
set_option maxRecDepth 100000
set_option linter.unusedVariables false
set_option linter.unusedSimpArgs false
/-- the number of the record with a name, or -1 -/
def fndL (l : List Rcd) (s : List UInt8) : Int := match l.findIdx? (fun r => r.id == s) with
  | some k => k
  | none => -1
theorem fndL_at {l : List Rcd} {s : List UInt8} {i : Nat} (hi : i < l.length) (h : (l.getD i noRec).id = s) (hn : ∀ j, j < i → (l.getD j noRec).id ≠ s) : fndL l s = i := by
  unfold fndL
  have : l.findIdx? (fun r => r.id == s) = some i := by
    rw [List.findIdx?_eq_some_iff_getElem]
    refine ⟨hi, ?_, fun j hj => ?_⟩
    · rw [List.getD_eq_getElem?_getD, List.getElem?_eq_getElem hi] at h; exact beq_iff_eq.2 h
    · have h1 := hn j hj
      rw [List.getD_eq_getElem?_getD, List.getElem?_eq_getElem (by omega)] at h1
      simpa using h1
  rw [this]
theorem fndL_no {l : List Rcd} {s : List UInt8} (hn : ∀ j, j < l.length → (l.getD j noRec).id ≠ s) : fndL l s = -1 := by
  unfold fndL
  have : l.findIdx? (fun r => r.id == s) = none := by
    rw [List.findIdx?_eq_none_iff]
    intro x hx
    obtain ⟨j, hj, rfl⟩ := List.getElem_of_mem hx
    have h1 := hn j hj
    rw [List.getD_eq_getElem?_getD, List.getElem?_eq_getElem hj] at h1
    simpa using h1
  rw [this]
theorem fndL_in (l : List Rcd) (s : List UInt8) : 0 ≤ fndL l s ↔ (l.map Rcd.id).contains s = true := by
  unfold fndL
  cases h : l.findIdx? (fun r => r.id == s) with
  | none =>
    rw [List.findIdx?_eq_none_iff] at h
    constructor
    · intro h'; have h' : (0 : Int) ≤ -1 := h'; omega
    · intro h'
      rw [List.contains_iff_mem, List.mem_map] at h'
      obtain ⟨r, hr, e⟩ := h'
      have := h r hr
      rw [e] at this; simp at this
  | some k =>
    rw [List.findIdx?_eq_some_iff_getElem] at h
    obtain ⟨hk, h1, _⟩ := h
    constructor
    · intro _
      rw [List.contains_iff_mem, List.mem_map]
      exact ⟨l[k], List.getElem_mem hk, beq_iff_eq.1 h1⟩
    · intro _; exact Int.natCast_nonneg k
theorem fndL_ok {l : List Rcd} {s : List UInt8} (h : 0 ≤ fndL l s) : (fndL l s).toNat < l.length ∧ (l.getD (fndL l s).toNat noRec).id = s ∧ ∀ j, j < (fndL l s).toNat → (l.getD j noRec).id ≠ s := by
  unfold fndL at h ⊢
  cases e : l.findIdx? (fun r => r.id == s) with
  | none => rw [e] at h; have h : (0 : Int) ≤ -1 := h; omega
  | some k =>
    rw [List.findIdx?_eq_some_iff_getElem] at e
    obtain ⟨hk, h1, h2⟩ := e
    refine ⟨hk, ?_, fun j hj => ?_⟩
    · show (l.getD k noRec).id = s
      rw [List.getD_eq_getElem?_getD, List.getElem?_eq_getElem hk]; exact beq_iff_eq.1 h1
    · have hj : j < k := hj
      have := h2 j hj
      rw [List.getD_eq_getElem?_getD, List.getElem?_eq_getElem (by omega)]
      simpa using this
theorem fndL_b (l : List Rcd) (s : List UInt8) : -1 ≤ fndL l s ∧ fndL l s < l.length := by
  by_cases h : 0 ≤ fndL l s
  · have := (fndL_ok h).1; omega
  · refine ⟨?_, by omega⟩
    unfold fndL
    split <;> omega
def ckFind : Ck
  | [.sl n f, .str s] => some (isLs cRec n f ∧ n ≤ 4611686018427387900, .int .i64 (fndL (lsOf cRec n f) s))
  | _ => none
theorem conFind : Con pg 45 ckFind := by
  have hct := ctN_ok pg
  intro args q r h hq
  unfold ckFind at h
  split at h
  · cases h
    rename_i n f s
    refine pcall_args (args' := [.sl (lsOf cRec n f).length (lsF cRec (lsOf cRec n f)), .str s]) ⟨isLs.vle hq.1, VLe.refl _, trivial⟩ ?_
    have hn : (lsOf cRec n f).length ≤ 4611686018427387900 := by rw [lsOf_len]; exact hq.2
    generalize lsOf cRec n f = l at hn ⊢
    refine w45 (fun _ => false) [] rfl hct rfl rfl ?_
    push_cast (config := { maxSteps := 10000000 })
    refine LoopW.adj ⟨hct, fol⟩ (by kernel_rfl) [] (fun i : Nat => [(0, .sl l.length (lsF cRec l)), (1, .str s), (5, .int .i64 i)]) (fun _ => []) (fun i => i ≤ l.length ∧ ∀ j, j < i → (l.getD j noRec).id ≠ s) (fun i => l.length - i) 0 ?_ fun i hi => ?_
    · push_cast (config := { maxSteps := 10000000 })
      exact Nat.zero_le _
    · push_cast (config := { maxSteps := 10000000 })
      obtain ⟨h1, h2⟩ := hi
      refine ⟨fun h => ⟨h, fun g => (fndL_at h g h2).symm, fun g => ⟨⟨by omega, by omega⟩, i + 1, ⟨by omega, fun j hj => ?_⟩, by omega, by omega⟩⟩, fun h => (fndL_no fun j hj => h2 j (by omega)).symm⟩
      by_cases e : j = i
      · subst e; exact g
      · exact h2 j (by omega)
  · cases h
attribute [push_cast] ckFind

/- the calendar, by ranges -/
theorem daysI_next (y : Int) : daysI (y + 1) 1 = daysI y 1 + yearLong y := by
  rw [daysI_1, daysI_1]
  unfold yearLong leapB
  split
  · rename_i h; simp only [decide_eq_true_eq] at h; omega
  · rename_i h; simp only [decide_eq_true_eq] at h; omega
theorem daysI_month {y : Int} {m : Int} (h : 1 ≤ m) : daysI y (m + 1) = daysI y m + monthLongI y m := by
  unfold daysI
  obtain ⟨k, rfl⟩ : ∃ k : Nat, m = k + 1 := ⟨(m - 1).toNat, by omega⟩
  rw [show ((k : Int) + 1 + 1 - 1).toNat = k + 1 by omega, show ((k : Int) + 1 - 1).toNat = k by omega]
  simp only [monthsSum]; omega
theorem monthsSum_12 (y : Int) : monthsSum y 12 = yearLong y := by
  simp only [monthsSum]
  unfold monthLongI yearLong leapB
  by_cases h : y % 4 = 0 ∧ (y % 100 ≠ 0 ∨ y % 400 = 0)
  · simp [h]
  · simp [h]
theorem daysI_13 (y : Int) : daysI y 13 = daysI (y + 1) 1 := by
  rw [daysI_next, daysI_1]
  unfold daysI
  rw [show ((13 : Int) - 1).toNat = 12 from rfl, monthsSum_12]; 
theorem daysI_mono {y z : Int} (h : y < z) : daysI (y + 1) 1 ≤ daysI z 1 := by
  rw [daysI_1, daysI_1]; omega
theorem yearF_up (d : Int) : ∀ (n : Nat) (y : Int), d < daysI (yearF d n y + 1) 1 ∨ yearF d n y = y + n
  | 0, y => .inr (by simp [yearF])
  | n + 1, y => by
    simp only [yearF]
    split
    · rcases yearF_up d n (y + 1) with h | h
      · exact .inl h
      · exact .inr (by omega)
    · exact .inl (by omega)
theorem monthF_up (y d : Int) : ∀ (n : Nat) (m : Int), (12 ≤ monthF y d n m ∨ d < daysI y (monthF y d n m + 1)) ∨ monthF y d n m = m + n
  | 0, m => .inr (by simp [monthF])
  | n + 1, m => by
    simp only [monthF]
    split
    · rcases monthF_up y d n (m + 1) with h | h
      · exact .inl h
      · exact .inr (by omega)
    · exact .inl (by omega)
theorem yearI_up {d : Int} (h0 : 0 ≤ d) (h1 : d ≤ 2932896) : d < daysI (yearI d + 1) 1 := by
  have b := date_b h0 h1
  rcases yearF_up d 1000 (1970 + d / 366) with h | h
  · exact h
  · have hb := yearF_b d 1000 _ (daysI_y0 d h0 h1)
    have := daysI_step hb.2 hb.1 h0 h1
    omega
theorem yearI_is {d y : Int} (h0 : 0 ≤ d) (h1 : d ≤ 2932896) (a : daysI y 1 ≤ d) (b : d < daysI (y + 1) 1) : yearI d = y := by
  have hb := yearF_b d 1000 _ (daysI_y0 d h0 h1)
  have hu := yearI_up h0 h1
  have hl : daysI (yearI d) 1 ≤ d := hb.2
  rcases Int.lt_trichotomy (yearI d) y with h | h | h
  · have := daysI_mono h; omega
  · exact h
  · have := daysI_mono h; omega
theorem monthsSum_mono (y : Int) {i j : Nat} (h : i ≤ j) : monthsSum y i ≤ monthsSum y j := by
  induction h with
  | refl => exact Int.le_refl _
  | step _ ih => have := monthLongI_b y ((‹Nat› : Nat) + 1 : Int); simp only [monthsSum]; have := monthLongI_b y; omega
theorem daysI_mmono {y m k : Int} (h1 : 1 ≤ m) (h : m ≤ k) : daysI y m ≤ daysI y k := by
  have := monthsSum_mono y (i := (m - 1).toNat) (j := (k - 1).toNat) (by omega)
  unfold daysI; omega
theorem monthI_is {d m : Int} (h0 : 0 ≤ d) (h1 : d ≤ 2932896) (m1 : 1 ≤ m) (m2 : m ≤ 12) (a : daysI (yearI d) m ≤ d) (b : d < daysI (yearI d) (m + 1)) : monthI d = m := by
  have hd : daysI (yearI d) 1 ≤ d := (yearF_b d 1000 _ (daysI_y0 d h0 h1)).2
  have hb := monthF_b (yearI d) d 12 1 (by omega) (by omega) hd
  have hu : 12 ≤ monthI d ∨ d < daysI (yearI d) (monthI d + 1) := by
    rcases monthF_up (yearI d) d 12 1 with h | h
    · exact h
    · exact .inl (by unfold monthI; omega)
  change 1 ≤ monthI d ∧ monthI d ≤ 12 ∧ daysI (yearI d) (monthI d) ≤ d at hb
  rcases Int.lt_trichotomy (monthI d) m with h | h | h
  · rcases hu with hu | hu
    · omega
    · have := daysI_mmono (y := yearI d) (m := monthI d + 1) (k := m) (by omega) (by omega); omega
  · exact h
  · have := daysI_mmono (y := yearI d) (m := m + 1) (k := monthI d) (by omega) (by omega); omega
theorem monthI_up {d : Int} (h0 : 0 ≤ d) (h1 : d ≤ 2932896) : d < daysI (yearI d) (monthI d + 1) := by
  have hd : daysI (yearI d) 1 ≤ d := (yearF_b d 1000 _ (daysI_y0 d h0 h1)).2
  have hb := monthF_b (yearI d) d 12 1 (by omega) (by omega) hd
  change 1 ≤ monthI d ∧ monthI d ≤ 12 ∧ daysI (yearI d) (monthI d) ≤ d at hb
  rcases monthF_up (yearI d) d 12 1 with h | h
  · change 12 ≤ monthI d ∨ d < daysI (yearI d) (monthI d + 1) at h
    rcases h with h | h
    · rw [show monthI d = 12 by omega, show (12 : Int) + 1 = 13 from rfl, daysI_13]; exact yearI_up h0 h1
    · exact h
  · change monthI d = 1 + ((12 : Nat) : Int) at h; omega
theorem yearI_9999 {d : Int} (h0 : 0 ≤ d) (h1 : d ≤ 2932896) : yearI d ≤ 9999 := by
  have hd : daysI (yearI d) 1 ≤ d := (yearF_b d 1000 _ (daysI_y0 d h0 h1)).2
  rw [daysI_1] at hd; omega

theorem u8n {a b : Int} (h : a = b) : UInt8.ofNat a.toNat = UInt8.ofNat b.toNat := by rw [h]
theorem padded2 {n : Int} (h0 : 0 ≤ n) (h1 : n ≤ 99) : paddedL n 2 = twoL n := by
  obtain ⟨k, rfl⟩ : ∃ k : Nat, n = k := ⟨n.toNat, by omega⟩
  unfold paddedL twoL
  rw [itoa_nat]
  by_cases h : k < 10
  · rw [dec_small h]
    rw [show (48 + (k : Int) / 10 % 10).toNat = 48 by omega, show (48 + (k : Int) % 10).toNat = 48 + k by omega]
    rfl
  · rw [dec_step (by omega), dec_small (by omega)]
    rw [show (48 + (k : Int) / 10 % 10).toNat = 48 + k / 10 by omega, show (48 + (k : Int) % 10).toNat = 48 + k % 10 by omega]
    rfl
theorem padded4 {n : Int} (h0 : 1000 ≤ n) (h1 : n ≤ 9999) : paddedL n 4 = twoL (n / 100) ++ twoL n := by
  obtain ⟨k, rfl⟩ : ∃ k : Nat, n = k := ⟨n.toNat, by omega⟩
  unfold paddedL twoL
  rw [itoa_nat, dec_step (by omega), dec_step (n := k / 10) (by omega), dec_step (n := k / 10 / 10) (by omega), dec_small (by omega)]
  rw [show (48 + (k : Int) / 100 / 10 % 10).toNat = 48 + k / 10 / 10 / 10 by omega, show (48 + (k : Int) / 100 % 10).toNat = 48 + k / 10 / 10 % 10 by omega, show (48 + (k : Int) / 10 % 10).toNat = 48 + k / 10 % 10 by omega, show (48 + (k : Int) % 10).toNat = 48 + k % 10 by omega]
  rfl
theorem dayName (d : Int) : List.take ((3 * ((d + 4) % 7) + 3).toNat - (3 * ((d + 4) % 7)).toNat) (List.drop (3 * ((d + 4) % 7)).toNat ([83, 117, 110, 77, 111, 110, 84, 117, 101, 87, 101, 100, 84, 104, 117, 70, 114, 105, 83, 97, 116] : List UInt8)) = wdN.getD ((d + 3) % 7).toNat [] := by
  rcases (by omega : d % 7 = 0 ∨ d % 7 = 1 ∨ d % 7 = 2 ∨ d % 7 = 3 ∨ d % 7 = 4 ∨ d % 7 = 5 ∨ d % 7 = 6) with h | h | h | h | h | h | h
  · rw [show (d + 4) % 7 = 4 by omega, show (d + 3) % 7 = 3 by omega]; rfl
  · rw [show (d + 4) % 7 = 5 by omega, show (d + 3) % 7 = 4 by omega]; rfl
  · rw [show (d + 4) % 7 = 6 by omega, show (d + 3) % 7 = 5 by omega]; rfl
  · rw [show (d + 4) % 7 = 0 by omega, show (d + 3) % 7 = 6 by omega]; rfl
  · rw [show (d + 4) % 7 = 1 by omega, show (d + 3) % 7 = 0 by omega]; rfl
  · rw [show (d + 4) % 7 = 2 by omega, show (d + 3) % 7 = 1 by omega]; rfl
  · rw [show (d + 4) % 7 = 3 by omega, show (d + 3) % 7 = 2 by omega]; rfl
theorem conDateOf2 : Con pg 69 ckDateText0 := by
  have hct := (ctA_ok conYearDays (ctA_ok conMonthDays (ctA_ok conTwo (ctA_ok conMonthName (ctN_ok _)))))
  intro args q r h hq
  unfold ckDateText0 at h
  split at h
  · cases h
    rename_i n
    refine w69 (fun _ => false) [] rfl hct rfl rfl ?_
    push_cast (config := { maxSteps := 10000000 })
    (repeat (refine ⟨by omega, ?_⟩))
    generalize hd : n / 86400 = d at *
    have h0 : 0 ≤ d ∧ d ≤ 2932896 := by omega
    refine LoopW.adj ⟨hct, fol⟩ (by kernel_rfl) [] (fun t : Nat => [(3, .int .i64 (d - daysI (1970 + t) 1)), (4, .int .i64 (n % 86400)), (5, .int .i64 ((d + 4) % 7)), (6, .int .i64 (1970 + t)), (7, .int .i64 1)]) (fun _ => []) (fun t => daysI (1970 + t) 1 ≤ d) (fun t => 9000 - t) 0 ?_ fun t ht => ?_
    · push_cast (config := { maxSteps := 10000000 })
      have e : daysI 1970 1 = 0 := by rw [daysI_1]; omega
      simp [e]; omega
    · push_cast (config := { maxSteps := 10000000 })
      have hlo : (t : Int) ≤ 8029 := by have := daysI_1 (1970 + t); omega
      have hnx := daysI_next (1970 + t)
      have hyl : yearLong (1970 + t) = 365 ∨ yearLong (1970 + t) = 366 := by unfold yearLong; split <;> simp
      have hge : 0 ≤ daysI (1970 + t) 1 := by have := daysI_1 (1970 + t); omega
      refine ⟨⟨by omega, by omega⟩, fun h => ⟨⟨by omega, by omega⟩, ⟨by omega, by omega⟩, ⟨by omega, by omega⟩, t + 1, ?_, by omega, ?_, by omega⟩, fun h => ?_⟩
      · rw [show 1970 + ((t + 1 : Nat) : Int) = 1970 + (t : Int) + 1 by omega]; omega
      · rw [show 1970 + ((t + 1 : Nat) : Int) = 1970 + (t : Int) + 1 by omega]; omega
      · have hY : yearI d = 1970 + t := yearI_is h0.1 h0.2 ht (by omega)
        generalize 1970 + (t : Int) = y at *
        have hy : 1970 ≤ y ∧ y ≤ 9999 := by have := yearI_9999 h0.1 h0.2; have := (date_b h0.1 h0.2).1; omega
        refine LoopW.adj ⟨hct, fol⟩ (by kernel_rfl) [] (fun t : Nat => [(3, .int .i64 (d - daysI y (1 + t))), (4, .int .i64 (n % 86400)), (5, .int .i64 ((d + 4) % 7)), (6, .int .i64 y), (7, .int .i64 (1 + t))]) (fun _ => []) (fun t => daysI y (1 + t) ≤ d ∧ t ≤ 11) (fun t => 12 - t) 0 ?_ fun t ht2 => ?_
        · push_cast (config := { maxSteps := 10000000 })
          simpa using ht
        · push_cast (config := { maxSteps := 10000000 })
          have hm := daysI_month (y := y) (m := 1 + t) (by omega)
          have hml := monthLongI_b y (1 + t)
          have hmm := daysI_mmono (y := y) (m := 1) (k := 1 + t) (by omega) (by omega)
          have h12 : (t : Int) + 1 = 12 → d < daysI y (1 + t + 1) := fun e => by
            rw [show 1 + (t : Int) + 1 = 13 by omega, daysI_13]; omega
          have hl2 : ∀ x, (twoL x).length = 2 := fun _ => rfl
          have hl3 := mnN_b (1 + (t : Int) - 1).toNat
          have q1 : (0 ≤ y ∧ y ≤ 1000000 ∧ 1 ≤ 1 + (t : Int) ∧ 1 + (t : Int) ≤ 12) := by omega
          refine ⟨q1, fun h => ⟨q1, ⟨by omega, by omega⟩, ⟨by omega, by omega⟩, t + 1, ⟨?_, ?_⟩, by omega, ?_, by omega⟩, fun h => ?_⟩
          · rw [show 1 + ((t + 1 : Nat) : Int) = 1 + (t : Int) + 1 by omega]; omega
          · by_cases e : (t : Int) + 1 = 12
            · have := h12 e; omega
            · omega
          · rw [show 1 + ((t + 1 : Nat) : Int) = 1 + (t : Int) + 1 by omega]; omega
          have hM : monthI d = 1 + t := monthI_is h0.1 h0.2 (by omega) (by omega) (by rw [hY]; exact ht2.1) (by rw [hY]; omega)
          simp only [hl2]
          have hd2 : d - daysI y (1 + t) ≤ 30 := by omega
          (repeat (refine ⟨by omega, ?_⟩))
          rw [dayName]
          unfold dateTextL
          simp only [hd, hY, hM]
          rw [padded2 (n := d - daysI y (1 + t) + 1) (by omega) (by omega), padded4 (n := y) (by omega) (by omega), padded2 (n := n % 86400 / 3600) (by omega) (by omega), padded2 (n := n % 86400 / 60 % 60) (by omega) (by omega), padded2 (n := n % 86400 % 60) (by omega) (by omega)]
          simp only [List.append_assoc]
  · cases h

def ckWritten : Ck
  | [x] => some (isC cRec x ∧ recOk (cRec.dec x) ∧ checkRecL (cRec.dec x) = 0, .sl (recB (cRec.dec x)).length (byF (recB (cRec.dec x))))
  | _ => none
theorem conWritten : Con pg 42 ckWritten := by
  have hct := (ctA_ok conKindW (ctA_ok conDateOf2 (ctA_ok conItoa (ctA_ok conDigest2 (ctN_ok _)))))
  intro args q r h hq
  unfold ckWritten at h
  split at h
  · cases h
    rename_i x
    refine pcall_args (args' := [cRec.enc (cRec.dec x)]) ⟨hq.1, trivial⟩ ?_
    obtain ⟨-, ha, hc⟩ := hq
    generalize cRec.dec x = r at ha hc ⊢
    refine w42 (fun _ => false) [.frz 73] rfl hct rfl rfl ?_
    push_cast (config := { maxSteps := 10000000 })
    obtain ⟨z1, z2, z3, z4, z5, z6, z7⟩ := rec_sz hc
    obtain ⟨y1, y2, y3, y4, y5, y6, y7, y8, y9, y10⟩ := rec_ok hc
    have zk := kindW_le (r.ki - 1).toNat
    have zp := recP_le hc
    refine ⟨by omega, by omega, fun how => ?_, fun how => ?_⟩
    · (repeat (refine ⟨by omega, ?_⟩))
      refine LoopW.adj ⟨hct, fol⟩ (by kernel_rfl) [] (fun t : Nat × List UInt8 => [(1, .ptr 1 0), (3, .str t.2), (4, .int .i64 t.1)]) (fun t => [(1, .cells [.int .i64 r.ki, .str r.id, .str r.ow, .int .i64 r.ti, .str r.ke, .sl r.hd.length (lsF cHd r.hd), .sl r.bd.length (byF r.bd)])]) (fun t => t.1 ≤ r.hd.length ∧ t.2 ++ headsB (r.hd.drop t.1) = recP r ++ headsB r.hd) (fun t => r.hd.length - t.1) (0, recP r) ?_ fun t ht => ?_
      · push_cast (config := { maxSteps := 10000000 })
        refine ⟨Nat.zero_le _, ?_⟩
        unfold recP; rw [if_neg how]; simp [lnB2, wKept]
      · obtain ⟨i, o⟩ := t
        obtain ⟨i1, i2⟩ : i ≤ r.hd.length ∧ o ++ headsB (r.hd.drop i) = recP r ++ headsB r.hd := ht
        have hl := congrArg List.length i2
        simp only [List.length_append] at hl
        push_cast (config := { maxSteps := 10000000 })
        refine ⟨fun h => ?_, fun h => ?_⟩
        · have e := dropG (d := ⟨[], []⟩) h
          rw [e, headsB] at i2 hl
          have hx : (headB (r.hd.getD i ⟨[], []⟩)).length = (r.hd.getD i ⟨[], []⟩).name.length + 2 + (r.hd.getD i ⟨[], []⟩).value.length + 2 := by simp [headB]; omega
          simp only [List.length_append] at hl
          generalize r.hd.getD i ⟨[], []⟩ = y at *
          (repeat (refine ⟨by omega, ?_⟩))
          exact ⟨((i + 1, o ++ (y.name ++ [58, 32] ++ y.value ++ [13, 10])) : Nat × List UInt8), ⟨by show i + 1 ≤ _; omega, by rw [← i2]; simp [headB]⟩, by show r.hd.length - (i + 1) < r.hd.length - i; omega, rfl, by show (i : Int) + 1 = ((i + 1 : Nat) : Int); omega⟩
        · rw [List.drop_eq_nil_of_le (by omega)] at i2 hl
          simp only [headsB, List.append_nil, List.length_nil, Nat.add_zero] at i2 hl
          have hi6 := itoa_len (n := r.bd.length) (by omega)
          have hdg : (digestL r.bd).length = 16 := hex16_len _
          (repeat (refine ⟨by omega, ?_⟩))
          have eq : (o ++ 108 :: 101 :: 110 :: 103 :: 116 :: 104 :: 58 :: 32 :: (Lib.itoa r.bd.length ++ [13, 10, 100, 105, 103, 101, 115, 116, 58, 32] ++ digestL r.bd ++ [13, 10, 13, 10])) ++ r.bd ++ [13, 10, 13, 10] = recB r := by
            rw [i2]; simp [recB, recQ, lnB2]
          have hQ : (o ++ 108 :: 101 :: 110 :: 103 :: 116 :: 104 :: 58 :: 32 :: (Lib.itoa r.bd.length ++ [13, 10, 100, 105, 103, 101, 115, 116, 58, 32] ++ digestL r.bd ++ [13, 10, 13, 10])).length = o.length + ((Lib.itoa r.bd.length).length + 10 + (digestL r.bd).length + 4 + 1 + 1 + 1 + 1 + 1 + 1 + 1 + 1) := by simp; omega
          have app := (ByI.app (ByI.app (ByI.by (o ++ 108 :: 101 :: 110 :: 103 :: 116 :: 104 :: 58 :: 32 :: (Lib.itoa r.bd.length ++ [13, 10, 100, 105, 103, 101, 115, 116, 58, 32] ++ digestL r.bd ++ [13, 10, 13, 10]))) (ByI.by r.bd) rfl) (ByI.by [13, 10, 13, 10]) rfl).eq eq
          rw [hQ] at app
          exact ⟨app.pure, app.1, app.2⟩
    · (repeat (refine ⟨by omega, ?_⟩))
      refine LoopW.adj ⟨hct, fol⟩ (by kernel_rfl) [] (fun t : Nat × List UInt8 => [(1, .ptr 1 0), (3, .str t.2), (4, .int .i64 t.1)]) (fun t => [(1, .cells [.int .i64 r.ki, .str r.id, .str r.ow, .int .i64 r.ti, .str r.ke, .sl r.hd.length (lsF cHd r.hd), .sl r.bd.length (byF r.bd)])]) (fun t => t.1 ≤ r.hd.length ∧ t.2 ++ headsB (r.hd.drop t.1) = recP r ++ headsB r.hd) (fun t => r.hd.length - t.1) (0, recP r) ?_ fun t ht => ?_
      · push_cast (config := { maxSteps := 10000000 })
        refine ⟨Nat.zero_le _, ?_⟩
        unfold recP; rw [if_pos how]; simp [lnB2, wKept]
      · obtain ⟨i, o⟩ := t
        obtain ⟨i1, i2⟩ : i ≤ r.hd.length ∧ o ++ headsB (r.hd.drop i) = recP r ++ headsB r.hd := ht
        have hl := congrArg List.length i2
        simp only [List.length_append] at hl
        push_cast (config := { maxSteps := 10000000 })
        refine ⟨fun h => ?_, fun h => ?_⟩
        · have e := dropG (d := ⟨[], []⟩) h
          rw [e, headsB] at i2 hl
          have hx : (headB (r.hd.getD i ⟨[], []⟩)).length = (r.hd.getD i ⟨[], []⟩).name.length + 2 + (r.hd.getD i ⟨[], []⟩).value.length + 2 := by simp [headB]; omega
          simp only [List.length_append] at hl
          generalize r.hd.getD i ⟨[], []⟩ = y at *
          (repeat (refine ⟨by omega, ?_⟩))
          exact ⟨((i + 1, o ++ (y.name ++ [58, 32] ++ y.value ++ [13, 10])) : Nat × List UInt8), ⟨by show i + 1 ≤ _; omega, by rw [← i2]; simp [headB]⟩, by show r.hd.length - (i + 1) < r.hd.length - i; omega, rfl, by show (i : Int) + 1 = ((i + 1 : Nat) : Int); omega⟩
        · rw [List.drop_eq_nil_of_le (by omega)] at i2 hl
          simp only [headsB, List.append_nil, List.length_nil, Nat.add_zero] at i2 hl
          have hi6 := itoa_len (n := r.bd.length) (by omega)
          have hdg : (digestL r.bd).length = 16 := hex16_len _
          (repeat (refine ⟨by omega, ?_⟩))
          have eq : (o ++ 108 :: 101 :: 110 :: 103 :: 116 :: 104 :: 58 :: 32 :: (Lib.itoa r.bd.length ++ [13, 10, 100, 105, 103, 101, 115, 116, 58, 32] ++ digestL r.bd ++ [13, 10, 13, 10])) ++ r.bd ++ [13, 10, 13, 10] = recB r := by
            rw [i2]; simp [recB, recQ, lnB2]
          have hQ : (o ++ 108 :: 101 :: 110 :: 103 :: 116 :: 104 :: 58 :: 32 :: (Lib.itoa r.bd.length ++ [13, 10, 100, 105, 103, 101, 115, 116, 58, 32] ++ digestL r.bd ++ [13, 10, 13, 10])).length = o.length + ((Lib.itoa r.bd.length).length + 10 + (digestL r.bd).length + 4 + 1 + 1 + 1 + 1 + 1 + 1 + 1 + 1) := by simp; omega
          have app := (ByI.app (ByI.app (ByI.by (o ++ 108 :: 101 :: 110 :: 103 :: 116 :: 104 :: 58 :: 32 :: (Lib.itoa r.bd.length ++ [13, 10, 100, 105, 103, 101, 115, 116, 58, 32] ++ digestL r.bd ++ [13, 10, 13, 10]))) (ByI.by r.bd) rfl) (ByI.by [13, 10, 13, 10]) rfl).eq eq
          rw [hQ] at app
          exact ⟨app.pure, app.1, app.2⟩
  · cases h
attribute [push_cast] ckWritten

theorem conCheckFile2 : Con pg 15 ckCheckFile := by
  have hct := (ctA_ok conCheckRec2 (ctA_ok conWritten (ctA_ok conFind (ctN_ok _))))
  intro args q r h hq
  unfold ckCheckFile at h
  split at h
  · cases h
    rename_i n f
    refine pcall_args (args' := [.sl (lsOf cRec n f).length (lsF cRec (lsOf cRec n f))]) ⟨isLs.vle hq.1, trivial⟩ ?_
    obtain ⟨-, hl⟩ := hq
    generalize lsOf cRec n f = l at hl ⊢
    refine w15 (fun _ => false) [] rfl hct rfl rfl ?_
    push_cast (config := { maxSteps := 10000000 })
    refine ⟨fun h => by unfold checkFileL; rw [if_pos (by omega)], fun h => ?_⟩
    have e0 : checkFileL l = cfGo [] 0 l := by unfold checkFileL; rw [if_neg (by omega)]
    rw [e0]
    refine LoopW.adj ⟨hct, fol⟩ (by kernel_rfl) [] (fun t : Nat × Int => [(0, .sl l.length (lsF cRec l)), (3, .int .i64 t.2), (4, .int .i64 t.1)]) (fun t => []) (fun t => t.1 ≤ l.length ∧ 0 ≤ t.2 ∧ t.2 ≤ t.1 * 400000 ∧ cfGo ((l.take t.1).map Rcd.id) t.2 (l.drop t.1) = cfGo [] 0 l) (fun t => l.length - t.1) (0, 0) ?_ fun t ht => ?_
    · push_cast (config := { maxSteps := 10000000 })
      exact Nat.zero_le _
    · obtain ⟨i, m⟩ := t
      obtain ⟨h1, h2, h3, h4⟩ : i ≤ l.length ∧ 0 ≤ m ∧ m ≤ i * 400000 ∧ cfGo ((l.take i).map Rcd.id) m (l.drop i) = cfGo [] 0 l := ht
      push_cast (config := { maxSteps := 10000000 })
      refine ⟨fun hi => ?_, fun hi => ?_⟩
      · rw [dropG (d := noRec) hi, cfGo] at h4
        have ea := cf_app hi
        have ok := recsOk_at hl hi
        have hk := LsI.sh (LsI.ls (c := cRec) l) (l := 0) (k := i) (by omega)
        rw [List.drop_zero] at hk
        have hf := fndL_in (l.take i) (l.getD i noRec).id
        rw [hk.of]
        generalize l.getD i noRec = r at *
        refine ⟨hi, ok, fun g => ?_, fun g => ⟨by omega, hi, ⟨hk.is, by omega⟩, fun g2 => ?_, fun g2 => ⟨hi, ⟨ok, g⟩, ?_⟩⟩⟩
        · rw [if_pos g] at h4; exact h4
        · rw [if_neg (fun x => x g), if_pos (hf.1 g2)] at h4; exact h4
        · rw [if_neg (fun x => x g), if_neg (fun x => g2 (hf.2 x))] at h4
          have hb := recB_le g
          exact ⟨⟨by omega, by omega⟩, ⟨by omega, by omega⟩, ((i + 1, m + (recB r).length) : Nat × Int), ⟨by show i + 1 ≤ _; omega, by show 0 ≤ m + _; omega, by show m + _ ≤ ((i + 1 : Nat) : Int) * 400000; omega, by rw [ea]; exact h4⟩, by show l.length - (i + 1) < l.length - i; omega, rfl, by show (i : Int) + 1 = ((i + 1 : Nat) : Int); omega⟩
      · rw [List.drop_eq_nil_of_le (by omega), cfGo] at h4
        exact ⟨fun g => by rw [if_pos g] at h4; exact h4, fun g => by rw [if_neg g] at h4; exact h4⟩
  · cases h
attribute [push_cast] ckCheckFile
theorem conFileBytes2 : Con pg 13 ckFileBytes := by
  have hct := (ctA_ok conCheckFile2 (ctA_ok conWritten (ctN_ok _)))
  intro args q r h hq
  unfold ckFileBytes at h
  split at h
  · cases h
    rename_i n f
    refine pcall_args (args' := [.sl (lsOf cRec n f).length (lsF cRec (lsOf cRec n f))]) ⟨isLs.vle hq.1, trivial⟩ ?_
    obtain ⟨-, hl⟩ := hq
    generalize lsOf cRec n f = l at hl ⊢
    refine w13 (fun _ => false) [.frz 8000] rfl hct rfl rfl ?_
    push_cast (config := { maxSteps := 10000000 })
    refine ⟨hl, fun h => by unfold fileR; rw [if_neg h]; rfl, fun h => ?_⟩
    have e0 : fileR l = fileB l := by unfold fileR; rw [if_pos h]
    rw [e0]
    obtain ⟨c1, c2, c3⟩ := file_ok h
    refine LoopW.adj ⟨hct, fol⟩ (by kernel_rfl) [.nv 5 8000 1 (byF [])] (fun t : Nat × List UInt8 => [(0, .sl l.length (lsF cRec l)), (5, .vec 8000 t.2.length), (6, .int .i64 t.1)]) (fun t => [(8000, .vec 1 t.2.length (byF t.2))]) (fun t => t.1 ≤ l.length ∧ t.2 ++ fileB (l.drop t.1) = fileB l) (fun t => l.length - t.1) (0, []) ?_ fun t ht => ?_
    · push_cast (config := { maxSteps := 10000000 })
      exact Nat.zero_le _
    · obtain ⟨i, o⟩ := t
      obtain ⟨h1, h2⟩ : i ≤ l.length ∧ o ++ fileB (l.drop i) = fileB l := ht
      have hlen := congrArg List.length h2
      simp only [List.length_append] at hlen
      push_cast (config := { maxSteps := 10000000 })
      refine ⟨fun hi => ?_, fun hi => ?_⟩
      · rw [dropG (d := noRec) hi, fileB] at h2
        have ok := recsOk_at hl hi
        have cr : checkRecL (l.getD i noRec) = 0 := by
          refine c1 _ ?_
          rw [List.getD_eq_getElem?_getD, List.getElem?_eq_getElem hi]; exact List.getElem_mem hi
        generalize l.getD i noRec = r at *
        have hb := recB_le cr
        have app := ByI.app (ByI.by o) (ByI.by (recB r)) rfl
        exact ⟨hi, ⟨ok, cr⟩, ⟨by omega, by omega⟩, ⟨by omega, by omega⟩, ((i + 1, o ++ recB r) : Nat × List UInt8), ⟨by show i + 1 ≤ _; omega, by show o ++ recB r ++ _ = _; rw [List.append_assoc]; exact h2⟩, by show l.length - (i + 1) < l.length - i; omega, ⟨by simp, by show (i : Int) + 1 = ((i + 1 : Nat) : Int); omega⟩, by simp, app.2⟩
      · rw [List.drop_eq_nil_of_le (by omega), fileB, List.append_nil] at h2
        subst h2
        exact ⟨⟨rfl, fun _ _ => rfl⟩, h.symm⟩
  · cases h
attribute [push_cast] ckFileBytes

def recR (r : Rcd) : List UInt8 := if checkRecL r = 0 then recB r else []
def digR (r : Rcd) : List UInt8 := if checkRecL r = 0 then digestL r.bd else []
def ckRecBytes : Ck
  | [x] => some (isC cRec x ∧ recOk (cRec.dec x), .tup [.sl (recR (cRec.dec x)).length (byF (recR (cRec.dec x))), .int .i64 (checkRecL (cRec.dec x))])
  | _ => none
theorem conRecBytes : Con pg 24 ckRecBytes := by
  have hct := (ctA_ok conCheckRec (ctA_ok conWrite (ctN_ok _)))
  intro args q r h hq
  unfold ckRecBytes at h
  split at h
  · cases h
    rename_i x
    refine pcall_args (args' := [cRec.enc (cRec.dec x)]) ⟨hq.1, trivial⟩ ?_
    obtain ⟨-, ha⟩ := hq
    generalize cRec.dec x = r at ha ⊢
    refine w24 (fun _ => false) [] rfl hct rfl rfl ?_
    push_cast (config := { maxSteps := 10000000 })
    have e : checkRecL r = 0 → recR r = recB r := fun h => by unfold recR; rw [if_pos h]
    refine ⟨ha, fun h => by unfold recR; rw [if_neg h]; rfl, fun h => ⟨⟨ha, h⟩, ?_, h.symm⟩⟩
    rw [e h]
    exact ⟨rfl, fun _ _ => rfl⟩
  · cases h
attribute [push_cast] ckRecBytes
def ckDigestOf : Ck
  | [x] => some (isC cRec x ∧ recOk (cRec.dec x), .tup [.str (digR (cRec.dec x)), .int .i64 (checkRecL (cRec.dec x))])
  | _ => none
theorem conDigestOf : Con pg 46 ckDigestOf := by
  have hct := (ctA_ok conCheckRec (ctA_ok conDigest (ctN_ok _)))
  intro args q r h hq
  unfold ckDigestOf at h
  split at h
  · cases h
    rename_i x
    refine pcall_args (args' := [cRec.enc (cRec.dec x)]) ⟨hq.1, trivial⟩ ?_
    obtain ⟨-, ha⟩ := hq
    generalize cRec.dec x = r at ha ⊢
    refine w46 (fun _ => false) [] rfl hct rfl rfl ?_
    push_cast (config := { maxSteps := 10000000 })
    exact ⟨ha, fun h => by unfold digR; rw [if_neg h], fun h => ⟨by have := (rec_ok h).2.2.2.2.2.2.2.2.2; omega, by unfold digR; rw [if_pos h], h.symm⟩⟩
  · cases h
attribute [push_cast] ckDigestOf
def recA : Rcd := ⟨1, [97], [], 0, [107], [], []⟩
def ckDigNil : Ck
  | [.agg [.int .i64 1, .str [97], .str [], .int .i64 0, .str [107], .nilsl, .nilsl]] => some (True, .tup [.str (digR recA), .int .i64 (checkRecL recA)])
  | _ => none
theorem conDigNil : Con pg 46 ckDigNil := by
  intro args q r h hq
  unfold ckDigNil at h
  split at h
  · cases h
    have hz : ∀ f, VLe .nilsl (.sl 0 f) := fun f => vle1_ok (show vle1 .nilsl (.sl 0 f) from rfl)
    refine pcall_args (args' := [cRec.enc recA]) ⟨VLe.agg ⟨VLe.refl _, VLe.refl _, VLe.refl _, VLe.refl _, VLe.refl _, hz _, hz _, trivial⟩, trivial⟩ ?_
    have := conDigestOf [cRec.enc recA] _ _ rfl ⟨isC_enc cRec recA, ?_⟩
    · rw [cRec.ok] at this
      exact this
    · rw [cRec.ok]
      exact ⟨fun x hx => (by cases hx), by decide, by decide, by decide, by decide, by decide, by decide, by decide, by decide, by decide⟩
  · cases h
attribute [push_cast] ckDigNil
def ckAwake6 : Ck
  | [] => some (True, .bool true)
  | _ => none
theorem conAwake6 : Con pg 17 ckAwake6 := by
  have hct := (ctA_ok conDigNil (ctN_ok _))
  intro args q r h hq
  unfold ckAwake6 at h
  split at h
  · cases h
    refine w17 (fun _ => false) [] rfl hct rfl rfl ?_
    push_cast (config := { maxSteps := 10000000 })
    exact ⟨by decide +kernel, by decide +kernel⟩
  · cases h
attribute [push_cast] ckAwake6

/- lists of records as arguments -/
theorem VLe.slV {n : Nat} {f g : Nat → V} (h : ∀ i, i < n → (g i).flat.length = (f i).flat.length ∧ ∀ j, j < (f i).flat.length → VLe ((f i).flat.getD j .any) ((g i).flat.getD j .any) ∧ ((g i).flat.getD j .any).isPure = true) : VLe (.sl n f) (.sl n g) := by
  intro γ imm w v hr
  cases inv_sl (S := ⟨γ, imm, fun _ => none, w⟩) hr with
  | sl0 _ a c => exact .pure (.sl0 _ a c)
  | sl _ _ b off c sz u hb hnc hs hf hc ho hp =>
    refine .pure (.sl n g b off c sz u hb hnc hs (fun i hi => (h i hi).1.trans (hf i hi)) hc ho (fun i j hi hj => ?_))
    have hj' : j < (f i).flat.length := by rw [hf i hi]; exact hj
    obtain ⟨h1, h2⟩ := (h i hi).2 j hj'
    exact isPure_rep (S := ⟨γ, imm, fun _ => none, w⟩) (h1 _ _ _ _ (.pure (hp i j hi hj))) h2
def isLv {α : Type} (c : Cod α) (n : Nat) (f : Nat → V) : Prop := VLe (.sl n f) (.sl (lsOf c n f).length (lsF c (lsOf c n f)))
theorem shRecX {m : Nat} {v : V} (h : Sh.has (.tup [.int .i64, .str, .str, .int .i64, .str, .list (.tup [.str, .str]), .list (.int .u8)]) m v) : ∃ ki id ow ti ke n f k g, v = .agg [.int .i64 ki, .str id, .str ow, .int .i64 ti, .str ke, .sl n f, .sl k g] ∧ isLs cHd n f ∧ isBy k g := by
  obtain ⟨l, ms, rfl, -, hl⟩ := h
  obtain ⟨m1, v1, ms, l, rfl, h1, hl⟩ := hasL_cons hl
  obtain ⟨m2, v2, ms, l, rfl, h2, hl⟩ := hasL_cons hl
  obtain ⟨m3, v3, ms, l, rfl, h3, hl⟩ := hasL_cons hl
  obtain ⟨m4, v4, ms, l, rfl, h4, hl⟩ := hasL_cons hl
  obtain ⟨m5, v5, ms, l, rfl, h5, hl⟩ := hasL_cons hl
  obtain ⟨m6, v6, ms, l, rfl, h6, hl⟩ := hasL_cons hl
  obtain ⟨m7, v7, ms, l, rfl, h7, hl⟩ := hasL_cons hl
  obtain rfl := hasL_nil hl
  obtain ⟨ki, rfl, c1⟩ := shInt h1
  obtain ⟨id, rfl, b2⟩ := shStr h2
  obtain ⟨ow, rfl, b3⟩ := shStr h3
  obtain ⟨ti, rfl, c4⟩ := shInt h4
  obtain ⟨ke, rfl, b5⟩ := shStr h5
  obtain ⟨n, f, rfl, i6, b6, k6⟩ := shList (c := cHd) (fun m v h => shHead h) h6
  obtain ⟨k, g, rfl, i7, b7⟩ := shBytes h7
  exact ⟨ki, id, ow, ti, ke, n, f, k, g, rfl, i6, i7⟩
theorem shRecs {m : Nat} {v : V} (h : Sh.has (.list (.tup [.int .i64, .str, .str, .int .i64, .str, .list (.tup [.str, .str]), .list (.int .u8)])) m v) : ∃ (n : Nat) (f : Nat → V), v = .sl n f ∧ isLv cRec n f ∧ n ≤ 140737488355328 ∧ recsOk (lsOf cRec n f) := by
  obtain ⟨l, ms, rfl, h1, h2, h3, h4⟩ := h
  have := reach_le
  refine ⟨_, _, rfl, ?_, by omega, fun a ha => ?_⟩
  · unfold isLv
    rw [lsOf_len]
    refine VLe.slV fun i hi => ?_
    obtain ⟨ki, id, ow, ti, ke, n, f, k, g, e, i6, i7⟩ := shRecX (h4 i hi)
    have e : litF l i = _ := e
    have e2 : lsF cRec (lsOf cRec l.length (litF l)) i = cRec.enc (cRec.dec (litF l i)) := by
      unfold lsF lsOf
      rw [List.getD_eq_getElem?_getD, List.getElem?_map, List.getElem?_range hi]; rfl
    rw [e2, e]
    refine ⟨rfl, fun j hj => ?_⟩
    match j, hj with
    | 0, _ => exact ⟨VLe.refl _, rfl⟩
    | 1, _ => exact ⟨VLe.refl _, rfl⟩
    | 2, _ => exact ⟨VLe.refl _, rfl⟩
    | 3, _ => exact ⟨VLe.refl _, rfl⟩
    | 4, _ => exact ⟨VLe.refl _, rfl⟩
    | 5, _ => exact ⟨isLs.vle i6, rfl⟩
    | 6, _ => exact ⟨isBy.vle i7, rfl⟩
  · simp only [lsOf, List.mem_map, List.mem_range] at ha
    obtain ⟨i, hi, rfl⟩ := ha
    exact (shRec (h4 i hi)).2

def ckLawRF : Ck
  | [.sl n f] => some (isLv cRec n f ∧ recsOk (lsOf cRec n f), .bool true)
  | _ => none
theorem conLawRF : Con pg 3 ckLawRF := by
  have hct := (ctA_ok conFileBytes (ctA_ok conFileBytes2 (ctA_ok conCheckFile (ctA_ok conCheckFile2 (ctA_ok conBEqual (ctA_ok conAwake6 (ctN_ok _)))))))
  intro args q r h hq
  unfold ckLawRF at h
  split at h
  · cases h
    rename_i n f
    refine pcall_args (args' := [.sl (lsOf cRec n f).length (lsF cRec (lsOf cRec n f))]) ⟨hq.1, trivial⟩ ?_
    obtain ⟨-, hl⟩ := hq
    generalize lsOf cRec n f = l at hl ⊢
    refine w3 (fun _ => false) [] rfl hct rfl rfl ?_
    push_cast (config := { maxSteps := 10000000 })
    exact hl
  · cases h
attribute [push_cast] ckLawRF
theorem allLawRF {H : Type} (ds : List (DataW H)) (hh : hasD [.list (.tup [.int .i64, .str, .str, .int .i64, .str, .list (.tup [.str, .str]), .list (.int .u8)])] ds) : PCall pg 3 (ds.map toV) (.bool true) := by
  obtain ⟨d1, rfl, a⟩ := hasD1 hh
  obtain ⟨n, f, e1, i1, b1, k1⟩ := shRecs a
  simp only [List.map_cons, List.map_nil, e1]
  exact conLawRF _ _ _ rfl ⟨i1, k1⟩

end Go.Abs
