/- what functions of this program compute: contracts, each a function's own -/
import Derived.Test.YtgkjefmoaebfaaaGreatDoorAbsK2
import Derived.Test.YtgkjefmoaebfaaaGreatDoorAbsFacts
import Derived.Test.YtgkjefmoaebfaaaGreatDoorAbsF0
import Derived.Test.YtgkjefmoaebfaaaGreatDoorAbsShelf
import Derived.Lib.SplitLaws
import Derived.Lib.SlTrimSet
import Derived.Lib.Atoi
import Derived.Lib.Itoa
import Derived.Lib.ItoaNum
import Derived.Lib.AtoiErrMem
import Derived.Lib.Index
import Derived.Lib.IndexBytes
import Derived.Lib.Walk
import Derived.Lib.BitFns
import Derived.Lib.TrailingZeros
import Derived.Lib.ItoaLen
namespace Go.Abs
open Go Go.Proofs
set_option maxHeartbeats 4000000
set_option maxRecDepth 100000
set_option linter.unusedVariables false
set_option linter.unusedSimpArgs false
theorem hx_hexC : ∀ d, d < 16 → hx (hexC d) = d := by decide
theorem numF_hex : ∀ (u : Nat), u ≤ 65536 → ∀ t, numF (hexL u ++ t) 0 0 = numF t (hexL u).length u := by
  intro u
  induction u using Nat.strongRecOn with
  | ind u ih =>
    intro hu t
    by_cases h : u < 16
    · rw [hexL_small h]
      simp only [List.cons_append, List.nil_append, numF]
      rw [hx_hexC u h, if_pos h, if_neg (by omega)]
      simp
    · rw [hexL_big (by omega), List.append_assoc, ih (u / 16) (by omega) (by omega)]
      simp only [List.cons_append, List.nil_append, numF]
      rw [hx_hexC _ (Nat.mod_lt _ (by omega)), if_pos (Nat.mod_lt _ (by omega)), if_neg (by omega)]
      rw [show 16 * (u / 16) + u % 16 = u by omega]
      simp
theorem numF_prefix : ∀ (p q : List UInt8) (a n : Nat), (numF (p ++ q) a n).1 = true → a + p.length ≤ (numF (p ++ q) a n).2.2 → (numF p a n).1 = true ∧ (numF p a n).2.2 = a + p.length
  | [], q, a, n, _, _ => by simp [numF]
  | c :: p, q, a, n, h1, h2 => by
    simp only [List.cons_append, numF] at h1 h2 ⊢
    by_cases h3 : hx c < 16
    · rw [if_pos h3] at h1 h2 ⊢
      by_cases h4 : (0 < a ∧ n = 0) ∨ 65536 < 16 * n + hx c
      · rw [if_pos h4] at h1; simp at h1
      · rw [if_neg h4] at h1 h2 ⊢
        have := numF_prefix p q (a + 1) (16 * n + hx c) h1 (by simp only [List.length_cons] at h2; omega)
        refine ⟨this.1, ?_⟩
        rw [this.2]; simp; omega
    · rw [if_neg h3] at h2
      simp only [List.length_cons] at h2
      omega
theorem hexL_pos (u : Nat) : 1 ≤ (hexL u).length := by
  by_cases h : u < 16
  · rw [hexL_small h]; simp
  · rw [hexL_big (by omega)]; simp
theorem hx13 : ¬hx 13 < 16 := by decide
theorem numF_13 (t : List UInt8) (a n : Nat) : numF (13 :: t) a n = (true, n, a) := by rw [numF, if_neg hx13]
/-- a whole chunk, with anything behind it -/
theorem readL_chunk {m : Nat} (hm : m ≤ 65536) {data : List UInt8} (hd : data.length = m) (rest : List UInt8) :
    readL (hexL m ++ ([13, 10] ++ (data ++ ([13, 10] ++ rest)))) = (data, (hexL m).length + 2 + m + 2, 0) := by
  have hp := hexL_pos m
  have e : numF (hexL m ++ ([13, 10] ++ (data ++ ([13, 10] ++ rest)))) 0 0 = (true, m, (hexL m).length) := by
    rw [numF_hex m hm]; exact numF_13 _ _ _
  rw [readL_of e]
  generalize hh : hexL m = H at *
  have d1 : (H ++ ([13, 10] ++ (data ++ ([13, 10] ++ rest)))).drop H.length = [13, 10] ++ (data ++ ([13, 10] ++ rest)) := List.drop_left
  have d2 : (H ++ ([13, 10] ++ (data ++ ([13, 10] ++ rest)))).drop (H.length + 2) = data ++ ([13, 10] ++ rest) := by
    rw [← List.drop_drop, d1]; rfl
  have d3 : (H ++ ([13, 10] ++ (data ++ ([13, 10] ++ rest)))).drop (H.length + 2 + m) = [13, 10] ++ rest := by
    rw [← List.drop_drop, d2, ← hd, List.drop_left]
  rw [d1, d2, d3]
  have b1 : ∀ t, begF ([13, 10] ++ t) crlf = 0 := fun t => by simp [begF, crlf]
  rw [b1, b1, if_neg (by simp), if_neg (by omega), if_neg (by simp), if_neg (by simp; omega), if_neg (by simp), List.take_left' hd]
/-- the beginning of a chunk -/
theorem readL_part {m : Nat} (hm : m ≤ 65536) {data : List UInt8} (hd : data.length = m) {j : Nat} (hj : j < (hexL m).length + 2 + m + 2) :
    readL ((hexL m ++ ([13, 10] ++ (data ++ [13, 10]))).take j) = ([], 0, 1) := by
  have hp := hexL_pos m
  by_cases h1 : j ≤ (hexL m).length
  · have e0 : (hexL m ++ ([13, 10] ++ (data ++ [13, 10]))).take j = (hexL m).take j := by rw [List.take_append_of_le_length h1]
    rw [e0]
    have hf := numF_hex m hm []
    rw [List.append_nil] at hf
    have := numF_prefix ((hexL m).take j) ((hexL m).drop j) 0 0 (by rw [List.take_append_drop, hf]; rfl) (by rw [List.take_append_drop, hf]; simp [numF]; omega)
    cases hq : numF ((hexL m).take j) 0 0 with
    | mk ok p =>
      obtain ⟨n, i⟩ := p
      rw [hq] at this
      obtain ⟨t1, t2⟩ := this
      simp only at t1 t2
      subst t1
      rw [readL_of hq, if_pos (by omega)]
  · have e0 : (hexL m ++ ([13, 10] ++ (data ++ [13, 10]))).take j = hexL m ++ ([13, 10] ++ (data ++ [13, 10])).take (j - (hexL m).length) := by
      rw [List.take_append, List.take_of_length_le (by omega)]
    rw [e0]
    obtain ⟨i, hi⟩ : ∃ i, j - (hexL m).length = i + 1 := ⟨j - (hexL m).length - 1, by omega⟩
    have hi2 : i + 1 < 2 + m + 2 := by omega
    rw [hi]
    have e : numF (hexL m ++ ([13, 10] ++ (data ++ [13, 10])).take (i + 1)) 0 0 = (true, m, (hexL m).length) := by
      rw [numF_hex m hm]; exact numF_13 _ _ _
    rw [readL_of e]
    generalize hexL m = H at *
    have hl : (H ++ ([13, 10] ++ (data ++ [13, 10])).take (i + 1)).length = H.length + (i + 1) := by simp; omega
    have d1 : (H ++ ([13, 10] ++ (data ++ [13, 10])).take (i + 1)).drop H.length = ([13, 10] ++ (data ++ [13, 10])).take (i + 1) := List.drop_left
    rw [hl, d1, if_neg (by omega), if_neg (by omega)]
    cases i with
    | zero =>
      have : begF (([13, 10] ++ (data ++ [13, 10])).take (0 + 1)) crlf = 1 := rfl
      rw [this, if_pos (by omega)]
    | succ i =>
      have b0 : begF (([13, 10] ++ (data ++ [13, 10])).take (i + 1 + 1)) crlf = 0 := by simp [begF, crlf]
      rw [b0, if_neg (by simp)]
      by_cases h2 : i < m
      · rw [if_pos (by omega)]
      · rw [if_neg (by omega)]
        have d3 : (H ++ ([13, 10] ++ (data ++ [13, 10])).take (i + 1 + 1)).drop (H.length + 2 + m) = ([13, 10] : List UInt8).take (i - m) := by
          rw [show H.length + 2 + m = H.length + (2 + m) by omega, ← List.drop_drop, d1]
          rw [show List.take (i + 1 + 1) (([13, 10] : List UInt8) ++ (data ++ [13, 10])) = ([13, 10] : List UInt8) ++ (data ++ [13, 10]).take i from rfl, ← List.drop_drop]
          show List.drop m (List.take i (data ++ [13, 10])) = _
          rw [List.take_append, List.take_of_length_le (by omega), List.drop_left' hd, hd]
        rw [d3]
        have : i - m = 0 ∨ i - m = 1 := by omega
        rcases this with h5 | h5 <;> rw [h5]
        · have : begF (([13, 10] : List UInt8).take 0) crlf = 1 := rfl
          rw [this, if_pos (by omega)]
        · have : begF (([13, 10] : List UInt8).take 1) crlf = 1 := rfl
          rw [this, if_pos (by omega)]
theorem chunksL_nil (k : Nat) : chunksL k [] = hexL 0 ++ ([13, 10] ++ ([] ++ [13, 10])) := by
  rw [chunksL, dif_pos (.inl rfl), hexL_small (by omega)]; rfl
theorem chunksL_cons {k : Nat} {s : List UInt8} (hs : 0 < s.length) (hk : 0 < k) : chunksL k s = (hexL (min k s.length) ++ ([13, 10] ++ (s.take (min k s.length) ++ [13, 10]))) ++ chunksL k (s.drop (min k s.length)) := by
  rw [chunksL_more hs hk]; simp only [List.append_assoc]
theorem read_all {k : Nat} (h1 : 1 ≤ k) (h2 : k ≤ 65536) : ∀ (n : Nat) (body : List UInt8), body.length ≤ n → ∀ (pre out : List UInt8) (fuel : Nat), (chunksL k body).length < fuel → out.length + body.length ≤ 200000 →
    readAll (pre ++ chunksL k body) fuel pre.length out = (out ++ body, (pre ++ chunksL k body).length, 0, 0) := by
  intro n
  induction n with
  | zero =>
    intro body hb pre out fuel hf ho
    have : body = [] := List.length_eq_zero_iff.1 (by omega)
    subst this
    obtain ⟨f, rfl⟩ : ∃ f, fuel = f + 1 := ⟨fuel - 1, by omega⟩
    simp only [readAll, List.drop_left]
    have hr := readL_chunk (m := 0) (by omega) (data := []) rfl []
    rw [chunksL_nil]
    rw [List.append_nil] at hr
    rw [hr]
    have hl : (hexL 0).length = 1 := by rw [hexL_small (by omega)]; rfl
    simp only [List.length_nil, List.append_nil, List.length_append, List.length_cons, hl]
    rw [if_neg (by omega), if_neg (by omega), if_neg (by omega), if_neg (by simp at ho; omega), if_neg (by omega)]
  | succ n ih =>
    intro body hb pre out fuel hf ho
    by_cases h0 : body.length = 0
    · exact ih body (by omega) pre out fuel hf ho
    · have hc := chunksL_cons (k := k) (s := body) (by omega) (by omega)
      obtain ⟨f, rfl⟩ : ∃ f, fuel = f + 1 := ⟨fuel - 1, by omega⟩
      simp only [readAll, List.drop_left]
      have hm : 1 ≤ min k body.length ∧ min k body.length ≤ body.length ∧ min k body.length ≤ 65536 := by omega
      have hr := readL_chunk (m := min k body.length) hm.2.2 (data := body.take (min k body.length)) (by simp) (chunksL k (body.drop (min k body.length)))
      have hr' : readL (chunksL k body) = (body.take (min k body.length), (hexL (min k body.length)).length + 2 + min k body.length + 2, 0) := by
        rw [hc]; simp only [List.append_assoc] at hr ⊢; exact hr
      generalize min k body.length = m at *
      rw [hr']
      have hl : (body.take m).length = m := by simp; omega
      rw [if_neg (by simp), if_neg (by simp), if_pos (by simp only [hl]; omega)]
      have hlen := congrArg List.length hc
      simp only [List.length_append, hl, List.length_cons, List.length_nil] at hlen
      have := ih (body.drop m) (by simp; omega) (pre ++ (hexL m ++ ([13, 10] ++ (body.take m ++ [13, 10])))) (out ++ body.take m) f (by omega) (by simp; omega)
      rw [List.append_assoc pre, ← hc] at this
      rw [show List.length (pre ++ (hexL m ++ (([13, 10] : List UInt8) ++ (body.take m ++ [13, 10])))) = pre.length + ((hexL m).length + 2 + m + 2) by simp only [List.length_append, hl, List.length_cons, List.length_nil]; omega] at this
      rw [this, List.append_assoc, List.take_append_drop]
theorem read_part {k : Nat} (h1 : 1 ≤ k) (h2 : k ≤ 65536) : ∀ (n : Nat) (body : List UInt8), body.length ≤ n → ∀ (pre out : List UInt8) (fuel j : Nat), j < (chunksL k body).length → j < fuel → out.length + body.length ≤ 200000 →
    ∃ i a, readAll (pre ++ (chunksL k body).take j) fuel pre.length out = (out ++ body.take i, a, (pre ++ (chunksL k body).take j).length, 15) := by
  intro n
  induction n with
  | zero =>
    intro body hb pre out fuel j hj hf ho
    have : body = [] := List.length_eq_zero_iff.1 (by omega)
    subst this
    obtain ⟨f, rfl⟩ : ∃ f, fuel = f + 1 := ⟨fuel - 1, by omega⟩
    simp only [readAll, List.drop_left]
    have hl : (hexL 0).length = 1 := by rw [hexL_small (by omega)]; rfl
    rw [chunksL_nil] at hj ⊢
    simp only [List.length_append, hl, List.length_cons, List.length_nil] at hj
    have hr := readL_part (m := 0) (by omega) (data := []) rfl (j := j) (by omega)
    rw [hr, if_neg (by simp), if_pos rfl, if_pos (by simp at ho; omega)]
    exact ⟨0, pre.length, by simp⟩
  | succ n ih =>
    intro body hb pre out fuel j hj hf ho
    by_cases h0 : body.length = 0
    · exact ih body (by omega) pre out fuel j hj hf ho
    · have hc := chunksL_cons (k := k) (s := body) (by omega) (by omega)
      obtain ⟨f, rfl⟩ : ∃ f, fuel = f + 1 := ⟨fuel - 1, by omega⟩
      simp only [readAll, List.drop_left]
      have hm : 1 ≤ min k body.length ∧ min k body.length ≤ body.length ∧ min k body.length ≤ 65536 := by omega
      generalize min k body.length = m at *
      have hl : (body.take m).length = m := by simp; omega
      have hC : (hexL m ++ ([13, 10] ++ (body.take m ++ [13, 10]))).length = (hexL m).length + 2 + m + 2 := by simp only [List.length_append, hl, List.length_cons, List.length_nil]; omega
      by_cases hj2 : j < (hexL m).length + 2 + m + 2
      · have e : (chunksL k body).take j = (hexL m ++ ([13, 10] ++ (body.take m ++ [13, 10]))).take j := by
          rw [hc, List.take_append_of_le_length (by omega)]
        rw [e]
        rw [readL_part (m := m) hm.2.2 hl hj2, if_neg (by simp), if_pos rfl, if_pos (by omega)]
        exact ⟨0, pre.length, by simp⟩
      · have e : (chunksL k body).take j = (hexL m ++ ([13, 10] ++ (body.take m ++ [13, 10]))) ++ (chunksL k (body.drop m)).take (j - ((hexL m).length + 2 + m + 2)) := by
          rw [hc, List.take_append, List.take_of_length_le (by omega), hC]
        have hr := readL_chunk (m := m) hm.2.2 (data := body.take m) hl ((chunksL k (body.drop m)).take (j - ((hexL m).length + 2 + m + 2)))
        have hr' : readL ((chunksL k body).take j) = (body.take m, (hexL m).length + 2 + m + 2, 0) := by
          rw [e]; simp only [List.append_assoc] at hr ⊢; exact hr
        rw [hr']
        rw [if_neg (by simp), if_neg (by simp), if_pos (by simp only [hl]; omega)]
        have hlen := congrArg List.length hc
        rw [List.length_append, hC] at hlen
        obtain ⟨i, a, hi⟩ := ih (body.drop m) (by simp; omega) (pre ++ (hexL m ++ ([13, 10] ++ (body.take m ++ [13, 10])))) (out ++ body.take m) f (j - ((hexL m).length + 2 + m + 2)) (by omega) (by omega) (by simp; omega)
        rw [List.append_assoc pre, ← e] at hi
        rw [show List.length (pre ++ (hexL m ++ (([13, 10] : List UInt8) ++ (body.take m ++ [13, 10])))) = pre.length + ((hexL m).length + 2 + m + 2) by rw [List.length_append, hC]] at hi
        refine ⟨m + i, a, ?_⟩
        rw [hi, List.append_assoc, ← List.take_add]
theorem readC_all {k : Nat} (h1 : 1 ≤ k) (h2 : k ≤ 65536) {body : List UInt8} (hb : body.length ≤ 200000) : readC (chunksL k body) = (body, (chunksL k body).length, 0, 0) := by
  have := read_all h1 h2 _ body (Nat.le_refl _) [] [] ((chunksL k body).length + 1) (by omega) (by simp; omega)
  simpa [readC] using this
theorem readC_part {k : Nat} (h1 : 1 ≤ k) (h2 : k ≤ 65536) {body : List UInt8} (hb : body.length ≤ 200000) {j : Nat} (hj : j < (chunksL k body).length) : ∃ i a, readC ((chunksL k body).take j) = (body.take i, a, j, 15) := by
  obtain ⟨i, a, h⟩ := read_part h1 h2 _ body (Nat.le_refl _) [] [] (((chunksL k body).take j).length + 1) j hj (by simp; omega) (by simp; omega)
  refine ⟨i, a, ?_⟩
  have e : ((chunksL k body).take j).length = j := by simp; omega
  unfold readC
  simpa [e] using h

def ckBEqual : Ck
  | [.sl n f, .sl m g] => some (isBy n f ∧ isBy m g, .bool (bytesOf n f == bytesOf m g))
  | _ => none
theorem isBy.p {n : Nat} {f : Nat → V} (h : isBy n f) : ∀ i, i < n → ∃ m, f i = .int .u8 m := ByI.bytesP h
theorem conBEqual : Con pg 13 ckBEqual := by
  have hct := ctN_ok pg
  intro args q r h hq
  unfold ckBEqual at h
  split at h
  · cases h
    rename_i n f m g
    refine w13 (fun _ => false) [] rfl hct rfl rfl ?_
    push_cast (config := { maxSteps := 10000000 })
    exact ⟨hq.1.p, hq.2.p⟩
  · cases h
attribute [push_cast] ckBEqual

def monthLongI (y m : Int) : Int :=
  if m = 4 ∨ m = 6 ∨ m = 9 ∨ m = 11 then 30 else if m = 2 then (if y % 4 = 0 ∧ (y % 100 ≠ 0 ∨ y % 400 = 0) then 29 else 28) else 31
def ckMonthLong : Ck
  | [.int .i64 y, .int .i64 m] => some (0 ≤ y ∧ y ≤ 1000000, .int .i64 (monthLongI y m))
  | _ => none
theorem conMonthLong : Con pg 176 ckMonthLong := by
  have hct := ctN_ok pg
  intro args q r h hq
  unfold ckMonthLong at h
  split at h
  · cases h
    rename_i y m
    refine w176 (fun _ => false) [] rfl hct rfl rfl ?_
    push_cast (config := { maxSteps := 10000000 })
    unfold monthLongI
    (repeat' (first | apply And.intro | intro _)) <;> (try first | assumption | contradiction | omega | exact rfl | exact trivial)
  · cases h
attribute [push_cast] ckMonthLong
def monthsSum (y : Int) : Nat → Int
  | 0 => 0
  | k + 1 => monthsSum y k + monthLongI y ((k : Int) + 1)
def daysI (y m : Int) : Int := 365 * (y - 1) + (y - 1) / 4 - (y - 1) / 100 + (y - 1) / 400 - 719162 + monthsSum y (m - 1).toNat
theorem monthLongI_b (y m : Int) : 28 ≤ monthLongI y m ∧ monthLongI y m ≤ 31 := by
  unfold monthLongI
  (repeat' (first | apply And.intro | intro _)) <;> (try first | assumption | contradiction | omega | exact rfl | exact trivial)
theorem monthsSum_b (y : Int) (k : Nat) : 0 ≤ monthsSum y k ∧ monthsSum y k ≤ 31 * k := by
  induction k with
  | zero => simp [monthsSum]
  | succ k ih => have := monthLongI_b y ((k : Int) + 1); simp only [monthsSum]; omega
theorem daysI_1 (y : Int) : daysI y 1 = 365 * (y - 1) + (y - 1) / 4 - (y - 1) / 100 + (y - 1) / 400 - 719162 := by
  unfold daysI
  rw [show ((1 : Int) - 1).toNat = 0 from rfl]
  simp only [monthsSum]; omega
attribute [irreducible] daysI
def ckDays : Ck
  | [.int .i64 y, .int .i64 m] => some (1 ≤ y ∧ y ≤ 1000000 ∧ m ≤ 13, .int .i64 (daysI y m))
  | _ => none
theorem conDays : Con pg 146 ckDays := by
  have hct := (ctA_ok conMonthLong (ctN_ok _))
  intro args q r h hq
  unfold ckDays at h
  split at h
  · cases h
    rename_i y m
    refine w146 (fun _ => false) [] rfl hct rfl rfl ?_
    push_cast (config := { maxSteps := 10000000 })
    (repeat (refine ⟨by omega, ?_⟩))
    refine LoopW.adj ⟨hct, fol⟩ (by kernel_rfl) [] (fun k : Nat => [(0, .int .i64 y), (1, .int .i64 m), (6, .int .i64 (daysI y 1 + monthsSum y k)), (7, .int .i64 (k + 1))]) (fun _ => []) (fun k => (k : Int) + 1 ≤ 13 ∧ ((k : Int) + 1 ≤ m ∨ k = 0)) (fun k => 13 - k) 0 ?_ fun k hk => ?_
    · push_cast (config := { maxSteps := 10000000 })
      have e1 : daysI y 1 = 365 * (y - 1) + (y - 1) / 4 - (y - 1) / 100 + (y - 1) / 400 - 719162 := daysI_1 y
      simp only [e1, monthsSum]
      (repeat' (first | apply And.intro | intro _)) <;> (try first | assumption | contradiction | omega | exact rfl | exact trivial)
    · push_cast (config := { maxSteps := 10000000 })
      have := monthsSum_b y k
      have := monthLongI_b y ((k : Int) + 1)
      have e1 : daysI y 1 = 365 * (y - 1) + (y - 1) / 4 - (y - 1) / 100 + (y - 1) / 400 - 719162 := daysI_1 y
      (repeat' (first | apply And.intro | intro _)) <;> (try omega)
      · refine ⟨k + 1, by omega, by omega, ?_, by omega⟩
        simp only [monthsSum]; omega
      · have e2 : (m - 1).toNat = k ∨ (k = 0 ∧ (m - 1).toNat = 0) := by omega
        have e3 : (m - 1).toNat = k := by omega
        rw [e1]
        unfold daysI
        rw [e3]
  · cases h
attribute [push_cast] ckDays

def yearF (d : Int) : Nat → Int → Int
  | 0, y => y
  | n + 1, y => if daysI (y + 1) 1 ≤ d then yearF d n (y + 1) else y
def monthF (y d : Int) : Nat → Int → Int
  | 0, m => m
  | n + 1, m => if m < 12 ∧ daysI y (m + 1) ≤ d then monthF y d n (m + 1) else m
def yearI (d : Int) : Int := yearF d 1000 (1970 + d / 366)
def monthI (d : Int) : Int := monthF (yearI d) d 12 1
def dateI (n : Int) : V := .agg [.int .i64 (yearI (n / 86400)), .int .i64 (monthI (n / 86400)), .int .i64 (n / 86400 - daysI (yearI (n / 86400)) (monthI (n / 86400)) + 1), .int .i64 (n % 86400 / 3600), .int .i64 (n % 86400 / 60 % 60), .int .i64 (n % 86400 % 60)]
def ckDateOf : Ck
  | [.int .i64 n] => some (0 ≤ n ∧ n ≤ 253402300799, dateI n)
  | _ => none
theorem daysI_lo {y d : Int} (h : daysI y 1 ≤ d) (hy : 1 ≤ y) (hd : d ≤ 2932896) : y ≤ 10100 := by
  rw [daysI_1] at h
  omega
theorem daysI_y0 (d : Int) (h0 : 0 ≤ d) (hd : d ≤ 2932896) : daysI (1970 + d / 366) 1 ≤ d := by
  rw [daysI_1]
  omega
theorem daysI_step {y d : Int} (h : daysI y 1 ≤ d) (hy : 1970 + d / 366 ≤ y) (h0 : 0 ≤ d) (hd : d ≤ 2932896) : y ≤ 1970 + d / 366 + 900 := by
  rw [daysI_1] at h
  omega
theorem conDateOf : Con pg 109 ckDateOf := by
  have hct := (ctA_ok conDays (ctN_ok _))
  intro args q r h hq
  unfold ckDateOf at h
  split at h
  · cases h
    rename_i n
    refine w109 (fun _ => false) [] rfl hct rfl rfl ?_
    push_cast (config := { maxSteps := 10000000 })
    (repeat (refine ⟨by omega, ?_⟩))
    generalize hd : n / 86400 = d at *
    have h0 : 0 ≤ d ∧ d ≤ 2932896 := by omega
    refine LoopW.adj ⟨hct, fol⟩ (by kernel_rfl) [] (fun t : Nat => [(2, .ptr 2 0), (3, .int .i64 d), (5, .ptr 5 0)]) (fun t => [(2, .cells [.int .i64 0, .int .i64 0, .int .i64 0, .int .i64 0, .int .i64 0, .int .i64 0]), (5, .cells [.int .i64 (1970 + d / 366 + t), .int .i64 1, .int .i64 0, .int .i64 (n % 86400 / 3600), .int .i64 (n % 86400 / 60 % 60), .int .i64 (n % 86400 % 60)])]) (fun t => daysI (1970 + d / 366 + t) 1 ≤ d ∧ t ≤ 900 ∧ yearF d (1000 - t) (1970 + d / 366 + t) = yearI d) (fun t => 1000 - t) 0 ?_ fun t ht => ?_
    · push_cast (config := { maxSteps := 10000000 })
      have := daysI_y0 d h0.1 h0.2
      simp [this, yearI]
    · push_cast (config := { maxSteps := 10000000 })
      obtain ⟨t1, t2, t3⟩ := ht
      obtain ⟨m, hm⟩ : ∃ m, 1000 - t = m + 1 := ⟨999 - t, by omega⟩
      rw [hm] at t3
      simp only [yearF] at t3
      refine ⟨by omega, by omega, fun h => ⟨by omega, t + 1, ⟨?_, ?_, ?_⟩, by omega, by omega⟩, fun h => ?_⟩
      · rw [show 1970 + d / 366 + ((t + 1 : Nat) : Int) = 1970 + d / 366 + t + 1 by omega]; exact h
      · have := daysI_step h (by omega) h0.1 h0.2; omega
      · rw [if_pos h] at t3
        rw [show 1970 + d / 366 + ((t + 1 : Nat) : Int) = 1970 + d / 366 + t + 1 by omega, show 1000 - (t + 1) = m by omega]; exact t3
      · rw [if_neg h] at t3
        rw [t3]
        have hY : 1970 ≤ yearI d ∧ yearI d ≤ 10999 := by omega
        have hYd : daysI (yearI d) 1 ≤ d := by rw [← t3]; exact t1
        clear t3 h t1
        refine LoopW.adj ⟨hct, fol⟩ (by kernel_rfl) [] (fun t : Nat => [(2, .ptr 2 0), (3, .int .i64 d), (5, .ptr 5 0)]) (fun t => [(2, .cells [.int .i64 0, .int .i64 0, .int .i64 0, .int .i64 0, .int .i64 0, .int .i64 0]), (5, .cells [.int .i64 (yearI d), .int .i64 (1 + t), .int .i64 0, .int .i64 (n % 86400 / 3600), .int .i64 (n % 86400 / 60 % 60), .int .i64 (n % 86400 % 60)])]) (fun t => t ≤ 11 ∧ daysI (yearI d) (1 + t) ≤ d ∧ monthF (yearI d) d (12 - t) (1 + t) = monthI d) (fun t => 12 - t) 0 ?_ fun t ht => ?_
        · push_cast (config := { maxSteps := 10000000 })
          simp [hYd, monthI]
        · push_cast (config := { maxSteps := 10000000 })
          obtain ⟨t1, t2, t3⟩ := ht
          obtain ⟨m, hm⟩ : ∃ m, 12 - t = m + 1 := ⟨11 - t, by omega⟩
          rw [hm] at t3
          simp only [monthF] at t3
          refine ⟨fun h => by omega, fun h => by omega, fun h => ⟨by omega, t + 1, ⟨by omega, ?_, ?_⟩, by omega, by omega⟩, fun h => ⟨by omega, ?_⟩⟩
          · rw [show 1 + ((t + 1 : Nat) : Int) = 1 + t + 1 by omega]; exact h.2
          · rw [if_pos h] at t3
            rw [show 1 + ((t + 1 : Nat) : Int) = 1 + t + 1 by omega, show 12 - (t + 1) = m by omega]; exact t3
          · have h' : ¬(1 + (t : Int) < 12 ∧ daysI (yearI d) (1 + t + 1) ≤ d) := fun hh => h hh.1 hh.2
            rw [if_neg h'] at t3
            unfold dateI
            rw [hd, ← t3]
            have b1 : -800000 ≤ daysI (yearI d) (1 + (t : Int)) ∧ daysI (yearI d) (1 + (t : Int)) ≤ 9000000 := by
              have := monthsSum_b (yearI d) (1 + (t : Int) - 1).toNat
              unfold daysI
              omega
            push_cast (config := { maxSteps := 10000000 })
            (repeat' (first | apply And.intro | intro _)) <;> (try first | assumption | contradiction | omega | exact rfl | exact trivial)
  · cases h
attribute [push_cast] ckDateOf

def paddedL (n k : Int) : List UInt8 := Lib.repeatL [48] (max 0 (k - (Lib.itoa n).length)).toNat ++ Lib.itoa n
def ckPadded : Ck
  | [.int .i64 n, .int .i64 k] => some (-9223372036854775808 ≤ n ∧ n ≤ 9223372036854775807 ∧ 0 ≤ k ∧ k ≤ 1000, .str (paddedL n k))
  | _ => none
theorem paddedL_len {n k : Int} (h1 : -9223372036854775808 ≤ n) (h2 : n ≤ 9223372036854775807) (h3 : 0 ≤ k) (h4 : k ≤ 1000) : (paddedL n k).length ≤ 1021 := by
  have := Lib.itoa_length_le n h1 h2
  unfold paddedL
  simp only [List.length_append, Lib.repeatL_length, List.length_cons, List.length_nil]
  omega
theorem conPadded : Con pg 111 ckPadded := by
  have hct := (ctA_ok conItoa (ctA_ok conRepeat (ctN_ok _)))
  intro args q r h hq
  unfold ckPadded at h
  split at h
  · cases h
    rename_i n k
    refine w111 (fun _ => false) [] rfl hct rfl rfl ?_
    push_cast (config := { maxSteps := 10000000 })
    have := Lib.itoa_length_le n hq.1 hq.2.1
    have e : (Lib.repeatL [48] (max 0 (k - (Lib.itoa n).length)).toNat).length = (max 0 (k - (Lib.itoa n).length)).toNat := by simp [Lib.repeatL_length]
    refine ⟨by omega, by omega, by omega, by omega, rfl⟩
  · cases h
attribute [push_cast] ckPadded
def wdN : List (List UInt8) := [[77, 111, 110], [84, 117, 101], [87, 101, 100], [84, 104, 117], [70, 114, 105], [83, 97, 116], [83, 117, 110]]
def mnN : List (List UInt8) := [[74, 97, 110], [70, 101, 98], [77, 97, 114], [65, 112, 114], [77, 97, 121], [74, 117, 110], [74, 117, 108], [65, 117, 103], [83, 101, 112], [79, 99, 116], [78, 111, 118], [68, 101, 99]]
def ckWeekdays : Ck
  | [] => some (True, .sl 7 fun i => .str (wdN.getD i []))
  | _ => none
theorem conWeekdays : Con pg 110 ckWeekdays := by
  have hct := ctN_ok pg
  intro args q r h hq
  unfold ckWeekdays at h
  split at h
  · cases h
    refine w110 (fun _ => false) [] rfl hct rfl rfl ?_
    push_cast (config := { maxSteps := 10000000 })
    intro i hi
    rcases (by omega : i = 0 ∨ i = 1 ∨ i = 2 ∨ i = 3 ∨ i = 4 ∨ i = 5 ∨ i = 6) with rfl | rfl | rfl | rfl | rfl | rfl | rfl <;> rfl
  · cases h
attribute [push_cast] ckWeekdays
def ckMonths : Ck
  | [] => some (True, .sl 12 fun i => .str (mnN.getD i []))
  | _ => none
theorem conMonths : Con pg 112 ckMonths := by
  have hct := ctN_ok pg
  intro args q r h hq
  unfold ckMonths at h
  split at h
  · cases h
    refine w112 (fun _ => false) [] rfl hct rfl rfl ?_
    push_cast (config := { maxSteps := 10000000 })
    intro i hi
    rcases (by omega : i = 0 ∨ i = 1 ∨ i = 2 ∨ i = 3 ∨ i = 4 ∨ i = 5 ∨ i = 6 ∨ i = 7 ∨ i = 8 ∨ i = 9 ∨ i = 10 ∨ i = 11) with rfl | rfl | rfl | rfl | rfl | rfl | rfl | rfl | rfl | rfl | rfl | rfl <;> rfl
  · cases h
attribute [push_cast] ckMonths
theorem yearF_b (d : Int) : ∀ (n : Nat) (y : Int), daysI y 1 ≤ d → y ≤ yearF d n y ∧ daysI (yearF d n y) 1 ≤ d
  | 0, y, h => ⟨Int.le_refl _, h⟩
  | n + 1, y, h => by
    simp only [yearF]
    split
    · rename_i h1
      have := yearF_b d n (y + 1) h1
      exact ⟨by omega, this.2⟩
    · exact ⟨Int.le_refl _, h⟩
theorem monthF_b (y d : Int) : ∀ (n : Nat) (m : Int), 1 ≤ m → m ≤ 12 → daysI y m ≤ d → 1 ≤ monthF y d n m ∧ monthF y d n m ≤ 12 ∧ daysI y (monthF y d n m) ≤ d
  | 0, m, h1, h2, h => ⟨h1, h2, h⟩
  | n + 1, m, h1, h2, h => by
    simp only [monthF]
    split
    · rename_i h3
      exact monthF_b y d n (m + 1) (by omega) (by omega) h3.2
    · exact ⟨h1, h2, h⟩
theorem date_b {d : Int} (h0 : 0 ≤ d) (h1 : d ≤ 2932896) : 1970 ≤ yearI d ∧ yearI d ≤ 10100 ∧ 1 ≤ monthI d ∧ monthI d ≤ 12 ∧ -800000 ≤ daysI (yearI d) (monthI d) ∧ daysI (yearI d) (monthI d) ≤ d := by
  have a := yearF_b d 1000 _ (daysI_y0 d h0 h1)
  have hy : 1970 ≤ yearI d := by have := a.1; unfold yearI; omega
  have hd : daysI (yearI d) 1 ≤ d := a.2
  have b := monthF_b (yearI d) d 12 1 (by omega) (by omega) hd
  have c := daysI_lo hd (by omega) h1
  refine ⟨hy, c, b.1, b.2.1, ?_, b.2.2⟩
  have := monthsSum_b (yearI d) (monthI d - 1).toNat
  unfold daysI
  omega
theorem wdN_b (i : Nat) : (wdN.getD i []).length ≤ 3 := by
  by_cases h : i < 7
  · rcases (by omega : i = 0 ∨ i = 1 ∨ i = 2 ∨ i = 3 ∨ i = 4 ∨ i = 5 ∨ i = 6) with rfl | rfl | rfl | rfl | rfl | rfl | rfl <;> decide
  · rw [List.getD_eq_getElem?_getD, List.getElem?_eq_none (by simp [wdN]; omega)]; simp
theorem mnN_b (i : Nat) : (mnN.getD i []).length ≤ 3 := by
  by_cases h : i < 12
  · rcases (by omega : i = 0 ∨ i = 1 ∨ i = 2 ∨ i = 3 ∨ i = 4 ∨ i = 5 ∨ i = 6 ∨ i = 7 ∨ i = 8 ∨ i = 9 ∨ i = 10 ∨ i = 11) with rfl | rfl | rfl | rfl | rfl | rfl | rfl | rfl | rfl | rfl | rfl | rfl <;> decide
  · rw [List.getD_eq_getElem?_getD, List.getElem?_eq_none (by simp [mnN]; omega)]; simp
def dateTextL (n : Int) : List UInt8 :=
  let d := n / 86400
  let y := yearI d
  let m := monthI d
  wdN.getD ((d + 3) % 7).toNat [] ++ [44, 32] ++ paddedL (d - daysI y m + 1) 2 ++ [32] ++ mnN.getD (m - 1).toNat [] ++ [32] ++ paddedL y 4 ++ [32] ++ paddedL (n % 86400 / 3600) 2 ++ [58] ++ paddedL (n % 86400 / 60 % 60) 2 ++ [58] ++ paddedL (n % 86400 % 60) 2 ++ [32, 71, 77, 84]
def ckDateText0 : Ck
  | [.int .i64 n] => some (0 ≤ n ∧ n ≤ 253402300799, .str (dateTextL n))
  | _ => none
theorem conDateText0 : Con pg 61 ckDateText0 := by
  have hct := (ctA_ok conDateOf (ctA_ok conWeekdays (ctA_ok conMonths (ctA_ok conPadded (ctN_ok _)))))
  intro args q r h hq
  unfold ckDateText0 at h
  split at h
  · cases h
    rename_i n
    refine w61 (fun _ => false) [] rfl hct rfl rfl ?_
    push_cast (config := { maxSteps := 10000000 })
    (repeat (refine ⟨by omega, ?_⟩))
    unfold dateI
    push_cast (config := { maxSteps := 10000000 })
    have h0 : 0 ≤ n / 86400 ∧ n / 86400 ≤ 2932896 := by omega
    have b := date_b h0.1 h0.2
    have l1 := wdN_b ((n / 86400 + 3) % 7).toNat
    have l2 := mnN_b (monthI (n / 86400) - 1).toNat
    have l3 := paddedL_len (n := n / 86400 - daysI (yearI (n / 86400)) (monthI (n / 86400)) + 1) (k := 2) (by omega) (by omega) (by omega) (by omega)
    have l4 := paddedL_len (n := yearI (n / 86400)) (k := 4) (by omega) (by omega) (by omega) (by omega)
    have l5 := paddedL_len (n := n % 86400 / 3600) (k := 2) (by omega) (by omega) (by omega) (by omega)
    have l6 := paddedL_len (n := n % 86400 / 60 % 60) (k := 2) (by omega) (by omega) (by omega) (by omega)
    have l7 := paddedL_len (n := n % 86400 % 60) (k := 2) (by omega) (by omega) (by omega) (by omega)
    (repeat (refine ⟨by omega, ?_⟩))
    simp [dateTextL]
  · cases h
attribute [push_cast] ckDateText0
def ckIsMoment : Ck
  | [.int .i64 n] => some (True, .bool (decide (0 ≤ n) && decide (n ≤ 253402300799)))
  | _ => none
theorem conIsMoment : Con pg 37 ckIsMoment := by
  have hct := ctN_ok pg
  intro args q r h hq
  unfold ckIsMoment at h
  split at h
  · cases h
    rename_i n
    refine w37 (fun _ => false) [] rfl hct rfl rfl ?_
    push_cast (config := { maxSteps := 10000000 })
    skip
  · cases h
attribute [push_cast] ckIsMoment
def ckDateText : Ck
  | [.int .i64 n] => some (-9223372036854775808 ≤ n ∧ n ≤ 9223372036854775807, .tup [.str (if 0 ≤ n ∧ n ≤ 253402300799 then dateTextL n else []), .int .i64 (if 0 ≤ n ∧ n ≤ 253402300799 then 0 else 1)])
  | _ => none
theorem conDateText : Con pg 25 ckDateText := by
  have hct := (ctA_ok conIsMoment (ctA_ok conDateText0 (ctN_ok _)))
  intro args q r h hq
  unfold ckDateText at h
  split at h
  · cases h
    rename_i n
    refine w25 (fun _ => false) [] rfl hct rfl rfl ?_
    push_cast (config := { maxSteps := 10000000 })
    refine ⟨fun h => ?_, fun h => ?_⟩
    · have h' : ¬(0 ≤ n ∧ n ≤ 253402300799) := fun hh => h hh.1 hh.2
      rw [if_neg h', if_neg h']; exact ⟨rfl, rfl⟩
    · rw [if_pos h, if_pos h]; exact ⟨h, rfl, rfl⟩
  · cases h
attribute [push_cast] ckDateText

def awakeL : List UInt8 := [84, 104, 117, 44, 32, 48, 49, 32, 74, 97, 110, 32, 49, 57, 55, 48, 32, 48, 48, 58, 48, 48, 58, 48, 48, 32, 71, 77, 84]
theorem dateText_0 : dateTextL 0 = awakeL := by
  have e0 : yearI 0 = 1970 := by
    unfold yearI
    rw [show (1970 : Int) + 0 / 366 = 1970 from rfl, show (1000 : Nat) = 999 + 1 from rfl]
    simp only [yearF]
    rw [daysI_1, if_neg (by omega)]
  have e1 : monthI 0 = 1 := by
    unfold monthI
    rw [e0, show (12 : Nat) = 11 + 1 from rfl]
    simp only [monthF]
    rw [if_neg]
    rintro ⟨_, h⟩
    unfold daysI at h
    revert h; decide
  have e2 : daysI 1970 1 = 0 := by rw [daysI_1]; omega
  have i1 : Lib.itoa 1 = [49] := by unfold Lib.itoa; rw [if_neg (by omega)]; exact Lib.decDigits_one (i := 1) (by omega)
  have i0 : Lib.itoa 0 = [48] := by unfold Lib.itoa; rw [if_neg (by omega)]; exact Lib.decDigits_one (i := 0) (by omega)
  have i2 : Lib.itoa 1970 = [49, 57, 55, 48] := by
    unfold Lib.itoa; rw [if_neg (by omega)]
    rw [show (1970 : Int).toNat = 1970 from rfl]
    rw [Lib.decDigits, dif_neg (by omega), Lib.decDigits, dif_neg (by omega), Lib.decDigits_two (by omega) (by omega)]
    rfl
  unfold dateTextL
  rw [show (0 : Int) / 86400 = 0 from rfl]
  simp only [e0, e1, e2]
  unfold paddedL
  rw [show (0 : Int) - 0 + 1 = 1 from rfl, show (0 : Int) % 86400 / 3600 = 0 from rfl, show (0 : Int) % 86400 / 60 % 60 = 0 from rfl, show (0 : Int) % 86400 % 60 = 0 from rfl, i1, i0, i2]
  rfl
def ckAwake2 : Ck
  | [] => some (True, .bool true)
  | _ => none
theorem conAwake2 : Con pg 9 ckAwake2 := by
  have hct := (ctA_ok conDateText (ctN_ok _))
  intro args q r h hq
  unfold ckAwake2 at h
  split at h
  · cases h
    refine w9 (fun _ => false) [] rfl hct rfl rfl ?_
    push_cast (config := { maxSteps := 10000000 })
    rw [dateText_0]
    rfl
  · cases h
attribute [push_cast] ckAwake2

/-- how a thing is coded -/
structure Cod (α : Type) where
  enc : α → V
  dec : V → α
  d : α
  ok : ∀ a, dec (enc a) = a
section
variable {α : Type} (c : Cod α)
def lsF (l : List α) : Nat → V := fun i => c.enc (l.getD i c.d)
/-- f's first n are the things l -/
def LsI (n : Nat) (f : Nat → V) (l : List α) : Prop := n = l.length ∧ ∀ i, i < n → f i = lsF c l i
def lsOf (n : Nat) (f : Nat → V) : List α := (List.range n).map fun i => c.dec (f i)
def isLs (n : Nat) (f : Nat → V) : Prop := LsI c n f (lsOf c n f)
variable {c}
theorem lsOf_len (n : Nat) (f : Nat → V) : (lsOf c n f).length = n := by simp [lsOf]
theorem LsI.ls (l : List α) : LsI c l.length (lsF c l) l := ⟨rfl, fun _ _ => rfl⟩
theorem LsI.of {n : Nat} {f : Nat → V} {l : List α} (h : LsI c n f l) : lsOf c n f = l := by
  obtain ⟨rfl, h⟩ := h
  apply List.ext_getElem
  · simp [lsOf]
  · intro i h1 h2
    simp only [lsOf, List.getElem_map, List.getElem_range]
    rw [h i h2]
    unfold lsF
    rw [c.ok, List.getD_eq_getElem?_getD, List.getElem?_eq_getElem h2]; rfl
theorem LsI.is {n : Nat} {f : Nat → V} {l : List α} (h : LsI c n f l) : isLs c n f := by unfold isLs; rw [h.of]; exact h
theorem LsI.vle {n : Nat} {f : Nat → V} {l : List α} (h : LsI c n f l) : VLe (.sl n f) (.sl l.length (lsF c l)) := VLe.sl h.1 h.2
theorem isLs.vle {n : Nat} {f : Nat → V} (h : isLs c n f) : VLe (.sl n f) (.sl (lsOf c n f).length (lsF c (lsOf c n f))) := LsI.vle h
theorem isLs_ls (l : List α) : isLs c l.length (lsF c l) := (LsI.ls l).is
theorem lsOf_ls (l : List α) : lsOf c l.length (lsF c l) = l := (LsI.ls l).of
theorem LsI.app {n m k : Nat} {f g : Nat → V} {a b : List α} (h1 : LsI c n f a) (h2 : LsI c m g b) (hk : k = n + m) : LsI c k (appF n f g) (a ++ b) := by
  obtain ⟨e1, h1⟩ := h1
  obtain ⟨e2, h2⟩ := h2
  refine ⟨by simp; omega, fun i hi => ?_⟩
  unfold appF
  by_cases h : i < n
  · rw [show decide (i < n) = true from by simp [h], cond_true, h1 i h]
    unfold lsF
    rw [List.getD_eq_getElem?_getD, List.getD_eq_getElem?_getD, List.getElem?_append_left (by omega)]
  · rw [show decide (i < n) = false from by simp [h], cond_false, h2 (i - n) (by omega)]
    unfold lsF
    rw [List.getD_eq_getElem?_getD, List.getD_eq_getElem?_getD, List.getElem?_append_right (by omega), e1]
theorem LsI.one {f : Nat → V} {a : α} (h : f 0 = c.enc a) : LsI c 1 f [a] := ⟨rfl, fun i hi => by
  have : i = 0 := by omega
  subst this
  exact h⟩
theorem LsI.nil (f : Nat → V) : LsI c 0 f [] := ⟨rfl, fun i hi => by omega⟩
theorem LsI.sh {n l k : Nat} {f : Nat → V} {s : List α} (h : LsI c n f s) (hk : l + k ≤ n) : LsI c k (shF f l) ((s.drop l).take k) := by
  obtain ⟨e, h⟩ := h
  refine ⟨by simp; omega, fun i hi => ?_⟩
  unfold shF
  rw [h (i + l) (by omega)]
  unfold lsF
  rw [List.getD_eq_getElem?_getD, List.getD_eq_getElem?_getD, List.getElem?_take_of_lt hi, List.getElem?_drop, Nat.add_comm]
theorem LsI.eq {n : Nat} {f : Nat → V} {s t : List α} (h : LsI c n f s) (e : s = t) : LsI c n f t := e ▸ h
theorem LsI.len {n m : Nat} {f : Nat → V} {s : List α} (h : LsI c n f s) (e : n = m) : LsI c m f s := e ▸ h
theorem LsI.pure {n : Nat} {f : Nat → V} {s : List α} (h : LsI c n f s) (hc : ∀ a, (c.enc a).isPure = true) : ∀ i, i < n → (f i).isPure = true := fun i hi => by rw [h.2 i hi]; exact hc _
theorem LsI.flat {n m : Nat} {f : Nat → V} {s : List α} (h : LsI c n f s) (hc : ∀ a, (c.enc a).flat.length = m) : ∀ i, i < n → (f i).flat.length = m := fun i hi => by rw [h.2 i hi]; exact hc _
end
/- strings -/
def decStr : V → List UInt8
  | .str s => s
  | _ => []
def cStr : Cod (List UInt8) := ⟨.str, decStr, [], fun _ => rfl⟩
@[push_cast] theorem lsF_str (l : List (List UInt8)) (i : Nat) : lsF cStr l i = .str (l.getD i []) := rfl
/- numbers -/
def decInt : V → Int
  | .int _ n => n
  | _ => 0
def cInt : Cod Int := ⟨.int .i64, decInt, 0, fun _ => rfl⟩
@[push_cast] theorem lsF_int (l : List Int) (i : Nat) : lsF cInt l i = .int .i64 (l.getD i 0) := rfl
/- a name and a value -/
structure Hd where
  name : List UInt8
  value : List UInt8
deriving DecidableEq
def decHd : V → Hd
  | .agg [.str a, .str b] => ⟨a, b⟩
  | _ => ⟨[], []⟩
def cHd : Cod Hd := ⟨fun h => .agg [.str h.name, .str h.value], decHd, ⟨[], []⟩, fun _ => rfl⟩
@[push_cast] theorem lsF_hd (l : List Hd) (i : Nat) : lsF cHd l i = .agg [.str (l.getD i ⟨[], []⟩).name, .str (l.getD i ⟨[], []⟩).value] := rfl
/- lists, place by place -/
theorem all_at' {α : Type} {p : α → Bool} {d : α} {s : List α} (h : ∀ j, j < s.length → p (s.getD j d) = true) : s.all p = true := by
  rw [List.all_eq_true]
  intro x hx
  obtain ⟨j, hj, rfl⟩ := List.getElem_of_mem hx
  have := h j hj
  rwa [List.getD_eq_getElem?_getD, List.getElem?_eq_getElem hj] at this
theorem all_no' {α : Type} {p : α → Bool} {d : α} {s : List α} {j : Nat} (hj : j < s.length) (h : p (s.getD j d) = false) : s.all p = false := by
  rw [List.all_eq_false]
  refine ⟨s[j], List.getElem_mem hj, ?_⟩
  rw [List.getD_eq_getElem?_getD, List.getElem?_eq_getElem hj] at h
  simpa using h
theorem dropG {α : Type} {d : α} {s : List α} {i : Nat} (h : i < s.length) : s.drop i = s.getD i d :: s.drop (i + 1) := by
  rw [List.drop_eq_getElem_cons h, List.getD_eq_getElem?_getD, List.getElem?_eq_getElem h]; rfl
theorem takeG {α : Type} {d : α} {s : List α} {k : Nat} (h : k < s.length) : s.take (k + 1) = s.take k ++ [s.getD k d] := by
  rw [List.take_add_one, List.getD_eq_getElem?_getD, List.getElem?_eq_getElem h]; rfl
@[push_cast] theorem appF_z (f g : Nat → V) : appF 0 f g = g := by funext i; simp [appF]
attribute [push_cast] Nat.zero_add Nat.not_lt_zero
@[push_cast] theorem litF_zero (x : V) (l : List V) : litF (x :: l) 0 = x := rfl
@[push_cast] theorem litF_succ (x : V) (l : List V) (k : Nat) : litF (x :: l) (k + 1) = litF l k := by simp [litF]
@[push_cast] theorem ble_dec (a b : Nat) : Nat.ble a b = decide (a ≤ b) := by
  rw [Bool.eq_iff_iff, Nat.ble_eq]; simp
attribute [push_cast] lsOf_ls bytesOf_by
@[push_cast] theorem isLs_lsT {α : Type} {c : Cod α} (l : List α) : isLs c l.length (lsF c l) = True := eq_true (isLs_ls l)
@[push_cast] theorem isBy_byT (s : List UInt8) : isBy s.length (byF s) = True := eq_true (isBy_by s)
@[push_cast] theorem hd_eta (h : Hd) : (⟨h.name, h.value⟩ : Hd) = h := rfl
@[push_cast] theorem kill_by (d : Nat) (s : List UInt8) (i : Nat) : V.kill d (byF s i) = byF s i := rfl
@[push_cast] theorem frz_by (d n : Nat) (f : Nat → V) (s : List UInt8) (i : Nat) : frzV d n f (byF s i) = byF s i := rfl
@[push_cast] theorem pure_by (s : List UInt8) (i : Nat) : (byF s i).isPure = true := rfl
@[push_cast] theorem ren_by (a b : Nat) (s : List UInt8) (i : Nat) : V.ren a b (byF s i) = byF s i := rfl
@[push_cast] theorem beq_dec (a b : Nat) : Nat.beq a b = decide (a = b) := by
  rw [Bool.eq_iff_iff]; simp

/-- the line at the head of bytes, if 13 and 10 end it and no other 13 or 10 is in it -/
def lineS : List UInt8 → Option (List UInt8)
  | [] => none
  | c :: t => if c = 13 then (if t.getD 0 0 = 10 ∧ 0 < t.length then some [] else none) else if c = 10 then none else (lineS t).map (c :: ·)
def lnS (b : List UInt8) (i : Nat) : List UInt8 := (lineS (b.drop i)).getD []
def lnB (b : List UInt8) (i : Nat) : Bool := (lineS (b.drop i)).isSome
def lnN (b : List UInt8) (i : Nat) : Nat := match lineS (b.drop i) with
  | some s => i + s.length + 2
  | none => i
theorem getD_drop0 (b : List UInt8) (k : Nat) : (b.drop k).getD 0 0 = b.getD k 0 := by simp [List.getD_eq_getElem?_getD]
theorem lineS_crlf {b : List UInt8} {i : Nat} (h : i + 1 < b.length) (h1 : b.getD i 0 = 13) (h2 : b.getD (i + 1) 0 = 10) : lineS (b.drop i) = some [] := by
  rw [dropG (d := 0) (by omega), lineS, if_pos h1, if_pos]
  rw [getD_drop0]
  exact ⟨h2, by simp; omega⟩
theorem lineS_bad {b : List UInt8} {i : Nat} (h : i < b.length) (h1 : b.getD i 0 = 13 ∧ ¬ (i + 1 < b.length ∧ b.getD (i + 1) 0 = 10) ∨ b.getD i 0 = 10) : lineS (b.drop i) = none := by
  rw [dropG (d := 0) h, lineS]
  rcases h1 with ⟨h1, h2⟩ | h1
  · rw [if_pos h1, if_neg]
    rw [getD_drop0]
    rintro ⟨h3, h4⟩
    simp at h4
    exact h2 ⟨by omega, h3⟩
  · rw [h1, if_neg (by decide), if_pos rfl]
theorem lineS_next {b : List UInt8} {i : Nat} (h : i < b.length) (h1 : b.getD i 0 ≠ 13) (h2 : b.getD i 0 ≠ 10) : lineS (b.drop i) = (lineS (b.drop (i + 1))).map (b.getD i 0 :: ·) := by
  rw [dropG (d := 0) h, lineS, if_neg h1, if_neg h2]
def ckLine : Ck
  | [.sl n f, .int .i64 a] => some (isBy n f ∧ 0 ≤ a ∧ a ≤ n ∧ n ≤ 4611686018427387900, .tup [.str (lnS (bytesOf n f) a.toNat), .int .i64 (lnN (bytesOf n f) a.toNat), .bool (lnB (bytesOf n f) a.toNat)])
  | _ => none
theorem conLine : Con pg 16 ckLine := by
  have hct := ctN_ok pg
  intro args q r h hq
  unfold ckLine at h
  split at h
  · cases h
    rename_i n f a
    refine pcall_args (args' := [.sl (bytesOf n f).length (byF (bytesOf n f)), .int .i64 a]) ⟨isBy.vle hq.1, VLe.refl _, trivial⟩ ?_
    obtain ⟨-, h0, h1, h2⟩ := hq
    have hl := bytesOf_len n f
    rw [← hl] at h1 h2
    generalize bytesOf n f = b at h1 h2 ⊢
    clear hl
    obtain ⟨a, rfl⟩ : ∃ k : Nat, a = k := ⟨a.toNat, by omega⟩
    rw [Int.toNat_natCast]
    have ha : a ≤ b.length := by omega
    refine w16 (fun _ => false) [] rfl hct rfl rfl ?_
    push_cast (config := { maxSteps := 10000000 })
    refine LoopW.adj ⟨hct, fol⟩ (by kernel_rfl) [] (fun i : Nat => [(0, .sl b.length (byF b)), (1, .int .i64 a), (7, .int .i64 i)]) (fun _ => []) (fun i => a ≤ i ∧ i ≤ b.length ∧ lineS (b.drop a) = (lineS (b.drop i)).map ((b.drop a).take (i - a) ++ ·)) (fun i => b.length - i) a ?_ fun i hi => ?_
    · push_cast (config := { maxSteps := 10000000 })
      simp [ha]
    · push_cast (config := { maxSteps := 10000000 })
      obtain ⟨i1, i2, i3⟩ := hi
      have u13 : ∀ c : UInt8, (c.toNat : Int) = 13 ↔ c = 13 := fun c => (u8_eq c 13).symm
      have u10 : ∀ c : UInt8, (c.toNat : Int) = 10 ↔ c = 10 := fun c => (u8_eq c 10).symm
      have hno : lineS (b.drop a) = none → [] = lnS b a ∧ a = lnN b a ∧ false = lnB b a := fun h => by
        unfold lnS lnN lnB; rw [h]; exact ⟨rfl, rfl, rfl⟩
      simp only [u13, u10]
      refine ⟨fun h => ⟨h, fun h3 => ⟨h3, by omega, by omega⟩, fun h3 => ⟨h3, by omega, by omega⟩, fun h3 => ⟨h3, by omega, by omega⟩, fun h3 => ?_, fun h3 => ⟨h, fun h4 => ⟨h4, h⟩, fun h4 => hno ?_, fun h4 => ⟨⟨by omega, by omega⟩, i + 1, ⟨by omega, by omega, ?_⟩, by omega, by omega⟩⟩⟩, fun h => hno ?_⟩
      · have hs := ByI.sh (ByI.by b) (l := a) (k := i - a) (by omega)
        rw [lineS_crlf (i := i) (by omega) h3.1.1 h3.2] at i3
        simp only [Option.map_some, List.append_nil] at i3
        refine ⟨⟨i2, by omega, i1⟩, hs.bytesP, ⟨by omega, by omega⟩, ?_, ?_, ?_⟩
        · rw [hs.bytes]; unfold lnS; rw [i3]; rfl
        · unfold lnN; rw [i3]; simp only [List.length_take, List.length_drop]; omega
        · unfold lnB; rw [i3]; rfl
      · rw [i3, lineS_bad h]
        · rfl
        · rcases h4 with h4 | h4
          · exact .inl ⟨h4, fun h5 => h3 ⟨h4, by omega⟩ h5.2⟩
          · exact .inr h4
      · rw [i3, lineS_next h h4.1 h4.2]
        cases lineS (b.drop (i + 1)) with
        | none => rfl
        | some z =>
          simp only [Option.map_some, Option.some.injEq]
          rw [show i + 1 - a = (i - a) + 1 by omega, List.take_add_one]
          have e : (b.drop a)[i - a]? = some (b.getD i 0) := by
            rw [List.getElem?_drop, show a + (i - a) = i by omega, List.getElem?_eq_getElem h, List.getD_eq_getElem?_getD, List.getElem?_eq_getElem h]; rfl
          rw [e]; simp
      · rw [i3, List.drop_eq_nil_of_le (show b.length ≤ i by omega)]; rfl
  · cases h
attribute [push_cast] ckLine

theorem maxLen {w : World} (h : pg.ok w) : ∃ m, w.cell? ⟨0, 0, none⟩ = some (.int .i64 m) := by
  obtain ⟨w0, ⟨_, h1⟩, h2⟩ := h
  obtain ⟨m, hm⟩ := (Tryz.laysM145).s1_3 w0 h1
  exact ⟨m, by rw [cell_same (h2 0 (by decide))]; exact hm⟩
theorem grow_drewN (w : World) (n : Nat) : World.grow w (w.drewN n) := ⟨rfl, rfl, rfl, Nat.le_refl _, fun _ _ => rfl⟩
def ckCut : Ck
  | [.str s, .str sep] => some (s.length < 4294967281, .tup [.str (Lib.cut s sep).1, .str (Lib.cut s sep).2.1, .bool (Lib.cut s sep).2.2])
  | _ => none
theorem conCut : Con pg 56 ckCut := by
  intro args q r h hq
  unfold ckCut at h
  split at h
  · cases h
    rename_i s sep
    refine pcall_shelf (by kernel_rfl) rfl fun w hw => ?_
    obtain ⟨m, hm⟩ := maxLen hw
    refine (Tryz.strings_Cut ⟨s.toArray⟩ ⟨sep.toArray⟩ m w (by show s.toArray.size < _; simpa using hq) hm).mono fun e w' h => ?_
    obtain ⟨he, n, rfl⟩ := h
    refine ⟨_, he, grow_drewN _ _, fun γ imm => .tup _ [_, _, _] rfl fun i hi => ?_⟩
    match i, hi with
    | 0, _ => exact .pure (.str _)
    | 1, _ => exact .pure (.str _)
    | 2, _ => exact .pure (.bool _)
  · cases h
attribute [push_cast] ckCut
def ckContains : Ck
  | [.str s, .str sub] => some (s.length < 4294967281, .bool (Lib.contains s sub))
  | _ => none
theorem conContains : Con pg 101 ckContains := by
  intro args q r h hq
  unfold ckContains at h
  split at h
  · cases h
    rename_i s sub
    refine pcall_shelf (by kernel_rfl) rfl fun w hw => ?_
    obtain ⟨m, hm⟩ := maxLen hw
    exact (Tryz.strings_Contains ⟨s.toArray⟩ ⟨sub.toArray⟩ m w (by show s.toArray.size < _; simpa using hq) hm).mono fun e w' h => shelf_bool h.1 (grow_eq h.2)
  · cases h
attribute [push_cast] ckContains
/-- the parts of a string between a byte -/
def splitL (s : List UInt8) (c : UInt8) : List (List UInt8) := (Lib.splitB ⟨#[c]⟩ 0 (Lib.countB ⟨s.toArray⟩ ⟨#[c]⟩) ⟨s.toArray⟩).map fun b => b.data.toList
def ckSplit : Ck
  | [.str s, .str [c]] => some (s.length < 4294967281, .sl (splitL s c).length (lsF cStr (splitL s c)))
  | _ => none
theorem conSplit : Con pg 17 ckSplit := by
  intro args q r h hq
  unfold ckSplit at h
  split at h
  · cases h
    rename_i s c
    refine pcall_shelf2 (by kernel_rfl) rfl fun w hw => ?_
    obtain ⟨m, hm⟩ := maxLen hw
    refine (Tryz.strings_Split ⟨s.toArray⟩ ⟨#[c]⟩ m w (by show s.toArray.size < _; simpa using hq) hm (Nat.le_refl 1)).mono fun e w' h => ?_
    have hl : (splitL s c).length = Lib.countB ⟨s.toArray⟩ ⟨#[c]⟩ + 1 := by
      unfold splitL
      rw [List.length_map]
      exact Lib.splitB_all ⟨#[c]⟩ (Nat.le_refl 1) 0 _ _ rfl
    refine shelf_strs (l := fun i => (splitL s c).getD i []) (by rw [hl]; exact h.1) h.2 (by omega) (fun i hi => ?_) fun i hi => rfl
    unfold splitL at hi ⊢
    rw [List.length_map] at hi
    simp [List.getD_eq_getElem?_getD, List.getElem?_eq_getElem hi]
  · cases h
attribute [push_cast] ckSplit

/-- a value that stands for a coded thing -/
def isC {α : Type} (c : Cod α) (x : V) : Prop := VLe x (c.enc (c.dec x))
theorem isC_enc {α : Type} (c : Cod α) (a : α) : isC c (c.enc a) := by unfold isC; rw [c.ok]; exact VLe.refl _
/-- strings of heads are not long -/
def hdsOk (l : List Hd) : Prop := ∀ h ∈ l, h.name.length ≤ 140737488355328 ∧ h.value.length ≤ 140737488355328
theorem hdsOk_at {l : List Hd} (h : hdsOk l) {i : Nat} (hi : i < l.length) : (l.getD i ⟨[], []⟩).name.length ≤ 140737488355328 ∧ (l.getD i ⟨[], []⟩).value.length ≤ 140737488355328 := by
  rw [List.getD_eq_getElem?_getD, List.getElem?_eq_getElem hi]; exact h _ (List.getElem_mem hi)
@[push_cast] theorem lsF_hdfl (l : List Hd) (i : Nat) : (lsF cHd l i).flat = [.str (l.getD i ⟨[], []⟩).name, .str (l.getD i ⟨[], []⟩).value] := rfl
/-- an answer -/
structure Ans where
  st : Int
  re : List UInt8
  hd : List Hd
  bd : List UInt8
deriving DecidableEq
def decAns : V → Ans
  | .agg [.int _ st, .str re, .sl n f, .sl m g] => ⟨st, re, lsOf cHd n f, bytesOf m g⟩
  | _ => ⟨0, [], [], []⟩
def cAns : Cod Ans := ⟨fun a => .agg [.int .i64 a.st, .str a.re, .sl a.hd.length (lsF cHd a.hd), .sl a.bd.length (byF a.bd)], decAns, ⟨0, [], [], []⟩, fun a => by simp [decAns, lsOf_ls, bytesOf_by]⟩
@[push_cast] theorem enc_ans (a : Ans) : cAns.enc a = .agg [.int .i64 a.st, .str a.re, .sl a.hd.length (lsF cHd a.hd), .sl a.bd.length (byF a.bd)] := rfl
@[push_cast] theorem dec_ans (k : IntKind) (st : Int) (re : List UInt8) (n m : Nat) (f g : Nat → V) : cAns.dec (.agg [.int k st, .str re, .sl n f, .sl m g]) = ⟨st, re, lsOf cHd n f, bytesOf m g⟩ := rfl
theorem isC_ans {st : Int} {re : List UInt8} {n m : Nat} {f g : Nat → V} (h1 : isLs cHd n f) (h2 : isBy m g) : isC cAns (.agg [.int .i64 st, .str re, .sl n f, .sl m g]) :=
  VLe.agg ⟨VLe.refl _, VLe.refl _, isLs.vle h1, isBy.vle h2, trivial⟩
def ansOk (a : Ans) : Prop := hdsOk a.hd ∧ a.re.length ≤ 140737488355328 ∧ a.hd.length ≤ 140737488355328 ∧ a.bd.length ≤ 140737488355328
theorem reach_le : reachBytes ≤ 140737488355328 := by unfold reachBytes; omega
theorem hasL_cons {s : Sh} {ss : List Sh} {ms : List Nat} {vs : List V} (h : Sh.hasL (s :: ss) ms vs) : ∃ m v ms' vs', vs = v :: vs' ∧ s.has m v ∧ Sh.hasL ss ms' vs' := by
  cases ms with
  | nil => simp [Sh.hasL] at h
  | cons m ms => cases vs with
    | nil => simp [Sh.hasL] at h
    | cons v vs => exact ⟨m, v, ms, vs, rfl, h.1, h.2⟩
theorem hasL_nil {ms : List Nat} {vs : List V} (h : Sh.hasL [] ms vs) : vs = [] := by
  cases ms with
  | nil => cases vs with
    | nil => rfl
    | cons _ _ => simp [Sh.hasL] at h
  | cons _ _ => simp [Sh.hasL] at h
theorem shHead {m : Nat} {v : V} (h : Sh.has (.tup [.str, .str]) m v) : ∃ a, v = cHd.enc a ∧ a.name.length ≤ 140737488355328 ∧ a.value.length ≤ 140737488355328 := by
  obtain ⟨l, ms, rfl, -, hl⟩ := h
  obtain ⟨m1, v1, ms, l, rfl, h1, hl⟩ := hasL_cons hl
  obtain ⟨m2, v2, ms, l, rfl, h2, hl⟩ := hasL_cons hl
  obtain rfl := hasL_nil hl
  obtain ⟨s, rfl, -, b1⟩ := h1
  obtain ⟨t, rfl, -, b2⟩ := h2
  have := reach_le
  exact ⟨⟨s, t⟩, rfl, by show s.length ≤ _; omega, by show t.length ≤ _; omega⟩
theorem shList {α : Type} {c : Cod α} {s : Sh} {p : α → Prop} (hs : ∀ m v, s.has m v → ∃ a, v = c.enc a ∧ p a) {m : Nat} {v : V} (h : Sh.has (.list s) m v) : ∃ (n : Nat) (f : Nat → V), v = .sl n f ∧ isLs c n f ∧ n ≤ 140737488355328 ∧ ∀ a ∈ lsOf c n f, p a := by
  obtain ⟨l, ms, rfl, h1, h2, h3, h4⟩ := h
  have at' : ∀ i, i < l.length → ∃ a, litF l i = c.enc a ∧ p a := fun i hi => hs _ _ (h4 i hi)
  have := reach_le
  refine ⟨_, _, rfl, ⟨by simp [lsOf], fun i hi => ?_⟩, by omega, fun a ha => ?_⟩
  · obtain ⟨a, e, _⟩ := at' i hi
    unfold lsF lsOf
    rw [List.getD_eq_getElem?_getD, List.getElem?_map, List.getElem?_range hi]
    simp only [Option.map_some, Option.getD_some]
    rw [e, c.ok]
  · simp only [lsOf, List.mem_map, List.mem_range] at ha
    obtain ⟨i, hi, rfl⟩ := ha
    obtain ⟨a, e, hp⟩ := at' i hi
    rw [e, c.ok]; exact hp
theorem shStr {m : Nat} {v : V} (h : Sh.has .str m v) : ∃ a, v = cStr.enc a ∧ a.length ≤ 140737488355328 := by
  obtain ⟨s, rfl, -, b⟩ := h
  have := reach_le
  exact ⟨s, rfl, by omega⟩
theorem shAns {m : Nat} {v : V} (h : Sh.has (.tup [.int .i64, .str, .list (.tup [.str, .str]), .list (.int .u8)]) m v) : isC cAns v ∧ ansOk (cAns.dec v) := by
  obtain ⟨l, ms, rfl, -, hl⟩ := h
  obtain ⟨m1, v1, ms, l, rfl, h1, hl⟩ := hasL_cons hl
  obtain ⟨m2, v2, ms, l, rfl, h2, hl⟩ := hasL_cons hl
  obtain ⟨m3, v3, ms, l, rfl, h3, hl⟩ := hasL_cons hl
  obtain ⟨m4, v4, ms, l, rfl, h4, hl⟩ := hasL_cons hl
  obtain rfl := hasL_nil hl
  obtain ⟨st, rfl, _⟩ := shInt h1
  obtain ⟨re, rfl, b2⟩ := shStr h2
  obtain ⟨n, f, rfl, i3, b3, k3⟩ := shList (c := cHd) (fun m v h => shHead h) h3
  obtain ⟨k, g, rfl, i4, b4⟩ := shBytes h4
  have := reach_le
  refine ⟨isC_ans i3 i4, ?_⟩
  show ansOk ⟨st, re, lsOf cHd n f, bytesOf k g⟩
  refine ⟨k3, b2, ?_, ?_⟩
  · show (lsOf cHd n f).length ≤ _
    rw [lsOf_len]; exact b3
  · show (bytesOf k g).length ≤ _
    rw [bytesOf_len]; omega
theorem hasD2 {H : Type} {s1 s2 : Sh} {ds : List (DataW H)} (h : hasD [s1, s2] ds) : ∃ a b, ds = [a, b] ∧ s1.has (bulkD a) (toV a) ∧ s2.has (bulkD b) (toV b) := by
  match ds, h with
  | [a, b], ⟨h1, h2, _⟩ => exact ⟨a, b, rfl, h1, h2⟩
theorem hasD1 {H : Type} {s1 : Sh} {ds : List (DataW H)} (h : hasD [s1] ds) : ∃ a, ds = [a] ∧ s1.has (bulkD a) (toV a) := by
  match ds, h with
  | [a], ⟨h1, _⟩ => exact ⟨a, rfl, h1⟩
theorem hasD4 {H : Type} {s1 s2 s3 s4 : Sh} {ds : List (DataW H)} (h : hasD [s1, s2, s3, s4] ds) : ∃ a b c d, ds = [a, b, c, d] ∧ s1.has (bulkD a) (toV a) ∧ s2.has (bulkD b) (toV b) ∧ s3.has (bulkD c) (toV c) ∧ s4.has (bulkD d) (toV d) := by
  match ds, h with
  | [a, b, c, d], ⟨h1, h2, h3, h4, _⟩ => exact ⟨a, b, c, d, rfl, h1, h2, h3, h4⟩
@[push_cast] theorem isC_ansT (a : Ans) : isC cAns (.agg [.int .i64 a.st, .str a.re, .sl a.hd.length (lsF cHd a.hd), .sl a.bd.length (byF a.bd)]) = True := eq_true (isC_enc cAns a)
@[push_cast] theorem ans_eta (a : Ans) : (⟨a.st, a.re, a.hd, a.bd⟩ : Ans) = a := rfl

/-- the head that a line is -/
def hdCut (s : List UInt8) : List UInt8 × List UInt8 × Bool := Lib.cut s [58, 32]
def hdB (s : List UInt8) : Bool := (hdCut s).2.2 && ((hdCut s).1 != []) && !(Lib.contains (hdCut s).1 [58])
def hdV (s : List UInt8) : Hd := if hdB s = true then ⟨(hdCut s).1, (hdCut s).2.1⟩ else ⟨[], []⟩
def ckHeadOf : Ck
  | [.str s] => some (s.length < 4294967281, .tup [.agg [.str (hdV s).name, .str (hdV s).value], .bool (hdB s)])
  | _ => none
theorem conHeadOf : Con pg 49 ckHeadOf := by
  have hct := (ctA_ok conCut (ctA_ok conContains (ctN_ok _)))
  intro args q r h hq
  unfold ckHeadOf at h
  split at h
  · cases h
    rename_i s
    refine w49 (fun _ => false) [] rfl hct rfl rfl ?_
    push_cast (config := { maxSteps := 10000000 })
    have hl : (Lib.cut s [58, 32]).1.length ≤ s.length := by unfold Lib.cut; split <;> simp <;> omega
    refine ⟨hq, fun h => ⟨h, by omega⟩, fun h => ?_, fun h => ?_⟩
    · have e : hdB s = false := by
        unfold hdB hdCut
        rcases h with (h | h) | h
        · rw [h]; rfl
        · rw [h]; simp
        · rw [h]; simp
      unfold hdV; rw [e]; exact ⟨⟨rfl, rfl⟩, rfl⟩
    · have e : hdB s = true := by
        unfold hdB hdCut
        rw [h.1.1, h.2, bne_iff_ne.2 h.1.2]; rfl
      unfold hdV; rw [e]; exact ⟨⟨rfl, rfl⟩, rfl⟩
  · cases h
attribute [push_cast] ckHeadOf

/-- heads and the empty line from a place on -/
def rhL (b : List UInt8) : Nat → Nat → List Hd → List Hd × Nat × Bool
  | 0, _, _ => ([], b.length, false)
  | k + 1, a, out => if b.length ≤ a then ([], b.length, false) else if lnB b a = false then ([], a, false) else if lnS b a = [] then (out, lnN b a, true) else if hdB (lnS b a) = false then ([], a, false) else rhL b k (lnN b a) (out ++ [hdV (lnS b a)])
theorem ln_fit {b : List UInt8} {a : Nat} (ha : a ≤ b.length) (h : lnB b a = true) : a + 2 ≤ lnN b a ∧ lnN b a ≤ b.length ∧ (lnS b a).length + a + 2 = lnN b a := by
  have key : ∀ {l s : List UInt8}, lineS l = some s → s.length + 2 ≤ l.length := by
    intro l
    induction l with
    | nil => intro s h; cases h
    | cons c t ih =>
      intro s h
      rw [lineS] at h
      split at h
      · split at h
        · rename_i h2; cases h; simp only [List.length_cons, List.length_nil]; omega
        · cases h
      · split at h
        · cases h
        · cases ht : lineS t with
          | none => rw [ht] at h; cases h
          | some z =>
            rw [ht] at h; cases h
            have := ih ht
            simp only [List.length_cons]; omega
  unfold lnB at h
  cases hs : lineS (b.drop a) with
  | none => rw [hs] at h; cases h
  | some s =>
    have := key hs
    rw [List.length_drop] at this
    unfold lnN lnS
    rw [hs]
    simp only [Option.getD_some]
    omega
def ckReadHeads : Ck
  | [.sl n f, .int .i64 a] => some (isBy n f ∧ 0 ≤ a ∧ a ≤ n ∧ n ≤ 4000000, .tup [.sl (rhL (bytesOf n f) (n + 1) a.toNat []).1.length (lsF cHd (rhL (bytesOf n f) (n + 1) a.toNat []).1), .int .i64 (rhL (bytesOf n f) (n + 1) a.toNat []).2.1, .bool (rhL (bytesOf n f) (n + 1) a.toNat []).2.2])
  | _ => none
theorem conReadHeads : Con pg 18 ckReadHeads := by
  have hct := (ctA_ok conLine (ctA_ok conHeadOf (ctN_ok _)))
  intro args q r h hq
  unfold ckReadHeads at h
  split at h
  · cases h
    rename_i n f a
    refine pcall_args (args' := [.sl (bytesOf n f).length (byF (bytesOf n f)), .int .i64 a]) ⟨isBy.vle hq.1, VLe.refl _, trivial⟩ ?_
    obtain ⟨-, h0, h1, h2⟩ := hq
    have hl := bytesOf_len n f
    rw [← hl] at h1 h2
    rw [show n + 1 = (bytesOf n f).length + 1 by rw [hl]]
    generalize bytesOf n f = b at h1 h2 ⊢
    clear hl
    obtain ⟨a, rfl⟩ : ∃ k : Nat, a = k := ⟨a.toNat, by omega⟩
    rw [Int.toNat_natCast]
    have ha : a ≤ b.length := by omega
    generalize hR : rhL b (b.length + 1) a [] = R
    refine w18 (fun _ => false) [.frz 90] rfl hct rfl rfl ?_
    push_cast (config := { maxSteps := 10000000 })
    refine LoopW.adj ⟨hct, fol⟩ (by kernel_rfl) [.nv 7 90 2 (lsF cHd [])] (fun t : Nat × List Hd => [(0, .sl b.length (byF b)), (1, .int .i64 t.1), (7, .vec 90 t.2.length)]) (fun t => [(90, .vec 2 t.2.length (lsF cHd t.2))]) (fun t => t.1 ≤ b.length ∧ t.2.length ≤ t.1 ∧ ∃ k, b.length < t.1 + k ∧ rhL b k t.1 t.2 = R) (fun t => b.length - t.1) (a, []) ?_ fun t ht => ?_
    · push_cast (config := { maxSteps := 10000000 })
      exact ⟨ha, Nat.zero_le _, _, by omega, hR⟩
    · obtain ⟨i, o⟩ := t
      obtain ⟨i1, i2, k, i3, i4⟩ : i ≤ b.length ∧ o.length ≤ i ∧ ∃ k, b.length < i + k ∧ rhL b k i o = R := ht
      push_cast (config := { maxSteps := 10000000 })
      obtain ⟨k, rfl⟩ : ∃ k', k = k' + 1 := ⟨k - 1, by omega⟩
      rw [rhL] at i4
      refine ⟨fun h => ?_, fun h => ?_⟩
      · rw [if_neg (by omega)] at i4
        refine ⟨⟨i1, by omega⟩, fun h3 => ?_, fun h3 => ?_⟩
        · rw [if_pos h3] at i4; rw [← i4]; exact ⟨rfl, rfl, rfl⟩
        rw [if_neg (by simp [h3])] at i4
        have hf := ln_fit i1 h3
        refine ⟨fun h4 => ?_, fun h4 => ?_⟩
        · rw [if_pos h4] at i4; rw [← i4]; exact ⟨⟨rfl, fun _ _ => rfl⟩, rfl, rfl⟩
        rw [if_neg h4] at i4
        refine ⟨by omega, fun h5 => ?_, fun h5 => ?_⟩
        · rw [if_pos h5] at i4; rw [← i4]; exact ⟨rfl, rfl, rfl⟩
        rw [if_neg (by simp [h5])] at i4
        have app := LsI.app (c := cHd) (f := lsF cHd o) (g := litF [cHd.enc (hdV (lnS b i))]) (LsI.ls o) (LsI.one (c := cHd) (a := hdV (lnS b i)) rfl) rfl
        exact ⟨⟨by omega, by omega⟩, (lnN b i, o ++ [hdV (lnS b i)]), ⟨hf.2.1, by simp; omega, k, by show b.length < lnN b i + k; omega, i4⟩, by show b.length - lnN b i < b.length - i; omega, ⟨rfl, by simp⟩, by simp, app.2⟩
      · rw [if_pos (by omega)] at i4; rw [← i4]; exact ⟨rfl, rfl, rfl⟩
  · cases h
attribute [push_cast] ckReadHeads

end Go.Abs
