/- what functions of this program compute: contracts, each a function's own -/
import Derived.Test.YtgkjefmoaebfaaaGreatDoorAbsK2
import Derived.Test.YtgkjefmoaebfaaaGreatDoorAbsFacts
import Derived.Test.YtgkjefmoaebfaaaGreatDoorAbsF3
import Derived.Test.YtgkjefmoaebfaaaGreatDoorAbsShelf
import Derived.Lib.SplitLaws
import Derived.Lib.SlTrimSet
import Derived.Lib.Atoi
import Derived.Lib.Itoa
import Derived.Lib.ItoaNum
import Derived.Lib.AtoiErrMem
import Derived.Lib.Index
import Derived.Lib.IndexBytes
import Derived.Lib.Walk
import Derived.Lib.BitFns
import Derived.Lib.TrailingZeros
import Derived.Lib.ItoaLen
namespace Go.Abs
open Go Go.Proofs
set_option maxHeartbeats 4000000
set_option maxRecDepth 100000
set_option linter.unusedVariables false
set_option linter.unusedSimpArgs false
/- an answer is read as it was written, and what was read is written byte by byte -/
theorem dig_plain (c : UInt8) : isDg c = true → c ≠ 13 ∧ c ≠ 10 ∧ c ≠ 32 := by
  refine u8_all (P := fun c => isDg c = true → c ≠ 13 ∧ c ≠ 10 ∧ c ≠ 32) ?_ c
  decide +kernel
theorem idx_sp : ∀ (n v : List UInt8), (∀ x ∈ n, x ≠ 32) → Lib.index (n ++ 32 :: v) [32] = n.length
  | [], v, _ => by
    show Lib.index (32 :: v) [32] = 0
    rw [Lib.index, if_pos (by simp [List.isPrefixOf])]
  | x :: t, v, h => by
    have ih := idx_sp t v fun y hy => h y (by simp [hy])
    have hx := h x (by simp)
    show Lib.index (x :: (t ++ 32 :: v)) [32] = _
    have hp : ([32] : List UInt8).isPrefixOf (x :: (t ++ 32 :: v)) = false := by simp [List.isPrefixOf, Ne.symm hx]
    rw [Lib.index, hp, ih]
    have h2 : ((t.length : Int) == -1) = false := by rw [beq_eq_false_iff_ne]; omega
    rw [h2]
    simp
theorem cut_sp {n v : List UInt8} (h : ∀ x ∈ n, x ≠ 32) : Lib.cut (n ++ 32 :: v) [32] = (n, v, true) := by
  unfold Lib.cut
  rw [idx_sp _ _ h, if_pos (by omega)]
  simp
theorem cut_inv {s : List UInt8} (h : (Lib.cut s [32]).2.2 = true) : s = (Lib.cut s [32]).1 ++ 32 :: (Lib.cut s [32]).2.1 := by
  unfold Lib.cut at h ⊢
  rcases Lib.index_spec s [32] with ⟨h2, _⟩ | ⟨i, h2, h3, h4, _⟩
  · rw [h2, if_neg (by omega)] at h; cases h
  · rw [h2, if_pos (by omega)]
    unfold Lib.occAt at h4
    obtain ⟨t, ht⟩ := List.isPrefixOf_iff_prefix.1 h4
    simp only [Int.toNat_natCast]
    have e : s = s.take i ++ s.drop i := (List.take_append_drop i s).symm
    have e2 : s.drop (i + ([32] : List UInt8).length) = t := by
      rw [← List.drop_drop, ← ht]; rfl
    show s = s.take i ++ 32 :: s.drop (i + ([32] : List UInt8).length)
    rw [e2, show (32 : UInt8) :: t = [32] ++ t from rfl, ht]; exact e
theorem pre_inv {s p : List UInt8} (h : Lib.hasPrefix s p = true) : s = p ++ Lib.trimPrefix s p := by
  unfold Lib.trimPrefix
  rw [if_pos h]
  unfold Lib.hasPrefix at h
  obtain ⟨t, ht⟩ := List.isPrefixOf_iff_prefix.1 h
  rw [← ht, List.drop_left]
theorem pre_app (p s : List UInt8) : Lib.hasPrefix (p ++ s) p = true ∧ Lib.trimPrefix (p ++ s) p = s := by
  have h : Lib.hasPrefix (p ++ s) p = true := by
    unfold Lib.hasPrefix
    exact List.isPrefixOf_iff_prefix.2 ⟨s, rfl⟩
  refine ⟨h, ?_⟩
  unfold Lib.trimPrefix
  rw [if_pos h, List.drop_left]
theorem st_dig {n : Int} (h0 : 100 ≤ n) (h1 : n ≤ 599) : digL (Lib.itoa n) 9 = true ∧ (natOf (Lib.itoa n) : Int) = n ∧ ∀ x ∈ Lib.itoa n, x ≠ 13 ∧ x ≠ 10 ∧ x ≠ 32 := by
  obtain ⟨k, rfl⟩ : ∃ k : Nat, n = k := ⟨n.toNat, by omega⟩
  rw [itoa_nat]
  have hd := dec_dig k
  have hl := dec_len 2 k (by omega)
  refine ⟨?_, by rw [hd.2.1], fun x hx => dig_plain x (List.all_eq_true.1 hd.1 x hx)⟩
  simp only [digL, Bool.and_eq_true, Bool.or_eq_true, decide_eq_true_eq, beq_iff_eq]
  exact ⟨⟨⟨hd.2.2.1, by omega⟩, hd.1⟩, .inl (hd.2.2.2.2 (by omega))⟩
theorem top_back {a : Ans} {r : List UInt8} (h : checkTopL a.st a.re a.hd = 0) : tpV (ansP a ++ headsB a.hd ++ [13, 10] ++ r) = (⟨a.st, a.re, a.hd, []⟩, (ansP a ++ headsB a.hd ++ [13, 10]).length, true) := by
  obtain ⟨t1, t2, t3, t4, t5⟩ := top_heads h
  obtain ⟨d1, d2, d3⟩ := st_dig t3 t4
  simp only [valueL, Bool.and_eq_true, decide_eq_true_eq] at t5
  have eP : ansP a = (wWebS ++ (Lib.itoa a.st ++ 32 :: a.re)) ++ [13, 10] := by simp [ansP, wWebS]
  have hb : bareL (wWebS ++ (Lib.itoa a.st ++ 32 :: a.re)) = true := by
    rw [bare_app, bare_app, show 32 :: a.re = [32] ++ a.re from rfl, bare_app]
    have b1 : bareL (Lib.itoa a.st) = true := by
      unfold bareL; rw [List.all_eq_true]
      intro x hx
      simp [(d3 x hx).1, (d3 x hx).2.1]
    have b2 : bareL a.re = true := all_imp t5.2 fun c hc => by have := val_plain c hc; simp [this.1, this.2]
    rw [b1, b2]; rfl
  obtain ⟨p1, p2⟩ := pre_app wWebS (Lib.itoa a.st ++ 32 :: a.re)
  have hc := cut_sp (v := a.re) fun x hx => (d3 x hx).2.2
  rw [eP]
  generalize wWebS ++ (Lib.itoa a.st ++ 32 :: a.re) = L at *
  have e : L ++ [13, 10] ++ headsB a.hd ++ [13, 10] ++ r = [] ++ (L ++ [13, 10] ++ (headsB a.hd ++ [13, 10] ++ r)) := by simp
  have hln := ln_app (p := []) (r := headsB a.hd ++ [13, 10] ++ r) hb
  rw [← e] at hln
  simp only [List.length_nil, List.nil_append] at hln
  have hr := rh_app a.hd (L ++ [13, 10]) [] ((L ++ [13, 10] ++ headsB a.hd ++ [13, 10] ++ r).length + 1) r (by have := headsB_ge a.hd; simp only [List.length_append]; omega) (heads_mem t1)
  have e2 : L ++ [13, 10] ++ headsB a.hd ++ [13, 10] ++ r = (L ++ [13, 10]) ++ (headsB a.hd ++ [13, 10] ++ r) := by simp
  rw [← e2] at hr
  generalize hB : L ++ [13, 10] ++ headsB a.hd ++ [13, 10] ++ r = B at *
  have hC : tpC B = (Lib.itoa a.st, a.re, true) := by unfold tpC; rw [hln.2.1, p2, hc]
  have hk : tpOk B = true := by unfold tpOk; rw [hC, hln.1, hln.2.1, p1]; simp only [d1]; rfl
  have hH : rqH B = (a.hd, (L ++ [13, 10] ++ headsB a.hd ++ [13, 10]).length, true) := by
    unfold rqH; rw [hln.2.2, hr]; simp
  unfold tpV
  rw [if_pos hk, hC, hH]
  simp only [d2]
theorem ans_frame {a : Ans} {fr ch : Int} (h : checkAnsL a fr ch = 0) : checkTopL a.st a.re a.hd = 0 ∧ a.bd.length ≤ 200000 ∧ 1 ≤ fr ∧ fr ≤ 4 ∧ fr = frameL a.st a.hd ∧ (fr = 1 → a.bd = []) ∧ (fr = 2 → valuesL a.hd wLen = [Lib.itoa a.bd.length]) ∧ (fr = 3 → 1 ≤ ch ∧ ch ≤ 65536) := by
  unfold checkAnsL at h
  split at h
  · rename_i h0
    split at h
    · omega
    split at h
    · omega
    split at h
    · omega
    split at h
    · omega
    · rename_i h1 h2 h3 h4
      rw [not_or, not_or] at h4
      obtain ⟨⟨h5, h6⟩, h7⟩ := h4
      refine ⟨h0, by omega, by omega, by omega, Classical.not_not.1 h5, fun e => ?_, fun e => ?_, fun e => by omega⟩
      · have : a.bd.length = 0 := Classical.not_not.1 fun x => h6 ⟨e, x⟩
        exact List.length_eq_zero_iff.1 this
      · exact Classical.not_not.1 fun x => h7 ⟨e, x⟩
  · rename_i h0; exact absurd h h0
/-- an answer that was written is read -/
theorem ans_back {a : Ans} {fr ch : Int} (h : checkAnsL a fr ch = 0) (hl : (ansB a fr ch).length ≤ 400000) : raL (ansB a fr ch) = (a, fr, 0, 0) := by
  obtain ⟨h0, hb, f1, f4, hf, k1, k2, k3⟩ := ans_frame h
  have ht := top_back (r := ansBody a fr ch) h0
  unfold raL
  rw [if_neg (by omega)]
  have hd : (ansB a fr ch).drop (ansP a ++ headsB a.hd ++ [13, 10]).length = ansBody a fr ch := by unfold ansB; exact List.drop_left
  change tpV (ansB a fr ch) = _ at ht
  generalize (ansP a ++ headsB a.hd ++ [13, 10]).length = p at *
  generalize ansB a fr ch = B at *
  rw [ht]
  simp only
  rw [if_neg (by simp), if_pos h0]
  unfold raB
  simp only
  rw [hd, ← hf, if_neg (by omega)]
  unfold ansBody
  by_cases e1 : fr = 1
  · have e3 : ¬ fr = 3 := by omega
    have e0 := k1 e1
    rw [if_pos e1, if_neg e3, e0, if_neg (by simp), e1, ← e0]
  rw [if_neg e1]
  by_cases e3 : fr = 3
  · rw [if_pos e3, if_pos e3]
    have hc := readC_all (k := ch.toNat) (by have := k3 e3; omega) (by have := k3 e3; omega) hb
    rw [hc]
    simp only
    rw [if_neg (by omega), if_neg (by omega), if_neg (by simp), e3]
  rw [if_neg e3, if_neg e3]
  by_cases e4 : fr = 4
  · rw [if_pos e4, if_neg (by omega), e4]
  rw [if_neg e4]
  have e2 : fr = 2 := by omega
  have hv := (lenV_eq (n := a.bd.length) (by omega)).2 (k2 e2)
  change (lengthL a.hd).2 = true ∧ (lengthL a.hd).1 = _ at hv
  rw [hv.2, if_neg (by omega), if_neg (by omega), if_neg (by omega), e2]
theorem top_inv {b : List UInt8} (h : (tpV b).2.2 = true) : b = ansP (tpV b).1 ++ headsB (tpV b).1.hd ++ [13, 10] ++ b.drop (tpV b).2.1 ∧ (tpV b).1.bd = [] := by
  unfold tpV at h ⊢
  by_cases hk : tpOk b = true
  · rw [if_pos hk] at h ⊢
    simp only at h ⊢
    refine ⟨?_, trivial⟩
    simp only [tpOk, Bool.and_eq_true] at hk
    obtain ⟨⟨⟨k1, k2⟩, k3⟩, k4⟩ := hk
    have hi := ln_inv k1
    obtain ⟨t, e1, e2⟩ := rh_inv _ _ _ h
    have e1' : (rqH b).1 = t := by rw [List.nil_append] at e1; exact e1
    have hp := pre_inv k2
    have hc := cut_inv k3
    have hd := digL_all k4
    have hn := dec_natOf hd.2.2.1 hd.1 (hd.2.2.2.imp id fun e => by rw [e]; rfl)
    rw [List.drop_zero] at hi
    unfold ansP
    simp only
    rw [itoa_nat, hn, e1']
    have hs : lnS b 0 = wWebS ++ ((tpC b).1 ++ 32 :: (tpC b).2.1) := by
      rw [hp]; unfold tpC; rw [← hc]
    conv => lhs; rw [hi, hs, e2]
    simp [wWebS, rqH]
  · rw [if_neg hk] at h; cases h
theorem caI {a : Ans} {fr : Int} (h0 : checkTopL a.st a.re a.hd = 0) (h1 : a.bd.length ≤ 200000) (h2 : 1 ≤ fr ∧ fr ≤ 4 ∧ fr ≠ 3) (h3 : fr = frameL a.st a.hd) (h4 : fr = 1 → a.bd = []) (h5 : fr = 2 → valuesL a.hd wLen = [Lib.itoa a.bd.length]) : checkAnsL a fr 0 = 0 := by
  refine caO h0 (by omega) (by omega) (by omega) ?_
  rintro ((x | ⟨x, y⟩) | ⟨x, y⟩)
  · exact x h3
  · exact y (by rw [h4 x, List.length_nil])
  · exact y (h5 x)
theorem caI2 {b : List UInt8} {a : Ans} {p : Nat} {fr : Int} {bd : List UInt8} (hb : b = ansP a ++ headsB a.hd ++ [13, 10] ++ b.drop p) (e3 : fr ≠ 3) (hbd : b.drop p = bd) : ansB ⟨a.st, a.re, a.hd, bd⟩ fr 0 = b := by
  unfold ansB ansBody
  rw [if_neg e3]
  simp only
  rw [← hbd]
  exact hb.symm
/-- what was read is written -/
theorem ans_inv {b : List UInt8} (h : (raL b).2.2.2 = 0) (hf : ¬ (raL b).2.1 = 3) : checkAnsL (raL b).1 (raL b).2.1 0 = 0 ∧ ansB (raL b).1 (raL b).2.1 0 = b := by
  unfold raL at h hf ⊢
  by_cases h0 : 400000 < b.length
  · rw [if_pos h0] at h; cases h
  rw [if_neg h0] at h hf ⊢
  by_cases h1 : (tpV b).2.2 = false
  · rw [if_pos h1] at h; cases h
  rw [if_neg h1] at h hf ⊢
  by_cases h2 : checkTopL (tpV b).1.st (tpV b).1.re (tpV b).1.hd = 0
  · rw [if_pos h2] at h hf ⊢
    obtain ⟨i1, i2⟩ := top_inv (b := b) (by simpa using h1)
    generalize tpV b = T at *
    obtain ⟨a, p, ok⟩ := T
    simp only at *
    unfold raB at h hf ⊢
    have f4 := frame_4 a.st a.hd
    generalize hF : frameL a.st a.hd = F at *
    by_cases e0 : F = 0
    · rw [if_pos e0] at h; cases h
    rw [if_neg e0] at h hf ⊢
    by_cases e1 : F = 1
    · rw [if_pos e1] at h hf ⊢
      by_cases e : 0 < (b.drop p).length
      · rw [if_pos e] at h; cases h
      rw [if_neg e]
      have en : b.drop p = [] := List.length_eq_zero_iff.1 (by omega)
      have ea : (⟨a.st, a.re, a.hd, []⟩ : Ans) = a := by rw [← i2]
      refine ⟨caI (fr := 1) h2 (by rw [i2]; simp) (by omega) (by rw [hF, e1]) (fun _ => i2) (by omega), ?_⟩
      have := caI2 (fr := 1) i1 (by omega) en
      rw [ea] at this
      exact this
    rw [if_neg e1] at h hf ⊢
    by_cases e3 : F = 3
    · rw [if_pos e3] at h hf
      exfalso
      split at h
      · cases h
      split at h
      · cases h
      rename_i g2 g10
      rw [if_neg g2, if_neg g10] at hf
      split at h
      · rename_i g; exact g (by simpa using h)
      · rename_i g; rw [if_neg g] at hf; exact hf rfl
    rw [if_neg e3] at h hf ⊢
    by_cases e4 : F = 4
    · rw [if_pos e4] at h hf ⊢
      by_cases e : 200000 < (b.drop p).length
      · rw [if_pos e] at h; cases h
      rw [if_neg e]
      exact ⟨caI (a := ⟨a.st, a.re, a.hd, b.drop p⟩) (fr := 4) h2 (by show (b.drop p).length ≤ _; omega) (by omega) (by show 4 = frameL a.st a.hd; rw [hF, e4]) (by omega) (by omega), caI2 i1 (by show (4 : Int) ≠ 3; omega) rfl⟩
    rw [if_neg e4] at h hf ⊢
    by_cases g1 : 200000 < (lengthL a.hd).1
    · rw [if_pos g1] at h; cases h
    rw [if_neg g1] at h hf ⊢
    by_cases g2 : ((b.drop p).length : Int) < (lengthL a.hd).1
    · rw [if_pos g2] at h; cases h
    rw [if_neg g2] at h hf ⊢
    by_cases g3 : (lengthL a.hd).1 < (b.drop p).length
    · rw [if_pos g3] at h; cases h
    rw [if_neg g3]
    have e2 : F = 2 := by omega
    have hv := (lenV_eq (l := valuesL a.hd wLen) (n := (b.drop p).length) (by omega)).1 ⟨frame_2 (hF.trans e2), by show (lengthL a.hd).1 = _; omega⟩
    exact ⟨caI (a := ⟨a.st, a.re, a.hd, b.drop p⟩) (fr := 2) h2 (by show (b.drop p).length ≤ _; omega) (by omega) (by show 2 = frameL a.st a.hd; rw [hF, e2]) (by omega) (fun _ => hv), caI2 i1 (by show (2 : Int) ≠ 3; omega) rfl⟩
  · rw [if_neg h2] at h
    split at h
    · cases h
    · exact absurd h h2

theorem eq_take {α : Type} [DecidableEq α] {d : α} {a b : List α} (h : a.length = b.length) (hh : ∀ j, j < a.length → a.getD j d = b.getD j d) : a = b := by
  apply List.ext_getElem h
  intro i h1 h2
  have := hh i h1
  rwa [List.getD_eq_getElem?_getD, List.getD_eq_getElem?_getD, List.getElem?_eq_getElem h1, List.getElem?_eq_getElem h2] at this
theorem ne_at {α : Type} {d : α} {a b : List α} {i : Nat} (h : a.getD i d ≠ b.getD i d) : a ≠ b := fun e => h (by rw [e])
def ckEqHd : Ck
  | [.sl n f, .sl m g] => some (isLs cHd n f ∧ isLs cHd m g ∧ n ≤ 4611686018427387904, .bool (decide (lsOf cHd n f = lsOf cHd m g)))
  | _ => none
theorem conEqHd : Con pg 24 ckEqHd := by
  have hct := ctN_ok pg
  intro args q r h hq
  unfold ckEqHd at h
  split at h
  · cases h
    rename_i n f m g
    refine pcall_args (args' := [.sl (lsOf cHd n f).length (lsF cHd (lsOf cHd n f)), .sl (lsOf cHd m g).length (lsF cHd (lsOf cHd m g))]) ⟨isLs.vle hq.1, isLs.vle hq.2.1, trivial⟩ ?_
    have hn : (lsOf cHd n f).length ≤ 4611686018427387904 := by rw [lsOf_len]; exact hq.2.2
    generalize lsOf cHd n f = a at hn ⊢
    generalize lsOf cHd m g = b
    refine w24 (fun _ => false) [] rfl hct rfl rfl ?_
    push_cast (config := { maxSteps := 10000000 })
    refine ⟨fun h => ?_, fun h => ?_⟩
    · exact (decide_eq_false fun e => h (by rw [e])).symm
    refine LoopW.adj ⟨hct, fol⟩ (by kernel_rfl) [] (fun i : Nat => [(0, .sl a.length (lsF cHd a)), (1, .sl b.length (lsF cHd b)), (12, .int .i64 a.length), (13, .int .i64 i)]) (fun _ => []) (fun i => i ≤ a.length ∧ ∀ j, j < i → a.getD j ⟨[], []⟩ = b.getD j ⟨[], []⟩) (fun i => a.length - i) 0 ?_ fun i hi => ?_
    · push_cast (config := { maxSteps := 10000000 })
      exact Nat.zero_le _
    · push_cast (config := { maxSteps := 10000000 })
      obtain ⟨h1, h2⟩ := hi
      refine ⟨fun hlt => ⟨hlt, by omega, fun hne => ?_, fun he => ⟨by omega, i + 1, ⟨by omega, fun j hj => ?_⟩, by omega, by omega⟩⟩, fun hge => ?_⟩
      · exact (decide_eq_false (ne_at (d := ⟨[], []⟩) (i := i) fun e => hne (by rw [e]) (by rw [e]))).symm
      · by_cases e : j = i
        · subst e
          have e1 : ∀ x y : Hd, x.name = y.name → x.value = y.value → x = y := fun x y h h' => by cases x; cases y; simp_all
          exact e1 _ _ he.1 he.2
        · exact h2 j (by omega)
      · exact (decide_eq_true (eq_take (d := ⟨[], []⟩) (by omega) fun j hj => h2 j (by omega))).symm
  · cases h
attribute [push_cast] ckEqHd

def ckSameAns : Ck
  | [.agg [.int .i64 s1, .str r1, .sl n f, .sl m g], .agg [.int .i64 s2, .str r2, .sl n' f', .sl m' g']] => some (isLs cHd n f ∧ isLs cHd n' f' ∧ n ≤ 4611686018427387904 ∧ isBy m g ∧ isBy m' g', .bool (decide ((⟨s1, r1, lsOf cHd n f, bytesOf m g⟩ : Ans) = ⟨s2, r2, lsOf cHd n' f', bytesOf m' g'⟩)))
  | _ => none
theorem conSameAns : Con pg 12 ckSameAns := by
  have hct := (ctA_ok conEqHd (ctA_ok conBEqual (ctN_ok _)))
  intro args q r h hq
  unfold ckSameAns at h
  split at h
  · cases h
    rename_i s1 r1 n f m g s2 r2 n' f' m' g'
    refine w12 (fun _ => false) [] rfl hct rfl rfl ?_
    push_cast (config := { maxSteps := 10000000 })
    obtain ⟨h1, h2, h3, h4, h5⟩ := hq
    refine ⟨fun h => ⟨h, h1, h2, h3⟩, fun h => ⟨h, h4, h5⟩, ?_⟩
    rw [Bool.eq_iff_iff]
    simp only [Bool.and_eq_true, beq_iff_eq, decide_eq_true_eq, Ans.mk.injEq, and_assoc]
  · cases h
attribute [push_cast] ckSameAns

theorem ans_fit {a : Ans} {fr ch : Int} (h : checkAnsL a fr ch = 0) : ansOk a := by
  obtain ⟨h0, hb, _⟩ := ans_frame h
  obtain ⟨t1, t2, t3, t4, t5⟩ := top_heads h0
  have := heads_100 t1
  refine ⟨fun x hx => ?_, by omega, by omega, by omega⟩
  have := heads_mem t1 x hx
  simp only [tokL, valueL, Bool.and_eq_true, decide_eq_true_eq] at this
  omega
def ckLawAB : Ck
  | [x, .int .i64 fr, .int .i64 ch, .sl n f] => some (isC cAns x ∧ ansOk (cAns.dec x) ∧ isBy n f ∧ n ≤ 140737488355328, .bool true)
  | _ => none
theorem conLawAB : Con pg 4 ckLawAB := by
  have hct := (ctA_ok conAnsB (ctA_ok conReadAns (ctA_ok conSameAns (ctA_ok conBEqual (ctA_ok conAwake2 (ctN_ok _))))))
  intro args q r h hq
  unfold ckLawAB at h
  split at h
  · cases h
    rename_i x fr ch n f
    refine pcall_args (args' := [cAns.enc (cAns.dec x), .int .i64 fr, .int .i64 ch, .sl (bytesOf n f).length (byF (bytesOf n f))]) ⟨hq.1, VLe.refl _, VLe.refl _, isBy.vle hq.2.2.1, trivial⟩ ?_
    obtain ⟨-, ha, -, hn⟩ := hq
    have h1 : (bytesOf n f).length ≤ 140737488355328 := by rw [bytesOf_len]; exact hn
    generalize cAns.dec x = a at ha ⊢
    generalize bytesOf n f = b at h1 ⊢
    refine w4 (fun _ => false) [] rfl hct rfl rfl ?_
    push_cast (config := { maxSteps := 10000000 })
    have B : b.length ≤ 4611686018427387900 ∧ (¬(raL b).2.2.2 = 0 ∨ (raL b).2.1 = 3 → ¬(raL b).2.2.2 = 0 ∨ ¬(raL b).2.1 = 0) ∧ ((raL b).2.2.2 = 0 ∧ ¬(raL b).2.1 = 3 → ansOk (raL b).1 ∧ checkAnsL (raL b).1 (raL b).2.1 0 = 0 ∧ ansR (raL b).1 (raL b).2.1 0 = b) := by
      refine ⟨by omega, fun h => h.imp id fun h => by omega, fun h => ?_⟩
      obtain ⟨e1, e2⟩ := ans_inv h.1 h.2
      refine ⟨ans_fit e1, e1, ?_⟩
      unfold ansR; rw [if_pos e1, e2]
    refine ⟨ha, fun h => ?_, fun _ => B⟩
    have er : ansR a fr ch = ansB a fr ch := by unfold ansR; rw [if_pos h.1]
    rw [er] at h ⊢
    have e := ans_back h.1 (by omega)
    rw [e]
    have hh := ans_ok h.1
    exact ⟨by omega, fun h2 => ⟨h2, by show a.hd.length ≤ _; omega⟩, fun h2 => by simp at h2, fun _ => B⟩
  · cases h
attribute [push_cast] ckLawAB
theorem allLawAB {H : Type} (ds : List (DataW H)) (hh : hasD [.tup [.int .i64, .str, .list (.tup [.str, .str]), .list (.int .u8)], .int .i64, .int .i64, .list (.int .u8)] ds) : PCall pg 4 (ds.map toV) (.bool true) := by
  obtain ⟨d1, d2, d3, d4, rfl, a, b, c, d⟩ := hasD4 hh
  obtain ⟨fr, e2, _⟩ := shInt b
  obtain ⟨ch, e3, _⟩ := shInt c
  obtain ⟨n, f, e4, h3, h4⟩ := shBytes d
  simp only [List.map_cons, List.map_nil, e2, e3, e4]
  have hr : reachBytes ≤ 140737488355328 := by unfold reachBytes; omega
  exact conLawAB _ _ _ rfl ⟨(shAns a).1, (shAns a).2, h3, Nat.le_trans h4 hr⟩

end Go.Abs
