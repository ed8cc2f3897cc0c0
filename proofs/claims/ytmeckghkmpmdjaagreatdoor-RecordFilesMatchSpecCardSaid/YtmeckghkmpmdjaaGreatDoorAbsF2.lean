/- what functions of this program compute: contracts, each a function's own -/
import Derived.Test.YtmeckghkmpmdjaaGreatDoorAbsK2
import Derived.Test.YtmeckghkmpmdjaaGreatDoorAbsFacts
import Derived.Test.YtmeckghkmpmdjaaGreatDoorAbsF1
import Derived.Test.YtmeckghkmpmdjaaGreatDoorAbsShelf
import Derived.Lib.SlTrimSet
import Derived.Lib.Atoi
import Derived.Lib.Itoa
import Derived.Lib.ItoaNum
import Derived.Lib.AtoiErrMem
import Derived.Lib.ItoaLen
namespace Go.Abs
open Go Go.Proofs
set_option maxHeartbeats 4000000
set_option maxRecDepth 100000
set_option linter.unusedVariables false
set_option linter.unusedSimpArgs false
def ckMixed : Ck
  | [.sl n f] => some (isBy n f ∧ n ≤ 4611686018427387900, .int .u64 (mixL (bytesOf n f)))
  | _ => none
theorem conMixed : Con pg 93 ckMixed := by
  have hct := ctN_ok pg
  intro args q r h hq
  unfold ckMixed at h
  split at h
  · cases h
    rename_i n f
    refine pcall_args (args' := [.sl (bytesOf n f).length (byF (bytesOf n f))]) ⟨isBy.vle hq.1, trivial⟩ ?_
    have h1 : (bytesOf n f).length ≤ 4611686018427387900 := by rw [bytesOf_len]; exact hq.2
    generalize bytesOf n f = b at h1 ⊢
    refine w93 (fun _ => false) [] rfl hct rfl rfl ?_
    push_cast (config := { maxSteps := 10000000 })
    have hstep : ∀ i, i < b.length → bitsI BinOp.xor IntKind.u64 (mixL (b.take i)) (((b.getD i 0).toNat : Int) % 18446744073709551616) * 1099511628211 % 18446744073709551616 = mixL (b.take (i + 1)) := fun i hi => by
      rw [takeG (d := 0) hi, mixL_snoc]; rfl
    refine LoopW.adj ⟨hct, fol⟩ (by kernel_rfl) [] (fun i : Nat => [(0, .sl b.length (byF b)), (3, .int .u64 (mixL (b.take i))), (6, .int .i64 b.length), (7, .int .i64 i)]) (fun _ => []) (fun i => i ≤ b.length) (fun i => b.length - i) 0 ?_ fun i hi => ?_
    · push_cast (config := { maxSteps := 10000000 })
      exact ⟨Nat.zero_le _, rfl⟩
    · push_cast (config := { maxSteps := 10000000 })
      exact ⟨fun h => ⟨h, ⟨by omega, by omega⟩, i + 1, by omega, by omega, hstep i h, by omega⟩, fun h => by rw [List.take_of_length_le (by omega)]⟩
  · cases h
attribute [push_cast] ckMixed
def hxF (n : Int) (i : Nat) : Nat → V := fun j => bif decide (16 ≤ j + i) then .int .u8 (hexD (n / 16 ^ (15 - j))).toNat else .int .u8 0
theorem div16 {n : Int} (h0 : 0 ≤ n) (h1 : n < 18446744073709551616) (i : Nat) : 0 ≤ n / 16 ^ i ∧ n / 16 ^ i < 18446744073709551616 := by
  have hp : (0 : Int) < 16 ^ i := Int.pow_pos (by omega)
  refine ⟨Int.ediv_nonneg h0 (by omega), ?_⟩
  have := Int.ediv_le_self (16 ^ i) h0
  omega
theorem div16s (n : Int) (i : Nat) : n / 16 ^ i / 16 = n / 16 ^ (i + 1) := by
  have hp : (0 : Int) < 16 ^ i := Int.pow_pos (by omega)
  rw [Int.pow_succ, Int.ediv_ediv_of_nonneg (by omega)]
theorem hx_set {n : Int} {i : Nat} (hi : i < 16) (j : Nat) : setF (hxF n i) (15 - i) (.int .u8 (hexD (n / 16 ^ i)).toNat) j = hxF n (i + 1) j := by
  unfold setF hxF
  by_cases e : j = 15 - i
  · rw [decide_eq_true e, cond_true, decide_eq_true (show 16 ≤ j + (i + 1) by omega), cond_true, show 15 - j = i by omega]
  · rw [decide_eq_false e, cond_false]
    by_cases h : 16 ≤ j + i
    · rw [decide_eq_true h, decide_eq_true (show 16 ≤ j + (i + 1) by omega)]
    · rw [decide_eq_false h, decide_eq_false (show ¬ 16 ≤ j + (i + 1) by omega)]
theorem hx_end {n : Int} {i : Nat} (hi : i = 16) : (∀ j, j < 16 → ∃ m, hxF n i j = .int .u8 m) ∧ bytesOf 16 (hxF n i) = hex16 n := by
  subst hi
  have e : ∀ j, hxF n 16 j = .int .u8 (hexD (n / 16 ^ (15 - j))).toNat := fun j => by unfold hxF; rw [decide_eq_true (by omega)]; rfl
  refine ⟨fun j _ => ⟨_, e j⟩, ?_⟩
  unfold bytesOf hex16
  refine List.map_congr_left fun j _ => ?_
  rw [e]
  simp [V.toByte, hexD]
def ckHex : Ck
  | [.int .u64 n] => some (0 ≤ n ∧ n < 18446744073709551616, .str (hex16 n))
  | _ => none
theorem conHex : Con pg 92 ckHex := by
  have hct := ctN_ok pg
  intro args q r h hq
  unfold ckHex at h
  split at h
  · cases h
    rename_i n
    refine w92 (fun _ => false) [] rfl hct rfl rfl ?_
    push_cast (config := { maxSteps := 10000000 })
    refine LoopW.adj ⟨hct, fol⟩ (by kernel_rfl) [] (fun i : Nat => [(0, .int .u64 (n / 16 ^ i)), (3, .vec 5 16), (7, .int .i64 16), (8, .int .i64 i)]) (fun i => [(5, .vec 1 16 (hxF n i))]) (fun i => i ≤ 16) (fun i => 16 - i) 0 ?_ fun i hi => ?_
    · push_cast (config := { maxSteps := 10000000 })
      exact ⟨(Int.ediv_one n).symm, fun i hi => by unfold hxF; rw [decide_eq_false (by omega)]; rfl⟩
    · push_cast (config := { maxSteps := 10000000 })
      refine ⟨fun h => ?_, fun h => hx_end (by omega)⟩
      have hd := div16 hq.1 hq.2 i
      rw [andF _ hd.1 hd.2, shrF _ hd.1, div16s]
      have hj : (15 - (i : Int)).toNat = 15 - i := by omega
      have hz : hxF n i (15 - i) = .int .u8 0 := by unfold hxF; rw [decide_eq_false (by omega)]; rfl
      rw [hj, hz]
      exact ⟨⟨by omega, by omega⟩, ⟨by omega, by omega⟩, ⟨by omega, by omega⟩, by omega, ⟨by omega, by omega⟩, i + 1, by omega, by omega, ⟨rfl, by omega⟩, fun j _ => hx_set (by omega) j⟩
  · cases h
attribute [push_cast] ckHex
def ckDigest : Ck
  | [.sl n f] => some (isBy n f ∧ n ≤ 4611686018427387900, .str (digestL (bytesOf n f)))
  | _ => none
theorem conDigest : Con pg 67 ckDigest := by
  have hct := (ctA_ok conMixed (ctA_ok conHex (ctN_ok _)))
  intro args q r h hq
  unfold ckDigest at h
  split at h
  · cases h
    rename_i n f
    refine w67 (fun _ => false) [] rfl hct rfl rfl ?_
    push_cast (config := { maxSteps := 10000000 })
    exact ⟨hq, mix_b _, rfl⟩
  · cases h
attribute [push_cast] ckDigest
theorem conDigest2 : Con pg 70 ckDigest := by
  have hct := ctN_ok pg
  intro args q r h hq
  unfold ckDigest at h
  split at h
  · cases h
    rename_i n f
    refine pcall_args (args' := [.sl (bytesOf n f).length (byF (bytesOf n f))]) ⟨isBy.vle hq.1, trivial⟩ ?_
    have h1 : (bytesOf n f).length ≤ 4611686018427387900 := by rw [bytesOf_len]; exact hq.2
    generalize bytesOf n f = b at h1 ⊢
    refine w70 (fun _ => false) [] rfl hct rfl rfl ?_
    push_cast (config := { maxSteps := 10000000 })
    have hstep : ∀ i, i < b.length → bitsI BinOp.xor IntKind.u64 (mixL (b.take i)) (((b.getD i 0).toNat : Int) % 18446744073709551616) * 1099511628211 % 18446744073709551616 = mixL (b.take (i + 1)) := fun i hi => by
      rw [takeG (d := 0) hi, mixL_snoc]; rfl
    refine LoopW.adj ⟨hct, fol⟩ (by kernel_rfl) [] (fun i : Nat => [(0, .sl b.length (byF b)), (3, .int .u64 (mixL (b.take i))), (4, .int .i64 i)]) (fun _ => []) (fun i => i ≤ b.length) (fun i => b.length - i) 0 ?_ fun i hi => ?_
    · push_cast (config := { maxSteps := 10000000 })
      exact ⟨Nat.zero_le _, rfl⟩
    · push_cast (config := { maxSteps := 10000000 })
      refine ⟨fun h => ?_, fun h => ?_⟩
      · exact ⟨h, ⟨by omega, by omega⟩, i + 1, by omega, by omega, hstep i h, by omega⟩
      obtain rfl : i = b.length := by omega
      rw [List.take_length]
      have hm := mix_b b
      unfold digestL
      generalize mixL b = m at hm ⊢
      refine LoopW.adj ⟨hct, fol⟩ (by kernel_rfl) [] (fun t : Nat => [(3, .int .u64 m), (5, .str ((hex16 m).take t)), (6, .int .i64 (60 - 4 * t))]) (fun _ => []) (fun t => t ≤ 16) (fun t => 16 - t) 0 ?_ fun t ht => ?_
      · push_cast (config := { maxSteps := 10000000 })
      · push_cast (config := { maxSteps := 10000000 })
        refine ⟨fun h => ?_, fun h => by rw [List.take_of_length_le (by rw [hex16_len]; omega)]⟩
        have hd := div16 hm.1 hm.2 (15 - t)
        have hs : m.fdiv (2 ^ min (60 - 4 * (t : Int)).toNat IntKind.u64.bits) = m / 16 ^ (15 - t) := by
          rw [show min (60 - 4 * (t : Int)).toNat IntKind.u64.bits = 4 * (15 - t) by show min _ 64 = _; omega, Int.pow_mul, show ((2 : Int) ^ 4) = 16 from rfl, Int.fdiv_eq_ediv_of_nonneg _ (Int.le_of_lt (Int.pow_pos (by omega)))]
        rw [hs, hex16_len]
        have hg : (hex16 m).getD t 0 = hexD (m / 16 ^ (15 - t)) := by
          unfold hex16 hexD
          rw [List.getD_eq_getElem?_getD, List.getElem?_map, List.getElem?_range (by omega)]; rfl
        have ht' := takeG (d := 0) (s := hex16 m) (k := t) (by rw [hex16_len]; omega)
        rw [hg] at ht'
        generalize m / 16 ^ (15 - t) = D at hd ht' ⊢
        have e1 : (D % 16 + 1) % 18446744073709551616 = D % 16 + 1 := by omega
        rw [e1]
        have e2 : (D % 16 + 1).toNat - (D % 16).toNat = 1 := by omega
        rw [e2]
        have e3 : List.take 1 (List.drop (D % 16).toNat [48, 49, 50, 51, 52, 53, 54, 55, 56, 57, 97, 98, 99, 100, 101, 102]) = [hexD D] := by
          have hk : (D % 16).toNat < hexT.length := by show _ < 16; omega
          rw [show ([48, 49, 50, 51, 52, 53, 54, 55, 56, 57, 97, 98, 99, 100, 101, 102] : List UInt8) = hexT from rfl, dropG (d := 0) hk]
          rfl
        rw [e3]
        exact ⟨h, hd.1, ⟨⟨by omega, by omega⟩, ⟨by omega, by omega⟩, by omega⟩, by omega, ⟨by omega, by omega⟩, t + 1, by omega, by omega, ht'.symm, by omega⟩
  · cases h

/- the closure of record.write: a line behind the bytes; the bytes' cell is block 2, the row of bytes block 12 -/
def catL (L a v : List UInt8) : List UInt8 := L ++ lnB2 a v
theorem catL_len (L a v : List UInt8) : (catL L a v).length = L.length + a.length + v.length + 4 := by simp [catL, lnB2]; omega
def ckLineK : List V → List Blk → Option (Prop × V × List Blk)
  | [.str a, .str v, .ptr 2 0], [.cells [.vec 12 n], .vec 1 k g] => some (k = n ∧ isBy n g ∧ n ≤ 100000000 ∧ a.length ≤ 100000000 ∧ v.length ≤ 100000000, .tup [], [.cells [.vec 12 (catL (bytesOf n g) a v).length], .vec 1 (catL (bytesOf n g) a v).length (byF (catL (bytesOf n g) a v))])
  | _, _ => none
def ckLine6 : Cf := ⟨fun | [_, _, .ptr 2 _] => [2, 12] | _ => [], ckLineK⟩
theorem conLine6 : FCon pg 63 ckLine6 := by
  have hct := ctN_ok pg
  intro args bs q r bs' h hq
  replace h : ckLineK args bs = some (q, r, bs') := h
  unfold ckLineK at h
  split at h
  · cases h
    rename_i a v n k g
    refine ⟨rfl, Nat.le_refl _, ?_⟩
    obtain ⟨rfl, hg, hk, ha, hv⟩ := hq
    show FCall pg 63 [.str a, .str v, .ptr 9002 0] [(9002, .cells [.vec 9012 k]), (9012, .vec 1 k fun i => V.shift (g i))] (.tup []) [(9002, .cells [.vec 9012 (catL (bytesOf k g) a v).length]), (9012, .vec 1 (catL (bytesOf k g) a v).length (byF (catL (bytesOf k g) a v)))]
    refine fcall_blk (hm := [(9002, .cells [.vec 9012 k]), (9012, .vec 1 k (byF (bytesOf k g)))]) ⟨rfl, ⟨⟨rfl, rfl⟩, trivial⟩, rfl, ⟨rfl, rfl, fun j hj => by show V.shift (g j) = _; rw [hg.2 j hj]; rfl⟩, trivial⟩ ?_
    have hl := bytesOf_len k g
    generalize bytesOf k g = b at hl ⊢
    subst hl
    refine fw63 (fun _ => false) [] rfl hct rfl (by simp) (by simp [hlIn, idsIn, Blk.menIn, V.menInL, V.menIn, V.flat, byF, lsF]) (by simp [V.menIn, V.menInL, idsIn]) ?_
    push_cast (config := { maxSteps := 10000000 })
    have hll : (lnB2 a v).length = a.length + 2 + v.length + 2 := by simp [lnB2]; omega
    have hcl := catL_len b a v
    have app := ByI.app (ByI.by b) (ByI.by (lnB2 a v)) rfl
    rw [hll] at app
    exact ⟨by omega, by omega, by omega, ⟨by omega, by omega⟩, by omega, by omega, app.2⟩
  · cases h
@[push_cast] theorem line6_ids (x y : V) (o : Nat) : ckLine6.ids [x, y, .ptr 2 o] = [2, 12] := rfl
@[push_cast] theorem line6_k (a v : List UInt8) (n k : Nat) (g : Nat → V) : ckLine6.k [.str a, .str v, .ptr 2 0] [.cells [.vec 12 n], .vec 1 k g] = some (k = n ∧ isBy n g ∧ n ≤ 100000000 ∧ a.length ≤ 100000000 ∧ v.length ≤ 100000000, .tup [], [.cells [.vec 12 (catL (bytesOf n g) a v).length], .vec 1 (catL (bytesOf n g) a v).length (byF (catL (bytesOf n g) a v))]) := rfl
@[push_cast] theorem vle_fn6 (f : Fn) (a b : List V) : vle (.fn f a b) (.fn f a b) = True := eq_true rfl
@[push_cast] theorem kept_by : bytesOf 8 (byF [75, 69, 80, 84, 47, 49, 13, 10]) = [75, 69, 80, 84, 47, 49, 13, 10] := rfl
@[push_cast] theorem kept_is : isBy 8 (byF [75, 69, 80, 84, 47, 49, 13, 10]) = True := eq_true (isBy_by [75, 69, 80, 84, 47, 49, 13, 10])
theorem date_le {n : Int} (h0 : 0 ≤ n) (h1 : n ≤ 253402300799) : (dateTextL n).length ≤ 6000 := by
  have h0 : 0 ≤ n / 86400 ∧ n / 86400 ≤ 2932896 := by omega
  have b := date_b h0.1 h0.2
  have l1 := wdN_b ((n / 86400 + 3) % 7).toNat
  have l2 := mnN_b (monthI (n / 86400) - 1).toNat
  have l3 := paddedL_len (n := n / 86400 - daysI (yearI (n / 86400)) (monthI (n / 86400)) + 1) (k := 2) (by omega) (by omega) (by omega) (by omega)
  have l4 := paddedL_len (n := yearI (n / 86400)) (k := 4) (by omega) (by omega) (by omega) (by omega)
  have l5 := paddedL_len (n := n % 86400 / 3600) (k := 2) (by omega) (by omega) (by omega) (by omega)
  have l6 := paddedL_len (n := n % 86400 / 60 % 60) (k := 2) (by omega) (by omega) (by omega) (by omega)
  have l7 := paddedL_len (n := n % 86400 % 60) (k := 2) (by omega) (by omega) (by omega) (by omega)
  unfold dateTextL
  simp only [List.length_append, List.length_cons, List.length_nil]
  omega
theorem kindW_le (k : Nat) : (kindW.getD k []).length ≤ 7 := by
  match k with
  | 0 | 1 | 2 | 3 | 4 => decide
  | k + 5 => simp [kindW]
theorem name_le {s : List UInt8} (h : nameL s = true) : s.length ≤ 40 := by
  simp only [nameL, Bool.and_eq_true, decide_eq_true_eq] at h; exact h.1.1.2
theorem target_le {s : List UInt8} (h : targetL s = true) : s.length ≤ 2000 := by
  simp only [targetL, Bool.and_eq_true, decide_eq_true_eq] at h; exact h.1.2
theorem rec_sz {r : Rcd} (h : checkRecL r = 0) : r.id.length ≤ 40 ∧ r.ow.length ≤ 40 ∧ r.ke.length ≤ 2000 ∧ (dateTextL r.ti).length ≤ 6000 ∧ (headsB r.hd).length ≤ 104400 ∧ r.bd.length ≤ 200000 ∧ r.hd.length ≤ 30 := by
  obtain ⟨h1, h2, h3, h4, h5, h6, h7, h8, h9, h10⟩ := rec_ok h
  refine ⟨name_le h3, ?_, target_le h7, date_le h5 h6, heads_le h9, h10, h8⟩
  rcases h4 with h4 | h4
  · rw [h4]; simp
  · exact name_le h4
theorem recP_ow {r : Rcd} (h : ¬ r.ow = []) : catL (catL (catL (catL (catL [75, 69, 80, 84, 47, 49, 13, 10] [105, 100] r.id) [111, 102] r.ow) [107, 105, 110, 100] (kindW.getD (r.ki - 1).toNat [])) [100, 97, 116, 101] (dateTextL r.ti)) [107, 101, 121] r.ke = recP r := by
  unfold recP; rw [if_neg h]; rfl
theorem recP_no {r : Rcd} (h : r.ow = []) : catL (catL (catL (catL [75, 69, 80, 84, 47, 49, 13, 10] [105, 100] r.id) [107, 105, 110, 100] (kindW.getD (r.ki - 1).toNat [])) [100, 97, 116, 101] (dateTextL r.ti)) [107, 101, 121] r.ke = recP r := by
  unfold recP; rw [if_pos h, List.append_nil]; rfl
theorem recP_le {r : Rcd} (h : checkRecL r = 0) : (recP r).length ≤ 10000 := by
  obtain ⟨z1, z2, z3, z4, z5, z6, z7⟩ := rec_sz h
  have zk := kindW_le (r.ki - 1).toNat
  by_cases e : r.ow = []
  · rw [← recP_no e]; simp only [catL_len, List.length_cons, List.length_nil]; omega
  · rw [← recP_ow e]; simp only [catL_len, List.length_cons, List.length_nil]; omega
def ckWrite : Ck
  | [.nilsl, x] => some (isC cRec x ∧ recOk (cRec.dec x) ∧ checkRecL (cRec.dec x) = 0, .sl (recB (cRec.dec x)).length (byF (recB (cRec.dec x))))
  | _ => none
theorem conWrite : Con pg 41 ckWrite := by
  have hct := (ctF_ok conLine6 (ctA_ok conKinds (ctA_ok conDateText (ctA_ok conItoa (ctA_ok conDigest (ctN_ok _))))))
  intro args q r h hq
  unfold ckWrite at h
  split at h
  · cases h
    rename_i x
    refine pcall_args (args' := [.nilsl, cRec.enc (cRec.dec x)]) ⟨VLe.refl _, hq.1, trivial⟩ ?_
    obtain ⟨-, ha, hc⟩ := hq
    generalize cRec.dec x = r at ha hc ⊢
    refine w41 (fun d => decide (d = 10006)) [.frz 12] rfl hct rfl rfl ?_
    push_cast (config := { maxSteps := 10000000 })
    obtain ⟨z1, z2, z3, z4, z5, z6, z7⟩ := rec_sz hc
    obtain ⟨y1, y2, y3, y4, y5, y6, y7, y8, y9, y10⟩ := rec_ok hc
    have zk := kindW_le (r.ki - 1).toNat
    have zp := recP_le hc
    have c8 : ([75, 69, 80, 84, 47, 49, 13, 10] : List UInt8).length = 8 := rfl
    have c2 : ([105, 100] : List UInt8).length = 2 := rfl
    rw [if_pos ⟨y5, y6⟩]
    refine ⟨by omega, fun how => ?_, fun how => ?_⟩
    · have hP := recP_ow how
      refine ⟨⟨by simp only [catL_len, List.length_cons, List.length_nil]; omega, by omega⟩, ⟨by omega, by omega⟩, ⟨by omega, by omega⟩, ⟨by simp only [catL_len, List.length_cons, List.length_nil]; omega, by omega⟩, ⟨by omega, by omega⟩, ⟨by simp only [catL_len, List.length_cons, List.length_nil]; omega, by omega⟩, ⟨by simp only [catL_len, List.length_cons, List.length_nil]; omega, by omega⟩, ?_⟩
      generalize catL (catL (catL (catL (catL [75, 69, 80, 84, 47, 49, 13, 10] [105, 100] r.id) [111, 102] r.ow) [107, 105, 110, 100] (kindW.getD (r.ki - 1).toNat [])) [100, 97, 116, 101] (dateTextL r.ti)) [107, 101, 121] r.ke = P at hP ⊢
      refine LoopW.adj ⟨hct, fol⟩ (by kernel_rfl) [] (fun t : Nat × List UInt8 => [(2, .ptr 2 0), (3, .ptr 3 0), (5, .fn (.func 63) [] [.ptr 2 0]), (46, .sl r.hd.length (lsF cHd r.hd)), (47, .int .i64 r.hd.length), (48, .int .i64 t.1)]) (fun t => [(2, .cells [.vec 12 t.2.length]), (12, .vec 1 t.2.length (byF t.2)), (3, .cells [.int .i64 r.ki, .str r.id, .str r.ow, .int .i64 r.ti, .str r.ke, .sl r.hd.length (lsF cHd r.hd), .sl r.bd.length (byF r.bd)])]) (fun t => t.1 ≤ r.hd.length ∧ t.2 ++ headsB (r.hd.drop t.1) = recP r ++ headsB r.hd) (fun t => r.hd.length - t.1) (0, P) ?_ fun t ht => ?_
      · push_cast (config := { maxSteps := 10000000 })
        exact ⟨Nat.zero_le _, congrArg (· ++ headsB r.hd) hP⟩
      · obtain ⟨i, o⟩ := t
        obtain ⟨i1, i2⟩ : i ≤ r.hd.length ∧ o ++ headsB (r.hd.drop i) = recP r ++ headsB r.hd := ht
        have hl := congrArg List.length i2
        simp only [List.length_append] at hl
        push_cast (config := { maxSteps := 10000000 })
        refine ⟨fun h => ?_, fun h => ?_⟩
        · have e := dropG (d := ⟨[], []⟩) h
          rw [e, headsB] at i2 hl
          have hx : (headB (r.hd.getD i ⟨[], []⟩)).length = (r.hd.getD i ⟨[], []⟩).name.length + 2 + (r.hd.getD i ⟨[], []⟩).value.length + 2 := by simp [headB]; omega
          simp only [List.length_append] at hl
          exact ⟨h, ⟨by omega, by omega, by omega⟩, ⟨by omega, by omega⟩, (i + 1, catL o (r.hd.getD i ⟨[], []⟩).name (r.hd.getD i ⟨[], []⟩).value), ⟨by show i + 1 ≤ r.hd.length; omega, by rw [← i2]; simp [catL, lnB2, headB]⟩, by show r.hd.length - (i + 1) < r.hd.length - i; omega, by show (i : Int) + 1 = ((i + 1 : Nat) : Int); omega, rfl, rfl, fun _ _ => rfl⟩
        · rw [List.drop_eq_nil_of_le (by omega)] at i2 hl
          simp only [headsB, List.append_nil, List.length_nil, Nat.add_zero] at i2 hl
          have hi6 := itoa_len (n := r.bd.length) (by omega)
          have hdg : (digestL r.bd).length = 16 := hex16_len _
          have hq1 := catL_len o [108, 101, 110, 103, 116, 104] (Lib.itoa r.bd.length)
          have hq2 := catL_len (catL o [108, 101, 110, 103, 116, 104] (Lib.itoa r.bd.length)) [100, 105, 103, 101, 115, 116] (digestL r.bd)
          have cl1 : ([108, 101, 110, 103, 116, 104] : List UInt8).length = 6 := rfl
          have cl2 : ([100, 105, 103, 101, 115, 116] : List UInt8).length = 6 := rfl
          have eq : catL (catL o [108, 101, 110, 103, 116, 104] (Lib.itoa r.bd.length)) [100, 105, 103, 101, 115, 116] (digestL r.bd) ++ [13, 10] ++ r.bd ++ [13, 10, 13, 10] = recB r := by
            rw [i2]; simp [recB, recQ, catL]
          generalize catL (catL o [108, 101, 110, 103, 116, 104] (Lib.itoa r.bd.length)) [100, 105, 103, 101, 115, 116] (digestL r.bd) = Q at hq2 eq ⊢
          have app : ByI (Q.length + 2 + r.bd.length + 4) (appF (Q.length + 2 + r.bd.length) (appF (Q.length + 2) (appF Q.length (byF Q) (byF [13, 10])) (byF r.bd)) (byF [13, 10, 13, 10])) (recB r) := (ByI.app (ByI.app (ByI.app (ByI.by Q) (ByI.by [13, 10]) rfl) (ByI.by r.bd) rfl) (ByI.by [13, 10, 13, 10]) rfl).eq eq
          exact ⟨⟨by omega, by omega⟩, ⟨by omega, by omega⟩, by omega, ⟨by omega, by omega⟩, ⟨by omega, by omega⟩, ⟨by omega, by omega⟩, ⟨by omega, by omega⟩, app.pure, app.1, app.2⟩
    · have hP := recP_no how
      refine ⟨⟨by omega, by omega⟩, ⟨by omega, by omega⟩, ⟨by simp only [catL_len, List.length_cons, List.length_nil]; omega, by omega⟩, ⟨by omega, by omega⟩, ⟨by simp only [catL_len, List.length_cons, List.length_nil]; omega, by omega⟩, ⟨by simp only [catL_len, List.length_cons, List.length_nil]; omega, by omega⟩, ?_⟩
      generalize catL (catL (catL (catL [75, 69, 80, 84, 47, 49, 13, 10] [105, 100] r.id) [107, 105, 110, 100] (kindW.getD (r.ki - 1).toNat [])) [100, 97, 116, 101] (dateTextL r.ti)) [107, 101, 121] r.ke = P at hP ⊢
      refine LoopW.adj ⟨hct, fol⟩ (by kernel_rfl) [] (fun t : Nat × List UInt8 => [(2, .ptr 2 0), (3, .ptr 3 0), (5, .fn (.func 63) [] [.ptr 2 0]), (46, .sl r.hd.length (lsF cHd r.hd)), (47, .int .i64 r.hd.length), (48, .int .i64 t.1)]) (fun t => [(2, .cells [.vec 12 t.2.length]), (12, .vec 1 t.2.length (byF t.2)), (3, .cells [.int .i64 r.ki, .str r.id, .str r.ow, .int .i64 r.ti, .str r.ke, .sl r.hd.length (lsF cHd r.hd), .sl r.bd.length (byF r.bd)])]) (fun t => t.1 ≤ r.hd.length ∧ t.2 ++ headsB (r.hd.drop t.1) = recP r ++ headsB r.hd) (fun t => r.hd.length - t.1) (0, P) ?_ fun t ht => ?_
      · push_cast (config := { maxSteps := 10000000 })
        exact ⟨Nat.zero_le _, congrArg (· ++ headsB r.hd) hP⟩
      · obtain ⟨i, o⟩ := t
        obtain ⟨i1, i2⟩ : i ≤ r.hd.length ∧ o ++ headsB (r.hd.drop i) = recP r ++ headsB r.hd := ht
        have hl := congrArg List.length i2
        simp only [List.length_append] at hl
        push_cast (config := { maxSteps := 10000000 })
        refine ⟨fun h => ?_, fun h => ?_⟩
        · have e := dropG (d := ⟨[], []⟩) h
          rw [e, headsB] at i2 hl
          have hx : (headB (r.hd.getD i ⟨[], []⟩)).length = (r.hd.getD i ⟨[], []⟩).name.length + 2 + (r.hd.getD i ⟨[], []⟩).value.length + 2 := by simp [headB]; omega
          simp only [List.length_append] at hl
          exact ⟨h, ⟨by omega, by omega, by omega⟩, ⟨by omega, by omega⟩, (i + 1, catL o (r.hd.getD i ⟨[], []⟩).name (r.hd.getD i ⟨[], []⟩).value), ⟨by show i + 1 ≤ r.hd.length; omega, by rw [← i2]; simp [catL, lnB2, headB]⟩, by show r.hd.length - (i + 1) < r.hd.length - i; omega, by show (i : Int) + 1 = ((i + 1 : Nat) : Int); omega, rfl, rfl, fun _ _ => rfl⟩
        · rw [List.drop_eq_nil_of_le (by omega)] at i2 hl
          simp only [headsB, List.append_nil, List.length_nil, Nat.add_zero] at i2 hl
          have hi6 := itoa_len (n := r.bd.length) (by omega)
          have hdg : (digestL r.bd).length = 16 := hex16_len _
          have hq1 := catL_len o [108, 101, 110, 103, 116, 104] (Lib.itoa r.bd.length)
          have hq2 := catL_len (catL o [108, 101, 110, 103, 116, 104] (Lib.itoa r.bd.length)) [100, 105, 103, 101, 115, 116] (digestL r.bd)
          have cl1 : ([108, 101, 110, 103, 116, 104] : List UInt8).length = 6 := rfl
          have cl2 : ([100, 105, 103, 101, 115, 116] : List UInt8).length = 6 := rfl
          have eq : catL (catL o [108, 101, 110, 103, 116, 104] (Lib.itoa r.bd.length)) [100, 105, 103, 101, 115, 116] (digestL r.bd) ++ [13, 10] ++ r.bd ++ [13, 10, 13, 10] = recB r := by
            rw [i2]; simp [recB, recQ, catL]
          generalize catL (catL o [108, 101, 110, 103, 116, 104] (Lib.itoa r.bd.length)) [100, 105, 103, 101, 115, 116] (digestL r.bd) = Q at hq2 eq ⊢
          have app : ByI (Q.length + 2 + r.bd.length + 4) (appF (Q.length + 2 + r.bd.length) (appF (Q.length + 2) (appF Q.length (byF Q) (byF [13, 10])) (byF r.bd)) (byF [13, 10, 13, 10])) (recB r) := (ByI.app (ByI.app (ByI.app (ByI.by Q) (ByI.by [13, 10]) rfl) (ByI.by r.bd) rfl) (ByI.by [13, 10, 13, 10]) rfl).eq eq
          exact ⟨⟨by omega, by omega⟩, ⟨by omega, by omega⟩, by omega, ⟨by omega, by omega⟩, ⟨by omega, by omega⟩, ⟨by omega, by omega⟩, ⟨by omega, by omega⟩, app.pure, app.1, app.2⟩
  · cases h
attribute [push_cast] ckWrite

@[push_cast] theorem vle_map (i : Nat) : vle (.map i) (.map i) = True := eq_true rfl
/- names that were seen, in a map -/
def seenM (s : List (List UInt8)) : MK → Option V
  | .str x => if s.contains x = true then some (.bool true) else none
  | _ => none
@[push_cast] theorem asB_seen (s : List (List UInt8)) (x : List UInt8) : asB false (seenM s (.str x)) = s.contains x := by
  simp only [seenM]
  by_cases h : s.contains x = true
  · rw [if_pos h]; exact h.symm
  · rw [if_neg h]; show false = _; simpa using h
@[push_cast] theorem okB_seen (s : List (List UInt8)) (k : MK) : okB (seenM s k) = True := by
  refine eq_true ?_
  unfold seenM
  split
  · split <;> exact trivial
  · exact trivial
theorem putM_seen (s : List (List UInt8)) (x : List UInt8) (l : MK) : putM (seenM s) (.str x) (.bool true) l = seenM (s ++ [x]) l := by
  unfold putM
  by_cases h : l = .str x
  · subst h
    rw [decide_eq_true rfl]
    simp only [cond_true, seenM]
    rw [if_pos (by simp)]
  · rw [decide_eq_false h]
    simp only [cond_false]
    cases l with
    | int k n => rfl
    | str y =>
      have hy : y ≠ x := fun e => h (by rw [e])
      simp only [seenM]
      have : (s ++ [x]).contains y = s.contains y := by
        rw [Bool.eq_iff_iff]; simp [hy]
      rw [this]
theorem seen_nil : ∀ l, (none : Option V) = seenM [] l := fun l => by cases l <;> rfl
/-- the error of records -/
def cfGo : List (List UInt8) → Int → List Rcd → Int
  | _, m, [] => if 500000 < m then 2 else 0
  | s, m, r :: t => if ¬ checkRecL r = 0 then checkRecL r else if s.contains r.id = true then 7 else cfGo (s ++ [r.id]) (m + (recB r).length) t
def checkFileL (l : List Rcd) : Int := if 1000 < l.length then 2 else cfGo [] 0 l
def recsOk (l : List Rcd) : Prop := ∀ a ∈ l, recOk a
theorem recsOk_at {l : List Rcd} (h : recsOk l) {i : Nat} (hi : i < l.length) : recOk (l.getD i noRec) := by
  rw [List.getD_eq_getElem?_getD, List.getElem?_eq_getElem hi]; exact h _ (List.getElem_mem hi)
theorem recB_le {r : Rcd} (h : checkRecL r = 0) : (recB r).length ≤ 400000 := by
  obtain ⟨z1, z2, z3, z4, z5, z6, z7⟩ := rec_sz h
  have zp := recP_le h
  have hi6 := itoa_len (n := r.bd.length) (by omega)
  have hdg : (digestL r.bd).length = 16 := hex16_len _
  simp only [recB, recQ, lnB2, List.length_append, List.length_cons, List.length_nil]
  omega
/-- the bytes of records -/
def fileB : List Rcd → List UInt8
  | [] => []
  | r :: t => recB r ++ fileB t
theorem fileB_app (a b : List Rcd) : fileB (a ++ b) = fileB a ++ fileB b := by
  induction a with
  | nil => rfl
  | cons r t ih => simp only [List.cons_append, fileB, ih, List.append_assoc]
theorem cfGo_ok : ∀ {l : List Rcd} {s : List (List UInt8)} {m : Int}, cfGo s m l = 0 → (∀ r ∈ l, checkRecL r = 0) ∧ m + (fileB l).length ≤ 500000
  | [], s, m, h => by
    rw [cfGo] at h
    split at h
    · omega
    · exact ⟨fun r hr => (by cases hr), by simp only [fileB, List.length_nil]; omega⟩
  | r :: t, s, m, h => by
    rw [cfGo] at h
    by_cases h1 : checkRecL r = 0
    · rw [if_neg (fun x => x h1)] at h
      by_cases h2 : s.contains r.id = true
      · rw [if_pos h2] at h; omega
      · rw [if_neg h2] at h
        obtain ⟨a, b⟩ := cfGo_ok h
        refine ⟨fun x hx => ?_, by simp only [fileB, List.length_append]; omega⟩
        rcases List.mem_cons.1 hx with rfl | hx
        · exact h1
        · exact a x hx
    · rw [if_pos h1] at h; exact absurd h h1
theorem file_ok {l : List Rcd} (h : checkFileL l = 0) : (∀ r ∈ l, checkRecL r = 0) ∧ (fileB l).length ≤ 500000 ∧ l.length ≤ 1000 := by
  unfold checkFileL at h
  split at h
  · omega
  · obtain ⟨a, b⟩ := cfGo_ok h
    exact ⟨a, by omega, by omega⟩
@[push_cast] theorem lsF_rec (l : List Rcd) (i : Nat) : lsF cRec l i = .agg [.int .i64 (l.getD i noRec).ki, .str (l.getD i noRec).id, .str (l.getD i noRec).ow, .int .i64 (l.getD i noRec).ti, .str (l.getD i noRec).ke, .sl (l.getD i noRec).hd.length (lsF cHd (l.getD i noRec).hd), .sl (l.getD i noRec).bd.length (byF (l.getD i noRec).bd)] := rfl
theorem cf_app {l : List Rcd} {i : Nat} (h : i < l.length) : (l.take (i + 1)).map Rcd.id = (l.take i).map Rcd.id ++ [(l.getD i noRec).id] := by
  rw [takeG (d := noRec) h, List.map_append]; rfl

abbrev clR (r : Rcd) : Prop := r.ow = r.id ∨ (r.ow = [] ∧ (r.ki = 4 ∨ r.ki = 5)) ∨ (r.ow ≠ [] ∧ r.ki = 1)
abbrev nmR (r : Rcd) : Prop := nameL r.id = true ∧ (r.ow = [] ∨ nameL r.ow = true)
section
variable {r : Rcd}
theorem cr4 (h : r.ki < 1 ∨ 5 < r.ki) : 4 = checkRecL r := by unfold checkRecL; rw [if_pos h]
theorem cr5 (a1 : ¬ (r.ki < 1 ∨ 5 < r.ki)) (h : ¬ nmR r) : 5 = checkRecL r := by unfold checkRecL; rw [if_neg a1, if_pos h]
theorem cr12 (a1 : ¬ (r.ki < 1 ∨ 5 < r.ki)) (a2 : nmR r) (h : clR r) : 12 = checkRecL r := by unfold checkRecL; rw [if_neg a1, if_neg (fun x => x a2), if_pos h]
theorem cr1 (a1 : ¬ (r.ki < 1 ∨ 5 < r.ki)) (a2 : nmR r) (a3 : ¬ clR r) (h : ¬ (0 ≤ r.ti ∧ r.ti ≤ 253402300799)) : 1 = checkRecL r := by unfold checkRecL; rw [if_neg a1, if_neg (fun x => x a2), if_neg a3, if_pos h]
theorem cr3 (a1 : ¬ (r.ki < 1 ∨ 5 < r.ki)) (a2 : nmR r) (a3 : ¬ clR r) (a4 : 0 ≤ r.ti ∧ r.ti ≤ 253402300799) (h : ¬ targetL r.ke = true) : 3 = checkRecL r := by unfold checkRecL; rw [if_neg a1, if_neg (fun x => x a2), if_neg a3, if_neg (fun x => x a4), if_pos h]
theorem cr2 (a1 : ¬ (r.ki < 1 ∨ 5 < r.ki)) (a2 : nmR r) (a3 : ¬ clR r) (a4 : 0 ≤ r.ti ∧ r.ti ≤ 253402300799) (a5 : targetL r.ke = true) (h : 30 < r.hd.length) : 2 = checkRecL r := by unfold checkRecL; rw [if_neg a1, if_neg (fun x => x a2), if_neg a3, if_neg (fun x => x a4), if_neg (fun x => x a5), if_pos h]
theorem crh (a1 : ¬ (r.ki < 1 ∨ 5 < r.ki)) (a2 : nmR r) (a3 : ¬ clR r) (a4 : 0 ≤ r.ti ∧ r.ti ≤ 253402300799) (a5 : targetL r.ke = true) (a6 : ¬ 30 < r.hd.length) (h : ¬ checkHeadsL r.hd = 0) : checkHeadsL r.hd = checkRecL r := by unfold checkRecL; rw [if_neg a1, if_neg (fun x => x a2), if_neg a3, if_neg (fun x => x a4), if_neg (fun x => x a5), if_neg a6, if_pos h]
theorem crR (a1 : ¬ (r.ki < 1 ∨ 5 < r.ki)) (a2 : nmR r) (a3 : ¬ clR r) (a4 : 0 ≤ r.ti ∧ r.ti ≤ 253402300799) (a5 : targetL r.ke = true) (a6 : ¬ 30 < r.hd.length) (a7 : checkHeadsL r.hd = 0) : checkRecL r = if ownL r.hd = true then 12 else if 200000 < r.bd.length then 2 else if 0 < r.bd.length ∧ r.ki = 4 then 3 else 0 := by unfold checkRecL; rw [if_neg a1, if_neg (fun x => x a2), if_neg a3, if_neg (fun x => x a4), if_neg (fun x => x a5), if_neg a6, if_neg (fun x => x a7)]
end
def ckCheckRec : Ck
  | [x] => some (isC cRec x ∧ recOk (cRec.dec x), .int .i64 (checkRecL (cRec.dec x)))
  | _ => none
theorem conCheckRec : Con pg 43 ckCheckRec := by
  have hct := (ctA_ok conIsName (ctA_ok conIsMoment (ctA_ok conIsKey (ctA_ok conCheckHeads (ctA_ok conOwn (ctA_ok conSmallA (ctA_ok conHasStr (ctN_ok _))))))))
  intro args q r h hq
  unfold ckCheckRec at h
  split at h
  · cases h
    rename_i x
    refine pcall_args (args' := [cRec.enc (cRec.dec x)]) ⟨hq.1, trivial⟩ ?_
    obtain ⟨-, ha⟩ := hq
    generalize cRec.dec x = r at ha ⊢
    refine w43 (fun _ => false) [] rfl hct rfl rfl ?_
    push_cast (config := { maxSteps := 10000000 })
    have q1 := ha.2.1
    have q2 := ha.2.2.1
    have q3 := ha.2.2.2.1
    refine ⟨fun h => cr4 h, fun g => ⟨by omega, fun h => ⟨h, by omega⟩, fun h => ⟨h, fun h' => ⟨h, h'⟩⟩, fun h => ?_, fun h => ?_⟩⟩
    · refine cr5 (by omega) fun x => ?_
      rcases h with h | h
      · rw [x.1] at h; cases h
      · rcases x.2 with y | y
        · exact h.1 y
        · rw [y] at h; cases h.2
    have a1 : ¬ (r.ki < 1 ∨ 5 < r.ki) := by omega
    have a2 : nmR r := ⟨h.1, by
      by_cases e : r.ow = []
      · exact .inl e
      · exact .inr (h.2 e)⟩
    refine ⟨fun e1 => ⟨fun _ => cr12 a1 a2 (.inl e1), fun x => absurd e1 x⟩, fun e1 => ⟨fun e => ⟨e, fun e' => ⟨e, e'⟩⟩, fun e2 => ⟨fun _ => cr12 a1 a2 (.inr (.inl e2)), fun x => by rcases e2.2 with y | y; exact absurd y (x e2.1).1; exact absurd y (x e2.1).2⟩, fun e2 => ⟨fun e3 => cr12 a1 a2 (.inr (.inr e3)), fun e3 => ?_⟩⟩⟩
    have a3 : ¬ clR r := fun x => by
      rcases x with x | x | x
      · exact e1 x
      · rcases x.2 with y | y
        · exact (e2 x.1).1 y
        · exact (e2 x.1).2 y
      · exact e3 x.1 x.2
    refine ⟨fun h => cr1 a1 a2 a3 (fun x => h x.1 x.2), fun a4 => ⟨by omega, fun h => cr3 a1 a2 a3 a4 (by rw [h]; simp), fun a5 => ⟨fun h => cr2 a1 a2 a3 a4 a5 (by omega), fun h6 => ⟨ha.1, fun h => crh a1 a2 a3 a4 a5 (by omega) h, fun a7 => ?_⟩⟩⟩⟩
    have hR := crR a1 a2 a3 a4 a5 (by omega) a7
    rw [hR]
    refine LoopW.adj ⟨hct, fol⟩ (by kernel_rfl) [] (fun i : Nat => [(1, .ptr 1 0), (80, .sl r.hd.length (lsF cHd r.hd)), (81, .int .i64 r.hd.length), (82, .int .i64 i)]) (fun _ => [(1, .cells [.int .i64 r.ki, .str r.id, .str r.ow, .int .i64 r.ti, .str r.ke, .sl r.hd.length (lsF cHd r.hd), .sl r.bd.length (byF r.bd)])]) (fun i => i ≤ r.hd.length ∧ ∀ j, j < i → ownW.contains (lowL (r.hd.getD j ⟨[], []⟩).name) = false) (fun i => r.hd.length - i) 0 ?_ fun i hi => ?_
    · push_cast (config := { maxSteps := 10000000 })
      exact Nat.zero_le _
    · push_cast (config := { maxSteps := 10000000 })
      obtain ⟨i1, i2⟩ := hi
      rw [show lsOf cStr 7 (lsF cStr ownW) = ownW from lsOf_ls ownW]
      refine ⟨fun h => ⟨h, (hdsOk_at ha.1 h).1, isLs_ls ownW, fun h5 => ?_, fun h5 => ⟨⟨by omega, by omega⟩, i + 1, ⟨by omega, fun j hj => ?_⟩, by omega, by omega⟩⟩, fun h => ?_⟩
      · have : ownL r.hd = true := by
          unfold ownL
          rw [List.any_eq_true]
          refine ⟨r.hd.getD i ⟨[], []⟩, ?_, h5⟩
          rw [List.getD_eq_getElem?_getD, List.getElem?_eq_getElem h]; exact List.getElem_mem h
        rw [if_pos this]
      · by_cases e : j = i
        · subst e; exact h5
        · exact i2 j (by omega)
      · have : ownL r.hd = false := by
          unfold ownL
          rw [List.any_eq_false]
          intro x hx
          obtain ⟨j, hj, rfl⟩ := List.getElem_of_mem hx
          have h5 := i2 j (by omega)
          rw [List.getD_eq_getElem?_getD, List.getElem?_eq_getElem hj] at h5
          simp only [Option.getD_some] at h5
          rw [h5]; simp
        rw [if_neg (by rw [this]; simp)]
        exact ⟨fun g => by rw [if_pos (by omega)], fun g => ⟨fun g2 => by rw [if_neg (by omega), if_pos ⟨by omega, g2.1⟩], fun g2 => by rw [if_neg (by omega), if_neg (fun x => g2 x.2 (by omega))]⟩⟩
  · cases h
attribute [push_cast] ckCheckRec
theorem conCheckRec2 : Con pg 44 ckCheckRec := by
  have hct := (ctA_ok conWithin6 (ctA_ok conIsName2 (ctA_ok conIsKey2 (ctA_ok conCheckHeads2 (ctA_ok conValues2 (ctN_ok _))))))
  intro args q r h hq
  unfold ckCheckRec at h
  split at h
  · cases h
    rename_i x
    refine pcall_args (args' := [cRec.enc (cRec.dec x)]) ⟨hq.1, trivial⟩ ?_
    obtain ⟨-, ha⟩ := hq
    generalize cRec.dec x = r at ha ⊢
    refine w44 (fun _ => false) [] rfl hct rfl rfl ?_
    push_cast (config := { maxSteps := 10000000 })
    have q1 := ha.2.1
    have q2 := ha.2.2.1
    have q3 := ha.2.2.2.1
    refine ⟨fun h => cr4 (Classical.byContradiction fun x => h (by omega) (by omega)), fun g => ⟨by omega, fun h => ⟨h, by omega⟩, fun h => ⟨h, fun h' => ⟨h, h'⟩⟩, fun h => ?_, fun h => ?_⟩⟩
    · refine cr5 (by omega) fun x => ?_
      rcases h with h | h
      · rw [x.1] at h; cases h
      · rcases x.2 with y | y
        · exact h.1 y
        · rw [y] at h; cases h.2
    have a1 : ¬ (r.ki < 1 ∨ 5 < r.ki) := by omega
    have a2 : nmR r := ⟨h.1, by
      by_cases e : r.ow = []
      · exact .inl e
      · exact .inr (h.2 e)⟩
    refine ⟨fun e => ⟨e, fun e' => ⟨e, e'⟩⟩, fun e => ⟨e, fun e' => ⟨e, e'⟩⟩, fun e => cr12 a1 a2 (by rcases e with (e | e) | e; exact .inl e; exact .inr (.inl e); exact .inr (.inr e)), fun e => ?_⟩
    have a3 : ¬ clR r := fun x => by
      rcases x with x | x | x
      · exact e.1.1 x
      · rcases x.2 with y | y
        · exact (e.1.2 x.1).1 y
        · exact (e.1.2 x.1).2 y
      · exact e.2 x.1 x.2
    refine ⟨fun h => cr1 a1 a2 a3 (fun x => h x.1 x.2), fun a4 => ⟨by omega, fun h => cr3 a1 a2 a3 a4 (by rw [h]; simp), fun a5 => ⟨fun h => cr2 a1 a2 a3 a4 a5 (by omega), fun h6 => ⟨ha.1, fun h => crh a1 a2 a3 a4 a5 (by omega) h, fun a7 => ?_⟩⟩⟩⟩
    have hR := crR a1 a2 a3 a4 a5 (by omega) a7
    rw [hR]
    refine LoopW.adj ⟨hct, fol⟩ (by kernel_rfl) [] (fun i : Nat => [(1, .ptr 1 0), (75, .sl 7 (lsF cStr ownW)), (76, .int .i64 7), (77, .int .i64 i)]) (fun _ => [(1, .cells [.int .i64 r.ki, .str r.id, .str r.ow, .int .i64 r.ti, .str r.ke, .sl r.hd.length (lsF cHd r.hd), .sl r.bd.length (byF r.bd)])]) (fun i => i ≤ 7 ∧ ∀ j, j < i → ¬ 0 < ((valuesL r.hd (ownW.getD j [])).length : Int)) (fun i => 7 - i) 0 ?_ fun i hi => ?_
    · push_cast (config := { maxSteps := 10000000 })
      intro i hi
      rcases (by omega : i = 0 ∨ i = 1 ∨ i = 2 ∨ i = 3 ∨ i = 4 ∨ i = 5 ∨ i = 6) with rfl | rfl | rfl | rfl | rfl | rfl | rfl <;> rfl
    · push_cast (config := { maxSteps := 10000000 })
      obtain ⟨i1, i2⟩ := hi
      refine ⟨fun h => ⟨h, ⟨ha.1, by omega⟩, fun h5 => ?_, fun h5 => ⟨⟨by omega, by omega⟩, i + 1, ⟨by omega, fun j hj => ?_⟩, by omega, by omega⟩⟩, fun h => ?_⟩
      · have : ownL r.hd = true := own_iff.2 ⟨ownW.getD i [], by
          rw [List.getD_eq_getElem?_getD, List.getElem?_eq_getElem (show i < ownW.length by show i < 7; omega)]; exact List.getElem_mem _, h5⟩
        rw [if_pos this]
      · by_cases e : j = i
        · subst e; exact h5
        · exact i2 j (by omega)
      · have : ¬ ownL r.hd = true := fun x => by
          obtain ⟨w, hw, h5⟩ := own_iff.1 x
          obtain ⟨j, hj, rfl⟩ := List.getElem_of_mem hw
          have h6 := i2 j (by have : ownW.length = 7 := rfl; omega)
          rw [List.getD_eq_getElem?_getD, List.getElem?_eq_getElem hj] at h6
          exact h6 h5
        rw [if_neg this]
        exact ⟨fun g => by rw [if_pos (by omega)], fun g => ⟨fun g2 => by rw [if_neg (by omega), if_pos ⟨by omega, g2.2⟩], fun g2 => by rw [if_neg (by omega), if_neg (fun x => g2 (by omega) x.2)]⟩⟩
  · cases h

/- record.write behind bytes that are there already: their row is block 12 of the caller's, 9012 here -/
def ckLineKb : List V → List Blk → Option (Prop × V × List Blk)
  | [.str a, .str v, .ptr 2 0], [.cells [.vec 9012 n], .vec 1 k g] => some (k = n ∧ isBy n g ∧ n ≤ 100000000 ∧ a.length ≤ 100000000 ∧ v.length ≤ 100000000, .tup [], [.cells [.vec 9012 (catL (bytesOf n g) a v).length], .vec 1 (catL (bytesOf n g) a v).length (byF (catL (bytesOf n g) a v))])
  | _, _ => none
def ckLine6b : Cf := ⟨fun | [_, _, .ptr 2 _] => [2, 9012] | _ => [], ckLineKb⟩
theorem conLine6b : FCon pg 63 ckLine6b := by
  have hct := ctN_ok pg
  intro args bs q r bs' h hq
  replace h : ckLineKb args bs = some (q, r, bs') := h
  unfold ckLineKb at h
  split at h
  · cases h
    rename_i a v n k g
    refine ⟨rfl, Nat.le_refl _, ?_⟩
    obtain ⟨rfl, hg, hk, ha, hv⟩ := hq
    show FCall pg 63 [.str a, .str v, .ptr 9002 0] [(9002, .cells [.vec 18012 k]), (18012, .vec 1 k fun i => V.shift (g i))] (.tup []) [(9002, .cells [.vec 18012 (catL (bytesOf k g) a v).length]), (18012, .vec 1 (catL (bytesOf k g) a v).length (byF (catL (bytesOf k g) a v)))]
    refine fcall_blk (hm := [(9002, .cells [.vec 18012 k]), (18012, .vec 1 k (byF (bytesOf k g)))]) ⟨rfl, ⟨⟨rfl, rfl⟩, trivial⟩, rfl, ⟨rfl, rfl, fun j hj => by show V.shift (g j) = _; rw [hg.2 j hj]; rfl⟩, trivial⟩ ?_
    have hl := bytesOf_len k g
    generalize bytesOf k g = b at hl ⊢
    subst hl
    refine fw63 (fun _ => false) [] rfl hct rfl (by simp) (by simp [hlIn, idsIn, Blk.menIn, V.menInL, V.menIn, V.flat, byF, lsF]) (by simp [V.menIn, V.menInL, idsIn]) ?_
    push_cast (config := { maxSteps := 10000000 })
    have hll : (lnB2 a v).length = a.length + 2 + v.length + 2 := by simp [lnB2]; omega
    have hcl := catL_len b a v
    have app := ByI.app (ByI.by b) (ByI.by (lnB2 a v)) rfl
    rw [hll] at app
    exact ⟨by omega, by omega, by omega, ⟨by omega, by omega⟩, by omega, by omega, app.2⟩
  · cases h
@[push_cast] theorem line6_idsb (x y : V) (o : Nat) : ckLine6b.ids [x, y, .ptr 2 o] = [2, 9012] := rfl
@[push_cast] theorem line6_kb (a v : List UInt8) (n k : Nat) (g : Nat → V) : ckLine6b.k [.str a, .str v, .ptr 2 0] [.cells [.vec 9012 n], .vec 1 k g] = some (k = n ∧ isBy n g ∧ n ≤ 100000000 ∧ a.length ≤ 100000000 ∧ v.length ≤ 100000000, .tup [], [.cells [.vec 9012 (catL (bytesOf n g) a v).length], .vec 1 (catL (bytesOf n g) a v).length (byF (catL (bytesOf n g) a v))]) := rfl
@[push_cast] theorem keptB_by (B : List UInt8) : bytesOf (B.length + 8) (appF B.length (byF B) (byF [75, 69, 80, 84, 47, 49, 13, 10])) = B ++ [75, 69, 80, 84, 47, 49, 13, 10] := (ByI.app (ByI.by B) (ByI.by [75, 69, 80, 84, 47, 49, 13, 10]) rfl).bytes
@[push_cast] theorem keptB_is (B : List UInt8) : isBy (B.length + 8) (appF B.length (byF B) (byF [75, 69, 80, 84, 47, 49, 13, 10])) = True := eq_true (ByI.app (ByI.by B) (ByI.by [75, 69, 80, 84, 47, 49, 13, 10]) rfl).is
theorem catL_B (B L a v : List UInt8) : catL (B ++ L) a v = B ++ catL L a v := by simp [catL]
theorem recP_owB (B : List UInt8) {r : Rcd} (h : ¬ r.ow = []) : catL (catL (catL (catL (catL (B ++ [75, 69, 80, 84, 47, 49, 13, 10]) [105, 100] r.id) [111, 102] r.ow) [107, 105, 110, 100] (kindW.getD (r.ki - 1).toNat [])) [100, 97, 116, 101] (dateTextL r.ti)) [107, 101, 121] r.ke = B ++ recP r := by
  rw [← recP_ow h]; simp only [catL_B]
theorem recP_noB (B : List UInt8) {r : Rcd} (h : r.ow = []) : catL (catL (catL (catL (B ++ [75, 69, 80, 84, 47, 49, 13, 10]) [105, 100] r.id) [107, 105, 110, 100] (kindW.getD (r.ki - 1).toNat [])) [100, 97, 116, 101] (dateTextL r.ti)) [107, 101, 121] r.ke = B ++ recP r := by
  rw [← recP_no h]; simp only [catL_B]
def ckWriteVK : List V → List Blk → Option (Prop × V × List Blk)
  | [.vec 12 n, .agg [.int .i64 ki, .str id, .str ow, .int .i64 ti, .str ke, .sl hn hf, .sl bn bf]], [.vec 1 k g] => some (k = n ∧ isBy n g ∧ n ≤ 50000000 ∧ isLs cHd hn hf ∧ isBy bn bf ∧ recOk ⟨ki, id, ow, ti, ke, lsOf cHd hn hf, bytesOf bn bf⟩ ∧ checkRecL ⟨ki, id, ow, ti, ke, lsOf cHd hn hf, bytesOf bn bf⟩ = 0, .vec 12 (bytesOf n g ++ recB ⟨ki, id, ow, ti, ke, lsOf cHd hn hf, bytesOf bn bf⟩).length, [.vec 1 (bytesOf n g ++ recB ⟨ki, id, ow, ti, ke, lsOf cHd hn hf, bytesOf bn bf⟩).length (byF (bytesOf n g ++ recB ⟨ki, id, ow, ti, ke, lsOf cHd hn hf, bytesOf bn bf⟩))])
  | _, _ => none
def ckWriteV : Cf := ⟨fun | [.vec 12 _, _] => [12] | _ => [], ckWriteVK⟩
theorem conWriteV : FCon pg 41 ckWriteV := by
  have hct := (ctF_ok conLine6b (ctA_ok conKinds (ctA_ok conDateText (ctA_ok conItoa (ctA_ok conDigest (ctN_ok _))))))
  intro args bs q r bs' h hq
  replace h : ckWriteVK args bs = some (q, r, bs') := h
  unfold ckWriteVK at h
  split at h
  · cases h
    rename_i n ki id ow ti ke hn hf bn bf k g
    refine ⟨rfl, by first | exact Nat.le_refl _ | exact Nat.zero_le _, ?_⟩
    obtain ⟨rfl, hg, hk, h1, h2, ha, hc⟩ := hq
    show FCall pg 41 [.vec 9012 k, .agg [.int .i64 ki, .str id, .str ow, .int .i64 ti, .str ke, .sl hn hf, .sl bn bf]] [(9012, .vec 1 k fun i => V.shift (g i))] (.vec 9012 (bytesOf k g ++ recB ⟨ki, id, ow, ti, ke, lsOf cHd hn hf, bytesOf bn bf⟩).length) [(9012, .vec 1 (bytesOf k g ++ recB ⟨ki, id, ow, ti, ke, lsOf cHd hn hf, bytesOf bn bf⟩).length (byF (bytesOf k g ++ recB ⟨ki, id, ow, ti, ke, lsOf cHd hn hf, bytesOf bn bf⟩)))]
    refine fcall_blk (hm := [(9012, .vec 1 (bytesOf k g).length (byF (bytesOf k g)))]) ⟨rfl, ⟨rfl, (bytesOf_len k g).symm, fun j hj => by show V.shift (g j) = _; rw [hg.2 j hj]; rfl⟩, trivial⟩ ?_
    refine fcall_args (args' := [.vec 9012 (bytesOf k g).length, cRec.enc ⟨ki, id, ow, ti, ke, lsOf cHd hn hf, bytesOf bn bf⟩]) ⟨VLe.of_eq (by rw [bytesOf_len]), isC_rec h1 h2, trivial⟩ ?_
    have hB : (bytesOf k g).length ≤ 50000000 := by rw [bytesOf_len]; exact hk
    generalize bytesOf k g = B at hB ⊢
    generalize (⟨ki, id, ow, ti, ke, lsOf cHd hn hf, bytesOf bn bf⟩ : Rcd) = r at ha hc ⊢
    refine fw41 (fun d => decide (d = 10006)) [] rfl hct rfl (by simp) (by simp [hlIn, idsIn, Blk.menIn, V.menInL, V.menIn, V.flat, byF, lsF]) (by simp [V.menIn, V.menInL, idsIn]) ?_
    push_cast (config := { maxSteps := 10000000 })
    obtain ⟨z1, z2, z3, z4, z5, z6, z7⟩ := rec_sz hc
    obtain ⟨y1, y2, y3, y4, y5, y6, y7, y8, y9, y10⟩ := rec_ok hc
    have zk := kindW_le (r.ki - 1).toNat
    have zp := recP_le hc
    have c8 : ([75, 69, 80, 84, 47, 49, 13, 10] : List UInt8).length = 8 := rfl
    have c2 : ([105, 100] : List UInt8).length = 2 := rfl
    rw [if_pos ⟨y5, y6⟩]
    refine ⟨⟨by omega, by omega⟩, ⟨by omega, by omega⟩, fun how => ?_, fun how => ?_⟩
    · have hP := recP_owB B how
      refine ⟨⟨by simp only [catL_len, List.length_append, List.length_cons, List.length_nil]; omega, by omega⟩, ⟨by omega, by omega⟩, ⟨by omega, by omega⟩, ⟨by simp only [catL_len, List.length_append, List.length_cons, List.length_nil]; omega, by omega⟩, ⟨by omega, by omega⟩, ⟨by simp only [catL_len, List.length_append, List.length_cons, List.length_nil]; omega, by omega⟩, ⟨by simp only [catL_len, List.length_append, List.length_cons, List.length_nil]; omega, by omega⟩, ?_⟩
      generalize catL (catL (catL (catL (catL (B ++ [75, 69, 80, 84, 47, 49, 13, 10]) [105, 100] r.id) [111, 102] r.ow) [107, 105, 110, 100] (kindW.getD (r.ki - 1).toNat [])) [100, 97, 116, 101] (dateTextL r.ti)) [107, 101, 121] r.ke = P at hP ⊢
      refine LoopW.adj ⟨hct, fol⟩ (by kernel_rfl) [] (fun t : Nat × List UInt8 => [(2, .ptr 2 0), (3, .ptr 3 0), (5, .fn (.func 63) [] [.ptr 2 0]), (46, .sl r.hd.length (lsF cHd r.hd)), (47, .int .i64 r.hd.length), (48, .int .i64 t.1)]) (fun t => [(2, .cells [.vec 9012 t.2.length]), (9012, .vec 1 t.2.length (byF t.2)), (3, .cells [.int .i64 r.ki, .str r.id, .str r.ow, .int .i64 r.ti, .str r.ke, .sl r.hd.length (lsF cHd r.hd), .sl r.bd.length (byF r.bd)])]) (fun t => t.1 ≤ r.hd.length ∧ t.2 ++ headsB (r.hd.drop t.1) = (B ++ recP r) ++ headsB r.hd) (fun t => r.hd.length - t.1) (0, P) ?_ fun t ht => ?_
      · push_cast (config := { maxSteps := 10000000 })
        exact ⟨Nat.zero_le _, congrArg (· ++ headsB r.hd) hP⟩
      · obtain ⟨i, o⟩ := t
        obtain ⟨i1, i2⟩ : i ≤ r.hd.length ∧ o ++ headsB (r.hd.drop i) = (B ++ recP r) ++ headsB r.hd := ht
        have hl := congrArg List.length i2
        simp only [List.length_append] at hl
        push_cast (config := { maxSteps := 10000000 })
        refine ⟨fun h => ?_, fun h => ?_⟩
        · have e := dropG (d := ⟨[], []⟩) h
          rw [e, headsB] at i2 hl
          have hx : (headB (r.hd.getD i ⟨[], []⟩)).length = (r.hd.getD i ⟨[], []⟩).name.length + 2 + (r.hd.getD i ⟨[], []⟩).value.length + 2 := by simp [headB]; omega
          simp only [List.length_append] at hl
          exact ⟨h, ⟨by omega, by omega, by omega⟩, ⟨by omega, by omega⟩, (i + 1, catL o (r.hd.getD i ⟨[], []⟩).name (r.hd.getD i ⟨[], []⟩).value), ⟨by show i + 1 ≤ r.hd.length; omega, by rw [← i2]; simp [catL, lnB2, headB]⟩, by show r.hd.length - (i + 1) < r.hd.length - i; omega, by show (i : Int) + 1 = ((i + 1 : Nat) : Int); omega, rfl, rfl, fun _ _ => rfl⟩
        · rw [List.drop_eq_nil_of_le (by omega)] at i2 hl
          simp only [headsB, List.append_nil, List.length_nil, Nat.add_zero] at i2 hl
          have hi6 := itoa_len (n := r.bd.length) (by omega)
          have hdg : (digestL r.bd).length = 16 := hex16_len _
          have hq1 := catL_len o [108, 101, 110, 103, 116, 104] (Lib.itoa r.bd.length)
          have hq2 := catL_len (catL o [108, 101, 110, 103, 116, 104] (Lib.itoa r.bd.length)) [100, 105, 103, 101, 115, 116] (digestL r.bd)
          have cl1 : ([108, 101, 110, 103, 116, 104] : List UInt8).length = 6 := rfl
          have cl2 : ([100, 105, 103, 101, 115, 116] : List UInt8).length = 6 := rfl
          have eq : catL (catL o [108, 101, 110, 103, 116, 104] (Lib.itoa r.bd.length)) [100, 105, 103, 101, 115, 116] (digestL r.bd) ++ [13, 10] ++ r.bd ++ [13, 10, 13, 10] = B ++ recB r := by
            rw [i2]; simp [recB, recQ, catL]
          generalize catL (catL o [108, 101, 110, 103, 116, 104] (Lib.itoa r.bd.length)) [100, 105, 103, 101, 115, 116] (digestL r.bd) = Q at hq2 eq ⊢
          have app : ByI (Q.length + 2 + r.bd.length + 4) (appF (Q.length + 2 + r.bd.length) (appF (Q.length + 2) (appF Q.length (byF Q) (byF [13, 10])) (byF r.bd)) (byF [13, 10, 13, 10])) (B ++ recB r) := (ByI.app (ByI.app (ByI.app (ByI.by Q) (ByI.by [13, 10]) rfl) (ByI.by r.bd) rfl) (ByI.by [13, 10, 13, 10]) rfl).eq eq
          exact ⟨⟨by omega, by omega⟩, ⟨by omega, by omega⟩, by omega, ⟨by omega, by omega⟩, ⟨by omega, by omega⟩, ⟨by omega, by omega⟩, ⟨by omega, by omega⟩, app.1.trans List.length_append, app.1.trans List.length_append, app.2⟩
    · have hP := recP_noB B how
      refine ⟨⟨by omega, by omega⟩, ⟨by omega, by omega⟩, ⟨by simp only [catL_len, List.length_append, List.length_cons, List.length_nil]; omega, by omega⟩, ⟨by omega, by omega⟩, ⟨by simp only [catL_len, List.length_append, List.length_cons, List.length_nil]; omega, by omega⟩, ⟨by simp only [catL_len, List.length_append, List.length_cons, List.length_nil]; omega, by omega⟩, ?_⟩
      generalize catL (catL (catL (catL (B ++ [75, 69, 80, 84, 47, 49, 13, 10]) [105, 100] r.id) [107, 105, 110, 100] (kindW.getD (r.ki - 1).toNat [])) [100, 97, 116, 101] (dateTextL r.ti)) [107, 101, 121] r.ke = P at hP ⊢
      refine LoopW.adj ⟨hct, fol⟩ (by kernel_rfl) [] (fun t : Nat × List UInt8 => [(2, .ptr 2 0), (3, .ptr 3 0), (5, .fn (.func 63) [] [.ptr 2 0]), (46, .sl r.hd.length (lsF cHd r.hd)), (47, .int .i64 r.hd.length), (48, .int .i64 t.1)]) (fun t => [(2, .cells [.vec 9012 t.2.length]), (9012, .vec 1 t.2.length (byF t.2)), (3, .cells [.int .i64 r.ki, .str r.id, .str r.ow, .int .i64 r.ti, .str r.ke, .sl r.hd.length (lsF cHd r.hd), .sl r.bd.length (byF r.bd)])]) (fun t => t.1 ≤ r.hd.length ∧ t.2 ++ headsB (r.hd.drop t.1) = (B ++ recP r) ++ headsB r.hd) (fun t => r.hd.length - t.1) (0, P) ?_ fun t ht => ?_
      · push_cast (config := { maxSteps := 10000000 })
        exact ⟨Nat.zero_le _, congrArg (· ++ headsB r.hd) hP⟩
      · obtain ⟨i, o⟩ := t
        obtain ⟨i1, i2⟩ : i ≤ r.hd.length ∧ o ++ headsB (r.hd.drop i) = (B ++ recP r) ++ headsB r.hd := ht
        have hl := congrArg List.length i2
        simp only [List.length_append] at hl
        push_cast (config := { maxSteps := 10000000 })
        refine ⟨fun h => ?_, fun h => ?_⟩
        · have e := dropG (d := ⟨[], []⟩) h
          rw [e, headsB] at i2 hl
          have hx : (headB (r.hd.getD i ⟨[], []⟩)).length = (r.hd.getD i ⟨[], []⟩).name.length + 2 + (r.hd.getD i ⟨[], []⟩).value.length + 2 := by simp [headB]; omega
          simp only [List.length_append] at hl
          exact ⟨h, ⟨by omega, by omega, by omega⟩, ⟨by omega, by omega⟩, (i + 1, catL o (r.hd.getD i ⟨[], []⟩).name (r.hd.getD i ⟨[], []⟩).value), ⟨by show i + 1 ≤ r.hd.length; omega, by rw [← i2]; simp [catL, lnB2, headB]⟩, by show r.hd.length - (i + 1) < r.hd.length - i; omega, by show (i : Int) + 1 = ((i + 1 : Nat) : Int); omega, rfl, rfl, fun _ _ => rfl⟩
        · rw [List.drop_eq_nil_of_le (by omega)] at i2 hl
          simp only [headsB, List.append_nil, List.length_nil, Nat.add_zero] at i2 hl
          have hi6 := itoa_len (n := r.bd.length) (by omega)
          have hdg : (digestL r.bd).length = 16 := hex16_len _
          have hq1 := catL_len o [108, 101, 110, 103, 116, 104] (Lib.itoa r.bd.length)
          have hq2 := catL_len (catL o [108, 101, 110, 103, 116, 104] (Lib.itoa r.bd.length)) [100, 105, 103, 101, 115, 116] (digestL r.bd)
          have cl1 : ([108, 101, 110, 103, 116, 104] : List UInt8).length = 6 := rfl
          have cl2 : ([100, 105, 103, 101, 115, 116] : List UInt8).length = 6 := rfl
          have eq : catL (catL o [108, 101, 110, 103, 116, 104] (Lib.itoa r.bd.length)) [100, 105, 103, 101, 115, 116] (digestL r.bd) ++ [13, 10] ++ r.bd ++ [13, 10, 13, 10] = B ++ recB r := by
            rw [i2]; simp [recB, recQ, catL]
          generalize catL (catL o [108, 101, 110, 103, 116, 104] (Lib.itoa r.bd.length)) [100, 105, 103, 101, 115, 116] (digestL r.bd) = Q at hq2 eq ⊢
          have app : ByI (Q.length + 2 + r.bd.length + 4) (appF (Q.length + 2 + r.bd.length) (appF (Q.length + 2) (appF Q.length (byF Q) (byF [13, 10])) (byF r.bd)) (byF [13, 10, 13, 10])) (B ++ recB r) := (ByI.app (ByI.app (ByI.app (ByI.by Q) (ByI.by [13, 10]) rfl) (ByI.by r.bd) rfl) (ByI.by [13, 10, 13, 10]) rfl).eq eq
          exact ⟨⟨by omega, by omega⟩, ⟨by omega, by omega⟩, by omega, ⟨by omega, by omega⟩, ⟨by omega, by omega⟩, ⟨by omega, by omega⟩, ⟨by omega, by omega⟩, app.1.trans List.length_append, app.1.trans List.length_append, app.2⟩
  · cases h
attribute [push_cast] ckWriteVK
@[push_cast] theorem writeV_ids (n : Nat) (x : V) : ckWriteV.ids [.vec 12 n, x] = [12] := rfl
@[push_cast] theorem writeV_k (n k hn bn : Nat) (ki ti : Int) (id ow ke : List UInt8) (g hf bf : Nat → V) : ckWriteV.k [.vec 12 n, .agg [.int .i64 ki, .str id, .str ow, .int .i64 ti, .str ke, .sl hn hf, .sl bn bf]] [.vec 1 k g] = some (k = n ∧ isBy n g ∧ n ≤ 50000000 ∧ isLs cHd hn hf ∧ isBy bn bf ∧ recOk ⟨ki, id, ow, ti, ke, lsOf cHd hn hf, bytesOf bn bf⟩ ∧ checkRecL ⟨ki, id, ow, ti, ke, lsOf cHd hn hf, bytesOf bn bf⟩ = 0, .vec 12 (bytesOf n g ++ recB ⟨ki, id, ow, ti, ke, lsOf cHd hn hf, bytesOf bn bf⟩).length, [.vec 1 (bytesOf n g ++ recB ⟨ki, id, ow, ti, ke, lsOf cHd hn hf, bytesOf bn bf⟩).length (byF (bytesOf n g ++ recB ⟨ki, id, ow, ti, ke, lsOf cHd hn hf, bytesOf bn bf⟩))]) := rfl

def ckCheckFile : Ck
  | [.sl n f] => some (isLs cRec n f ∧ recsOk (lsOf cRec n f), .int .i64 (checkFileL (lsOf cRec n f)))
  | _ => none
theorem conCheckFile : Con pg 14 ckCheckFile := by
  have hct := (ctA_ok conCheckRec (ctA_ok conWrite (ctN_ok _)))
  intro args q r h hq
  unfold ckCheckFile at h
  split at h
  · cases h
    rename_i n f
    refine pcall_args (args' := [.sl (lsOf cRec n f).length (lsF cRec (lsOf cRec n f))]) ⟨isLs.vle hq.1, trivial⟩ ?_
    obtain ⟨-, hl⟩ := hq
    generalize lsOf cRec n f = l at hl ⊢
    refine w14 (fun _ => false) [] rfl hct rfl rfl ?_
    push_cast (config := { maxSteps := 10000000 })
    refine ⟨fun h => by unfold checkFileL; rw [if_pos (by omega)], fun h => ?_⟩
    have e0 : checkFileL l = cfGo [] 0 l := by unfold checkFileL; rw [if_neg (by omega)]
    rw [e0]
    refine LoopW.adj ⟨hct, fol⟩ (by kernel_rfl) [] (fun t : Nat × Int => [(3, .map 11), (4, .int .i64 t.2), (12, .sl l.length (lsF cRec l)), (13, .int .i64 l.length), (14, .int .i64 t.1)]) (fun t => [(11, .mp .str (seenM ((l.take t.1).map Rcd.id)))]) (fun t => t.1 ≤ l.length ∧ 0 ≤ t.2 ∧ t.2 ≤ t.1 * 400000 ∧ cfGo ((l.take t.1).map Rcd.id) t.2 (l.drop t.1) = cfGo [] 0 l) (fun t => l.length - t.1) (0, 0) ?_ fun t ht => ?_
    · push_cast (config := { maxSteps := 10000000 })
      exact ⟨Nat.zero_le _, seen_nil⟩
    · obtain ⟨i, m⟩ := t
      obtain ⟨h1, h2, h3, h4⟩ : i ≤ l.length ∧ 0 ≤ m ∧ m ≤ i * 400000 ∧ cfGo ((l.take i).map Rcd.id) m (l.drop i) = cfGo [] 0 l := ht
      push_cast (config := { maxSteps := 10000000 })
      refine ⟨fun hi => ?_, fun hi => ?_⟩
      · rw [dropG (d := noRec) hi, cfGo] at h4
        have ea := cf_app hi
        have ok := recsOk_at hl hi
        generalize l.getD i noRec = r at *
        refine ⟨hi, ok, fun g => ?_, fun g => ⟨fun g2 => ?_, fun g2 => ⟨⟨ok, g⟩, ?_⟩⟩⟩
        · rw [if_pos g] at h4; exact h4
        · rw [if_neg (fun x => x g), if_pos g2] at h4; exact h4
        · rw [if_neg (fun x => x g), if_neg (by rw [g2]; simp)] at h4
          have hb := recB_le g
          exact ⟨⟨by omega, by omega⟩, ⟨by omega, by omega⟩, ((i + 1, m + (recB r).length) : Nat × Int), ⟨by show i + 1 ≤ _; omega, by show 0 ≤ m + _; omega, by show m + _ ≤ ((i + 1 : Nat) : Int) * 400000; omega, by rw [ea]; exact h4⟩, by show l.length - (i + 1) < l.length - i; omega, ⟨rfl, by show (i : Int) + 1 = ((i + 1 : Nat) : Int); omega⟩, fun k => by rw [putM_seen, ← ea]⟩
      · rw [List.drop_eq_nil_of_le (by omega), cfGo] at h4
        exact ⟨fun g => by rw [if_pos g] at h4; exact h4, fun g => by rw [if_neg g] at h4; exact h4⟩
  · cases h
attribute [push_cast] ckCheckFile
def fileR (l : List Rcd) : List UInt8 := if checkFileL l = 0 then fileB l else []
def ckFileBytes : Ck
  | [.sl n f] => some (isLs cRec n f ∧ recsOk (lsOf cRec n f), .tup [.sl (fileR (lsOf cRec n f)).length (byF (fileR (lsOf cRec n f))), .int .i64 (checkFileL (lsOf cRec n f))])
  | _ => none
theorem conFileBytes : Con pg 12 ckFileBytes := by
  have hct := (ctA_ok conCheckFile (ctF_ok conWriteV (ctN_ok _)))
  intro args q r h hq
  unfold ckFileBytes at h
  split at h
  · cases h
    rename_i n f
    refine pcall_args (args' := [.sl (lsOf cRec n f).length (lsF cRec (lsOf cRec n f))]) ⟨isLs.vle hq.1, trivial⟩ ?_
    obtain ⟨-, hl⟩ := hq
    generalize lsOf cRec n f = l at hl ⊢
    refine w12 (fun _ => false) [.frz 12] rfl hct rfl rfl ?_
    push_cast (config := { maxSteps := 10000000 })
    refine ⟨hl, fun h => by unfold fileR; rw [if_neg h]; rfl, fun h => ?_⟩
    have e0 : fileR l = fileB l := by unfold fileR; rw [if_pos h]
    rw [e0]
    obtain ⟨c1, c2, c3⟩ := file_ok h
    refine LoopW.adj ⟨hct, fol⟩ (by kernel_rfl) [.nv 5 12 1 (byF [])] (fun t : Nat × List UInt8 => [(5, .vec 12 t.2.length), (13, .sl l.length (lsF cRec l)), (14, .int .i64 l.length), (15, .int .i64 t.1)]) (fun t => [(12, .vec 1 t.2.length (byF t.2))]) (fun t => t.1 ≤ l.length ∧ t.2 ++ fileB (l.drop t.1) = fileB l) (fun t => l.length - t.1) (0, []) ?_ fun t ht => ?_
    · push_cast (config := { maxSteps := 10000000 })
      exact Nat.zero_le _
    · obtain ⟨i, o⟩ := t
      obtain ⟨h1, h2⟩ : i ≤ l.length ∧ o ++ fileB (l.drop i) = fileB l := ht
      have hlen := congrArg List.length h2
      simp only [List.length_append] at hlen
      push_cast (config := { maxSteps := 10000000 })
      refine ⟨fun hi => ?_, fun hi => ?_⟩
      · rw [dropG (d := noRec) hi, fileB] at h2
        have ok := recsOk_at hl hi
        have cr : checkRecL (l.getD i noRec) = 0 := by
          refine c1 _ ?_
          rw [List.getD_eq_getElem?_getD, List.getElem?_eq_getElem hi]; exact List.getElem_mem hi
        generalize l.getD i noRec = r at *
        exact ⟨hi, ⟨by omega, ok, cr⟩, ⟨by omega, by omega⟩, ((i + 1, o ++ recB r) : Nat × List UInt8), ⟨by show i + 1 ≤ _; omega, by show o ++ recB r ++ _ = _; rw [List.append_assoc]; exact h2⟩, by show l.length - (i + 1) < l.length - i; omega, ⟨by simp, by show (i : Int) + 1 = ((i + 1 : Nat) : Int); omega⟩, by simp, fun _ _ => rfl⟩
      · rw [List.drop_eq_nil_of_le (by omega), fileB, List.append_nil] at h2
        subst h2
        exact ⟨⟨rfl, fun _ _ => rfl⟩, h.symm⟩
  · cases h
attribute [push_cast] ckFileBytes

end Go.Abs
