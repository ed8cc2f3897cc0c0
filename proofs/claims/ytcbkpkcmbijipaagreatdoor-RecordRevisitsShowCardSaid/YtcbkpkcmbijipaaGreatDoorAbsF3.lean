/- what functions of this program compute: contracts, each a function's own -/
import Derived.Test.YtcbkpkcmbijipaaGreatDoorAbsK3
import Derived.Test.YtcbkpkcmbijipaaGreatDoorAbsFacts
import Derived.Test.YtcbkpkcmbijipaaGreatDoorAbsF2
import Derived.Test.YtcbkpkcmbijipaaGreatDoorAbsShelf
import Derived.Lib.SlTrimSet
import Derived.Lib.Atoi
import Derived.Lib.Itoa
import Derived.Lib.ItoaNum
import Derived.Lib.AtoiErrMem
import Derived.Lib.Repeat
import Derived.Lib.ItoaLen
import Derived.Lib.Fold
namespace Go.Abs
open Go Go.Proofs
set_option maxHeartbeats 4000000
set_option maxRecDepth 100000
set_option linter.unusedVariables false
set_option linter.unusedSimpArgs false
def ckMixed : Ck
  | [.sl n f] => some (isBy n f ∧ n ≤ 4611686018427387900, .int .u64 (mixL (bytesOf n f)))
  | _ => none
theorem conMixed : Con pg 71 ckMixed := by
  have hct := ctN_ok pg
  intro args q r h hq
  unfold ckMixed at h
  split at h
  · cases h
    rename_i n f
    refine pcall_args (args' := [.sl (bytesOf n f).length (byF (bytesOf n f))]) ⟨isBy.vle hq.1, trivial⟩ ?_
    have h1 : (bytesOf n f).length ≤ 4611686018427387900 := by rw [bytesOf_len]; exact hq.2
    generalize bytesOf n f = b at h1 ⊢
    refine w71 (fun _ => false) [] rfl hct rfl rfl ?_
    push_cast (config := { maxSteps := 10000000 })
    have hstep : ∀ i, i < b.length → bitsI BinOp.xor IntKind.u64 (mixL (b.take i)) (((b.getD i 0).toNat : Int) % 18446744073709551616) * 1099511628211 % 18446744073709551616 = mixL (b.take (i + 1)) := fun i hi => by
      rw [takeG (d := 0) hi, mixL_snoc]; rfl
    refine LoopW.adj ⟨hct, fol⟩ (by kernel_rfl) [] (fun i : Nat => [(0, .sl b.length (byF b)), (3, .int .u64 (mixL (b.take i))), (6, .int .i64 b.length), (7, .int .i64 i)]) (fun _ => []) (fun i => i ≤ b.length) (fun i => b.length - i) 0 ?_ fun i hi => ?_
    · push_cast (config := { maxSteps := 10000000 })
      exact ⟨Nat.zero_le _, rfl⟩
    · push_cast (config := { maxSteps := 10000000 })
      exact ⟨fun h => ⟨h, ⟨by omega, by omega⟩, i + 1, by omega, by omega, hstep i h, by omega⟩, fun h => by rw [List.take_of_length_le (by omega)]⟩
  · cases h
attribute [push_cast] ckMixed
def hxF (n : Int) (i : Nat) : Nat → V := fun j => bif decide (16 ≤ j + i) then .int .u8 (hexD (n / 16 ^ (15 - j))).toNat else .int .u8 0
theorem div16 {n : Int} (h0 : 0 ≤ n) (h1 : n < 18446744073709551616) (i : Nat) : 0 ≤ n / 16 ^ i ∧ n / 16 ^ i < 18446744073709551616 := by
  have hp : (0 : Int) < 16 ^ i := Int.pow_pos (by omega)
  refine ⟨Int.ediv_nonneg h0 (by omega), ?_⟩
  have := Int.ediv_le_self (16 ^ i) h0
  omega
theorem div16s (n : Int) (i : Nat) : n / 16 ^ i / 16 = n / 16 ^ (i + 1) := by
  have hp : (0 : Int) < 16 ^ i := Int.pow_pos (by omega)
  rw [Int.pow_succ, Int.ediv_ediv_of_nonneg (by omega)]
theorem hx_set {n : Int} {i : Nat} (hi : i < 16) (j : Nat) : setF (hxF n i) (15 - i) (.int .u8 (hexD (n / 16 ^ i)).toNat) j = hxF n (i + 1) j := by
  unfold setF hxF
  by_cases e : j = 15 - i
  · rw [decide_eq_true e, cond_true, decide_eq_true (show 16 ≤ j + (i + 1) by omega), cond_true, show 15 - j = i by omega]
  · rw [decide_eq_false e, cond_false]
    by_cases h : 16 ≤ j + i
    · rw [decide_eq_true h, decide_eq_true (show 16 ≤ j + (i + 1) by omega)]
    · rw [decide_eq_false h, decide_eq_false (show ¬ 16 ≤ j + (i + 1) by omega)]
theorem hx_end {n : Int} {i : Nat} (hi : i = 16) : (∀ j, j < 16 → ∃ m, hxF n i j = .int .u8 m) ∧ bytesOf 16 (hxF n i) = hex16 n := by
  subst hi
  have e : ∀ j, hxF n 16 j = .int .u8 (hexD (n / 16 ^ (15 - j))).toNat := fun j => by unfold hxF; rw [decide_eq_true (by omega)]; rfl
  refine ⟨fun j _ => ⟨_, e j⟩, ?_⟩
  unfold bytesOf hex16
  refine List.map_congr_left fun j _ => ?_
  rw [e]
  simp [V.toByte, hexD]
def ckHex : Ck
  | [.int .u64 n] => some (0 ≤ n ∧ n < 18446744073709551616, .str (hex16 n))
  | _ => none
theorem conHex : Con pg 70 ckHex := by
  have hct := ctN_ok pg
  intro args q r h hq
  unfold ckHex at h
  split at h
  · cases h
    rename_i n
    refine w70 (fun _ => false) [] rfl hct rfl rfl ?_
    push_cast (config := { maxSteps := 10000000 })
    refine LoopW.adj ⟨hct, fol⟩ (by kernel_rfl) [] (fun i : Nat => [(0, .int .u64 (n / 16 ^ i)), (3, .vec 5 16), (7, .int .i64 16), (8, .int .i64 i)]) (fun i => [(5, .vec 1 16 (hxF n i))]) (fun i => i ≤ 16) (fun i => 16 - i) 0 ?_ fun i hi => ?_
    · push_cast (config := { maxSteps := 10000000 })
      exact ⟨(Int.ediv_one n).symm, fun i hi => by unfold hxF; rw [decide_eq_false (by omega)]; rfl⟩
    · push_cast (config := { maxSteps := 10000000 })
      refine ⟨fun h => ?_, fun h => hx_end (by omega)⟩
      have hd := div16 hq.1 hq.2 i
      rw [andF _ hd.1 hd.2, shrF _ hd.1, div16s]
      have hj : (15 - (i : Int)).toNat = 15 - i := by omega
      have hz : hxF n i (15 - i) = .int .u8 0 := by unfold hxF; rw [decide_eq_false (by omega)]; rfl
      rw [hj, hz]
      exact ⟨⟨by omega, by omega⟩, ⟨by omega, by omega⟩, ⟨by omega, by omega⟩, by omega, ⟨by omega, by omega⟩, i + 1, by omega, by omega, ⟨rfl, by omega⟩, fun j _ => hx_set (by omega) j⟩
  · cases h
attribute [push_cast] ckHex
def ckDigest : Ck
  | [.sl n f] => some (isBy n f ∧ n ≤ 4611686018427387900, .str (digestL (bytesOf n f)))
  | _ => none
theorem conDigest : Con pg 47 ckDigest := by
  have hct := (ctA_ok conMixed (ctA_ok conHex (ctN_ok _)))
  intro args q r h hq
  unfold ckDigest at h
  split at h
  · cases h
    rename_i n f
    refine w47 (fun _ => false) [] rfl hct rfl rfl ?_
    push_cast (config := { maxSteps := 10000000 })
    exact ⟨hq, mix_b _, rfl⟩
  · cases h
attribute [push_cast] ckDigest
theorem conDigest2 : Con pg 80 ckDigest := by
  have hct := ctN_ok pg
  intro args q r h hq
  unfold ckDigest at h
  split at h
  · cases h
    rename_i n f
    refine pcall_args (args' := [.sl (bytesOf n f).length (byF (bytesOf n f))]) ⟨isBy.vle hq.1, trivial⟩ ?_
    have h1 : (bytesOf n f).length ≤ 4611686018427387900 := by rw [bytesOf_len]; exact hq.2
    generalize bytesOf n f = b at h1 ⊢
    refine w80 (fun _ => false) [] rfl hct rfl rfl ?_
    push_cast (config := { maxSteps := 10000000 })
    have hstep : ∀ i, i < b.length → bitsI BinOp.xor IntKind.u64 (mixL (b.take i)) (((b.getD i 0).toNat : Int) % 18446744073709551616) * 1099511628211 % 18446744073709551616 = mixL (b.take (i + 1)) := fun i hi => by
      rw [takeG (d := 0) hi, mixL_snoc]; rfl
    refine LoopW.adj ⟨hct, fol⟩ (by kernel_rfl) [] (fun i : Nat => [(0, .sl b.length (byF b)), (3, .int .u64 (mixL (b.take i))), (4, .int .i64 i)]) (fun _ => []) (fun i => i ≤ b.length) (fun i => b.length - i) 0 ?_ fun i hi => ?_
    · push_cast (config := { maxSteps := 10000000 })
      exact ⟨Nat.zero_le _, rfl⟩
    · push_cast (config := { maxSteps := 10000000 })
      refine ⟨fun h => ?_, fun h => ?_⟩
      · exact ⟨h, ⟨by omega, by omega⟩, i + 1, by omega, by omega, hstep i h, by omega⟩
      obtain rfl : i = b.length := by omega
      rw [List.take_length]
      have hm := mix_b b
      unfold digestL
      generalize mixL b = m at hm ⊢
      refine LoopW.adj ⟨hct, fol⟩ (by kernel_rfl) [] (fun t : Nat => [(3, .int .u64 m), (5, .str ((hex16 m).take t)), (6, .int .i64 (60 - 4 * t))]) (fun _ => []) (fun t => t ≤ 16) (fun t => 16 - t) 0 ?_ fun t ht => ?_
      · push_cast (config := { maxSteps := 10000000 })
      · push_cast (config := { maxSteps := 10000000 })
        refine ⟨fun h => ?_, fun h => by rw [List.take_of_length_le (by rw [hex16_len]; omega)]⟩
        have hd := div16 hm.1 hm.2 (15 - t)
        have hs : m.fdiv (2 ^ min (60 - 4 * (t : Int)).toNat IntKind.u64.bits) = m / 16 ^ (15 - t) := by
          rw [show min (60 - 4 * (t : Int)).toNat IntKind.u64.bits = 4 * (15 - t) by show min _ 64 = _; omega, Int.pow_mul, show ((2 : Int) ^ 4) = 16 from rfl, Int.fdiv_eq_ediv_of_nonneg _ (Int.le_of_lt (Int.pow_pos (by omega)))]
        rw [hs, hex16_len]
        have hg : (hex16 m).getD t 0 = hexD (m / 16 ^ (15 - t)) := by
          unfold hex16 hexD
          rw [List.getD_eq_getElem?_getD, List.getElem?_map, List.getElem?_range (by omega)]; rfl
        have ht' := takeG (d := 0) (s := hex16 m) (k := t) (by rw [hex16_len]; omega)
        rw [hg] at ht'
        generalize m / 16 ^ (15 - t) = D at hd ht' ⊢
        have e1 : (D % 16 + 1) % 18446744073709551616 = D % 16 + 1 := by omega
        rw [e1]
        have e2 : (D % 16 + 1).toNat - (D % 16).toNat = 1 := by omega
        rw [e2]
        have e3 : List.take 1 (List.drop (D % 16).toNat [48, 49, 50, 51, 52, 53, 54, 55, 56, 57, 97, 98, 99, 100, 101, 102]) = [hexD D] := by
          have hk : (D % 16).toNat < hexT.length := by show _ < 16; omega
          rw [show ([48, 49, 50, 51, 52, 53, 54, 55, 56, 57, 97, 98, 99, 100, 101, 102] : List UInt8) = hexT from rfl, dropG (d := 0) hk]
          rfl
        rw [e3]
        exact ⟨h, hd.1, ⟨⟨by omega, by omega⟩, ⟨by omega, by omega⟩, by omega⟩, by omega, ⟨by omega, by omega⟩, t + 1, by omega, by omega, ht'.symm, by omega⟩
  · cases h

/- the closure of record.write: a line behind the bytes; the bytes' cell is block 2, the row of bytes block 12 -/
def catL (L a v : List UInt8) : List UInt8 := L ++ lnB2 a v
theorem catL_len (L a v : List UInt8) : (catL L a v).length = L.length + a.length + v.length + 4 := by simp [catL, lnB2]; omega
def ckLineK : List V → List Blk → Option (Prop × V × List Blk)
  | [.str a, .str v, .ptr 2 0], [.cells [.vec 12 n], .vec 1 k g] => some (k = n ∧ isBy n g ∧ n ≤ 100000000 ∧ a.length ≤ 100000000 ∧ v.length ≤ 100000000, .tup [], [.cells [.vec 12 (catL (bytesOf n g) a v).length], .vec 1 (catL (bytesOf n g) a v).length (byF (catL (bytesOf n g) a v))])
  | _, _ => none
def ckLine6 : Cf := ⟨fun | [_, _, .ptr 2 _] => [2, 12] | _ => [], ckLineK⟩
theorem conLine6 : FCon pg 53 ckLine6 := by
  have hct := ctN_ok pg
  intro args bs q r bs' h hq
  replace h : ckLineK args bs = some (q, r, bs') := h
  unfold ckLineK at h
  split at h
  · cases h
    rename_i a v n k g
    refine ⟨rfl, Nat.le_refl _, ?_⟩
    obtain ⟨rfl, hg, hk, ha, hv⟩ := hq
    show FCall pg 53 [.str a, .str v, .ptr 9002 0] [(9002, .cells [.vec 9012 k]), (9012, .vec 1 k fun i => V.shift (g i))] (.tup []) [(9002, .cells [.vec 9012 (catL (bytesOf k g) a v).length]), (9012, .vec 1 (catL (bytesOf k g) a v).length (byF (catL (bytesOf k g) a v)))]
    refine fcall_blk (hm := [(9002, .cells [.vec 9012 k]), (9012, .vec 1 k (byF (bytesOf k g)))]) ⟨rfl, ⟨⟨rfl, rfl⟩, trivial⟩, rfl, ⟨rfl, rfl, fun j hj => by show V.shift (g j) = _; rw [hg.2 j hj]; rfl⟩, trivial⟩ ?_
    have hl := bytesOf_len k g
    generalize bytesOf k g = b at hl ⊢
    subst hl
    refine fw53 (fun _ => false) [] rfl hct rfl (by simp) (by simp [hlIn, idsIn, Blk.menIn, V.menInL, V.menIn, V.flat, byF, lsF]) (by simp [V.menIn, V.menInL, idsIn]) ?_
    push_cast (config := { maxSteps := 10000000 })
    have hll : (lnB2 a v).length = a.length + 2 + v.length + 2 := by simp [lnB2]; omega
    have hcl := catL_len b a v
    have app := ByI.app (ByI.by b) (ByI.by (lnB2 a v)) rfl
    rw [hll] at app
    exact ⟨by omega, by omega, by omega, ⟨by omega, by omega⟩, by omega, by omega, app.2⟩
  · cases h
@[push_cast] theorem line6_ids (x y : V) (o : Nat) : ckLine6.ids [x, y, .ptr 2 o] = [2, 12] := rfl
@[push_cast] theorem line6_k (a v : List UInt8) (n k : Nat) (g : Nat → V) : ckLine6.k [.str a, .str v, .ptr 2 0] [.cells [.vec 12 n], .vec 1 k g] = some (k = n ∧ isBy n g ∧ n ≤ 100000000 ∧ a.length ≤ 100000000 ∧ v.length ≤ 100000000, .tup [], [.cells [.vec 12 (catL (bytesOf n g) a v).length], .vec 1 (catL (bytesOf n g) a v).length (byF (catL (bytesOf n g) a v))]) := rfl
@[push_cast] theorem vle_fn6 (f : Fn) (a b : List V) : vle (.fn f a b) (.fn f a b) = True := eq_true rfl
@[push_cast] theorem kept_by : bytesOf 8 (byF [75, 69, 80, 84, 47, 49, 13, 10]) = [75, 69, 80, 84, 47, 49, 13, 10] := rfl
@[push_cast] theorem kept_is : isBy 8 (byF [75, 69, 80, 84, 47, 49, 13, 10]) = True := eq_true (isBy_by [75, 69, 80, 84, 47, 49, 13, 10])
theorem date_le {n : Int} (h0 : 0 ≤ n) (h1 : n ≤ 253402300799) : (dateTextL n).length ≤ 6000 := by
  have h0 : 0 ≤ n / 86400 ∧ n / 86400 ≤ 2932896 := by omega
  have b := date_b h0.1 h0.2
  have l1 := wdN_b ((n / 86400 + 3) % 7).toNat
  have l2 := mnN_b (monthI (n / 86400) - 1).toNat
  have l3 := paddedL_len (n := n / 86400 - daysI (yearI (n / 86400)) (monthI (n / 86400)) + 1) (k := 2) (by omega) (by omega) (by omega) (by omega)
  have l4 := paddedL_len (n := yearI (n / 86400)) (k := 4) (by omega) (by omega) (by omega) (by omega)
  have l5 := paddedL_len (n := n % 86400 / 3600) (k := 2) (by omega) (by omega) (by omega) (by omega)
  have l6 := paddedL_len (n := n % 86400 / 60 % 60) (k := 2) (by omega) (by omega) (by omega) (by omega)
  have l7 := paddedL_len (n := n % 86400 % 60) (k := 2) (by omega) (by omega) (by omega) (by omega)
  unfold dateTextL
  simp only [List.length_append, List.length_cons, List.length_nil]
  omega
theorem kindW_le (k : Nat) : (kindW.getD k []).length ≤ 7 := by
  match k with
  | 0 | 1 | 2 | 3 | 4 => decide
  | k + 5 => simp [kindW]
theorem name_le {s : List UInt8} (h : nameL s = true) : s.length ≤ 40 := by
  simp only [nameL, Bool.and_eq_true, decide_eq_true_eq] at h; exact h.1.1.2
theorem target_le {s : List UInt8} (h : targetL s = true) : s.length ≤ 2000 := by
  simp only [targetL, Bool.and_eq_true, decide_eq_true_eq] at h; exact h.1.2
theorem rec_sz {r : Rcd} (h : checkRecL r = 0) : r.id.length ≤ 40 ∧ r.ow.length ≤ 40 ∧ r.ke.length ≤ 2000 ∧ (dateTextL r.ti).length ≤ 6000 ∧ (headsB r.hd).length ≤ 104400 ∧ r.bd.length ≤ 200000 ∧ r.hd.length ≤ 30 := by
  obtain ⟨h1, h2, h3, h4, h5, h6, h7, h8, h9, h10⟩ := rec_ok h
  refine ⟨name_le h3, ?_, target_le h7, date_le h5 h6, heads_le h9, h10, h8⟩
  rcases h4 with h4 | h4
  · rw [h4]; simp
  · exact name_le h4
theorem recP_ow {r : Rcd} (h : ¬ r.ow = []) : catL (catL (catL (catL (catL [75, 69, 80, 84, 47, 49, 13, 10] [105, 100] r.id) [111, 102] r.ow) [107, 105, 110, 100] (kindW.getD (r.ki - 1).toNat [])) [100, 97, 116, 101] (dateTextL r.ti)) [107, 101, 121] r.ke = recP r := by
  unfold recP; rw [if_neg h]; rfl
theorem recP_no {r : Rcd} (h : r.ow = []) : catL (catL (catL (catL [75, 69, 80, 84, 47, 49, 13, 10] [105, 100] r.id) [107, 105, 110, 100] (kindW.getD (r.ki - 1).toNat [])) [100, 97, 116, 101] (dateTextL r.ti)) [107, 101, 121] r.ke = recP r := by
  unfold recP; rw [if_pos h, List.append_nil]; rfl
theorem recP_le {r : Rcd} (h : checkRecL r = 0) : (recP r).length ≤ 10000 := by
  obtain ⟨z1, z2, z3, z4, z5, z6, z7⟩ := rec_sz h
  have zk := kindW_le (r.ki - 1).toNat
  by_cases e : r.ow = []
  · rw [← recP_no e]; simp only [catL_len, List.length_cons, List.length_nil]; omega
  · rw [← recP_ow e]; simp only [catL_len, List.length_cons, List.length_nil]; omega
def ckWrite : Ck
  | [.nilsl, x] => some (isC cRec x ∧ recOk (cRec.dec x) ∧ checkRecL (cRec.dec x) = 0, .sl (recB (cRec.dec x)).length (byF (recB (cRec.dec x))))
  | _ => none
theorem conWrite : Con pg 26 ckWrite := by
  have hct := (ctF_ok conLine6 (ctA_ok conKinds (ctA_ok conDateText (ctA_ok conItoa (ctA_ok conDigest (ctN_ok _))))))
  intro args q r h hq
  unfold ckWrite at h
  split at h
  · cases h
    rename_i x
    refine pcall_args (args' := [.nilsl, cRec.enc (cRec.dec x)]) ⟨VLe.refl _, hq.1, trivial⟩ ?_
    obtain ⟨-, ha, hc⟩ := hq
    generalize cRec.dec x = r at ha hc ⊢
    refine w26 (fun d => decide (d = 10006)) [.frz 12] rfl hct rfl rfl ?_
    push_cast (config := { maxSteps := 10000000 })
    obtain ⟨z1, z2, z3, z4, z5, z6, z7⟩ := rec_sz hc
    obtain ⟨y1, y2, y3, y4, y5, y6, y7, y8, y9, y10⟩ := rec_ok hc
    have zk := kindW_le (r.ki - 1).toNat
    have zp := recP_le hc
    have c8 : ([75, 69, 80, 84, 47, 49, 13, 10] : List UInt8).length = 8 := rfl
    have c2 : ([105, 100] : List UInt8).length = 2 := rfl
    rw [if_pos ⟨y5, y6⟩]
    refine ⟨by omega, fun how => ?_, fun how => ?_⟩
    · have hP := recP_ow how
      refine ⟨⟨by simp only [catL_len, List.length_cons, List.length_nil]; omega, by omega⟩, ⟨by omega, by omega⟩, ⟨by omega, by omega⟩, ⟨by simp only [catL_len, List.length_cons, List.length_nil]; omega, by omega⟩, ⟨by omega, by omega⟩, ⟨by simp only [catL_len, List.length_cons, List.length_nil]; omega, by omega⟩, ⟨by simp only [catL_len, List.length_cons, List.length_nil]; omega, by omega⟩, ?_⟩
      generalize catL (catL (catL (catL (catL [75, 69, 80, 84, 47, 49, 13, 10] [105, 100] r.id) [111, 102] r.ow) [107, 105, 110, 100] (kindW.getD (r.ki - 1).toNat [])) [100, 97, 116, 101] (dateTextL r.ti)) [107, 101, 121] r.ke = P at hP ⊢
      refine LoopW.adj ⟨hct, fol⟩ (by kernel_rfl) [] (fun t : Nat × List UInt8 => [(2, .ptr 2 0), (3, .ptr 3 0), (5, .fn (.func 53) [] [.ptr 2 0]), (46, .sl r.hd.length (lsF cHd r.hd)), (47, .int .i64 r.hd.length), (48, .int .i64 t.1)]) (fun t => [(2, .cells [.vec 12 t.2.length]), (12, .vec 1 t.2.length (byF t.2)), (3, .cells [.int .i64 r.ki, .str r.id, .str r.ow, .int .i64 r.ti, .str r.ke, .sl r.hd.length (lsF cHd r.hd), .sl r.bd.length (byF r.bd)])]) (fun t => t.1 ≤ r.hd.length ∧ t.2 ++ headsB (r.hd.drop t.1) = recP r ++ headsB r.hd) (fun t => r.hd.length - t.1) (0, P) ?_ fun t ht => ?_
      · push_cast (config := { maxSteps := 10000000 })
        exact ⟨Nat.zero_le _, congrArg (· ++ headsB r.hd) hP⟩
      · obtain ⟨i, o⟩ := t
        obtain ⟨i1, i2⟩ : i ≤ r.hd.length ∧ o ++ headsB (r.hd.drop i) = recP r ++ headsB r.hd := ht
        have hl := congrArg List.length i2
        simp only [List.length_append] at hl
        push_cast (config := { maxSteps := 10000000 })
        refine ⟨fun h => ?_, fun h => ?_⟩
        · have e := dropG (d := ⟨[], []⟩) h
          rw [e, headsB] at i2 hl
          have hx : (headB (r.hd.getD i ⟨[], []⟩)).length = (r.hd.getD i ⟨[], []⟩).name.length + 2 + (r.hd.getD i ⟨[], []⟩).value.length + 2 := by simp [headB]; omega
          simp only [List.length_append] at hl
          exact ⟨h, ⟨by omega, by omega, by omega⟩, ⟨by omega, by omega⟩, (i + 1, catL o (r.hd.getD i ⟨[], []⟩).name (r.hd.getD i ⟨[], []⟩).value), ⟨by show i + 1 ≤ r.hd.length; omega, by rw [← i2]; simp [catL, lnB2, headB]⟩, by show r.hd.length - (i + 1) < r.hd.length - i; omega, by show (i : Int) + 1 = ((i + 1 : Nat) : Int); omega, rfl, rfl, fun _ _ => rfl⟩
        · rw [List.drop_eq_nil_of_le (by omega)] at i2 hl
          simp only [headsB, List.append_nil, List.length_nil, Nat.add_zero] at i2 hl
          have hi6 := itoa_len (n := r.bd.length) (by omega)
          have hdg : (digestL r.bd).length = 16 := hex16_len _
          have hq1 := catL_len o [108, 101, 110, 103, 116, 104] (Lib.itoa r.bd.length)
          have hq2 := catL_len (catL o [108, 101, 110, 103, 116, 104] (Lib.itoa r.bd.length)) [100, 105, 103, 101, 115, 116] (digestL r.bd)
          have cl1 : ([108, 101, 110, 103, 116, 104] : List UInt8).length = 6 := rfl
          have cl2 : ([100, 105, 103, 101, 115, 116] : List UInt8).length = 6 := rfl
          have eq : catL (catL o [108, 101, 110, 103, 116, 104] (Lib.itoa r.bd.length)) [100, 105, 103, 101, 115, 116] (digestL r.bd) ++ [13, 10] ++ r.bd ++ [13, 10, 13, 10] = recB r := by
            rw [i2]; simp [recB, recQ, catL]
          generalize catL (catL o [108, 101, 110, 103, 116, 104] (Lib.itoa r.bd.length)) [100, 105, 103, 101, 115, 116] (digestL r.bd) = Q at hq2 eq ⊢
          have app : ByI (Q.length + 2 + r.bd.length + 4) (appF (Q.length + 2 + r.bd.length) (appF (Q.length + 2) (appF Q.length (byF Q) (byF [13, 10])) (byF r.bd)) (byF [13, 10, 13, 10])) (recB r) := (ByI.app (ByI.app (ByI.app (ByI.by Q) (ByI.by [13, 10]) rfl) (ByI.by r.bd) rfl) (ByI.by [13, 10, 13, 10]) rfl).eq eq
          exact ⟨⟨by omega, by omega⟩, ⟨by omega, by omega⟩, by omega, ⟨by omega, by omega⟩, ⟨by omega, by omega⟩, ⟨by omega, by omega⟩, ⟨by omega, by omega⟩, app.pure, app.1, app.2⟩
    · have hP := recP_no how
      refine ⟨⟨by omega, by omega⟩, ⟨by omega, by omega⟩, ⟨by simp only [catL_len, List.length_cons, List.length_nil]; omega, by omega⟩, ⟨by omega, by omega⟩, ⟨by simp only [catL_len, List.length_cons, List.length_nil]; omega, by omega⟩, ⟨by simp only [catL_len, List.length_cons, List.length_nil]; omega, by omega⟩, ?_⟩
      generalize catL (catL (catL (catL [75, 69, 80, 84, 47, 49, 13, 10] [105, 100] r.id) [107, 105, 110, 100] (kindW.getD (r.ki - 1).toNat [])) [100, 97, 116, 101] (dateTextL r.ti)) [107, 101, 121] r.ke = P at hP ⊢
      refine LoopW.adj ⟨hct, fol⟩ (by kernel_rfl) [] (fun t : Nat × List UInt8 => [(2, .ptr 2 0), (3, .ptr 3 0), (5, .fn (.func 53) [] [.ptr 2 0]), (46, .sl r.hd.length (lsF cHd r.hd)), (47, .int .i64 r.hd.length), (48, .int .i64 t.1)]) (fun t => [(2, .cells [.vec 12 t.2.length]), (12, .vec 1 t.2.length (byF t.2)), (3, .cells [.int .i64 r.ki, .str r.id, .str r.ow, .int .i64 r.ti, .str r.ke, .sl r.hd.length (lsF cHd r.hd), .sl r.bd.length (byF r.bd)])]) (fun t => t.1 ≤ r.hd.length ∧ t.2 ++ headsB (r.hd.drop t.1) = recP r ++ headsB r.hd) (fun t => r.hd.length - t.1) (0, P) ?_ fun t ht => ?_
      · push_cast (config := { maxSteps := 10000000 })
        exact ⟨Nat.zero_le _, congrArg (· ++ headsB r.hd) hP⟩
      · obtain ⟨i, o⟩ := t
        obtain ⟨i1, i2⟩ : i ≤ r.hd.length ∧ o ++ headsB (r.hd.drop i) = recP r ++ headsB r.hd := ht
        have hl := congrArg List.length i2
        simp only [List.length_append] at hl
        push_cast (config := { maxSteps := 10000000 })
        refine ⟨fun h => ?_, fun h => ?_⟩
        · have e := dropG (d := ⟨[], []⟩) h
          rw [e, headsB] at i2 hl
          have hx : (headB (r.hd.getD i ⟨[], []⟩)).length = (r.hd.getD i ⟨[], []⟩).name.length + 2 + (r.hd.getD i ⟨[], []⟩).value.length + 2 := by simp [headB]; omega
          simp only [List.length_append] at hl
          exact ⟨h, ⟨by omega, by omega, by omega⟩, ⟨by omega, by omega⟩, (i + 1, catL o (r.hd.getD i ⟨[], []⟩).name (r.hd.getD i ⟨[], []⟩).value), ⟨by show i + 1 ≤ r.hd.length; omega, by rw [← i2]; simp [catL, lnB2, headB]⟩, by show r.hd.length - (i + 1) < r.hd.length - i; omega, by show (i : Int) + 1 = ((i + 1 : Nat) : Int); omega, rfl, rfl, fun _ _ => rfl⟩
        · rw [List.drop_eq_nil_of_le (by omega)] at i2 hl
          simp only [headsB, List.append_nil, List.length_nil, Nat.add_zero] at i2 hl
          have hi6 := itoa_len (n := r.bd.length) (by omega)
          have hdg : (digestL r.bd).length = 16 := hex16_len _
          have hq1 := catL_len o [108, 101, 110, 103, 116, 104] (Lib.itoa r.bd.length)
          have hq2 := catL_len (catL o [108, 101, 110, 103, 116, 104] (Lib.itoa r.bd.length)) [100, 105, 103, 101, 115, 116] (digestL r.bd)
          have cl1 : ([108, 101, 110, 103, 116, 104] : List UInt8).length = 6 := rfl
          have cl2 : ([100, 105, 103, 101, 115, 116] : List UInt8).length = 6 := rfl
          have eq : catL (catL o [108, 101, 110, 103, 116, 104] (Lib.itoa r.bd.length)) [100, 105, 103, 101, 115, 116] (digestL r.bd) ++ [13, 10] ++ r.bd ++ [13, 10, 13, 10] = recB r := by
            rw [i2]; simp [recB, recQ, catL]
          generalize catL (catL o [108, 101, 110, 103, 116, 104] (Lib.itoa r.bd.length)) [100, 105, 103, 101, 115, 116] (digestL r.bd) = Q at hq2 eq ⊢
          have app : ByI (Q.length + 2 + r.bd.length + 4) (appF (Q.length + 2 + r.bd.length) (appF (Q.length + 2) (appF Q.length (byF Q) (byF [13, 10])) (byF r.bd)) (byF [13, 10, 13, 10])) (recB r) := (ByI.app (ByI.app (ByI.app (ByI.by Q) (ByI.by [13, 10]) rfl) (ByI.by r.bd) rfl) (ByI.by [13, 10, 13, 10]) rfl).eq eq
          exact ⟨⟨by omega, by omega⟩, ⟨by omega, by omega⟩, by omega, ⟨by omega, by omega⟩, ⟨by omega, by omega⟩, ⟨by omega, by omega⟩, ⟨by omega, by omega⟩, app.pure, app.1, app.2⟩
  · cases h
attribute [push_cast] ckWrite

@[push_cast] theorem vle_map (i : Nat) : vle (.map i) (.map i) = True := eq_true rfl
/- names that were seen, in a map -/
def seenM (s : List (List UInt8)) : MK → Option V
  | .str x => if s.contains x = true then some (.bool true) else none
  | _ => none
@[push_cast] theorem asB_seen (s : List (List UInt8)) (x : List UInt8) : asB false (seenM s (.str x)) = s.contains x := by
  simp only [seenM]
  by_cases h : s.contains x = true
  · rw [if_pos h]; exact h.symm
  · rw [if_neg h]; show false = _; simpa using h
@[push_cast] theorem okB_seen (s : List (List UInt8)) (k : MK) : okB (seenM s k) = True := by
  refine eq_true ?_
  unfold seenM
  split
  · split <;> exact trivial
  · exact trivial
theorem putM_seen (s : List (List UInt8)) (x : List UInt8) (l : MK) : putM (seenM s) (.str x) (.bool true) l = seenM (s ++ [x]) l := by
  unfold putM
  by_cases h : l = .str x
  · subst h
    rw [decide_eq_true rfl]
    simp only [cond_true, seenM]
    rw [if_pos (by simp)]
  · rw [decide_eq_false h]
    simp only [cond_false]
    cases l with
    | int k n => rfl
    | ss a b => rfl
    | str y =>
      have hy : y ≠ x := fun e => h (by rw [e])
      simp only [seenM]
      have : (s ++ [x]).contains y = s.contains y := by
        rw [Bool.eq_iff_iff]; simp [hy]
      rw [this]
theorem seen_nil : ∀ l, (none : Option V) = seenM [] l := fun l => by cases l <;> rfl
/-- the error of records -/
def cfGo : List (List UInt8) → Int → List Rcd → Int
  | _, m, [] => if 500000 < m then 2 else 0
  | s, m, r :: t => if ¬ checkRecL r = 0 then checkRecL r else if s.contains r.id = true then 7 else cfGo (s ++ [r.id]) (m + (recB r).length) t
def checkFileL (l : List Rcd) : Int := if 1000 < l.length then 2 else cfGo [] 0 l
def recsOk (l : List Rcd) : Prop := ∀ a ∈ l, recOk a
theorem recsOk_at {l : List Rcd} (h : recsOk l) {i : Nat} (hi : i < l.length) : recOk (l.getD i noRec) := by
  rw [List.getD_eq_getElem?_getD, List.getElem?_eq_getElem hi]; exact h _ (List.getElem_mem hi)
theorem recB_le {r : Rcd} (h : checkRecL r = 0) : (recB r).length ≤ 400000 := by
  obtain ⟨z1, z2, z3, z4, z5, z6, z7⟩ := rec_sz h
  have zp := recP_le h
  have hi6 := itoa_len (n := r.bd.length) (by omega)
  have hdg : (digestL r.bd).length = 16 := hex16_len _
  simp only [recB, recQ, lnB2, List.length_append, List.length_cons, List.length_nil]
  omega
/-- the bytes of records -/
def fileB : List Rcd → List UInt8
  | [] => []
  | r :: t => recB r ++ fileB t
theorem fileB_app (a b : List Rcd) : fileB (a ++ b) = fileB a ++ fileB b := by
  induction a with
  | nil => rfl
  | cons r t ih => simp only [List.cons_append, fileB, ih, List.append_assoc]
theorem cfGo_ok : ∀ {l : List Rcd} {s : List (List UInt8)} {m : Int}, cfGo s m l = 0 → (∀ r ∈ l, checkRecL r = 0) ∧ m + (fileB l).length ≤ 500000
  | [], s, m, h => by
    rw [cfGo] at h
    split at h
    · omega
    · exact ⟨fun r hr => (by cases hr), by simp only [fileB, List.length_nil]; omega⟩
  | r :: t, s, m, h => by
    rw [cfGo] at h
    by_cases h1 : checkRecL r = 0
    · rw [if_neg (fun x => x h1)] at h
      by_cases h2 : s.contains r.id = true
      · rw [if_pos h2] at h; omega
      · rw [if_neg h2] at h
        obtain ⟨a, b⟩ := cfGo_ok h
        refine ⟨fun x hx => ?_, by simp only [fileB, List.length_append]; omega⟩
        rcases List.mem_cons.1 hx with rfl | hx
        · exact h1
        · exact a x hx
    · rw [if_pos h1] at h; exact absurd h h1
theorem file_ok {l : List Rcd} (h : checkFileL l = 0) : (∀ r ∈ l, checkRecL r = 0) ∧ (fileB l).length ≤ 500000 ∧ l.length ≤ 1000 := by
  unfold checkFileL at h
  split at h
  · omega
  · obtain ⟨a, b⟩ := cfGo_ok h
    exact ⟨a, by omega, by omega⟩
@[push_cast] theorem lsF_rec (l : List Rcd) (i : Nat) : lsF cRec l i = .agg [.int .i64 (l.getD i noRec).ki, .str (l.getD i noRec).id, .str (l.getD i noRec).ow, .int .i64 (l.getD i noRec).ti, .str (l.getD i noRec).ke, .sl (l.getD i noRec).hd.length (lsF cHd (l.getD i noRec).hd), .sl (l.getD i noRec).bd.length (byF (l.getD i noRec).bd)] := rfl
theorem cf_app {l : List Rcd} {i : Nat} (h : i < l.length) : (l.take (i + 1)).map Rcd.id = (l.take i).map Rcd.id ++ [(l.getD i noRec).id] := by
  rw [takeG (d := noRec) h, List.map_append]; rfl

/- records that only point to an earlier one -/
def wPieces : List UInt8 := [112, 105, 101, 99, 101, 115]
def pieB (r : Rcd) : Bool := r.hd.any fun h => lowL h.name == wPieces
def ofB (l : List Rcd) (r : Rcd) : Bool := (l.map Rcd.ow).contains r.id
def candB (l : List Rcd) (r : Rcd) : Bool := decide (r.ki = 3) && decide (r.bd ≠ []) && decide (r.ow = []) && !ofB l r && !pieB r
def sameB (a b : Rcd) : Bool := a.ke == b.ke && a.bd == b.bd
def fstR (l p : List Rcd) (r : Rcd) : Option Rcd := p.find? fun x => candB l x && sameB x r
def revR (l p : List Rcd) (r : Rcd) : Rcd := if candB l r = true then (match fstR l p r with
  | some x => ⟨4, r.id, x.id, r.ti, r.ke, r.hd, []⟩
  | none => r) else r
def revF (l : List Rcd) (i : Nat) : Rcd := revR l (l.take i) (l.getD i noRec)
/-- the row when so many are done -/
def revU (l : List Rcd) (k : Nat) : List Rcd := (List.range k).map (revF l) ++ l.drop k
def revL (l : List Rcd) : List Rcd := (List.range l.length).map (revF l)
def firM (l p : List Rcd) : MK → Option V
  | .ss a b => (p.find? fun x => candB l x && (x.ke == a && x.bd == b)).map fun x => .str x.id
  | _ => none
theorem firM_at (l p : List Rcd) (r : Rcd) : firM l p (.ss r.ke r.bd) = (fstR l p r).map fun x => .str x.id := rfl
theorem firM_okS (l p : List Rcd) (k : MK) : okS (firM l p k) := by
  cases k with
  | ss a b =>
    simp only [firM]
    cases p.find? fun x => candB l x && (x.ke == a && x.bd == b) <;> trivial
  | str _ => trivial
  | int _ _ => trivial
theorem firM_no {l p : List Rcd} {r : Rcd} (h : candB l r = false) (k : MK) : firM l (p ++ [r]) k = firM l p k := by
  cases k with
  | ss a b =>
    simp only [firM]
    rw [List.find?_append]
    have : ([r].find? fun x => candB l x && (x.ke == a && x.bd == b)) = none := by simp [List.find?, h]
    rw [this, Option.or_none]
  | str _ => rfl
  | int _ _ => rfl
theorem firM_old {l p : List Rcd} {r x : Rcd} (h : fstR l p r = some x) (k : MK) : firM l (p ++ [r]) k = firM l p k := by
  cases k with
  | ss a b =>
    simp only [firM]
    rw [List.find?_append]
    by_cases e : r.ke = a ∧ r.bd = b
    · obtain ⟨rfl, rfl⟩ := e
      have : (p.find? fun x => candB l x && (x.ke == r.ke && x.bd == r.bd)) = some x := h
      rw [this]; rfl
    · have hk : (r.ke == a && r.bd == b) = false := by
        rw [Bool.and_eq_false_iff, beq_eq_false_iff_ne, beq_eq_false_iff_ne]
        by_cases e1 : r.ke = a
        · exact .inr fun e2 => e ⟨e1, e2⟩
        · exact .inl e1
      have : ([r].find? fun x => candB l x && (x.ke == a && x.bd == b)) = none := by simp only [List.find?, hk, Bool.and_false]
      rw [this, Option.or_none]
  | str _ => rfl
  | int _ _ => rfl
theorem firM_new {l p : List Rcd} {r : Rcd} (hc : candB l r = true) (h : fstR l p r = none) (k : MK) : putM (firM l p) (.ss r.ke r.bd) (.str r.id) k = firM l (p ++ [r]) k := by
  unfold putM
  by_cases e : k = .ss r.ke r.bd
  · subst e
    rw [decide_eq_true rfl, cond_true]
    simp only [firM]
    rw [List.find?_append]
    have h : (p.find? fun x => candB l x && (x.ke == r.ke && x.bd == r.bd)) = none := h
    rw [h]
    simp [List.find?, hc]
  · rw [decide_eq_false e, cond_false]
    cases k with
    | ss a b =>
      have hk : (r.ke == a && r.bd == b) = false := by
        rw [Bool.and_eq_false_iff, beq_eq_false_iff_ne, beq_eq_false_iff_ne]
        by_cases e1 : r.ke = a
        · exact .inr fun e2 => e (by rw [e1, e2])
        · exact .inl e1
      simp only [firM]
      rw [List.find?_append]
      have : ([r].find? fun x => candB l x && (x.ke == a && x.bd == b)) = none := by simp only [List.find?, hk, Bool.and_false]
      rw [this, Option.or_none]
    | str _ => rfl
    | int _ _ => rfl
theorem revU_len (l : List Rcd) {k : Nat} (h : k ≤ l.length) : (revU l k).length = l.length := by
  unfold revU; rw [List.length_append, List.length_map, List.length_range, List.length_drop]; omega
theorem revU_0 (l : List Rcd) : revU l 0 = l := by unfold revU; simp
theorem revU_end (l : List Rcd) : revU l l.length = revL l := by unfold revU revL; rw [List.drop_length, List.append_nil]
theorem revU_at (l : List Rcd) {k j : Nat} (h : k ≤ j) (hj : j < l.length) : (revU l k).getD j noRec = l.getD j noRec := by
  unfold revU
  rw [List.getD_eq_getElem?_getD, List.getElem?_append_right (by rw [List.length_map, List.length_range]; exact h), List.length_map, List.length_range, List.getElem?_drop, show k + (j - k) = j by omega, ← List.getD_eq_getElem?_getD]
theorem revU_s (l : List Rcd) {k : Nat} (h : k < l.length) : revU l (k + 1) = (revU l k).set k (revF l k) := by
  unfold revU
  rw [List.range_succ, List.map_append, List.map_singleton, List.set_append_right _ _ (by rw [List.length_map, List.length_range]; exact Nat.le_refl _), List.length_map, List.length_range, Nat.sub_self, List.append_assoc]
  congr 1
  rw [List.drop_eq_getElem_cons h, List.set_cons_zero]; rfl
theorem revL_at (l : List Rcd) {i : Nat} (h : i < l.length) : (revL l).getD i noRec = revF l i := by
  unfold revL
  rw [List.getD_eq_getElem?_getD, List.getElem?_map, List.getElem?_range h]; rfl
theorem revL_len (l : List Rcd) : (revL l).length = l.length := by unfold revL; rw [List.length_map, List.length_range]
theorem getD_memH {α : Type} {l : List α} {d : α} {i : Nat} (h : i < l.length) : l.getD i d ∈ l := by
  rw [List.getD_eq_getElem?_getD, List.getElem?_eq_getElem h]; exact List.getElem_mem h

/- the answers with a key -/
def selB (K : List UInt8) (l : List Rcd) (i : Nat) : Bool := decide ((l.getD i noRec).ki = 3) && decide ((l.getD i noRec).ke = K)
def selN (K : List UInt8) (l : List Rcd) (n : Nat) : List Nat := (List.range n).filter (selB K l)
def blkN (K : List UInt8) (l : List Rcd) (n : Nat) : List (List UInt8) := (selN K l n).map fun i => (l.getD i noRec).bd
def fstI (B : List (List UInt8)) (k : Nat) : Nat := B.findIdx fun b => b == B.getD k []
theorem selN_yes {K : List UInt8} {l : List Rcd} {n : Nat} (h : selB K l n = true) : selN K l (n + 1) = selN K l n ++ [n] := by
  unfold selN
  rw [List.range_succ, List.filter_append]
  congr 1
  simp only [List.filter_cons, List.filter_nil, h, if_true]
theorem selN_no {K : List UInt8} {l : List Rcd} {n : Nat} (h : selB K l n = false) : selN K l (n + 1) = selN K l n := by
  unfold selN
  rw [List.range_succ, List.filter_append]
  simp only [List.filter_cons, List.filter_nil, h, Bool.false_eq_true, if_false, List.append_nil]
theorem blkN_yes {K : List UInt8} {l : List Rcd} {n : Nat} (h : selB K l n = true) : blkN K l (n + 1) = blkN K l n ++ [(l.getD n noRec).bd] := by
  unfold blkN; rw [selN_yes h, List.map_append]; rfl
theorem blkN_no {K : List UInt8} {l : List Rcd} {n : Nat} (h : selB K l n = false) : blkN K l (n + 1) = blkN K l n := by
  unfold blkN; rw [selN_no h]
theorem selN_len (K : List UInt8) (l : List Rcd) (n : Nat) : (selN K l n).length ≤ n := by
  have := List.length_filter_le (selB K l) (List.range n)
  rw [List.length_range] at this; exact this
theorem selN_mem {K : List UInt8} {l : List Rcd} {n i : Nat} : i ∈ selN K l n ↔ i < n ∧ selB K l i = true := by
  unfold selN; rw [List.mem_filter, List.mem_range]
theorem selN_lt {K : List UInt8} {l : List Rcd} {n a b : Nat} (hab : a < b) (hb : b < (selN K l n).length) : (selN K l n).getD a 0 < (selN K l n).getD b 0 := by
  have hp : (selN K l n).Pairwise (· < ·) := List.pairwise_lt_range.filter _
  have := List.pairwise_iff_getElem.1 hp a b (by omega) hb hab
  rw [List.getD_eq_getElem?_getD, List.getD_eq_getElem?_getD, List.getElem?_eq_getElem hb, List.getElem?_eq_getElem (by omega)]
  exact this
theorem getD_mem' {α : Type} {l : List α} {d : α} {i : Nat} (h : i < l.length) : l.getD i d ∈ l := by
  rw [List.getD_eq_getElem?_getD, List.getElem?_eq_getElem h]; exact List.getElem_mem h
theorem fstI_le {B : List (List UInt8)} {k k' : Nat} (h : B.getD k' [] = B.getD k []) (hk : k' < B.length) : fstI B k ≤ k' := by
  refine Classical.byContradiction fun hn => ?_
  have := List.not_of_lt_findIdx (show k' < fstI B k by omega)
  rw [List.getD_eq_getElem?_getD, List.getElem?_eq_getElem hk] at h
  have h : B[k'] = B.getD k [] := h
  rw [h] at this
  simp at this
theorem fstI_eq {B : List (List UInt8)} {k : Nat} (hk : k < B.length) : B.getD (fstI B k) [] = B.getD k [] := by
  have h1 := fstI_le (B := B) (k := k) rfl hk
  have h2 : fstI B k < B.length := by omega
  have := List.findIdx_getElem (p := fun b => b == B.getD k []) (xs := B) (w := h2)
  rw [List.getD_eq_getElem?_getD (l := B) (i := fstI B k), List.getElem?_eq_getElem h2]
  exact beq_iff_eq.1 this
/-- no record belongs to another one, and none has pieces -/
structure Plain6 (l : List Rcd) : Prop where
  ow : ∀ r ∈ l, r.ow = []
  pi : ∀ r ∈ l, pieB r = false
  id : ∀ r ∈ l, r.id ≠ []
theorem cand_plain {l : List Rcd} (h : Plain6 l) {r : Rcd} (hr : r ∈ l) : candB l r = true ↔ r.ki = 3 ∧ r.bd ≠ [] := by
  have h1 : ofB l r = false := by
    unfold ofB
    cases e : (l.map Rcd.ow).contains r.id with
    | false => rfl
    | true =>
      rw [List.contains_iff_mem, List.mem_map] at e
      obtain ⟨x, hx, e⟩ := e
      rw [h.ow x hx] at e
      exact absurd e.symm (h.id r hr)
  unfold candB
  rw [h1, h.pi r hr, decide_eq_true (h.ow r hr)]
  simp
theorem top_core {l : List Rcd} (h : Plain6 l) (K : List UInt8) {k : Nat} (hk : k < (selN K l l.length).length) :
    ((revF l ((selN K l l.length).getD k 0)).ki = 4 ↔ fstI (blkN K l l.length) k ≠ k ∧ 0 < ((blkN K l l.length).getD k []).length) ∧
    (fstI (blkN K l l.length) k ≠ k ∧ 0 < ((blkN K l l.length).getD k []).length → (revF l ((selN K l l.length).getD k 0)).ow = (l.getD ((selN K l l.length).getD (fstI (blkN K l l.length) k) 0) noRec).id) := by
  have hB : ∀ j, j < (selN K l l.length).length → (blkN K l l.length).getD j [] = (l.getD ((selN K l l.length).getD j 0) noRec).bd := fun j hj => by
    unfold blkN
    rw [List.getD_eq_getElem?_getD, List.getElem?_map, List.getElem?_eq_getElem hj, List.getD_eq_getElem?_getD (l := selN K l l.length), List.getElem?_eq_getElem hj]; rfl
  have hBl : (blkN K l l.length).length = (selN K l l.length).length := by unfold blkN; rw [List.length_map]
  have hN : ∀ j, j < (selN K l l.length).length → (selN K l l.length).getD j 0 < l.length ∧ (l.getD ((selN K l l.length).getD j 0) noRec).ki = 3 ∧ (l.getD ((selN K l l.length).getD j 0) noRec).ke = K := fun j hj => by
    obtain ⟨a, b⟩ := selN_mem.1 (getD_mem' (d := 0) hj)
    simp only [selB, Bool.and_eq_true, decide_eq_true_eq] at b
    exact ⟨a, b⟩
  have hI : ∀ i, i < l.length → (l.getD i noRec).ki = 3 → (l.getD i noRec).ke = K → ∃ j, j < (selN K l l.length).length ∧ (selN K l l.length).getD j 0 = i := fun i h1 h2 h3 => by
    have hm : i ∈ selN K l l.length := selN_mem.2 ⟨h1, by simp only [selB, Bool.and_eq_true, decide_eq_true_eq]; exact ⟨h2, h3⟩⟩
    obtain ⟨j, hj, e⟩ := List.getElem_of_mem hm
    exact ⟨j, hj, by rw [List.getD_eq_getElem?_getD, List.getElem?_eq_getElem hj]; exact e⟩
  have hlt : ∀ a b, b < (selN K l l.length).length → a < (selN K l l.length).length → (selN K l l.length).getD a 0 < (selN K l l.length).getD b 0 → a < b := fun a b hb ha hab => by
    refine Classical.byContradiction fun hn => ?_
    by_cases e : a = b
    · subst e; omega
    · have := selN_lt (K := K) (l := l) (n := l.length) (show b < a by omega) ha
      omega
  have hlt' : ∀ a b, a < b → b < (selN K l l.length).length → (selN K l l.length).getD a 0 < (selN K l l.length).getD b 0 := fun a b hab hb => selN_lt hab hb
  have hf0 := fstI_le (B := blkN K l l.length) (k := k) rfl (by omega)
  have hf1 := fstI_eq (B := blkN K l l.length) (k := k) (by omega)
  have hf2 := fun k' => fstI_le (B := blkN K l l.length) (k := k) (k' := k')
  generalize blkN K l l.length = B at *
  generalize selN K l l.length = N at *
  generalize fstI B k = k0 at *
  obtain ⟨n1, n2, n3⟩ := hN k hk
  rw [hB k hk] at hf1 ⊢
  rw [hB k0 (by omega)] at hf1
  obtain ⟨m1, m2, m3⟩ := hN k0 (by omega)
  have hmem : ∀ i, i < l.length → l.getD i noRec ∈ l := fun i hi => getD_mem' hi
  have ht : ∀ j, j < N.getD k 0 → (l.take (N.getD k 0))[j]? = some (l.getD j noRec) := fun j hj => by
    rw [List.getElem?_take, if_pos hj, List.getElem?_eq_getElem (by omega), List.getD_eq_getElem?_getD, List.getElem?_eq_getElem (by omega)]; rfl
  have htl : (l.take (N.getD k 0)).length = N.getD k 0 := by rw [List.length_take]; omega
  have ht' : ∀ j (hj : j < (l.take (N.getD k 0)).length), (l.take (N.getD k 0))[j] = l.getD j noRec := fun j hj => by
    have := ht j (by omega)
    rw [List.getElem?_eq_getElem hj] at this
    exact Option.some.inj this
  have hc := cand_plain h (hmem _ n1)
  unfold revF
  generalize hr : l.getD (N.getD k 0) noRec = r at *
  by_cases hb : r.bd = []
  · have hcf : candB l r = false := by
      cases e : candB l r with
      | false => rfl
      | true => exact absurd hb (hc.1 e).2
    unfold revR
    rw [if_neg (by rw [hcf]; simp), n2, hb]
    simp
  · have hct := hc.2 ⟨n2, hb⟩
    unfold revR
    rw [if_pos hct]
    have hpos : 0 < r.bd.length := List.length_pos_iff.2 hb
    have hsame : ∀ j, j < N.getD k 0 → ((candB l (l.getD j noRec) && sameB (l.getD j noRec) r) = true ↔ (l.getD j noRec).ki = 3 ∧ (l.getD j noRec).ke = K ∧ (l.getD j noRec).bd = r.bd) := fun j hj => by
      rw [Bool.and_eq_true, cand_plain h (hmem j (by omega))]
      simp only [sameB, Bool.and_eq_true, beq_iff_eq]
      rw [n3]
      exact ⟨fun ⟨⟨a, _⟩, b, c⟩ => ⟨a, b, c⟩, fun ⟨a, b, c⟩ => ⟨⟨a, by rw [c]; exact hb⟩, b, c⟩⟩
    cases hfi : fstR l (l.take (N.getD k 0)) r with
    | none =>
      simp only
      have hno := List.find?_eq_none.1 hfi
      have hkk : k0 = k := by
        refine Classical.byContradiction fun hn => ?_
        have hlt0 := hlt' k0 k (by omega) hk
        have hm : l.getD (N.getD k0 0) noRec ∈ l.take (N.getD k 0) := by
          rw [← ht' _ (by omega)]; exact List.getElem_mem _
        exact hno _ hm ((hsame _ hlt0).2 ⟨m2, m3, hf1⟩)
      rw [n2]
      exact ⟨⟨fun x => absurd x (by decide), fun x => absurd hkk x.1⟩, fun x => absurd hkk x.1⟩
    | some x =>
      obtain ⟨hx, j, hj, hjx, hmin⟩ := List.find?_eq_some_iff_getElem.1 hfi
      rw [ht' j hj] at hjx
      have hj' : j < N.getD k 0 := by omega
      rw [← hjx] at hx
      obtain ⟨c1, c2, c3⟩ := (hsame j hj').1 hx
      obtain ⟨k1, hk1, e1⟩ := hI j (by omega) c1 c2
      have hk1k : k1 < k := hlt k1 k hk hk1 (by rw [e1]; exact hj')
      have hk01 : k0 ≤ k1 := hf2 k1 (by rw [hB k1 hk1, hB k hk, e1, hr, c3]) (by omega)
      have hjj : N.getD k0 0 = j := by
        by_cases e : k0 = k1
        · rw [e]; exact e1
        · have hl1 := hlt' k0 k1 (by omega) hk1
          rw [e1] at hl1
          have := hmin _ hl1
          rw [ht' _ (by omega)] at this
          have h2 := (hsame _ (by omega)).2 ⟨m2, m3, hf1⟩
          rw [h2] at this; cases this
      simp only
      rw [hjj, hjx]
      exact ⟨⟨fun _ => ⟨by omega, hpos⟩, fun _ => trivial⟩, fun _ => rfl⟩

def ckCloneBy : Ck
  | [.sl n f] => some (isBy n f ∧ n ≤ 140737488355328, .sl n f)
  | _ => none
theorem conCloneBy : Con pg 34 ckCloneBy := by
  have hct := ctN_ok pg
  intro args q r h hq
  unfold ckCloneBy at h
  split at h
  · cases h
    rename_i n f
    by_cases hn : n = 0
    · subst hn
      refine pcall_nil1 fun a c => ?_
      refine w34 (fun d => decide (d < 9999)) [.frz 5] rfl hct rfl rfl ?_
      push_cast (config := { maxSteps := 10000000 })
      cases a
      · push_cast (config := { maxSteps := 10000000 })
      · push_cast (config := { maxSteps := 10000000 })
    · refine w34 (fun d => decide (d < 9999)) [.frz 5] rfl hct rfl rfl ?_
      push_cast (config := { maxSteps := 10000000 })
      obtain ⟨h1, h2⟩ := hq
      exact ⟨by omega, ⟨h1.flat, by omega, by omega⟩, h1.pure⟩
  · cases h
attribute [push_cast] ckCloneBy

def ckCloneHd : Ck
  | [.sl n f] => some (isLs cHd n f ∧ n ≤ 1000000000000, .sl n f)
  | _ => none
theorem conCloneHd : Con pg 33 ckCloneHd := by
  have hct := ctN_ok pg
  intro args q r h hq
  unfold ckCloneHd at h
  split at h
  · cases h
    rename_i n f
    by_cases hn : n = 0
    · subst hn
      refine pcall_nil1 fun a c => ?_
      refine w33 (fun d => decide (d < 9999)) [.frz 5] rfl hct rfl rfl ?_
      push_cast (config := { maxSteps := 10000000 })
      cases a
      · push_cast (config := { maxSteps := 10000000 })
      · push_cast (config := { maxSteps := 10000000 })
    · refine w33 (fun d => decide (d < 9999)) [.frz 5] rfl hct rfl rfl ?_
      push_cast (config := { maxSteps := 10000000 })
      obtain ⟨h1, h2⟩ := hq
      exact ⟨by omega, ⟨h1.flat (fun _ => rfl), by omega, by omega⟩, h1.pure (fun _ => rfl)⟩
  · cases h
attribute [push_cast] ckCloneHd
theorem ncall_nil1 {f : FuncId} {g : Nat → V} {r : V} {nb : Blk} (h : ∀ a c, NCall pg f [.con (.slice a 0 c)] r nb) : NCall pg f [.sl 0 g] r nb := by
  intro S vals hs hh hl hr
  match vals, hl with
  | [v], _ =>
    have h0 := hr 0 (by simp)
    simp only [List.getD_cons_zero] at h0
    obtain ⟨a, c, rfl⟩ : ∃ a c, v = .slice a 0 c := by
      cases inv_sl h0 with
      | sl0 _ a c => exact ⟨a, c, rfl⟩
      | sl _ _ b off c sz u => exact ⟨_, _, rfl⟩
    exact h a c S [.slice a 0 c] hs hh rfl fun i hi => by
      have : i = 0 := by simp at hi; omega
      subst this
      exact .pure (.con _)
def ckCloneRec : List V → Option (Prop × V × Blk)
  | [.sl n f] => some (isLs cRec n f ∧ n ≤ 1000000, .vec 8999 n, .vec 7 n f)
  | _ => none
theorem conCloneRec : NCon pg 43 ckCloneRec := by
  have hct := ctN_ok pg
  intro args q r nb h hq
  unfold ckCloneRec at h
  split at h
  · cases h
    rename_i n f
    by_cases hn : n = 0
    · subst hn
      refine ncall_nil1 fun a c => ?_
      cases a
      · refine nw43 (fun d => decide (d < 9999)) [.nv 2 8999 7 f] rfl hct rfl rfl ?_ ?_
        · simp [noIdB]
        push_cast (config := { maxSteps := 10000000 })
      · refine nw43 (fun d => decide (d < 9999)) [.ren 5 8999] rfl hct rfl rfl ?_ ?_
        · simp [noIdB]
        push_cast (config := { maxSteps := 10000000 })
    · obtain ⟨h1, h2⟩ := hq
      refine nw43 (fun d => decide (d < 9999)) [.ren 5 8999] rfl hct rfl rfl ?_ ?_
      · intro i hi; show V.noIdL (f i).flat = true; rw [h1.2 i hi]; rfl
      push_cast (config := { maxSteps := 10000000 })
      exact ⟨by omega, ⟨h1.flat (fun _ => rfl), by omega, by omega⟩, fun i hi => by rw [h1.2 i hi]; rfl⟩
  · cases h
attribute [push_cast] ckCloneRec
theorem setF_self (f : Nat → V) (i : Nat) : setF f i (f i) = f := by
  funext j
  unfold setF
  by_cases e : j = i
  · subst e; rw [decide_eq_true rfl]; rfl
  · rw [decide_eq_false e]; rfl
def ckCopies : Ck
  | [.sl n f] => some (isLs cRec n f ∧ recsOk (lsOf cRec n f) ∧ (∀ r ∈ lsOf cRec n f, r.hd.length ≤ 1000000) ∧ n ≤ 1000000, .sl (lsOf cRec n f).length (lsF cRec (lsOf cRec n f)))
  | _ => none
theorem conCopies : Con pg 22 ckCopies := by
  have hct := (ctA_ok conCloneHd (ctA_ok conCloneBy (ctW_ok conCloneRec (ctN_ok _))))
  intro args q r h hq
  unfold ckCopies at h
  split at h
  · cases h
    rename_i n f
    refine pcall_args (args' := [.sl (lsOf cRec n f).length (lsF cRec (lsOf cRec n f))]) ⟨isLs.vle hq.1, trivial⟩ ?_
    obtain ⟨-, hl, hh, hn⟩ := hq
    have hn : (lsOf cRec n f).length ≤ 1000000 := by rw [lsOf_len]; exact hn
    generalize lsOf cRec n f = l at hl hh hn ⊢
    refine w22 (fun _ => false) [.frz 6] rfl hct rfl rfl ?_
    push_cast (config := { maxSteps := 10000000 })
    refine ⟨hn, ?_⟩
    refine LoopW.adj ⟨hct, fol⟩ (by kernel_rfl) [] (fun i : Nat => [(3, .vec 6 l.length), (8, .int .i64 l.length), (9, .int .i64 i)]) (fun _ => [(6, .vec 7 l.length (lsF cRec l))]) (fun i => i ≤ l.length) (fun i => l.length - i) 0 ?_ fun i hi => ?_
    · push_cast (config := { maxSteps := 10000000 })
      exact Nat.zero_le _
    · push_cast (config := { maxSteps := 10000000 })
      intro h
      have ok := recsOk_at hl h
      have h30 : (l.getD i noRec).hd.length ≤ 1000000 := hh _ (by rw [List.getD_eq_getElem?_getD, List.getElem?_eq_getElem h]; exact List.getElem_mem h)
      refine ⟨h, h, by omega, h, h, ok.2.2.2.2.2.1, h, h, h, h, ⟨by omega, by omega⟩, i + 1, by omega, by omega, by omega, fun k hk => ?_⟩
      have e := setF_self (lsF cRec l) i
      show setF (setF (lsF cRec l) i (lsF cRec l i)) i (reV (setF (lsF cRec l) i (lsF cRec l i) i) (setR (setF (lsF cRec l) i (lsF cRec l i) i).flat 6 [V.sl (l.getD i noRec).bd.length (byF (l.getD i noRec).bd)])) k = lsF cRec l k
      rw [e]
      exact congrFun e k
  · cases h
attribute [push_cast] ckCopies

theorem pcall_res {f : FuncId} {args : List V} {r r' : V} (hv : VLe r r') (h : PCall pg f args r) : PCall pg f args r' := by
  intro S vals hs hh hlen hr
  exact (h S vals hs hh hlen hr).mono fun e w' ⟨v, γ', imm', e1, e2, e3, e4, e5⟩ => ⟨v, γ', imm', e1, e2, e3, e4, hv _ _ _ _ e5⟩
def ckCopiesN : List V → Option (Prop × V × Blk)
  | [.sl n f] => some (isLs cRec n f ∧ recsOk (lsOf cRec n f) ∧ (∀ r ∈ lsOf cRec n f, r.hd.length ≤ 1000000) ∧ n ≤ 1000000, .vec 8999 (lsOf cRec n f).length, .vec 7 (lsOf cRec n f).length (lsF cRec (lsOf cRec n f)))
  | _ => none
theorem ncall_args6 {f : FuncId} {args args' : List V} {r : V} {nb : Blk} (hv : vleL args args') (h : NCall pg f args' r nb) : NCall pg f args r nb := by
  intro S vals hs hh hlen hr
  exact h S vals hs hh (hlen.trans (vleL_len hv)) fun i hi => vleL_at hv i _ _ _ _ (hr i (by rw [vleL_len hv]; exact hi))
theorem conCopiesN : NCon pg 22 ckCopiesN := by
  have hct := (ctA_ok conCloneHd (ctA_ok conCloneBy (ctW_ok conCloneRec (ctN_ok _))))
  intro args q r nb h hq
  unfold ckCopiesN at h
  split at h
  · cases h
    rename_i n f
    obtain ⟨h0, hl, hh, hn⟩ := hq
    refine ncall_args6 (args' := [.sl (lsOf cRec n f).length (lsF cRec (lsOf cRec n f))]) ⟨isLs.vle h0, trivial⟩ ?_
    have hn : (lsOf cRec n f).length ≤ 1000000 := by rw [lsOf_len]; exact hn
    generalize lsOf cRec n f = l at hl hh hn ⊢
    refine nw22 (fun _ => false) [.ren 6 8999] rfl hct rfl rfl ?_ ?_
    · have hm : ∀ j, V.noIdL (lsF cRec l j).flat = true := fun j => rfl
      simp [noIdB, hm]
    push_cast (config := { maxSteps := 10000000 })
    refine ⟨hn, ?_⟩
    refine LoopW.adj ⟨hct, fol⟩ (by kernel_rfl) [] (fun i : Nat => [(3, .vec 6 l.length), (8, .int .i64 l.length), (9, .int .i64 i)]) (fun _ => [(6, .vec 7 l.length (lsF cRec l))]) (fun i => i ≤ l.length) (fun i => l.length - i) 0 ?_ fun i hi => ?_
    · push_cast (config := { maxSteps := 10000000 })
      exact Nat.zero_le _
    · push_cast (config := { maxSteps := 10000000 })
      intro h
      have ok := recsOk_at hl h
      have h30 : (l.getD i noRec).hd.length ≤ 1000000 := hh _ (by rw [List.getD_eq_getElem?_getD, List.getElem?_eq_getElem h]; exact List.getElem_mem h)
      refine ⟨h, h, by omega, h, h, ok.2.2.2.2.2.1, h, h, h, h, ⟨by omega, by omega⟩, i + 1, by omega, by omega, by omega, fun k hk => ?_⟩
      have e := setF_self (lsF cRec l) i
      show setF (setF (lsF cRec l) i (lsF cRec l i)) i (reV (setF (lsF cRec l) i (lsF cRec l i) i) (setR (setF (lsF cRec l) i (lsF cRec l i) i).flat 6 [V.sl (l.getD i noRec).bd.length (byF (l.getD i noRec).bd)])) k = lsF cRec l k
      rw [e]
      exact congrFun e k
  · cases h
attribute [push_cast] ckCopiesN

@[push_cast] theorem vle_fnH (f : Fn) (a b : List V) : vle (.fn f a b) (.fn f a b) = True := eq_true rfl
def ckRhcK : List V → List Blk → Option (Prop × V × List Blk)
  | [.agg [.str a, .str _], .ptr _ 0], [.cells [.str n]] => some (a.length ≤ 140737488355328, .bool (lowL a == n), [.cells [.str n]])
  | _, _ => none
def ckRhc : Cf := ⟨fun | [_, .ptr i _] => [i] | _ => [], ckRhcK⟩
theorem conRhc : FCon pg 45 ckRhc := by
  have hct := (ctA_ok conSmallA (ctN_ok _))
  intro args bs q r bs' h hq
  replace h : ckRhcK args bs = some (q, r, bs') := h
  unfold ckRhcK at h
  split at h
  · cases h
    rename_i a b i n
    refine ⟨rfl, by first | exact Nat.le_refl _ | exact Nat.zero_le _, ?_⟩
    show FCall pg 45 [.agg [.str a, .str b], .ptr (i + 9000) 0] [(i + 9000, .cells [.str n])] (.bool (lowL a == n)) [(i + 9000, .cells [.str n])]
    refine fw45 (fun _ => false) [] rfl hct rfl (by simp) (by simp [hlIn, idsIn, Blk.menIn, V.menInL, V.menIn, V.flat, byF, lsF]) (by simp [V.menIn, V.menInL, idsIn]) ?_
    push_cast (config := { maxSteps := 10000000 })
    exact hq
  · cases h
attribute [push_cast] ckRhcK
@[push_cast] theorem rhc_ids (x : V) (i o : Nat) : ckRhc.ids [x, .ptr i o] = [i] := rfl
@[push_cast] theorem rhc_k {a b n : List UInt8} (i : Nat) : ckRhc.k [.agg [.str a, .str b], .ptr i 0] [.cells [.str n]] = some (a.length ≤ 140737488355328, .bool (lowL a == n), [.cells [.str n]]) := rfl
def fstH (l : List Hd) (n : List UInt8) : Int := match l.findIdx? (fun h => lowL h.name == n) with
  | some k => k
  | none => -1
theorem fstH_at {l : List Hd} {n : List UInt8} {i : Nat} (hi : i < l.length) (h : lowL (l.getD i ⟨[], []⟩).name = n) (hn : ∀ j, j < i → ¬ lowL (l.getD j ⟨[], []⟩).name = n) : fstH l n = i := by
  unfold fstH
  have : l.findIdx? (fun h => lowL h.name == n) = some i := by
    rw [List.findIdx?_eq_some_iff_getElem]
    refine ⟨hi, ?_, fun j hj => ?_⟩
    · rw [List.getD_eq_getElem?_getD, List.getElem?_eq_getElem hi] at h; exact beq_iff_eq.2 h
    · have h1 := hn j hj
      rw [List.getD_eq_getElem?_getD, List.getElem?_eq_getElem (by omega)] at h1
      simpa using h1
  rw [this]
theorem fstH_no {l : List Hd} {n : List UInt8} (hn : ∀ j, j < l.length → ¬ lowL (l.getD j ⟨[], []⟩).name = n) : fstH l n = -1 := by
  unfold fstH
  have : l.findIdx? (fun h => lowL h.name == n) = none := by
    rw [List.findIdx?_eq_none_iff]
    intro x hx
    obtain ⟨j, hj, rfl⟩ := List.getElem_of_mem hx
    have h1 := hn j hj
    rw [List.getD_eq_getElem?_getD, List.getElem?_eq_getElem hj] at h1
    simpa using h1
  rw [this]
theorem fstH_any (l : List Hd) (n : List UInt8) : 0 ≤ fstH l n ↔ (l.any fun h => lowL h.name == n) = true := by
  unfold fstH
  cases h : l.findIdx? (fun h => lowL h.name == n) with
  | none =>
    rw [List.findIdx?_eq_none_iff] at h
    have : (l.any fun h => lowL h.name == n) = false := by rw [List.any_eq_false]; intro x hx; rw [h x hx]; simp
    rw [this]; simp
  | some k =>
    rw [List.findIdx?_eq_some_iff_getElem] at h
    obtain ⟨hk, h1, _⟩ := h
    have : (l.any fun h => lowL h.name == n) = true := List.any_eq_true.2 ⟨_, List.getElem_mem hk, h1⟩
    rw [this]
    exact ⟨fun _ => rfl, fun _ => Int.natCast_nonneg k⟩
def hdsN (l : List Hd) : Prop := ∀ h ∈ l, h.name.length ≤ 140737488355328
def ckIdxHK : List V → List Blk → Option (Prop × V × List Blk)
  | [.sl n f, .fn (.func 45) [] [.ptr _ 0]], [.cells [.str w]] => some (isLs cHd n f ∧ hdsN (lsOf cHd n f) ∧ n ≤ 1000000, .int .i64 (fstH (lsOf cHd n f) w), [.cells [.str w]])
  | _, _ => none
def ckIdxH : Cf := ⟨fun | [_, .fn _ _ [.ptr i _]] => [i] | _ => [], ckIdxHK⟩
theorem conIdxH : FCon pg 44 ckIdxH := by
  have hct := (ctF_ok conRhc (ctN_ok _))
  intro args bs q r bs' h hq
  replace h : ckIdxHK args bs = some (q, r, bs') := h
  unfold ckIdxHK at h
  split at h
  · cases h
    rename_i n f i w
    refine ⟨rfl, by first | exact Nat.le_refl _ | exact Nat.zero_le _, ?_⟩
    obtain ⟨h0, hh, hn⟩ := hq
    refine fcall_args (args' := [.sl (lsOf cHd n f).length (lsF cHd (lsOf cHd n f)), .fn (.func 45) [] [.ptr (i + 9000) 0]]) ⟨isLs.vle h0, VLe.refl _, trivial⟩ ?_
    rw [← lsOf_len (c := cHd) n f] at hn
    generalize lsOf cHd n f = l at hh hn ⊢
    show FCall pg 44 [.sl l.length (lsF cHd l), .fn (.func 45) [] [.ptr (i + 9000) 0]] [(i + 9000, .cells [.str w])] (.int .i64 (fstH l w)) [(i + 9000, .cells [.str w])]
    refine fw44 (fun _ => false) [] rfl hct rfl (by simp) (by simp [hlIn, idsIn, Blk.menIn, V.menInL, V.menIn, V.flat, byF, lsF]) (by simp [V.menIn, V.menInL, idsIn]) ?_
    push_cast (config := { maxSteps := 10000000 })
    refine LoopW.adj ⟨hct, fol⟩ (by kernel_rfl) [] (fun k : Nat => [(0, .sl l.length (lsF cHd l)), (1, .fn (.func 45) [] [.ptr (i + 9000) 0]), (7, .int .i64 l.length), (8, .int .i64 k)]) (fun _ => [(i + 9000, .cells [.str w])]) (fun k => k ≤ l.length ∧ ∀ j, j < k → ¬ lowL (l.getD j ⟨[], []⟩).name = w) (fun k => l.length - k) 0 ?_ fun k hk => ?_
    · push_cast (config := { maxSteps := 10000000 })
      exact Nat.zero_le _
    · obtain ⟨h1, h2⟩ := hk
      push_cast (config := { maxSteps := 10000000 })
      refine ⟨fun h3 => ⟨h3, hh _ (getD_memH (d := ⟨[], []⟩) h3), fun h4 => (fstH_at h3 h4 h2).symm, fun h4 => ⟨by omega, k + 1, ⟨by omega, fun j hj => ?_⟩, by omega, by omega⟩⟩, fun h3 => (fstH_no fun j hj => h2 j (by omega)).symm⟩
      by_cases e : j = k
      · subst e; exact h4
      · exact h2 j (by omega)
  · cases h
attribute [push_cast] ckIdxHK
@[push_cast] theorem idxH_ids (x : V) (f : Fn) (i o : Nat) : ckIdxH.ids [x, .fn f [] [.ptr i o]] = [i] := rfl
@[push_cast] theorem idxH_k {n : Nat} {f : Nat → V} {w : List UInt8} (i : Nat) : ckIdxH.k [.sl n f, .fn (.func 45) [] [.ptr i 0]] [.cells [.str w]] = some (isLs cHd n f ∧ hdsN (lsOf cHd n f) ∧ n ≤ 1000000, .int .i64 (fstH (lsOf cHd n f) w), [.cells [.str w]]) := rfl
def ckRhead : Ck
  | [.agg [.int .i64 ki, .str id, .str ow, .int .i64 ti, .str ke, .sl n f, .sl m g], .str w] => some (isLs cHd n f ∧ hdsN (lsOf cHd n f) ∧ n ≤ 1000000, .int .i64 (fstH (lsOf cHd n f) w))
  | _ => none
theorem conRhead : Con pg 23 ckRhead := by
  have hct := (ctF_ok conIdxH (ctN_ok _))
  intro args q r h hq
  unfold ckRhead at h
  split at h
  · cases h
    rename_i ki id ow ti ke n f m g w
    refine w23 (fun _ => false) [] rfl hct rfl rfl ?_
    push_cast (config := { maxSteps := 10000000 })
    exact hq
  · cases h
attribute [push_cast] ckRhead

end Go.Abs
