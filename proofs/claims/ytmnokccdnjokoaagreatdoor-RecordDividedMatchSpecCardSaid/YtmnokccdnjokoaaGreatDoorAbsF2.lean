/- what functions of this program compute: contracts, each a function's own -/
import Derived.Test.YtmnokccdnjokoaaGreatDoorAbsK2
import Derived.Test.YtmnokccdnjokoaaGreatDoorAbsFacts
import Derived.Test.YtmnokccdnjokoaaGreatDoorAbsF1
import Derived.Test.YtmnokccdnjokoaaGreatDoorAbsShelf
import Derived.Lib.SlTrimSet
import Derived.Lib.Atoi
import Derived.Lib.Itoa
import Derived.Lib.ItoaNum
import Derived.Lib.AtoiErrMem
import Derived.Lib.ItoaLen
namespace Go.Abs
open Go Go.Proofs
set_option maxHeartbeats 4000000
set_option maxRecDepth 100000
set_option linter.unusedVariables false
set_option linter.unusedSimpArgs false
def ckMixed : Ck
  | [.sl n f] => some (isBy n f ∧ n ≤ 4611686018427387900, .int .u64 (mixL (bytesOf n f)))
  | _ => none
theorem conMixed : Con pg 82 ckMixed := by
  have hct := ctN_ok pg
  intro args q r h hq
  unfold ckMixed at h
  split at h
  · cases h
    rename_i n f
    refine pcall_args (args' := [.sl (bytesOf n f).length (byF (bytesOf n f))]) ⟨isBy.vle hq.1, trivial⟩ ?_
    have h1 : (bytesOf n f).length ≤ 4611686018427387900 := by rw [bytesOf_len]; exact hq.2
    generalize bytesOf n f = b at h1 ⊢
    refine w82 (fun _ => false) [] rfl hct rfl rfl ?_
    push_cast (config := { maxSteps := 10000000 })
    have hstep : ∀ i, i < b.length → bitsI BinOp.xor IntKind.u64 (mixL (b.take i)) (((b.getD i 0).toNat : Int) % 18446744073709551616) * 1099511628211 % 18446744073709551616 = mixL (b.take (i + 1)) := fun i hi => by
      rw [takeG (d := 0) hi, mixL_snoc]; rfl
    refine LoopW.adj ⟨hct, fol⟩ (by kernel_rfl) [] (fun i : Nat => [(0, .sl b.length (byF b)), (3, .int .u64 (mixL (b.take i))), (6, .int .i64 b.length), (7, .int .i64 i)]) (fun _ => []) (fun i => i ≤ b.length) (fun i => b.length - i) 0 ?_ fun i hi => ?_
    · push_cast (config := { maxSteps := 10000000 })
      exact ⟨Nat.zero_le _, rfl⟩
    · push_cast (config := { maxSteps := 10000000 })
      exact ⟨fun h => ⟨h, ⟨by omega, by omega⟩, i + 1, by omega, by omega, hstep i h, by omega⟩, fun h => by rw [List.take_of_length_le (by omega)]⟩
  · cases h
attribute [push_cast] ckMixed
def hxF (n : Int) (i : Nat) : Nat → V := fun j => bif decide (16 ≤ j + i) then .int .u8 (hexD (n / 16 ^ (15 - j))).toNat else .int .u8 0
theorem div16 {n : Int} (h0 : 0 ≤ n) (h1 : n < 18446744073709551616) (i : Nat) : 0 ≤ n / 16 ^ i ∧ n / 16 ^ i < 18446744073709551616 := by
  have hp : (0 : Int) < 16 ^ i := Int.pow_pos (by omega)
  refine ⟨Int.ediv_nonneg h0 (by omega), ?_⟩
  have := Int.ediv_le_self (16 ^ i) h0
  omega
theorem div16s (n : Int) (i : Nat) : n / 16 ^ i / 16 = n / 16 ^ (i + 1) := by
  have hp : (0 : Int) < 16 ^ i := Int.pow_pos (by omega)
  rw [Int.pow_succ, Int.ediv_ediv_of_nonneg (by omega)]
theorem hx_set {n : Int} {i : Nat} (hi : i < 16) (j : Nat) : setF (hxF n i) (15 - i) (.int .u8 (hexD (n / 16 ^ i)).toNat) j = hxF n (i + 1) j := by
  unfold setF hxF
  by_cases e : j = 15 - i
  · rw [decide_eq_true e, cond_true, decide_eq_true (show 16 ≤ j + (i + 1) by omega), cond_true, show 15 - j = i by omega]
  · rw [decide_eq_false e, cond_false]
    by_cases h : 16 ≤ j + i
    · rw [decide_eq_true h, decide_eq_true (show 16 ≤ j + (i + 1) by omega)]
    · rw [decide_eq_false h, decide_eq_false (show ¬ 16 ≤ j + (i + 1) by omega)]
theorem hx_end {n : Int} {i : Nat} (hi : i = 16) : (∀ j, j < 16 → ∃ m, hxF n i j = .int .u8 m) ∧ bytesOf 16 (hxF n i) = hex16 n := by
  subst hi
  have e : ∀ j, hxF n 16 j = .int .u8 (hexD (n / 16 ^ (15 - j))).toNat := fun j => by unfold hxF; rw [decide_eq_true (by omega)]; rfl
  refine ⟨fun j _ => ⟨_, e j⟩, ?_⟩
  unfold bytesOf hex16
  refine List.map_congr_left fun j _ => ?_
  rw [e]
  simp [V.toByte, hexD]
def ckHex : Ck
  | [.int .u64 n] => some (0 ≤ n ∧ n < 18446744073709551616, .str (hex16 n))
  | _ => none
theorem conHex : Con pg 81 ckHex := by
  have hct := ctN_ok pg
  intro args q r h hq
  unfold ckHex at h
  split at h
  · cases h
    rename_i n
    refine w81 (fun _ => false) [] rfl hct rfl rfl ?_
    push_cast (config := { maxSteps := 10000000 })
    refine LoopW.adj ⟨hct, fol⟩ (by kernel_rfl) [] (fun i : Nat => [(0, .int .u64 (n / 16 ^ i)), (3, .vec 5 16), (7, .int .i64 16), (8, .int .i64 i)]) (fun i => [(5, .vec 1 16 (hxF n i))]) (fun i => i ≤ 16) (fun i => 16 - i) 0 ?_ fun i hi => ?_
    · push_cast (config := { maxSteps := 10000000 })
      exact ⟨(Int.ediv_one n).symm, fun i hi => by unfold hxF; rw [decide_eq_false (by omega)]; rfl⟩
    · push_cast (config := { maxSteps := 10000000 })
      refine ⟨fun h => ?_, fun h => hx_end (by omega)⟩
      have hd := div16 hq.1 hq.2 i
      rw [andF _ hd.1 hd.2, shrF _ hd.1, div16s]
      have hj : (15 - (i : Int)).toNat = 15 - i := by omega
      have hz : hxF n i (15 - i) = .int .u8 0 := by unfold hxF; rw [decide_eq_false (by omega)]; rfl
      rw [hj, hz]
      exact ⟨⟨by omega, by omega⟩, ⟨by omega, by omega⟩, ⟨by omega, by omega⟩, by omega, ⟨by omega, by omega⟩, i + 1, by omega, by omega, ⟨rfl, by omega⟩, fun j _ => hx_set (by omega) j⟩
  · cases h
attribute [push_cast] ckHex
def ckDigest : Ck
  | [.sl n f] => some (isBy n f ∧ n ≤ 4611686018427387900, .str (digestL (bytesOf n f)))
  | _ => none
theorem conDigest : Con pg 58 ckDigest := by
  have hct := (ctA_ok conMixed (ctA_ok conHex (ctN_ok _)))
  intro args q r h hq
  unfold ckDigest at h
  split at h
  · cases h
    rename_i n f
    refine w58 (fun _ => false) [] rfl hct rfl rfl ?_
    push_cast (config := { maxSteps := 10000000 })
    exact ⟨hq, mix_b _, rfl⟩
  · cases h
attribute [push_cast] ckDigest
theorem conDigest2 : Con pg 85 ckDigest := by
  have hct := ctN_ok pg
  intro args q r h hq
  unfold ckDigest at h
  split at h
  · cases h
    rename_i n f
    refine pcall_args (args' := [.sl (bytesOf n f).length (byF (bytesOf n f))]) ⟨isBy.vle hq.1, trivial⟩ ?_
    have h1 : (bytesOf n f).length ≤ 4611686018427387900 := by rw [bytesOf_len]; exact hq.2
    generalize bytesOf n f = b at h1 ⊢
    refine w85 (fun _ => false) [] rfl hct rfl rfl ?_
    push_cast (config := { maxSteps := 10000000 })
    have hstep : ∀ i, i < b.length → bitsI BinOp.xor IntKind.u64 (mixL (b.take i)) (((b.getD i 0).toNat : Int) % 18446744073709551616) * 1099511628211 % 18446744073709551616 = mixL (b.take (i + 1)) := fun i hi => by
      rw [takeG (d := 0) hi, mixL_snoc]; rfl
    refine LoopW.adj ⟨hct, fol⟩ (by kernel_rfl) [] (fun i : Nat => [(0, .sl b.length (byF b)), (3, .int .u64 (mixL (b.take i))), (4, .int .i64 i)]) (fun _ => []) (fun i => i ≤ b.length) (fun i => b.length - i) 0 ?_ fun i hi => ?_
    · push_cast (config := { maxSteps := 10000000 })
      exact ⟨Nat.zero_le _, rfl⟩
    · push_cast (config := { maxSteps := 10000000 })
      refine ⟨fun h => ?_, fun h => ?_⟩
      · exact ⟨h, ⟨by omega, by omega⟩, i + 1, by omega, by omega, hstep i h, by omega⟩
      obtain rfl : i = b.length := by omega
      rw [List.take_length]
      have hm := mix_b b
      unfold digestL
      generalize mixL b = m at hm ⊢
      refine LoopW.adj ⟨hct, fol⟩ (by kernel_rfl) [] (fun t : Nat => [(3, .int .u64 m), (5, .str ((hex16 m).take t)), (6, .int .i64 (60 - 4 * t))]) (fun _ => []) (fun t => t ≤ 16) (fun t => 16 - t) 0 ?_ fun t ht => ?_
      · push_cast (config := { maxSteps := 10000000 })
      · push_cast (config := { maxSteps := 10000000 })
        refine ⟨fun h => ?_, fun h => by rw [List.take_of_length_le (by rw [hex16_len]; omega)]⟩
        have hd := div16 hm.1 hm.2 (15 - t)
        have hs : m.fdiv (2 ^ min (60 - 4 * (t : Int)).toNat IntKind.u64.bits) = m / 16 ^ (15 - t) := by
          rw [show min (60 - 4 * (t : Int)).toNat IntKind.u64.bits = 4 * (15 - t) by show min _ 64 = _; omega, Int.pow_mul, show ((2 : Int) ^ 4) = 16 from rfl, Int.fdiv_eq_ediv_of_nonneg _ (Int.le_of_lt (Int.pow_pos (by omega)))]
        rw [hs, hex16_len]
        have hg : (hex16 m).getD t 0 = hexD (m / 16 ^ (15 - t)) := by
          unfold hex16 hexD
          rw [List.getD_eq_getElem?_getD, List.getElem?_map, List.getElem?_range (by omega)]; rfl
        have ht' := takeG (d := 0) (s := hex16 m) (k := t) (by rw [hex16_len]; omega)
        rw [hg] at ht'
        generalize m / 16 ^ (15 - t) = D at hd ht' ⊢
        have e1 : (D % 16 + 1) % 18446744073709551616 = D % 16 + 1 := by omega
        rw [e1]
        have e2 : (D % 16 + 1).toNat - (D % 16).toNat = 1 := by omega
        rw [e2]
        have e3 : List.take 1 (List.drop (D % 16).toNat [48, 49, 50, 51, 52, 53, 54, 55, 56, 57, 97, 98, 99, 100, 101, 102]) = [hexD D] := by
          have hk : (D % 16).toNat < hexT.length := by show _ < 16; omega
          rw [show ([48, 49, 50, 51, 52, 53, 54, 55, 56, 57, 97, 98, 99, 100, 101, 102] : List UInt8) = hexT from rfl, dropG (d := 0) hk]
          rfl
        rw [e3]
        exact ⟨h, hd.1, ⟨⟨by omega, by omega⟩, ⟨by omega, by omega⟩, by omega⟩, by omega, ⟨by omega, by omega⟩, t + 1, by omega, by omega, ht'.symm, by omega⟩
  · cases h

/- the closure of record.write: a line behind the bytes; the bytes' cell is block 2, the row of bytes block 12 -/
def catL (L a v : List UInt8) : List UInt8 := L ++ lnB2 a v
theorem catL_len (L a v : List UInt8) : (catL L a v).length = L.length + a.length + v.length + 4 := by simp [catL, lnB2]; omega
def ckLineK : List V → List Blk → Option (Prop × V × List Blk)
  | [.str a, .str v, .ptr 2 0], [.cells [.vec 12 n], .vec 1 k g] => some (k = n ∧ isBy n g ∧ n ≤ 100000000 ∧ a.length ≤ 100000000 ∧ v.length ≤ 100000000, .tup [], [.cells [.vec 12 (catL (bytesOf n g) a v).length], .vec 1 (catL (bytesOf n g) a v).length (byF (catL (bytesOf n g) a v))])
  | _, _ => none
def ckLine6 : Cf := ⟨fun | [_, _, .ptr 2 _] => [2, 12] | _ => [], ckLineK⟩
theorem conLine6 : FCon pg 55 ckLine6 := by
  have hct := ctN_ok pg
  intro args bs q r bs' h hq
  replace h : ckLineK args bs = some (q, r, bs') := h
  unfold ckLineK at h
  split at h
  · cases h
    rename_i a v n k g
    refine ⟨rfl, Nat.le_refl _, ?_⟩
    obtain ⟨rfl, hg, hk, ha, hv⟩ := hq
    show FCall pg 55 [.str a, .str v, .ptr 9002 0] [(9002, .cells [.vec 9012 k]), (9012, .vec 1 k fun i => V.shift (g i))] (.tup []) [(9002, .cells [.vec 9012 (catL (bytesOf k g) a v).length]), (9012, .vec 1 (catL (bytesOf k g) a v).length (byF (catL (bytesOf k g) a v)))]
    refine fcall_blk (hm := [(9002, .cells [.vec 9012 k]), (9012, .vec 1 k (byF (bytesOf k g)))]) ⟨rfl, ⟨⟨rfl, rfl⟩, trivial⟩, rfl, ⟨rfl, rfl, fun j hj => by show V.shift (g j) = _; rw [hg.2 j hj]; rfl⟩, trivial⟩ ?_
    have hl := bytesOf_len k g
    generalize bytesOf k g = b at hl ⊢
    subst hl
    refine fw55 (fun _ => false) [] rfl hct rfl (by simp) (by simp [hlIn, idsIn, Blk.menIn, V.menInL, V.menIn, V.flat, byF, lsF]) (by simp [V.menIn, V.menInL, idsIn]) ?_
    push_cast (config := { maxSteps := 10000000 })
    have hll : (lnB2 a v).length = a.length + 2 + v.length + 2 := by simp [lnB2]; omega
    have hcl := catL_len b a v
    have app := ByI.app (ByI.by b) (ByI.by (lnB2 a v)) rfl
    rw [hll] at app
    exact ⟨by omega, by omega, by omega, ⟨by omega, by omega⟩, by omega, by omega, app.2⟩
  · cases h
@[push_cast] theorem line6_ids (x y : V) (o : Nat) : ckLine6.ids [x, y, .ptr 2 o] = [2, 12] := rfl
@[push_cast] theorem line6_k (a v : List UInt8) (n k : Nat) (g : Nat → V) : ckLine6.k [.str a, .str v, .ptr 2 0] [.cells [.vec 12 n], .vec 1 k g] = some (k = n ∧ isBy n g ∧ n ≤ 100000000 ∧ a.length ≤ 100000000 ∧ v.length ≤ 100000000, .tup [], [.cells [.vec 12 (catL (bytesOf n g) a v).length], .vec 1 (catL (bytesOf n g) a v).length (byF (catL (bytesOf n g) a v))]) := rfl
@[push_cast] theorem vle_fn6 (f : Fn) (a b : List V) : vle (.fn f a b) (.fn f a b) = True := eq_true rfl
@[push_cast] theorem kept_by : bytesOf 8 (byF [75, 69, 80, 84, 47, 49, 13, 10]) = [75, 69, 80, 84, 47, 49, 13, 10] := rfl
@[push_cast] theorem kept_is : isBy 8 (byF [75, 69, 80, 84, 47, 49, 13, 10]) = True := eq_true (isBy_by [75, 69, 80, 84, 47, 49, 13, 10])
theorem date_le {n : Int} (h0 : 0 ≤ n) (h1 : n ≤ 253402300799) : (dateTextL n).length ≤ 6000 := by
  have h0 : 0 ≤ n / 86400 ∧ n / 86400 ≤ 2932896 := by omega
  have b := date_b h0.1 h0.2
  have l1 := wdN_b ((n / 86400 + 3) % 7).toNat
  have l2 := mnN_b (monthI (n / 86400) - 1).toNat
  have l3 := paddedL_len (n := n / 86400 - daysI (yearI (n / 86400)) (monthI (n / 86400)) + 1) (k := 2) (by omega) (by omega) (by omega) (by omega)
  have l4 := paddedL_len (n := yearI (n / 86400)) (k := 4) (by omega) (by omega) (by omega) (by omega)
  have l5 := paddedL_len (n := n % 86400 / 3600) (k := 2) (by omega) (by omega) (by omega) (by omega)
  have l6 := paddedL_len (n := n % 86400 / 60 % 60) (k := 2) (by omega) (by omega) (by omega) (by omega)
  have l7 := paddedL_len (n := n % 86400 % 60) (k := 2) (by omega) (by omega) (by omega) (by omega)
  unfold dateTextL
  simp only [List.length_append, List.length_cons, List.length_nil]
  omega
theorem kindW_le (k : Nat) : (kindW.getD k []).length ≤ 7 := by
  match k with
  | 0 | 1 | 2 | 3 | 4 => decide
  | k + 5 => simp [kindW]
theorem name_le {s : List UInt8} (h : nameL s = true) : s.length ≤ 40 := by
  simp only [nameL, Bool.and_eq_true, decide_eq_true_eq] at h; exact h.1.1.2
theorem target_le {s : List UInt8} (h : targetL s = true) : s.length ≤ 2000 := by
  simp only [targetL, Bool.and_eq_true, decide_eq_true_eq] at h; exact h.1.2
theorem rec_sz {r : Rcd} (h : checkRecL r = 0) : r.id.length ≤ 40 ∧ r.ow.length ≤ 40 ∧ r.ke.length ≤ 2000 ∧ (dateTextL r.ti).length ≤ 6000 ∧ (headsB r.hd).length ≤ 104400 ∧ r.bd.length ≤ 200000 ∧ r.hd.length ≤ 30 := by
  obtain ⟨h1, h2, h3, h4, h5, h6, h7, h8, h9, h10⟩ := rec_ok h
  refine ⟨name_le h3, ?_, target_le h7, date_le h5 h6, heads_le h9, h10, h8⟩
  rcases h4 with h4 | h4
  · rw [h4]; simp
  · exact name_le h4
theorem recP_ow {r : Rcd} (h : ¬ r.ow = []) : catL (catL (catL (catL (catL [75, 69, 80, 84, 47, 49, 13, 10] [105, 100] r.id) [111, 102] r.ow) [107, 105, 110, 100] (kindW.getD (r.ki - 1).toNat [])) [100, 97, 116, 101] (dateTextL r.ti)) [107, 101, 121] r.ke = recP r := by
  unfold recP; rw [if_neg h]; rfl
theorem recP_no {r : Rcd} (h : r.ow = []) : catL (catL (catL (catL [75, 69, 80, 84, 47, 49, 13, 10] [105, 100] r.id) [107, 105, 110, 100] (kindW.getD (r.ki - 1).toNat [])) [100, 97, 116, 101] (dateTextL r.ti)) [107, 101, 121] r.ke = recP r := by
  unfold recP; rw [if_pos h, List.append_nil]; rfl
theorem recP_le {r : Rcd} (h : checkRecL r = 0) : (recP r).length ≤ 10000 := by
  obtain ⟨z1, z2, z3, z4, z5, z6, z7⟩ := rec_sz h
  have zk := kindW_le (r.ki - 1).toNat
  by_cases e : r.ow = []
  · rw [← recP_no e]; simp only [catL_len, List.length_cons, List.length_nil]; omega
  · rw [← recP_ow e]; simp only [catL_len, List.length_cons, List.length_nil]; omega
def ckWrite : Ck
  | [.nilsl, x] => some (isC cRec x ∧ recOk (cRec.dec x) ∧ checkRecL (cRec.dec x) = 0, .sl (recB (cRec.dec x)).length (byF (recB (cRec.dec x))))
  | _ => none
theorem conWrite : Con pg 29 ckWrite := by
  have hct := (ctF_ok conLine6 (ctA_ok conKinds (ctA_ok conDateText (ctA_ok conItoa (ctA_ok conDigest (ctN_ok _))))))
  intro args q r h hq
  unfold ckWrite at h
  split at h
  · cases h
    rename_i x
    refine pcall_args (args' := [.nilsl, cRec.enc (cRec.dec x)]) ⟨VLe.refl _, hq.1, trivial⟩ ?_
    obtain ⟨-, ha, hc⟩ := hq
    generalize cRec.dec x = r at ha hc ⊢
    refine w29 (fun d => decide (d = 10006)) [.frz 12] rfl hct rfl rfl ?_
    push_cast (config := { maxSteps := 10000000 })
    obtain ⟨z1, z2, z3, z4, z5, z6, z7⟩ := rec_sz hc
    obtain ⟨y1, y2, y3, y4, y5, y6, y7, y8, y9, y10⟩ := rec_ok hc
    have zk := kindW_le (r.ki - 1).toNat
    have zp := recP_le hc
    have c8 : ([75, 69, 80, 84, 47, 49, 13, 10] : List UInt8).length = 8 := rfl
    have c2 : ([105, 100] : List UInt8).length = 2 := rfl
    rw [if_pos ⟨y5, y6⟩]
    refine ⟨by omega, fun how => ?_, fun how => ?_⟩
    · have hP := recP_ow how
      refine ⟨⟨by simp only [catL_len, List.length_cons, List.length_nil]; omega, by omega⟩, ⟨by omega, by omega⟩, ⟨by omega, by omega⟩, ⟨by simp only [catL_len, List.length_cons, List.length_nil]; omega, by omega⟩, ⟨by omega, by omega⟩, ⟨by simp only [catL_len, List.length_cons, List.length_nil]; omega, by omega⟩, ⟨by simp only [catL_len, List.length_cons, List.length_nil]; omega, by omega⟩, ?_⟩
      generalize catL (catL (catL (catL (catL [75, 69, 80, 84, 47, 49, 13, 10] [105, 100] r.id) [111, 102] r.ow) [107, 105, 110, 100] (kindW.getD (r.ki - 1).toNat [])) [100, 97, 116, 101] (dateTextL r.ti)) [107, 101, 121] r.ke = P at hP ⊢
      refine LoopW.adj ⟨hct, fol⟩ (by kernel_rfl) [] (fun t : Nat × List UInt8 => [(2, .ptr 2 0), (3, .ptr 3 0), (5, .fn (.func 55) [] [.ptr 2 0]), (46, .sl r.hd.length (lsF cHd r.hd)), (47, .int .i64 r.hd.length), (48, .int .i64 t.1)]) (fun t => [(2, .cells [.vec 12 t.2.length]), (12, .vec 1 t.2.length (byF t.2)), (3, .cells [.int .i64 r.ki, .str r.id, .str r.ow, .int .i64 r.ti, .str r.ke, .sl r.hd.length (lsF cHd r.hd), .sl r.bd.length (byF r.bd)])]) (fun t => t.1 ≤ r.hd.length ∧ t.2 ++ headsB (r.hd.drop t.1) = recP r ++ headsB r.hd) (fun t => r.hd.length - t.1) (0, P) ?_ fun t ht => ?_
      · push_cast (config := { maxSteps := 10000000 })
        exact ⟨Nat.zero_le _, congrArg (· ++ headsB r.hd) hP⟩
      · obtain ⟨i, o⟩ := t
        obtain ⟨i1, i2⟩ : i ≤ r.hd.length ∧ o ++ headsB (r.hd.drop i) = recP r ++ headsB r.hd := ht
        have hl := congrArg List.length i2
        simp only [List.length_append] at hl
        push_cast (config := { maxSteps := 10000000 })
        refine ⟨fun h => ?_, fun h => ?_⟩
        · have e := dropG (d := ⟨[], []⟩) h
          rw [e, headsB] at i2 hl
          have hx : (headB (r.hd.getD i ⟨[], []⟩)).length = (r.hd.getD i ⟨[], []⟩).name.length + 2 + (r.hd.getD i ⟨[], []⟩).value.length + 2 := by simp [headB]; omega
          simp only [List.length_append] at hl
          exact ⟨h, ⟨by omega, by omega, by omega⟩, ⟨by omega, by omega⟩, (i + 1, catL o (r.hd.getD i ⟨[], []⟩).name (r.hd.getD i ⟨[], []⟩).value), ⟨by show i + 1 ≤ r.hd.length; omega, by rw [← i2]; simp [catL, lnB2, headB]⟩, by show r.hd.length - (i + 1) < r.hd.length - i; omega, by show (i : Int) + 1 = ((i + 1 : Nat) : Int); omega, rfl, rfl, fun _ _ => rfl⟩
        · rw [List.drop_eq_nil_of_le (by omega)] at i2 hl
          simp only [headsB, List.append_nil, List.length_nil, Nat.add_zero] at i2 hl
          have hi6 := itoa_len (n := r.bd.length) (by omega)
          have hdg : (digestL r.bd).length = 16 := hex16_len _
          have hq1 := catL_len o [108, 101, 110, 103, 116, 104] (Lib.itoa r.bd.length)
          have hq2 := catL_len (catL o [108, 101, 110, 103, 116, 104] (Lib.itoa r.bd.length)) [100, 105, 103, 101, 115, 116] (digestL r.bd)
          have cl1 : ([108, 101, 110, 103, 116, 104] : List UInt8).length = 6 := rfl
          have cl2 : ([100, 105, 103, 101, 115, 116] : List UInt8).length = 6 := rfl
          have eq : catL (catL o [108, 101, 110, 103, 116, 104] (Lib.itoa r.bd.length)) [100, 105, 103, 101, 115, 116] (digestL r.bd) ++ [13, 10] ++ r.bd ++ [13, 10, 13, 10] = recB r := by
            rw [i2]; simp [recB, recQ, catL]
          generalize catL (catL o [108, 101, 110, 103, 116, 104] (Lib.itoa r.bd.length)) [100, 105, 103, 101, 115, 116] (digestL r.bd) = Q at hq2 eq ⊢
          have app : ByI (Q.length + 2 + r.bd.length + 4) (appF (Q.length + 2 + r.bd.length) (appF (Q.length + 2) (appF Q.length (byF Q) (byF [13, 10])) (byF r.bd)) (byF [13, 10, 13, 10])) (recB r) := (ByI.app (ByI.app (ByI.app (ByI.by Q) (ByI.by [13, 10]) rfl) (ByI.by r.bd) rfl) (ByI.by [13, 10, 13, 10]) rfl).eq eq
          exact ⟨⟨by omega, by omega⟩, ⟨by omega, by omega⟩, by omega, ⟨by omega, by omega⟩, ⟨by omega, by omega⟩, ⟨by omega, by omega⟩, ⟨by omega, by omega⟩, app.pure, app.1, app.2⟩
    · have hP := recP_no how
      refine ⟨⟨by omega, by omega⟩, ⟨by omega, by omega⟩, ⟨by simp only [catL_len, List.length_cons, List.length_nil]; omega, by omega⟩, ⟨by omega, by omega⟩, ⟨by simp only [catL_len, List.length_cons, List.length_nil]; omega, by omega⟩, ⟨by simp only [catL_len, List.length_cons, List.length_nil]; omega, by omega⟩, ?_⟩
      generalize catL (catL (catL (catL [75, 69, 80, 84, 47, 49, 13, 10] [105, 100] r.id) [107, 105, 110, 100] (kindW.getD (r.ki - 1).toNat [])) [100, 97, 116, 101] (dateTextL r.ti)) [107, 101, 121] r.ke = P at hP ⊢
      refine LoopW.adj ⟨hct, fol⟩ (by kernel_rfl) [] (fun t : Nat × List UInt8 => [(2, .ptr 2 0), (3, .ptr 3 0), (5, .fn (.func 55) [] [.ptr 2 0]), (46, .sl r.hd.length (lsF cHd r.hd)), (47, .int .i64 r.hd.length), (48, .int .i64 t.1)]) (fun t => [(2, .cells [.vec 12 t.2.length]), (12, .vec 1 t.2.length (byF t.2)), (3, .cells [.int .i64 r.ki, .str r.id, .str r.ow, .int .i64 r.ti, .str r.ke, .sl r.hd.length (lsF cHd r.hd), .sl r.bd.length (byF r.bd)])]) (fun t => t.1 ≤ r.hd.length ∧ t.2 ++ headsB (r.hd.drop t.1) = recP r ++ headsB r.hd) (fun t => r.hd.length - t.1) (0, P) ?_ fun t ht => ?_
      · push_cast (config := { maxSteps := 10000000 })
        exact ⟨Nat.zero_le _, congrArg (· ++ headsB r.hd) hP⟩
      · obtain ⟨i, o⟩ := t
        obtain ⟨i1, i2⟩ : i ≤ r.hd.length ∧ o ++ headsB (r.hd.drop i) = recP r ++ headsB r.hd := ht
        have hl := congrArg List.length i2
        simp only [List.length_append] at hl
        push_cast (config := { maxSteps := 10000000 })
        refine ⟨fun h => ?_, fun h => ?_⟩
        · have e := dropG (d := ⟨[], []⟩) h
          rw [e, headsB] at i2 hl
          have hx : (headB (r.hd.getD i ⟨[], []⟩)).length = (r.hd.getD i ⟨[], []⟩).name.length + 2 + (r.hd.getD i ⟨[], []⟩).value.length + 2 := by simp [headB]; omega
          simp only [List.length_append] at hl
          exact ⟨h, ⟨by omega, by omega, by omega⟩, ⟨by omega, by omega⟩, (i + 1, catL o (r.hd.getD i ⟨[], []⟩).name (r.hd.getD i ⟨[], []⟩).value), ⟨by show i + 1 ≤ r.hd.length; omega, by rw [← i2]; simp [catL, lnB2, headB]⟩, by show r.hd.length - (i + 1) < r.hd.length - i; omega, by show (i : Int) + 1 = ((i + 1 : Nat) : Int); omega, rfl, rfl, fun _ _ => rfl⟩
        · rw [List.drop_eq_nil_of_le (by omega)] at i2 hl
          simp only [headsB, List.append_nil, List.length_nil, Nat.add_zero] at i2 hl
          have hi6 := itoa_len (n := r.bd.length) (by omega)
          have hdg : (digestL r.bd).length = 16 := hex16_len _
          have hq1 := catL_len o [108, 101, 110, 103, 116, 104] (Lib.itoa r.bd.length)
          have hq2 := catL_len (catL o [108, 101, 110, 103, 116, 104] (Lib.itoa r.bd.length)) [100, 105, 103, 101, 115, 116] (digestL r.bd)
          have cl1 : ([108, 101, 110, 103, 116, 104] : List UInt8).length = 6 := rfl
          have cl2 : ([100, 105, 103, 101, 115, 116] : List UInt8).length = 6 := rfl
          have eq : catL (catL o [108, 101, 110, 103, 116, 104] (Lib.itoa r.bd.length)) [100, 105, 103, 101, 115, 116] (digestL r.bd) ++ [13, 10] ++ r.bd ++ [13, 10, 13, 10] = recB r := by
            rw [i2]; simp [recB, recQ, catL]
          generalize catL (catL o [108, 101, 110, 103, 116, 104] (Lib.itoa r.bd.length)) [100, 105, 103, 101, 115, 116] (digestL r.bd) = Q at hq2 eq ⊢
          have app : ByI (Q.length + 2 + r.bd.length + 4) (appF (Q.length + 2 + r.bd.length) (appF (Q.length + 2) (appF Q.length (byF Q) (byF [13, 10])) (byF r.bd)) (byF [13, 10, 13, 10])) (recB r) := (ByI.app (ByI.app (ByI.app (ByI.by Q) (ByI.by [13, 10]) rfl) (ByI.by r.bd) rfl) (ByI.by [13, 10, 13, 10]) rfl).eq eq
          exact ⟨⟨by omega, by omega⟩, ⟨by omega, by omega⟩, by omega, ⟨by omega, by omega⟩, ⟨by omega, by omega⟩, ⟨by omega, by omega⟩, ⟨by omega, by omega⟩, app.pure, app.1, app.2⟩
  · cases h
attribute [push_cast] ckWrite

@[push_cast] theorem vle_map (i : Nat) : vle (.map i) (.map i) = True := eq_true rfl
/- names that were seen, in a map -/
def seenM (s : List (List UInt8)) : MK → Option V
  | .str x => if s.contains x = true then some (.bool true) else none
  | _ => none
@[push_cast] theorem asB_seen (s : List (List UInt8)) (x : List UInt8) : asB false (seenM s (.str x)) = s.contains x := by
  simp only [seenM]
  by_cases h : s.contains x = true
  · rw [if_pos h]; exact h.symm
  · rw [if_neg h]; show false = _; simpa using h
@[push_cast] theorem okB_seen (s : List (List UInt8)) (k : MK) : okB (seenM s k) = True := by
  refine eq_true ?_
  unfold seenM
  split
  · split <;> exact trivial
  · exact trivial
theorem putM_seen (s : List (List UInt8)) (x : List UInt8) (l : MK) : putM (seenM s) (.str x) (.bool true) l = seenM (s ++ [x]) l := by
  unfold putM
  by_cases h : l = .str x
  · subst h
    rw [decide_eq_true rfl]
    simp only [cond_true, seenM]
    rw [if_pos (by simp)]
  · rw [decide_eq_false h]
    simp only [cond_false]
    cases l with
    | int k n => rfl
    | str y =>
      have hy : y ≠ x := fun e => h (by rw [e])
      simp only [seenM]
      have : (s ++ [x]).contains y = s.contains y := by
        rw [Bool.eq_iff_iff]; simp [hy]
      rw [this]
theorem seen_nil : ∀ l, (none : Option V) = seenM [] l := fun l => by cases l <;> rfl
/-- the error of records -/
def cfGo : List (List UInt8) → Int → List Rcd → Int
  | _, m, [] => if 500000 < m then 2 else 0
  | s, m, r :: t => if ¬ checkRecL r = 0 then checkRecL r else if s.contains r.id = true then 7 else cfGo (s ++ [r.id]) (m + (recB r).length) t
def checkFileL (l : List Rcd) : Int := if 1000 < l.length then 2 else cfGo [] 0 l
def recsOk (l : List Rcd) : Prop := ∀ a ∈ l, recOk a
theorem recsOk_at {l : List Rcd} (h : recsOk l) {i : Nat} (hi : i < l.length) : recOk (l.getD i noRec) := by
  rw [List.getD_eq_getElem?_getD, List.getElem?_eq_getElem hi]; exact h _ (List.getElem_mem hi)
theorem recB_le {r : Rcd} (h : checkRecL r = 0) : (recB r).length ≤ 400000 := by
  obtain ⟨z1, z2, z3, z4, z5, z6, z7⟩ := rec_sz h
  have zp := recP_le h
  have hi6 := itoa_len (n := r.bd.length) (by omega)
  have hdg : (digestL r.bd).length = 16 := hex16_len _
  simp only [recB, recQ, lnB2, List.length_append, List.length_cons, List.length_nil]
  omega
/-- the bytes of records -/
def fileB : List Rcd → List UInt8
  | [] => []
  | r :: t => recB r ++ fileB t
theorem fileB_app (a b : List Rcd) : fileB (a ++ b) = fileB a ++ fileB b := by
  induction a with
  | nil => rfl
  | cons r t ih => simp only [List.cons_append, fileB, ih, List.append_assoc]
theorem cfGo_ok : ∀ {l : List Rcd} {s : List (List UInt8)} {m : Int}, cfGo s m l = 0 → (∀ r ∈ l, checkRecL r = 0) ∧ m + (fileB l).length ≤ 500000
  | [], s, m, h => by
    rw [cfGo] at h
    split at h
    · omega
    · exact ⟨fun r hr => (by cases hr), by simp only [fileB, List.length_nil]; omega⟩
  | r :: t, s, m, h => by
    rw [cfGo] at h
    by_cases h1 : checkRecL r = 0
    · rw [if_neg (fun x => x h1)] at h
      by_cases h2 : s.contains r.id = true
      · rw [if_pos h2] at h; omega
      · rw [if_neg h2] at h
        obtain ⟨a, b⟩ := cfGo_ok h
        refine ⟨fun x hx => ?_, by simp only [fileB, List.length_append]; omega⟩
        rcases List.mem_cons.1 hx with rfl | hx
        · exact h1
        · exact a x hx
    · rw [if_pos h1] at h; exact absurd h h1
theorem file_ok {l : List Rcd} (h : checkFileL l = 0) : (∀ r ∈ l, checkRecL r = 0) ∧ (fileB l).length ≤ 500000 ∧ l.length ≤ 1000 := by
  unfold checkFileL at h
  split at h
  · omega
  · obtain ⟨a, b⟩ := cfGo_ok h
    exact ⟨a, by omega, by omega⟩
@[push_cast] theorem lsF_rec (l : List Rcd) (i : Nat) : lsF cRec l i = .agg [.int .i64 (l.getD i noRec).ki, .str (l.getD i noRec).id, .str (l.getD i noRec).ow, .int .i64 (l.getD i noRec).ti, .str (l.getD i noRec).ke, .sl (l.getD i noRec).hd.length (lsF cHd (l.getD i noRec).hd), .sl (l.getD i noRec).bd.length (byF (l.getD i noRec).bd)] := rfl
theorem cf_app {l : List Rcd} {i : Nat} (h : i < l.length) : (l.take (i + 1)).map Rcd.id = (l.take i).map Rcd.id ++ [(l.getD i noRec).id] := by
  rw [takeG (d := noRec) h, List.map_append]; rfl

/- files of records -/
def decFile : V → List Rcd
  | .sl n f => lsOf cRec n f
  | _ => []
def cFile : Cod (List Rcd) := ⟨fun l => .sl l.length (lsF cRec l), decFile, [], fun l => lsOf_ls l⟩
@[push_cast] theorem enc_file (l : List Rcd) : cFile.enc l = .sl l.length (lsF cRec l) := rfl
@[push_cast] theorem dec_file (n : Nat) (f : Nat → V) : cFile.dec (.sl n f) = lsOf cRec n f := rfl
@[push_cast] theorem lsF_file (l : List (List Rcd)) (i : Nat) : lsF cFile l i = .sl (l.getD i []).length (lsF cRec (l.getD i [])) := rfl
/-- records divided: the closed files, the open one, and its length -/
def divGo (m : Int) : List (List Rcd) → List Rcd → Int → List Rcd → List (List Rcd)
  | g, c, _, [] => g ++ [c]
  | g, c, k, r :: t => if m < k + (recB r).length then divGo m (g ++ [c]) [r] (recB r).length t else divGo m g (c ++ [r]) (k + (recB r).length) t
def divOf (m : Int) : List Rcd → List (List Rcd)
  | [] => []
  | r :: t => divGo m [] [r] (recB r).length t
def divL (l : List Rcd) (m : Int) : List (List Rcd) := if checkFileL l = 0 ∧ 1 ≤ m ∧ m ≤ 500000 then divOf m l else []
def divE (l : List Rcd) (m : Int) : Int := if checkFileL l = 0 then (if 1 ≤ m ∧ m ≤ 500000 then 0 else 1) else checkFileL l
theorem fileB_len1 (r : Rcd) : (fileB [r]).length = (recB r).length := by simp [fileB]
theorem div_flat (m : Int) : ∀ (t : List Rcd) (g : List (List Rcd)) (c : List Rcd) (k : Int), (divGo m g c k t).flatten = g.flatten ++ c ++ t
  | [], g, c, k => by simp [divGo]
  | r :: t, g, c, k => by
    rw [divGo]
    split
    · rw [div_flat]; simp
    · rw [div_flat]; simp
theorem divOf_flat (m : Int) (l : List Rcd) : (divOf m l).flatten = l := by
  cases l with
  | nil => rfl
  | cons r t => show (divGo m [] [r] _ t).flatten = _; rw [div_flat]; simp
def fitF (m : Int) (c : List Rcd) : Prop := c ≠ [] ∧ (((fileB c).length : Int) ≤ m ∨ c.length ≤ 1)
theorem div_fit (m : Int) : ∀ (t : List Rcd) (g : List (List Rcd)) (c : List Rcd) (k : Int), (∀ x ∈ g, fitF m x) → fitF m c → k = ((fileB c).length : Int) → ∀ x ∈ divGo m g c k t, fitF m x
  | [], g, c, k, hg, hc, hk => by
    intro x hx
    rw [divGo, List.mem_append, List.mem_singleton] at hx
    rcases hx with h | rfl
    · exact hg x h
    · exact hc
  | r :: t, g, c, k, hg, hc, hk => by
    rw [divGo]
    split
    · refine div_fit m t _ _ _ (fun x hx => ?_) ⟨by simp, .inr (by simp)⟩ (by rw [fileB_len1])
      rcases List.mem_append.1 hx with h | h
      · exact hg x h
      · rw [List.mem_singleton.1 h]; exact hc
    · refine div_fit m t g _ _ hg ⟨by simp, .inl ?_⟩ ?_
      · rw [fileB_app, List.length_append, fileB_len1]; omega
      · rw [fileB_app, List.length_append, fileB_len1]; omega
theorem divOf_fit (m : Int) (l : List Rcd) : ∀ x ∈ divOf m l, fitF m x := by
  cases l with
  | nil => intro x hx; cases hx
  | cons r t => exact div_fit m t [] [r] _ (fun x hx => by cases hx) ⟨by simp, .inr (by simp)⟩ (by rw [fileB_len1])
/- a piece of a right file is right -/
theorem cfGo_len : ∀ {l : List Rcd} {s : List (List UInt8)} {m : Int}, cfGo s m l = 0 → ∀ {s' : List (List UInt8)} {m' : Int}, (∀ x ∈ s', x ∈ s) → m' ≤ m → cfGo s' m' l = 0
  | [], s, m, h, s', m', hs, hm => by
    rw [cfGo] at h ⊢
    split at h
    · omega
    · rw [if_neg (by omega)]
  | r :: t, s, m, h, s', m', hs, hm => by
    rw [cfGo] at h ⊢
    by_cases h1 : checkRecL r = 0
    · rw [if_neg (fun x => x h1)] at h ⊢
      by_cases h2 : s.contains r.id = true
      · rw [if_pos h2] at h; omega
      · rw [if_neg h2] at h
        rw [if_neg (fun x => h2 (by rw [List.contains_iff_mem] at x ⊢; exact hs _ x))]
        exact cfGo_len h (fun x hx => by
          rcases List.mem_append.1 hx with a | a
          · exact List.mem_append_left _ (hs x a)
          · exact List.mem_append_right _ a) (by omega)
    · rw [if_pos h1] at h; exact absurd h h1
theorem cfGo_l : ∀ {a b : List Rcd} {s : List (List UInt8)} {m : Int}, 0 ≤ m → cfGo s m (a ++ b) = 0 → cfGo s m a = 0
  | [], b, s, m, hm, h => by
    have := (cfGo_ok h).2
    rw [cfGo, if_neg (by omega)]
  | r :: t, b, s, m, hm, h => by
    rw [List.cons_append, cfGo] at h
    rw [cfGo]
    by_cases h1 : checkRecL r = 0
    · rw [if_neg (fun x => x h1)] at h ⊢
      by_cases h2 : s.contains r.id = true
      · rw [if_pos h2] at h; omega
      · rw [if_neg h2] at h ⊢
        exact cfGo_l (by omega) h
    · rw [if_pos h1] at h; exact absurd h h1
theorem cfGo_r : ∀ {a b : List Rcd} {s : List (List UInt8)} {m : Int}, 0 ≤ m → cfGo s m (a ++ b) = 0 → cfGo [] 0 b = 0
  | [], b, s, m, hm, h => cfGo_len h (fun x hx => by cases hx) hm
  | r :: t, b, s, m, hm, h => by
    rw [List.cons_append, cfGo] at h
    by_cases h1 : checkRecL r = 0
    · rw [if_neg (fun x => x h1)] at h
      by_cases h2 : s.contains r.id = true
      · rw [if_pos h2] at h; omega
      · rw [if_neg h2] at h
        exact cfGo_r (by omega) h
    · rw [if_pos h1] at h; exact absurd h h1
theorem file_piece {a b c : List Rcd} (h : checkFileL (a ++ b ++ c) = 0) : checkFileL b = 0 := by
  unfold checkFileL at h ⊢
  split at h
  · omega
  · rename_i hl
    simp only [List.length_append] at hl
    rw [if_neg (by omega)]
    rw [List.append_assoc] at h
    have h1 := cfGo_r (by omega) h
    exact cfGo_l (by omega) h1
theorem file_part {L : List (List Rcd)} (h : checkFileL L.flatten = 0) {x : List Rcd} (hx : x ∈ L) : checkFileL x = 0 := by
  obtain ⟨a, b, rfl⟩ := List.append_of_mem hx
  refine file_piece (a := a.flatten) (c := b.flatten) ?_
  simpa using h

def ckCloneBy : Ck
  | [.sl n f] => some (isBy n f ∧ n ≤ 140737488355328, .sl n f)
  | _ => none
theorem conCloneBy : Con pg 46 ckCloneBy := by
  have hct := ctN_ok pg
  intro args q r h hq
  unfold ckCloneBy at h
  split at h
  · cases h
    rename_i n f
    by_cases hn : n = 0
    · subst hn
      refine pcall_nil1 fun a c => ?_
      refine w46 (fun d => decide (d < 9999)) [.frz 5] rfl hct rfl rfl ?_
      push_cast (config := { maxSteps := 10000000 })
      cases a
      · push_cast (config := { maxSteps := 10000000 })
      · push_cast (config := { maxSteps := 10000000 })
    · refine w46 (fun d => decide (d < 9999)) [.frz 5] rfl hct rfl rfl ?_
      push_cast (config := { maxSteps := 10000000 })
      obtain ⟨h1, h2⟩ := hq
      exact ⟨by omega, ⟨h1.flat, by omega, by omega⟩, h1.pure⟩
  · cases h
attribute [push_cast] ckCloneBy

def ckCloneHd : Ck
  | [.sl n f] => some (isLs cHd n f ∧ n ≤ 1000000000000, .sl n f)
  | _ => none
theorem conCloneHd : Con pg 45 ckCloneHd := by
  have hct := ctN_ok pg
  intro args q r h hq
  unfold ckCloneHd at h
  split at h
  · cases h
    rename_i n f
    by_cases hn : n = 0
    · subst hn
      refine pcall_nil1 fun a c => ?_
      refine w45 (fun d => decide (d < 9999)) [.frz 5] rfl hct rfl rfl ?_
      push_cast (config := { maxSteps := 10000000 })
      cases a
      · push_cast (config := { maxSteps := 10000000 })
      · push_cast (config := { maxSteps := 10000000 })
    · refine w45 (fun d => decide (d < 9999)) [.frz 5] rfl hct rfl rfl ?_
      push_cast (config := { maxSteps := 10000000 })
      obtain ⟨h1, h2⟩ := hq
      exact ⟨by omega, ⟨h1.flat (fun _ => rfl), by omega, by omega⟩, h1.pure (fun _ => rfl)⟩
  · cases h
attribute [push_cast] ckCloneHd
theorem ncall_nil1 {f : FuncId} {g : Nat → V} {r : V} {nb : Blk} (h : ∀ a c, NCall pg f [.con (.slice a 0 c)] r nb) : NCall pg f [.sl 0 g] r nb := by
  intro S vals hs hh hl hr
  match vals, hl with
  | [v], _ =>
    have h0 := hr 0 (by simp)
    simp only [List.getD_cons_zero] at h0
    obtain ⟨a, c, rfl⟩ : ∃ a c, v = .slice a 0 c := by
      cases inv_sl h0 with
      | sl0 _ a c => exact ⟨a, c, rfl⟩
      | sl _ _ b off c sz u => exact ⟨_, _, rfl⟩
    exact h a c S [.slice a 0 c] hs hh rfl fun i hi => by
      have : i = 0 := by simp at hi; omega
      subst this
      exact .pure (.con _)
def ckCloneRec : List V → Option (Prop × V × Blk)
  | [.sl n f] => some (isLs cRec n f ∧ n ≤ 1000000, .vec 8999 n, .vec 7 n f)
  | _ => none
theorem conCloneRec : NCon pg 54 ckCloneRec := by
  have hct := ctN_ok pg
  intro args q r nb h hq
  unfold ckCloneRec at h
  split at h
  · cases h
    rename_i n f
    by_cases hn : n = 0
    · subst hn
      refine ncall_nil1 fun a c => ?_
      cases a
      · refine nw54 (fun d => decide (d < 9999)) [.nv 2 8999 7 f] rfl hct rfl rfl ?_ ?_
        · simp [noIdB]
        push_cast (config := { maxSteps := 10000000 })
      · refine nw54 (fun d => decide (d < 9999)) [.ren 5 8999] rfl hct rfl rfl ?_ ?_
        · simp [noIdB]
        push_cast (config := { maxSteps := 10000000 })
    · obtain ⟨h1, h2⟩ := hq
      refine nw54 (fun d => decide (d < 9999)) [.ren 5 8999] rfl hct rfl rfl ?_ ?_
      · intro i hi; show V.noIdL (f i).flat = true; rw [h1.2 i hi]; rfl
      push_cast (config := { maxSteps := 10000000 })
      exact ⟨by omega, ⟨h1.flat (fun _ => rfl), by omega, by omega⟩, fun i hi => by rw [h1.2 i hi]; rfl⟩
  · cases h
attribute [push_cast] ckCloneRec
theorem setF_self (f : Nat → V) (i : Nat) : setF f i (f i) = f := by
  funext j
  unfold setF
  by_cases e : j = i
  · subst e; rw [decide_eq_true rfl]; rfl
  · rw [decide_eq_false e]; rfl
def ckCopies : Ck
  | [.sl n f] => some (isLs cRec n f ∧ recsOk (lsOf cRec n f) ∧ (∀ r ∈ lsOf cRec n f, r.hd.length ≤ 1000000) ∧ n ≤ 1000000, .sl (lsOf cRec n f).length (lsF cRec (lsOf cRec n f)))
  | _ => none
theorem conCopies : Con pg 28 ckCopies := by
  have hct := (ctA_ok conCloneHd (ctA_ok conCloneBy (ctW_ok conCloneRec (ctN_ok _))))
  intro args q r h hq
  unfold ckCopies at h
  split at h
  · cases h
    rename_i n f
    refine pcall_args (args' := [.sl (lsOf cRec n f).length (lsF cRec (lsOf cRec n f))]) ⟨isLs.vle hq.1, trivial⟩ ?_
    obtain ⟨-, hl, hh, hn⟩ := hq
    have hn : (lsOf cRec n f).length ≤ 1000000 := by rw [lsOf_len]; exact hn
    generalize lsOf cRec n f = l at hl hh hn ⊢
    refine w28 (fun _ => false) [.frz 6] rfl hct rfl rfl ?_
    push_cast (config := { maxSteps := 10000000 })
    refine ⟨hn, ?_⟩
    refine LoopW.adj ⟨hct, fol⟩ (by kernel_rfl) [] (fun i : Nat => [(3, .vec 6 l.length), (8, .int .i64 l.length), (9, .int .i64 i)]) (fun _ => [(6, .vec 7 l.length (lsF cRec l))]) (fun i => i ≤ l.length) (fun i => l.length - i) 0 ?_ fun i hi => ?_
    · push_cast (config := { maxSteps := 10000000 })
      exact Nat.zero_le _
    · push_cast (config := { maxSteps := 10000000 })
      intro h
      have ok := recsOk_at hl h
      have h30 : (l.getD i noRec).hd.length ≤ 1000000 := hh _ (by rw [List.getD_eq_getElem?_getD, List.getElem?_eq_getElem h]; exact List.getElem_mem h)
      refine ⟨h, h, by omega, h, h, ok.2.2.2.2.2.1, h, h, h, h, ⟨by omega, by omega⟩, i + 1, by omega, by omega, by omega, fun k hk => ?_⟩
      have e := setF_self (lsF cRec l) i
      show setF (setF (lsF cRec l) i (lsF cRec l i)) i (reV (setF (lsF cRec l) i (lsF cRec l i) i) (setR (setF (lsF cRec l) i (lsF cRec l i) i).flat 6 [V.sl (l.getD i noRec).bd.length (byF (l.getD i noRec).bd)])) k = lsF cRec l k
      rw [e]
      exact congrFun e k
  · cases h
attribute [push_cast] ckCopies

abbrev clR (r : Rcd) : Prop := r.ow = r.id ∨ (r.ow = [] ∧ (r.ki = 4 ∨ r.ki = 5)) ∨ (r.ow ≠ [] ∧ r.ki = 1)
abbrev nmR (r : Rcd) : Prop := nameL r.id = true ∧ (r.ow = [] ∨ nameL r.ow = true)
section
variable {r : Rcd}
theorem cr4 (h : r.ki < 1 ∨ 5 < r.ki) : 4 = checkRecL r := by unfold checkRecL; rw [if_pos h]
theorem cr5 (a1 : ¬ (r.ki < 1 ∨ 5 < r.ki)) (h : ¬ nmR r) : 5 = checkRecL r := by unfold checkRecL; rw [if_neg a1, if_pos h]
theorem cr12 (a1 : ¬ (r.ki < 1 ∨ 5 < r.ki)) (a2 : nmR r) (h : clR r) : 12 = checkRecL r := by unfold checkRecL; rw [if_neg a1, if_neg (fun x => x a2), if_pos h]
theorem cr1 (a1 : ¬ (r.ki < 1 ∨ 5 < r.ki)) (a2 : nmR r) (a3 : ¬ clR r) (h : ¬ (0 ≤ r.ti ∧ r.ti ≤ 253402300799)) : 1 = checkRecL r := by unfold checkRecL; rw [if_neg a1, if_neg (fun x => x a2), if_neg a3, if_pos h]
theorem cr3 (a1 : ¬ (r.ki < 1 ∨ 5 < r.ki)) (a2 : nmR r) (a3 : ¬ clR r) (a4 : 0 ≤ r.ti ∧ r.ti ≤ 253402300799) (h : ¬ targetL r.ke = true) : 3 = checkRecL r := by unfold checkRecL; rw [if_neg a1, if_neg (fun x => x a2), if_neg a3, if_neg (fun x => x a4), if_pos h]
theorem cr2 (a1 : ¬ (r.ki < 1 ∨ 5 < r.ki)) (a2 : nmR r) (a3 : ¬ clR r) (a4 : 0 ≤ r.ti ∧ r.ti ≤ 253402300799) (a5 : targetL r.ke = true) (h : 30 < r.hd.length) : 2 = checkRecL r := by unfold checkRecL; rw [if_neg a1, if_neg (fun x => x a2), if_neg a3, if_neg (fun x => x a4), if_neg (fun x => x a5), if_pos h]
theorem crh (a1 : ¬ (r.ki < 1 ∨ 5 < r.ki)) (a2 : nmR r) (a3 : ¬ clR r) (a4 : 0 ≤ r.ti ∧ r.ti ≤ 253402300799) (a5 : targetL r.ke = true) (a6 : ¬ 30 < r.hd.length) (h : ¬ checkHeadsL r.hd = 0) : checkHeadsL r.hd = checkRecL r := by unfold checkRecL; rw [if_neg a1, if_neg (fun x => x a2), if_neg a3, if_neg (fun x => x a4), if_neg (fun x => x a5), if_neg a6, if_pos h]
theorem crR (a1 : ¬ (r.ki < 1 ∨ 5 < r.ki)) (a2 : nmR r) (a3 : ¬ clR r) (a4 : 0 ≤ r.ti ∧ r.ti ≤ 253402300799) (a5 : targetL r.ke = true) (a6 : ¬ 30 < r.hd.length) (a7 : checkHeadsL r.hd = 0) : checkRecL r = if ownL r.hd = true then 12 else if 200000 < r.bd.length then 2 else if 0 < r.bd.length ∧ r.ki = 4 then 3 else 0 := by unfold checkRecL; rw [if_neg a1, if_neg (fun x => x a2), if_neg a3, if_neg (fun x => x a4), if_neg (fun x => x a5), if_neg a6, if_neg (fun x => x a7)]
end
def ckCheckRec : Ck
  | [x] => some (isC cRec x ∧ recOk (cRec.dec x), .int .i64 (checkRecL (cRec.dec x)))
  | _ => none
theorem conCheckRec : Con pg 40 ckCheckRec := by
  have hct := (ctA_ok conIsName (ctA_ok conIsMoment (ctA_ok conIsKey (ctA_ok conCheckHeads (ctA_ok conOwn (ctA_ok conSmallA (ctA_ok conHasStr (ctN_ok _))))))))
  intro args q r h hq
  unfold ckCheckRec at h
  split at h
  · cases h
    rename_i x
    refine pcall_args (args' := [cRec.enc (cRec.dec x)]) ⟨hq.1, trivial⟩ ?_
    obtain ⟨-, ha⟩ := hq
    generalize cRec.dec x = r at ha ⊢
    refine w40 (fun _ => false) [] rfl hct rfl rfl ?_
    push_cast (config := { maxSteps := 10000000 })
    have q1 := ha.2.1
    have q2 := ha.2.2.1
    have q3 := ha.2.2.2.1
    refine ⟨fun h => cr4 h, fun g => ⟨by omega, fun h => ⟨h, by omega⟩, fun h => ⟨h, fun h' => ⟨h, h'⟩⟩, fun h => ?_, fun h => ?_⟩⟩
    · refine cr5 (by omega) fun x => ?_
      rcases h with h | h
      · rw [x.1] at h; cases h
      · rcases x.2 with y | y
        · exact h.1 y
        · rw [y] at h; cases h.2
    have a1 : ¬ (r.ki < 1 ∨ 5 < r.ki) := by omega
    have a2 : nmR r := ⟨h.1, by
      by_cases e : r.ow = []
      · exact .inl e
      · exact .inr (h.2 e)⟩
    refine ⟨fun e1 => ⟨fun _ => cr12 a1 a2 (.inl e1), fun x => absurd e1 x⟩, fun e1 => ⟨fun e => ⟨e, fun e' => ⟨e, e'⟩⟩, fun e2 => ⟨fun _ => cr12 a1 a2 (.inr (.inl e2)), fun x => by rcases e2.2 with y | y; exact absurd y (x e2.1).1; exact absurd y (x e2.1).2⟩, fun e2 => ⟨fun e3 => cr12 a1 a2 (.inr (.inr e3)), fun e3 => ?_⟩⟩⟩
    have a3 : ¬ clR r := fun x => by
      rcases x with x | x | x
      · exact e1 x
      · rcases x.2 with y | y
        · exact (e2 x.1).1 y
        · exact (e2 x.1).2 y
      · exact e3 x.1 x.2
    refine ⟨fun h => cr1 a1 a2 a3 (fun x => h x.1 x.2), fun a4 => ⟨by omega, fun h => cr3 a1 a2 a3 a4 (by rw [h]; simp), fun a5 => ⟨fun h => cr2 a1 a2 a3 a4 a5 (by omega), fun h6 => ⟨ha.1, fun h => crh a1 a2 a3 a4 a5 (by omega) h, fun a7 => ?_⟩⟩⟩⟩
    have hR := crR a1 a2 a3 a4 a5 (by omega) a7
    rw [hR]
    refine LoopW.adj ⟨hct, fol⟩ (by kernel_rfl) [] (fun i : Nat => [(1, .ptr 1 0), (80, .sl r.hd.length (lsF cHd r.hd)), (81, .int .i64 r.hd.length), (82, .int .i64 i)]) (fun _ => [(1, .cells [.int .i64 r.ki, .str r.id, .str r.ow, .int .i64 r.ti, .str r.ke, .sl r.hd.length (lsF cHd r.hd), .sl r.bd.length (byF r.bd)])]) (fun i => i ≤ r.hd.length ∧ ∀ j, j < i → ownW.contains (lowL (r.hd.getD j ⟨[], []⟩).name) = false) (fun i => r.hd.length - i) 0 ?_ fun i hi => ?_
    · push_cast (config := { maxSteps := 10000000 })
      exact Nat.zero_le _
    · push_cast (config := { maxSteps := 10000000 })
      obtain ⟨i1, i2⟩ := hi
      rw [show lsOf cStr 7 (lsF cStr ownW) = ownW from lsOf_ls ownW]
      refine ⟨fun h => ⟨h, (hdsOk_at ha.1 h).1, isLs_ls ownW, fun h5 => ?_, fun h5 => ⟨⟨by omega, by omega⟩, i + 1, ⟨by omega, fun j hj => ?_⟩, by omega, by omega⟩⟩, fun h => ?_⟩
      · have : ownL r.hd = true := by
          unfold ownL
          rw [List.any_eq_true]
          refine ⟨r.hd.getD i ⟨[], []⟩, ?_, h5⟩
          rw [List.getD_eq_getElem?_getD, List.getElem?_eq_getElem h]; exact List.getElem_mem h
        rw [if_pos this]
      · by_cases e : j = i
        · subst e; exact h5
        · exact i2 j (by omega)
      · have : ownL r.hd = false := by
          unfold ownL
          rw [List.any_eq_false]
          intro x hx
          obtain ⟨j, hj, rfl⟩ := List.getElem_of_mem hx
          have h5 := i2 j (by omega)
          rw [List.getD_eq_getElem?_getD, List.getElem?_eq_getElem hj] at h5
          simp only [Option.getD_some] at h5
          rw [h5]; simp
        rw [if_neg (by rw [this]; simp)]
        exact ⟨fun g => by rw [if_pos (by omega)], fun g => ⟨fun g2 => by rw [if_neg (by omega), if_pos ⟨by omega, g2.1⟩], fun g2 => by rw [if_neg (by omega), if_neg (fun x => g2 x.2 (by omega))]⟩⟩
  · cases h
attribute [push_cast] ckCheckRec
theorem conCheckRec2 : Con pg 49 ckCheckRec := by
  have hct := (ctA_ok conWithin6 (ctA_ok conIsName2 (ctA_ok conIsKey2 (ctA_ok conCheckHeads2 (ctA_ok conValues2 (ctN_ok _))))))
  intro args q r h hq
  unfold ckCheckRec at h
  split at h
  · cases h
    rename_i x
    refine pcall_args (args' := [cRec.enc (cRec.dec x)]) ⟨hq.1, trivial⟩ ?_
    obtain ⟨-, ha⟩ := hq
    generalize cRec.dec x = r at ha ⊢
    refine w49 (fun _ => false) [] rfl hct rfl rfl ?_
    push_cast (config := { maxSteps := 10000000 })
    have q1 := ha.2.1
    have q2 := ha.2.2.1
    have q3 := ha.2.2.2.1
    refine ⟨fun h => cr4 (Classical.byContradiction fun x => h (by omega) (by omega)), fun g => ⟨by omega, fun h => ⟨h, by omega⟩, fun h => ⟨h, fun h' => ⟨h, h'⟩⟩, fun h => ?_, fun h => ?_⟩⟩
    · refine cr5 (by omega) fun x => ?_
      rcases h with h | h
      · rw [x.1] at h; cases h
      · rcases x.2 with y | y
        · exact h.1 y
        · rw [y] at h; cases h.2
    have a1 : ¬ (r.ki < 1 ∨ 5 < r.ki) := by omega
    have a2 : nmR r := ⟨h.1, by
      by_cases e : r.ow = []
      · exact .inl e
      · exact .inr (h.2 e)⟩
    refine ⟨fun e => ⟨e, fun e' => ⟨e, e'⟩⟩, fun e => ⟨e, fun e' => ⟨e, e'⟩⟩, fun e => cr12 a1 a2 (by rcases e with (e | e) | e; exact .inl e; exact .inr (.inl e); exact .inr (.inr e)), fun e => ?_⟩
    have a3 : ¬ clR r := fun x => by
      rcases x with x | x | x
      · exact e.1.1 x
      · rcases x.2 with y | y
        · exact (e.1.2 x.1).1 y
        · exact (e.1.2 x.1).2 y
      · exact e.2 x.1 x.2
    refine ⟨fun h => cr1 a1 a2 a3 (fun x => h x.1 x.2), fun a4 => ⟨by omega, fun h => cr3 a1 a2 a3 a4 (by rw [h]; simp), fun a5 => ⟨fun h => cr2 a1 a2 a3 a4 a5 (by omega), fun h6 => ⟨ha.1, fun h => crh a1 a2 a3 a4 a5 (by omega) h, fun a7 => ?_⟩⟩⟩⟩
    have hR := crR a1 a2 a3 a4 a5 (by omega) a7
    rw [hR]
    refine LoopW.adj ⟨hct, fol⟩ (by kernel_rfl) [] (fun i : Nat => [(1, .ptr 1 0), (75, .sl 7 (lsF cStr ownW)), (76, .int .i64 7), (77, .int .i64 i)]) (fun _ => [(1, .cells [.int .i64 r.ki, .str r.id, .str r.ow, .int .i64 r.ti, .str r.ke, .sl r.hd.length (lsF cHd r.hd), .sl r.bd.length (byF r.bd)])]) (fun i => i ≤ 7 ∧ ∀ j, j < i → ¬ 0 < ((valuesL r.hd (ownW.getD j [])).length : Int)) (fun i => 7 - i) 0 ?_ fun i hi => ?_
    · push_cast (config := { maxSteps := 10000000 })
      intro i hi
      rcases (by omega : i = 0 ∨ i = 1 ∨ i = 2 ∨ i = 3 ∨ i = 4 ∨ i = 5 ∨ i = 6) with rfl | rfl | rfl | rfl | rfl | rfl | rfl <;> rfl
    · push_cast (config := { maxSteps := 10000000 })
      obtain ⟨i1, i2⟩ := hi
      refine ⟨fun h => ⟨h, ⟨ha.1, by omega⟩, fun h5 => ?_, fun h5 => ⟨⟨by omega, by omega⟩, i + 1, ⟨by omega, fun j hj => ?_⟩, by omega, by omega⟩⟩, fun h => ?_⟩
      · have : ownL r.hd = true := own_iff.2 ⟨ownW.getD i [], by
          rw [List.getD_eq_getElem?_getD, List.getElem?_eq_getElem (show i < ownW.length by show i < 7; omega)]; exact List.getElem_mem _, h5⟩
        rw [if_pos this]
      · by_cases e : j = i
        · subst e; exact h5
        · exact i2 j (by omega)
      · have : ¬ ownL r.hd = true := fun x => by
          obtain ⟨w, hw, h5⟩ := own_iff.1 x
          obtain ⟨j, hj, rfl⟩ := List.getElem_of_mem hw
          have h6 := i2 j (by have : ownW.length = 7 := rfl; omega)
          rw [List.getD_eq_getElem?_getD, List.getElem?_eq_getElem hj] at h6
          exact h6 h5
        rw [if_neg this]
        exact ⟨fun g => by rw [if_pos (by omega)], fun g => ⟨fun g2 => by rw [if_neg (by omega), if_pos ⟨by omega, g2.2⟩], fun g2 => by rw [if_neg (by omega), if_neg (fun x => g2 (by omega) x.2)]⟩⟩
  · cases h

end Go.Abs
