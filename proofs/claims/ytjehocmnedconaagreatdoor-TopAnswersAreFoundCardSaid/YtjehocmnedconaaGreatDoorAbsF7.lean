/- what functions of this program compute: contracts, each a function's own -/
import Derived.Test.YtjehocmnedconaaGreatDoorAbsK3
import Derived.Test.YtjehocmnedconaaGreatDoorAbsFacts
import Derived.Test.YtjehocmnedconaaGreatDoorAbsF6
import Derived.Test.YtjehocmnedconaaGreatDoorAbsShelf
import Derived.Lib.SlTrimSet
import Derived.Lib.Atoi
import Derived.Lib.Itoa
import Derived.Lib.ItoaNum
import Derived.Lib.AtoiErrMem
import Derived.Lib.Repeat
import Derived.Lib.ItoaLen
import Derived.Lib.SplitLaws
import Derived.Lib.Join
import Derived.Lib.Index
import Derived.Lib.IndexBytes
import Derived.Lib.Fold
import Derived.Lib.Walk
import Derived.WalkKit
import Derived.ScopeJumps
import Derived.Deep.LoopGhost
import Derived.Laws.RangeAny
import Derived.Lib.BitFns
import Derived.Lib.TrailingZeros
import Derived.Sort.Walk0
namespace Go.Abs
open Go Go.Proofs
set_option maxHeartbeats 4000000
set_option maxRecDepth 100000
set_option linter.unusedVariables false
set_option linter.unusedSimpArgs false
def ckLineKb : List V → List Blk → Option (Prop × V × List Blk)
  | [.str a, .str v, .ptr 2 0], [.cells [.vec 9012 n], .vec 1 k g] => some (k = n ∧ isBy n g ∧ n ≤ 100000000 ∧ a.length ≤ 100000000 ∧ v.length ≤ 100000000, .tup [], [.cells [.vec 9012 (catL (bytesOf n g) a v).length], .vec 1 (catL (bytesOf n g) a v).length (byF (catL (bytesOf n g) a v))])
  | _, _ => none
def ckLine6b : Cf := ⟨fun | [_, _, .ptr 2 _] => [2, 9012] | _ => [], ckLineKb⟩
theorem conLine6b : FCon pg 49 ckLine6b := by
  have hct := ctN_ok pg
  intro args bs q r bs' h hq
  replace h : ckLineKb args bs = some (q, r, bs') := h
  unfold ckLineKb at h
  split at h
  · cases h
    rename_i a v n k g
    refine ⟨rfl, Nat.le_refl _, ?_⟩
    obtain ⟨rfl, hg, hk, ha, hv⟩ := hq
    show FCall pg 49 [.str a, .str v, .ptr 9002 0] [(9002, .cells [.vec 18012 k]), (18012, .vec 1 k fun i => V.shift (g i))] (.tup []) [(9002, .cells [.vec 18012 (catL (bytesOf k g) a v).length]), (18012, .vec 1 (catL (bytesOf k g) a v).length (byF (catL (bytesOf k g) a v)))]
    refine fcall_blk (hm := [(9002, .cells [.vec 18012 k]), (18012, .vec 1 k (byF (bytesOf k g)))]) ⟨rfl, ⟨⟨rfl, rfl⟩, trivial⟩, rfl, ⟨rfl, rfl, fun j hj => by show V.shift (g j) = _; rw [hg.2 j hj]; rfl⟩, trivial⟩ ?_
    have hl := bytesOf_len k g
    generalize bytesOf k g = b at hl ⊢
    subst hl
    refine fw49 (fun _ => false) [] rfl hct rfl (by simp) (by simp [hlIn, idsIn, Blk.menIn, V.menInL, V.menIn, V.flat, byF, lsF]) (by simp [V.menIn, V.menInL, idsIn]) ?_
    push_cast (config := { maxSteps := 10000000 })
    have hll : (lnB2 a v).length = a.length + 2 + v.length + 2 := by simp [lnB2]; omega
    have hcl := catL_len b a v
    have app := ByI.app (ByI.by b) (ByI.by (lnB2 a v)) rfl
    rw [hll] at app
    exact ⟨by omega, by omega, by omega, ⟨by omega, by omega⟩, by omega, by omega, app.2⟩
  · cases h
@[push_cast] theorem line6_idsb (x y : V) (o : Nat) : ckLine6b.ids [x, y, .ptr 2 o] = [2, 9012] := rfl
@[push_cast] theorem line6_kb (a v : List UInt8) (n k : Nat) (g : Nat → V) : ckLine6b.k [.str a, .str v, .ptr 2 0] [.cells [.vec 9012 n], .vec 1 k g] = some (k = n ∧ isBy n g ∧ n ≤ 100000000 ∧ a.length ≤ 100000000 ∧ v.length ≤ 100000000, .tup [], [.cells [.vec 9012 (catL (bytesOf n g) a v).length], .vec 1 (catL (bytesOf n g) a v).length (byF (catL (bytesOf n g) a v))]) := rfl
@[push_cast] theorem keptB_by (B : List UInt8) : bytesOf (B.length + 8) (appF B.length (byF B) (byF [75, 69, 80, 84, 47, 49, 13, 10])) = B ++ [75, 69, 80, 84, 47, 49, 13, 10] := (ByI.app (ByI.by B) (ByI.by [75, 69, 80, 84, 47, 49, 13, 10]) rfl).bytes
@[push_cast] theorem keptB_is (B : List UInt8) : isBy (B.length + 8) (appF B.length (byF B) (byF [75, 69, 80, 84, 47, 49, 13, 10])) = True := eq_true (ByI.app (ByI.by B) (ByI.by [75, 69, 80, 84, 47, 49, 13, 10]) rfl).is
theorem catL_B (B L a v : List UInt8) : catL (B ++ L) a v = B ++ catL L a v := by simp [catL]
theorem recP_owB (B : List UInt8) {r : Rcd} (h : ¬ r.ow = []) : catL (catL (catL (catL (catL (B ++ [75, 69, 80, 84, 47, 49, 13, 10]) [105, 100] r.id) [111, 102] r.ow) [107, 105, 110, 100] (kindW.getD (r.ki - 1).toNat [])) [100, 97, 116, 101] (dateTextL r.ti)) [107, 101, 121] r.ke = B ++ recP r := by
  rw [← recP_ow h]; simp only [catL_B]
theorem recP_noB (B : List UInt8) {r : Rcd} (h : r.ow = []) : catL (catL (catL (catL (B ++ [75, 69, 80, 84, 47, 49, 13, 10]) [105, 100] r.id) [107, 105, 110, 100] (kindW.getD (r.ki - 1).toNat [])) [100, 97, 116, 101] (dateTextL r.ti)) [107, 101, 121] r.ke = B ++ recP r := by
  rw [← recP_no h]; simp only [catL_B]
def ckWriteVK : List V → List Blk → Option (Prop × V × List Blk)
  | [.vec 12 n, .agg [.int .i64 ki, .str id, .str ow, .int .i64 ti, .str ke, .sl hn hf, .sl bn bf]], [.vec 1 k g] => some (k = n ∧ isBy n g ∧ n ≤ 50000000 ∧ isLs cHd hn hf ∧ isBy bn bf ∧ recOk ⟨ki, id, ow, ti, ke, lsOf cHd hn hf, bytesOf bn bf⟩ ∧ checkRecL ⟨ki, id, ow, ti, ke, lsOf cHd hn hf, bytesOf bn bf⟩ = 0, .vec 12 (bytesOf n g ++ recB ⟨ki, id, ow, ti, ke, lsOf cHd hn hf, bytesOf bn bf⟩).length, [.vec 1 (bytesOf n g ++ recB ⟨ki, id, ow, ti, ke, lsOf cHd hn hf, bytesOf bn bf⟩).length (byF (bytesOf n g ++ recB ⟨ki, id, ow, ti, ke, lsOf cHd hn hf, bytesOf bn bf⟩))])
  | _, _ => none
def ckWriteV : Cf := ⟨fun | [.vec 12 _, _] => [12] | _ => [], ckWriteVK⟩
theorem conWriteV : FCon pg 21 ckWriteV := by
  have hct := (ctF_ok conLine6b (ctA_ok conKinds (ctA_ok conDateText (ctA_ok conItoa (ctA_ok conDigest (ctN_ok _))))))
  intro args bs q r bs' h hq
  replace h : ckWriteVK args bs = some (q, r, bs') := h
  unfold ckWriteVK at h
  split at h
  · cases h
    rename_i n ki id ow ti ke hn hf bn bf k g
    refine ⟨rfl, by first | exact Nat.le_refl _ | exact Nat.zero_le _, ?_⟩
    obtain ⟨rfl, hg, hk, h1, h2, ha, hc⟩ := hq
    show FCall pg 21 [.vec 9012 k, .agg [.int .i64 ki, .str id, .str ow, .int .i64 ti, .str ke, .sl hn hf, .sl bn bf]] [(9012, .vec 1 k fun i => V.shift (g i))] (.vec 9012 (bytesOf k g ++ recB ⟨ki, id, ow, ti, ke, lsOf cHd hn hf, bytesOf bn bf⟩).length) [(9012, .vec 1 (bytesOf k g ++ recB ⟨ki, id, ow, ti, ke, lsOf cHd hn hf, bytesOf bn bf⟩).length (byF (bytesOf k g ++ recB ⟨ki, id, ow, ti, ke, lsOf cHd hn hf, bytesOf bn bf⟩)))]
    refine fcall_blk (hm := [(9012, .vec 1 (bytesOf k g).length (byF (bytesOf k g)))]) ⟨rfl, ⟨rfl, (bytesOf_len k g).symm, fun j hj => by show V.shift (g j) = _; rw [hg.2 j hj]; rfl⟩, trivial⟩ ?_
    refine fcall_args (args' := [.vec 9012 (bytesOf k g).length, cRec.enc ⟨ki, id, ow, ti, ke, lsOf cHd hn hf, bytesOf bn bf⟩]) ⟨VLe.of_eq (by rw [bytesOf_len]), isC_rec h1 h2, trivial⟩ ?_
    have hB : (bytesOf k g).length ≤ 50000000 := by rw [bytesOf_len]; exact hk
    generalize bytesOf k g = B at hB ⊢
    generalize (⟨ki, id, ow, ti, ke, lsOf cHd hn hf, bytesOf bn bf⟩ : Rcd) = r at ha hc ⊢
    refine fw21 (fun d => decide (d = 10006)) [] rfl hct rfl (by simp) (by simp [hlIn, idsIn, Blk.menIn, V.menInL, V.menIn, V.flat, byF, lsF]) (by simp [V.menIn, V.menInL, idsIn]) ?_
    push_cast (config := { maxSteps := 10000000 })
    obtain ⟨z1, z2, z3, z4, z5, z6, z7⟩ := rec_sz hc
    obtain ⟨y1, y2, y3, y4, y5, y6, y7, y8, y9, y10⟩ := rec_ok hc
    have zk := kindW_le (r.ki - 1).toNat
    have zp := recP_le hc
    have c8 : ([75, 69, 80, 84, 47, 49, 13, 10] : List UInt8).length = 8 := rfl
    have c2 : ([105, 100] : List UInt8).length = 2 := rfl
    rw [if_pos ⟨y5, y6⟩]
    refine ⟨⟨by omega, by omega⟩, ⟨by omega, by omega⟩, fun how => ?_, fun how => ?_⟩
    · have hP := recP_owB B how
      refine ⟨⟨by simp only [catL_len, List.length_append, List.length_cons, List.length_nil]; omega, by omega⟩, ⟨by omega, by omega⟩, ⟨by omega, by omega⟩, ⟨by simp only [catL_len, List.length_append, List.length_cons, List.length_nil]; omega, by omega⟩, ⟨by omega, by omega⟩, ⟨by simp only [catL_len, List.length_append, List.length_cons, List.length_nil]; omega, by omega⟩, ⟨by simp only [catL_len, List.length_append, List.length_cons, List.length_nil]; omega, by omega⟩, ?_⟩
      generalize catL (catL (catL (catL (catL (B ++ [75, 69, 80, 84, 47, 49, 13, 10]) [105, 100] r.id) [111, 102] r.ow) [107, 105, 110, 100] (kindW.getD (r.ki - 1).toNat [])) [100, 97, 116, 101] (dateTextL r.ti)) [107, 101, 121] r.ke = P at hP ⊢
      refine LoopW.adj ⟨hct, fol⟩ (by kernel_rfl) [] (fun t : Nat × List UInt8 => [(2, .ptr 2 0), (3, .ptr 3 0), (5, .fn (.func 49) [] [.ptr 2 0]), (46, .sl r.hd.length (lsF cHd r.hd)), (47, .int .i64 r.hd.length), (48, .int .i64 t.1)]) (fun t => [(2, .cells [.vec 9012 t.2.length]), (9012, .vec 1 t.2.length (byF t.2)), (3, .cells [.int .i64 r.ki, .str r.id, .str r.ow, .int .i64 r.ti, .str r.ke, .sl r.hd.length (lsF cHd r.hd), .sl r.bd.length (byF r.bd)])]) (fun t => t.1 ≤ r.hd.length ∧ t.2 ++ headsB (r.hd.drop t.1) = (B ++ recP r) ++ headsB r.hd) (fun t => r.hd.length - t.1) (0, P) ?_ fun t ht => ?_
      · push_cast (config := { maxSteps := 10000000 })
        exact ⟨Nat.zero_le _, congrArg (· ++ headsB r.hd) hP⟩
      · obtain ⟨i, o⟩ := t
        obtain ⟨i1, i2⟩ : i ≤ r.hd.length ∧ o ++ headsB (r.hd.drop i) = (B ++ recP r) ++ headsB r.hd := ht
        have hl := congrArg List.length i2
        simp only [List.length_append] at hl
        push_cast (config := { maxSteps := 10000000 })
        refine ⟨fun h => ?_, fun h => ?_⟩
        · have e := dropG (d := ⟨[], []⟩) h
          rw [e, headsB] at i2 hl
          have hx : (headB (r.hd.getD i ⟨[], []⟩)).length = (r.hd.getD i ⟨[], []⟩).name.length + 2 + (r.hd.getD i ⟨[], []⟩).value.length + 2 := by simp [headB]; omega
          simp only [List.length_append] at hl
          exact ⟨h, ⟨by omega, by omega, by omega⟩, ⟨by omega, by omega⟩, (i + 1, catL o (r.hd.getD i ⟨[], []⟩).name (r.hd.getD i ⟨[], []⟩).value), ⟨by show i + 1 ≤ r.hd.length; omega, by rw [← i2]; simp [catL, lnB2, headB]⟩, by show r.hd.length - (i + 1) < r.hd.length - i; omega, by show (i : Int) + 1 = ((i + 1 : Nat) : Int); omega, rfl, rfl, fun _ _ => rfl⟩
        · rw [List.drop_eq_nil_of_le (by omega)] at i2 hl
          simp only [headsB, List.append_nil, List.length_nil, Nat.add_zero] at i2 hl
          have hi6 := itoa_len (n := r.bd.length) (by omega)
          have hdg : (digestL r.bd).length = 16 := hex16_len _
          have hq1 := catL_len o [108, 101, 110, 103, 116, 104] (Lib.itoa r.bd.length)
          have hq2 := catL_len (catL o [108, 101, 110, 103, 116, 104] (Lib.itoa r.bd.length)) [100, 105, 103, 101, 115, 116] (digestL r.bd)
          have cl1 : ([108, 101, 110, 103, 116, 104] : List UInt8).length = 6 := rfl
          have cl2 : ([100, 105, 103, 101, 115, 116] : List UInt8).length = 6 := rfl
          have eq : catL (catL o [108, 101, 110, 103, 116, 104] (Lib.itoa r.bd.length)) [100, 105, 103, 101, 115, 116] (digestL r.bd) ++ [13, 10] ++ r.bd ++ [13, 10, 13, 10] = B ++ recB r := by
            rw [i2]; simp [recB, recQ, catL]
          generalize catL (catL o [108, 101, 110, 103, 116, 104] (Lib.itoa r.bd.length)) [100, 105, 103, 101, 115, 116] (digestL r.bd) = Q at hq2 eq ⊢
          have app : ByI (Q.length + 2 + r.bd.length + 4) (appF (Q.length + 2 + r.bd.length) (appF (Q.length + 2) (appF Q.length (byF Q) (byF [13, 10])) (byF r.bd)) (byF [13, 10, 13, 10])) (B ++ recB r) := (ByI.app (ByI.app (ByI.app (ByI.by Q) (ByI.by [13, 10]) rfl) (ByI.by r.bd) rfl) (ByI.by [13, 10, 13, 10]) rfl).eq eq
          exact ⟨⟨by omega, by omega⟩, ⟨by omega, by omega⟩, by omega, ⟨by omega, by omega⟩, ⟨by omega, by omega⟩, ⟨by omega, by omega⟩, ⟨by omega, by omega⟩, app.1.trans List.length_append, app.1.trans List.length_append, app.2⟩
    · have hP := recP_noB B how
      refine ⟨⟨by omega, by omega⟩, ⟨by omega, by omega⟩, ⟨by simp only [catL_len, List.length_append, List.length_cons, List.length_nil]; omega, by omega⟩, ⟨by omega, by omega⟩, ⟨by simp only [catL_len, List.length_append, List.length_cons, List.length_nil]; omega, by omega⟩, ⟨by simp only [catL_len, List.length_append, List.length_cons, List.length_nil]; omega, by omega⟩, ?_⟩
      generalize catL (catL (catL (catL (B ++ [75, 69, 80, 84, 47, 49, 13, 10]) [105, 100] r.id) [107, 105, 110, 100] (kindW.getD (r.ki - 1).toNat [])) [100, 97, 116, 101] (dateTextL r.ti)) [107, 101, 121] r.ke = P at hP ⊢
      refine LoopW.adj ⟨hct, fol⟩ (by kernel_rfl) [] (fun t : Nat × List UInt8 => [(2, .ptr 2 0), (3, .ptr 3 0), (5, .fn (.func 49) [] [.ptr 2 0]), (46, .sl r.hd.length (lsF cHd r.hd)), (47, .int .i64 r.hd.length), (48, .int .i64 t.1)]) (fun t => [(2, .cells [.vec 9012 t.2.length]), (9012, .vec 1 t.2.length (byF t.2)), (3, .cells [.int .i64 r.ki, .str r.id, .str r.ow, .int .i64 r.ti, .str r.ke, .sl r.hd.length (lsF cHd r.hd), .sl r.bd.length (byF r.bd)])]) (fun t => t.1 ≤ r.hd.length ∧ t.2 ++ headsB (r.hd.drop t.1) = (B ++ recP r) ++ headsB r.hd) (fun t => r.hd.length - t.1) (0, P) ?_ fun t ht => ?_
      · push_cast (config := { maxSteps := 10000000 })
        exact ⟨Nat.zero_le _, congrArg (· ++ headsB r.hd) hP⟩
      · obtain ⟨i, o⟩ := t
        obtain ⟨i1, i2⟩ : i ≤ r.hd.length ∧ o ++ headsB (r.hd.drop i) = (B ++ recP r) ++ headsB r.hd := ht
        have hl := congrArg List.length i2
        simp only [List.length_append] at hl
        push_cast (config := { maxSteps := 10000000 })
        refine ⟨fun h => ?_, fun h => ?_⟩
        · have e := dropG (d := ⟨[], []⟩) h
          rw [e, headsB] at i2 hl
          have hx : (headB (r.hd.getD i ⟨[], []⟩)).length = (r.hd.getD i ⟨[], []⟩).name.length + 2 + (r.hd.getD i ⟨[], []⟩).value.length + 2 := by simp [headB]; omega
          simp only [List.length_append] at hl
          exact ⟨h, ⟨by omega, by omega, by omega⟩, ⟨by omega, by omega⟩, (i + 1, catL o (r.hd.getD i ⟨[], []⟩).name (r.hd.getD i ⟨[], []⟩).value), ⟨by show i + 1 ≤ r.hd.length; omega, by rw [← i2]; simp [catL, lnB2, headB]⟩, by show r.hd.length - (i + 1) < r.hd.length - i; omega, by show (i : Int) + 1 = ((i + 1 : Nat) : Int); omega, rfl, rfl, fun _ _ => rfl⟩
        · rw [List.drop_eq_nil_of_le (by omega)] at i2 hl
          simp only [headsB, List.append_nil, List.length_nil, Nat.add_zero] at i2 hl
          have hi6 := itoa_len (n := r.bd.length) (by omega)
          have hdg : (digestL r.bd).length = 16 := hex16_len _
          have hq1 := catL_len o [108, 101, 110, 103, 116, 104] (Lib.itoa r.bd.length)
          have hq2 := catL_len (catL o [108, 101, 110, 103, 116, 104] (Lib.itoa r.bd.length)) [100, 105, 103, 101, 115, 116] (digestL r.bd)
          have cl1 : ([108, 101, 110, 103, 116, 104] : List UInt8).length = 6 := rfl
          have cl2 : ([100, 105, 103, 101, 115, 116] : List UInt8).length = 6 := rfl
          have eq : catL (catL o [108, 101, 110, 103, 116, 104] (Lib.itoa r.bd.length)) [100, 105, 103, 101, 115, 116] (digestL r.bd) ++ [13, 10] ++ r.bd ++ [13, 10, 13, 10] = B ++ recB r := by
            rw [i2]; simp [recB, recQ, catL]
          generalize catL (catL o [108, 101, 110, 103, 116, 104] (Lib.itoa r.bd.length)) [100, 105, 103, 101, 115, 116] (digestL r.bd) = Q at hq2 eq ⊢
          have app : ByI (Q.length + 2 + r.bd.length + 4) (appF (Q.length + 2 + r.bd.length) (appF (Q.length + 2) (appF Q.length (byF Q) (byF [13, 10])) (byF r.bd)) (byF [13, 10, 13, 10])) (B ++ recB r) := (ByI.app (ByI.app (ByI.app (ByI.by Q) (ByI.by [13, 10]) rfl) (ByI.by r.bd) rfl) (ByI.by [13, 10, 13, 10]) rfl).eq eq
          exact ⟨⟨by omega, by omega⟩, ⟨by omega, by omega⟩, by omega, ⟨by omega, by omega⟩, ⟨by omega, by omega⟩, ⟨by omega, by omega⟩, ⟨by omega, by omega⟩, app.1.trans List.length_append, app.1.trans List.length_append, app.2⟩
  · cases h
attribute [push_cast] ckWriteVK
@[push_cast] theorem writeV_ids (n : Nat) (x : V) : ckWriteV.ids [.vec 12 n, x] = [12] := rfl
@[push_cast] theorem writeV_k (n k hn bn : Nat) (ki ti : Int) (id ow ke : List UInt8) (g hf bf : Nat → V) : ckWriteV.k [.vec 12 n, .agg [.int .i64 ki, .str id, .str ow, .int .i64 ti, .str ke, .sl hn hf, .sl bn bf]] [.vec 1 k g] = some (k = n ∧ isBy n g ∧ n ≤ 50000000 ∧ isLs cHd hn hf ∧ isBy bn bf ∧ recOk ⟨ki, id, ow, ti, ke, lsOf cHd hn hf, bytesOf bn bf⟩ ∧ checkRecL ⟨ki, id, ow, ti, ke, lsOf cHd hn hf, bytesOf bn bf⟩ = 0, .vec 12 (bytesOf n g ++ recB ⟨ki, id, ow, ti, ke, lsOf cHd hn hf, bytesOf bn bf⟩).length, [.vec 1 (bytesOf n g ++ recB ⟨ki, id, ow, ti, ke, lsOf cHd hn hf, bytesOf bn bf⟩).length (byF (bytesOf n g ++ recB ⟨ki, id, ow, ti, ke, lsOf cHd hn hf, bytesOf bn bf⟩))]) := rfl
def ckCheckFile : Ck
  | [.sl n f] => some (isLs cRec n f ∧ recsOk (lsOf cRec n f), .int .i64 (checkFileL (lsOf cRec n f)))
  | _ => none
theorem conCheckFile : Con pg 20 ckCheckFile := by
  have hct := (ctA_ok conCheckRec (ctA_ok conWrite (ctN_ok _)))
  intro args q r h hq
  unfold ckCheckFile at h
  split at h
  · cases h
    rename_i n f
    refine pcall_args (args' := [.sl (lsOf cRec n f).length (lsF cRec (lsOf cRec n f))]) ⟨isLs.vle hq.1, trivial⟩ ?_
    obtain ⟨-, hl⟩ := hq
    generalize lsOf cRec n f = l at hl ⊢
    refine w20 (fun _ => false) [] rfl hct rfl rfl ?_
    push_cast (config := { maxSteps := 10000000 })
    refine ⟨fun h => by unfold checkFileL; rw [if_pos (by omega)], fun h => ?_⟩
    have e0 : checkFileL l = cfGo [] 0 l := by unfold checkFileL; rw [if_neg (by omega)]
    rw [e0]
    refine LoopW.adj ⟨hct, fol⟩ (by kernel_rfl) [] (fun t : Nat × Int => [(3, .map 11), (4, .int .i64 t.2), (12, .sl l.length (lsF cRec l)), (13, .int .i64 l.length), (14, .int .i64 t.1)]) (fun t => [(11, .mp .str (seenM ((l.take t.1).map Rcd.id)))]) (fun t => t.1 ≤ l.length ∧ 0 ≤ t.2 ∧ t.2 ≤ t.1 * 400000 ∧ cfGo ((l.take t.1).map Rcd.id) t.2 (l.drop t.1) = cfGo [] 0 l) (fun t => l.length - t.1) (0, 0) ?_ fun t ht => ?_
    · push_cast (config := { maxSteps := 10000000 })
      exact ⟨Nat.zero_le _, seen_nil⟩
    · obtain ⟨i, m⟩ := t
      obtain ⟨h1, h2, h3, h4⟩ : i ≤ l.length ∧ 0 ≤ m ∧ m ≤ i * 400000 ∧ cfGo ((l.take i).map Rcd.id) m (l.drop i) = cfGo [] 0 l := ht
      push_cast (config := { maxSteps := 10000000 })
      refine ⟨fun hi => ?_, fun hi => ?_⟩
      · rw [dropG (d := noRec) hi, cfGo] at h4
        have ea := cf_app hi
        have ok := recsOk_at hl hi
        generalize l.getD i noRec = r at *
        refine ⟨hi, ok, fun g => ?_, fun g => ⟨fun g2 => ?_, fun g2 => ⟨⟨ok, g⟩, ?_⟩⟩⟩
        · rw [if_pos g] at h4; exact h4
        · rw [if_neg (fun x => x g), if_pos g2] at h4; exact h4
        · rw [if_neg (fun x => x g), if_neg (by rw [g2]; simp)] at h4
          have hb := recB_le g
          exact ⟨⟨by omega, by omega⟩, ⟨by omega, by omega⟩, ((i + 1, m + (recB r).length) : Nat × Int), ⟨by show i + 1 ≤ _; omega, by show 0 ≤ m + _; omega, by show m + _ ≤ ((i + 1 : Nat) : Int) * 400000; omega, by rw [ea]; exact h4⟩, by show l.length - (i + 1) < l.length - i; omega, ⟨rfl, by show (i : Int) + 1 = ((i + 1 : Nat) : Int); omega⟩, fun k => by rw [putM_seen, ← ea]⟩
      · rw [List.drop_eq_nil_of_le (by omega), cfGo] at h4
        exact ⟨fun g => by rw [if_pos g] at h4; exact h4, fun g => by rw [if_neg g] at h4; exact h4⟩
  · cases h
attribute [push_cast] ckCheckFile
def fileR (l : List Rcd) : List UInt8 := if checkFileL l = 0 then fileB l else []
def ckFileBytes : Ck
  | [.sl n f] => some (isLs cRec n f ∧ recsOk (lsOf cRec n f), .tup [.sl (fileR (lsOf cRec n f)).length (byF (fileR (lsOf cRec n f))), .int .i64 (checkFileL (lsOf cRec n f))])
  | _ => none
theorem conFileBytes : Con pg 7 ckFileBytes := by
  have hct := (ctA_ok conCheckFile (ctF_ok conWriteV (ctN_ok _)))
  intro args q r h hq
  unfold ckFileBytes at h
  split at h
  · cases h
    rename_i n f
    refine pcall_args (args' := [.sl (lsOf cRec n f).length (lsF cRec (lsOf cRec n f))]) ⟨isLs.vle hq.1, trivial⟩ ?_
    obtain ⟨-, hl⟩ := hq
    generalize lsOf cRec n f = l at hl ⊢
    refine w7 (fun _ => false) [.frz 12] rfl hct rfl rfl ?_
    push_cast (config := { maxSteps := 10000000 })
    refine ⟨hl, fun h => by unfold fileR; rw [if_neg h]; rfl, fun h => ?_⟩
    have e0 : fileR l = fileB l := by unfold fileR; rw [if_pos h]
    rw [e0]
    obtain ⟨c1, c2, c3⟩ := file_ok h
    refine LoopW.adj ⟨hct, fol⟩ (by kernel_rfl) [.nv 5 12 1 (byF [])] (fun t : Nat × List UInt8 => [(5, .vec 12 t.2.length), (13, .sl l.length (lsF cRec l)), (14, .int .i64 l.length), (15, .int .i64 t.1)]) (fun t => [(12, .vec 1 t.2.length (byF t.2))]) (fun t => t.1 ≤ l.length ∧ t.2 ++ fileB (l.drop t.1) = fileB l) (fun t => l.length - t.1) (0, []) ?_ fun t ht => ?_
    · push_cast (config := { maxSteps := 10000000 })
      exact Nat.zero_le _
    · obtain ⟨i, o⟩ := t
      obtain ⟨h1, h2⟩ : i ≤ l.length ∧ o ++ fileB (l.drop i) = fileB l := ht
      have hlen := congrArg List.length h2
      simp only [List.length_append] at hlen
      push_cast (config := { maxSteps := 10000000 })
      refine ⟨fun hi => ?_, fun hi => ?_⟩
      · rw [dropG (d := noRec) hi, fileB] at h2
        have ok := recsOk_at hl hi
        have cr : checkRecL (l.getD i noRec) = 0 := by
          refine c1 _ ?_
          rw [List.getD_eq_getElem?_getD, List.getElem?_eq_getElem hi]; exact List.getElem_mem hi
        generalize l.getD i noRec = r at *
        exact ⟨hi, ⟨by omega, ok, cr⟩, ⟨by omega, by omega⟩, ((i + 1, o ++ recB r) : Nat × List UInt8), ⟨by show i + 1 ≤ _; omega, by show o ++ recB r ++ _ = _; rw [List.append_assoc]; exact h2⟩, by show l.length - (i + 1) < l.length - i; omega, ⟨by simp, by show (i : Int) + 1 = ((i + 1 : Nat) : Int); omega⟩, by simp, fun _ _ => rfl⟩
      · rw [List.drop_eq_nil_of_le (by omega), fileB, List.append_nil] at h2
        subst h2
        exact ⟨⟨rfl, fun _ _ => rfl⟩, h.symm⟩
  · cases h
attribute [push_cast] ckFileBytes
theorem conReadFile0 : Con pg 52 ckReadFile0 := by
  have hct := (ctA_ok conReadOne0 (ctA_ok conCheckFile (ctN_ok _)))
  intro args q r h hq
  unfold ckReadFile0 at h
  split at h
  · cases h
    rename_i n f
    refine pcall_args (args' := [.sl (bytesOf n f).length (byF (bytesOf n f))]) ⟨isBy.vle hq.1, trivial⟩ ?_
    obtain ⟨-, hn⟩ := hq
    have hl := bytesOf_len n f
    rw [← hl] at hn
    generalize bytesOf n f = B at hn ⊢
    clear hl
    refine w52 (fun _ => false) [.frz 8000, .frz 8001] rfl hct rfl rfl ?_
    push_cast (config := { maxSteps := 10000000 })
    generalize hR : readFileL B = R
    unfold readFileL at hR
    refine ⟨fun h => ?_, fun h => ?_⟩
    · rw [if_pos (by omega)] at hR
      rw [← hR]
      exact ⟨rfl, rfl, rfl, rfl⟩
    rw [if_neg (by omega)] at hR
    have hB : B.length ≤ 500000 := by omega
    refine LoopW.adj ⟨hct, fol⟩ (by kernel_rfl) [.nv 6 8000 7 (lsF cRec []), .nv 7 8001 3 (lsF cMk [])] (fun t : Nat × List Rcd × List Mk => [(0, .sl B.length (byF B)), (6, .vec 8000 t.2.1.length), (7, .vec 8001 t.2.2.length), (8, .int .i64 t.1)]) (fun t => [(8000, .vec 7 t.2.1.length (lsF cRec t.2.1)), (8001, .vec 3 t.2.2.length (lsF cMk t.2.2))]) (fun t => t.1 ≤ B.length ∧ recsOk t.2.1 ∧ t.2.1.length ≤ t.1 ∧ t.2.2.length ≤ t.1 ∧ ∃ k, B.length < t.1 + k ∧ rfGo B k t.1 t.2.1 t.2.2 = R) (fun t => B.length - t.1) (0, [], []) ?_ fun t ht => ?_
    · push_cast (config := { maxSteps := 10000000 })
      exact ⟨Nat.zero_le _, fun r hr => (by cases hr), B.length + 1, by omega, hR⟩
    · obtain ⟨i, l, m⟩ := t
      obtain ⟨i1, i2, i3, i4, k, i5, i6⟩ : i ≤ B.length ∧ recsOk l ∧ l.length ≤ i ∧ m.length ≤ i ∧ ∃ k, B.length < i + k ∧ rfGo B k i l m = R := ht
      obtain ⟨k, rfl⟩ : ∃ k', k = k' + 1 := ⟨k - 1, by omega⟩
      rw [rfGo] at i6
      push_cast (config := { maxSteps := 10000000 })
      refine ⟨fun hi => ⟨⟨hB, i1⟩, fun g => ?_, fun g => ?_⟩, fun hi => ⟨i2, fun g => ?_, fun g => ?_⟩⟩
      · rw [if_pos hi, if_neg g] at i6
        rw [← i6]
        exact ⟨rfl, rfl, rfl, rfl⟩
      · rw [if_pos hi, if_pos g] at i6
        obtain ⟨o1, o2⟩ := rdOne_fit hB i1
        obtain ⟨o3, o4, o5⟩ := o2 g
        have app1 := LsI.app (c := cRec) (f := lsF cRec l) (g := litF [cRec.enc (rdOne B i).1]) (LsI.ls l) (LsI.one (c := cRec) (a := (rdOne B i).1) rfl) rfl
        have app2 := LsI.app (c := cMk) (f := lsF cMk m) (g := litF [cMk.enc (Mk.mk (rdOne B i).1.id i (rdOne B i).2.1)]) (LsI.ls m) (LsI.one (c := cMk) (a := Mk.mk (rdOne B i).1.id i (rdOne B i).2.1) rfl) rfl
        generalize rdOne B i = X at *
        refine ⟨⟨by omega, by omega⟩, ⟨by omega, by omega⟩, ((X.2.1.toNat, l ++ [X.1], m ++ [Mk.mk X.1.id i X.2.1]) : Nat × List Rcd × List Mk), ⟨?_, fun r hr => ?_, ?_, ?_, k, ?_, i6⟩, ?_, ⟨by simp, by simp, ?_⟩, ⟨by simp, app1.2⟩, by simp, app2.2⟩
        · show X.2.1.toNat ≤ _; omega
        · rcases List.mem_append.1 hr with hr | hr
          · exact i2 r hr
          · rw [List.mem_singleton] at hr; subst hr; exact o1
        · show (l ++ [_]).length ≤ X.2.1.toNat; simp; omega
        · show (m ++ [_]).length ≤ X.2.1.toNat; simp; omega
        · show B.length < X.2.1.toNat + k; omega
        · show B.length - X.2.1.toNat < B.length - i; omega
        · show X.2.1 = ((X.2.1.toNat : Nat) : Int); omega
      · rw [if_neg hi, if_neg g] at i6
        rw [← i6]
        exact ⟨rfl, rfl, rfl, rfl⟩
      · rw [if_neg hi, if_pos g] at i6
        rw [← i6]
        exact ⟨⟨rfl, fun _ _ => rfl⟩, ⟨rfl, fun _ _ => rfl⟩, rfl, rfl⟩
  · cases h
theorem conReadFile : Con pg 23 ckReadFile := by
  have hct := (ctA_ok conReadFile0 (ctN_ok _))
  intro args q r h hq
  unfold ckReadFile at h
  split at h
  · cases h
    rename_i n f
    refine w23 (fun _ => false) [] rfl hct rfl rfl ?_
    push_cast (config := { maxSteps := 10000000 })
    exact hq
  · cases h
theorem conMarks : Con pg 24 ckMarks := by
  have hct := (ctA_ok conReadFile0 (ctN_ok _))
  intro args q r h hq
  unfold ckMarks at h
  split at h
  · cases h
    rename_i n f
    refine w24 (fun _ => false) [] rfl hct rfl rfl ?_
    push_cast (config := { maxSteps := 10000000 })
    exact hq
  · cases h
def ckCloneHd : Ck
  | [.sl n f] => some (isLs cHd n f ∧ n ≤ 1000000000000, .sl n f)
  | _ => none
theorem conCloneHd : Con pg 98 ckCloneHd := by
  have hct := ctN_ok pg
  intro args q r h hq
  unfold ckCloneHd at h
  split at h
  · cases h
    rename_i n f
    by_cases hn : n = 0
    · subst hn
      refine pcall_nil1 fun a c => ?_
      refine w98 (fun d => decide (d < 9999)) [.frz 5] rfl hct rfl rfl ?_
      push_cast (config := { maxSteps := 10000000 })
      cases a
      · push_cast (config := { maxSteps := 10000000 })
      · push_cast (config := { maxSteps := 10000000 })
    · refine w98 (fun d => decide (d < 9999)) [.frz 5] rfl hct rfl rfl ?_
      push_cast (config := { maxSteps := 10000000 })
      obtain ⟨h1, h2⟩ := hq
      exact ⟨by omega, ⟨h1.flat (fun _ => rfl), by omega, by omega⟩, h1.pure (fun _ => rfl)⟩
  · cases h
attribute [push_cast] ckCloneHd
def ckJoin1 : Ck
  | [.sl 1 f, .str s] => some (isLs cRec 1 f ∧ oneRc (cRec.dec (f 0)) ∧ s = (cRec.dec (f 0)).id, .tup [cRec.enc (cRec.dec (f 0)), .int .i64 0])
  | _ => none
theorem conJoin1 : Con pg 55 ckJoin1 := by
  have hct := (ctA_ok conFind6 (ctA_ok conCloneHd (ctA_ok conCloneBy (ctA_ok conRhead (ctN_ok _)))))
  intro args q r h hq
  unfold ckJoin1 at h
  split at h
  · cases h
    rename_i f s
    refine pcall_args (args' := [.sl (lsOf cRec 1 f).length (lsF cRec (lsOf cRec 1 f)), .str s]) ⟨isLs.vle hq.1, VLe.refl _, trivial⟩ ?_
    obtain ⟨-, ⟨ok, hck, h3, hp⟩, rfl⟩ := hq
    have hl : lsOf cRec 1 f = [cRec.dec (f 0)] := rfl
    rw [hl]
    generalize cRec.dec (f 0) = r at ok hck h3 hp ⊢
    obtain ⟨f0, f1⟩ := fnd1 r
    refine w55 (fun _ => false) [] rfl hct rfl rfl ?_
    push_cast (config := { maxSteps := 10000000 })
    have e1 : lsOf cRec 1 (lsF cRec [r]) = [r] := lsOf_ls (c := cRec) [r]
    rw [e1]
    simp only [f0, f1]
    obtain ⟨hcl, hfl, hlen⟩ := file_ok hck
    obtain ⟨z1, z2, z3, z4, z5, z6, z7⟩ := rec_sz (hcl r List.mem_cons_self)
    have hN : hdsN r.hd := fun x hx => (ok.1 x hx).1
    rw [show ([112, 105, 101, 99, 101, 115] : List UInt8) = wPieces from rfl]
    refine ⟨isLs_ls [r], fun h => ?_, fun h => ⟨by omega, by omega, ⟨hN, by omega⟩, fun _ => by simp, fun g => absurd hp g⟩⟩
    rcases h with h | h
    · exact h (Int.le_refl 0)
    · rw [h3] at h; revert h; decide
  · cases h
attribute [push_cast] ckJoin1
def ckShown1 : Ck
  | [.sl 1 f, .str s] => some (isLs cRec 1 f ∧ oneRc (cRec.dec (f 0)) ∧ s = (cRec.dec (f 0)).id, .tup [.sl (cRec.dec (f 0)).bd.length (byF (cRec.dec (f 0)).bd), .int .i64 0])
  | _ => none
theorem conShown1 : Con pg 25 ckShown1 := by
  have hct := (ctA_ok conCheckFile (ctA_ok conFind6 (ctA_ok conHasStr (ctA_ok conJoin1 (ctN_ok _)))))
  intro args q r h hq
  unfold ckShown1 at h
  split at h
  · cases h
    rename_i f s
    refine pcall_args (args' := [.sl (lsOf cRec 1 f).length (lsF cRec (lsOf cRec 1 f)), .str s]) ⟨isLs.vle hq.1, VLe.refl _, trivial⟩ ?_
    obtain ⟨-, ⟨ok, hck, h3, hp⟩, rfl⟩ := hq
    have hl : lsOf cRec 1 f = [cRec.dec (f 0)] := rfl
    rw [hl]
    generalize cRec.dec (f 0) = r at ok hck h3 hp ⊢
    obtain ⟨f0, f1⟩ := fnd1 r
    refine w25 (fun _ => false) [.frz 8000] rfl hct rfl rfl ?_
    push_cast (config := { maxSteps := 10000000 })
    have e1 : lsOf cRec 1 (lsF cRec [r]) = [r] := lsOf_ls (c := cRec) [r]
    rw [e1]
    have hro : recsOk [r] := fun x hx => by rw [List.mem_singleton.1 hx]; exact ok
    refine ⟨⟨isLs_ls [r], hro⟩, fun h => absurd hck h, fun _ => ?_⟩
    refine LoopW.adj ⟨hct, fol⟩ (by kernel_rfl) [.nv 7 8000 1 (lsF cStr [])] (fun _ : Unit => [(0, .sl 1 (lsF cRec [r])), (1, .str r.id), (7, .vec 8000 0)]) (fun _ => [(8000, .vec 1 0 (lsF cStr []))]) (fun _ => True) (fun _ => 0) () ?_ fun _ _ => ?_
    · push_cast (config := { maxSteps := 10000000 })
      done
    · push_cast (config := { maxSteps := 10000000 })
      rw [e1]
      simp only [f0, f1]
      refine ⟨isLs_ls [r], fun h => h (Int.le_refl 0), fun _ => ⟨isLs_ls (c := cStr) [], fun h => ?_, fun _ => ⟨fun _ => ⟨isLs_ls [r], ok, hck, h3, hp⟩, fun g => ?_⟩⟩⟩
      · have h : ([] : List (List UInt8)).contains r.id = true := h
        simp at h
      · rw [h3] at g; exact absurd g (by decide)
  · cases h
attribute [push_cast] ckShown1
@[push_cast] theorem vle_fnE (f : Fn) (a b : List V) : vle (.fn f a b) (.fn f a b) = True := eq_true rfl
def ckLenB : Ck
  | [.int .u64 n] => some (n = 1, .int .i64 1)
  | _ => none
theorem conLen64 : Con pg 121 ckLenB := by
  have hct := ctN_ok pg
  intro args q r h hq
  unfold ckLenB at h
  split at h
  · cases h
    rename_i n
    refine w121 (fun _ => false) [] rfl hct rfl rfl ?_
    push_cast (config := { maxSteps := 10000000 })
    subst hq
    simp
  · cases h
attribute [push_cast] ckLenB
theorem conLen : Con pg 60 ckLenB := by
  have hct := (ctA_ok conLen64 (ctN_ok _))
  intro args q r h hq
  unfold ckLenB at h
  split at h
  · cases h
    rename_i n
    refine w60 (fun _ => false) [] rfl hct rfl rfl ?_
    push_cast (config := { maxSteps := 10000000 })
    exact hq
  · cases h
def ckIns1 : Ck
  | [.sl 1 f, .int .i64 0, .int .i64 1, .fn (.func 28) [] []] => some (True, .tup [])
  | _ => none
theorem conIns1 : Con pg 112 ckIns1 := by
  have hct := ctN_ok pg
  intro args q r h hq
  unfold ckIns1 at h
  split at h
  · cases h
    rename_i f
    refine w112 (fun _ => false) [] rfl hct rfl rfl ?_
    push_cast (config := { maxSteps := 10000000 })
    refine LoopW.adj ⟨hct, fol⟩ (by kernel_rfl) [] (fun _ : Unit => [(0, .sl 1 f), (1, .int .i64 0), (2, .int .i64 1), (3, .fn (.func 28) [] []), (8, .int .i64 1)]) (fun _ => []) (fun _ => True) (fun _ => 0) () ?_ fun _ _ => ?_
    · push_cast (config := { maxSteps := 10000000 })
      done
    · push_cast (config := { maxSteps := 10000000 })
      done
  · cases h
attribute [push_cast] ckIns1
def ckPdq1 : Ck
  | [.sl 1 f, .int .i64 0, .int .i64 1, .int .i64 1, .fn (.func 28) [] []] => some (True, .tup [])
  | _ => none
theorem conPdq1 : Con pg 59 ckPdq1 := by
  have hct := (ctA_ok conIns1 (ctN_ok _))
  intro args q r h hq
  unfold ckPdq1 at h
  split at h
  · cases h
    rename_i f
    refine w59 (fun _ => false) [] rfl hct rfl rfl ?_
    push_cast (config := { maxSteps := 10000000 })
    refine LoopW.adj ⟨hct, fol⟩ (by kernel_rfl) [] (fun _ : Unit => [(0, .sl 1 f), (1, .int .i64 0), (2, .int .i64 1), (3, .int .i64 1), (4, .fn (.func 28) [] []), (10, .bool true), (11, .bool true)]) (fun _ => []) (fun _ => True) (fun _ => 0) () ?_ fun _ _ => ?_
    · push_cast (config := { maxSteps := 10000000 })
      done
    · push_cast (config := { maxSteps := 10000000 })
      done
  · cases h
attribute [push_cast] ckPdq1
def ckSort1 : Ck
  | [.sl 1 f, .fn (.func 28) [] []] => some (True, .tup [])
  | _ => none
theorem conSort1 : Con pg 27 ckSort1 := by
  have hct := (ctA_ok conLen (ctA_ok conPdq1 (ctN_ok _)))
  intro args q r h hq
  unfold ckSort1 at h
  split at h
  · cases h
    rename_i f
    refine w27 (fun _ => false) [] rfl hct rfl rfl ?_
    push_cast (config := { maxSteps := 10000000 })
    done
  · cases h
attribute [push_cast] ckSort1
def checkTopL (st : Int) (reason : List UInt8) (l : List Hd) : Int := if st < 100 ∨ 599 < st then 1 else if valueL reason = true then checkHeadsL l else 3
def ckCheckTop : Ck
  | [.agg [.int .i64 st, .str re, .sl n f, _]] => some (isLs cHd n f ∧ hdsOk (lsOf cHd n f) ∧ re.length ≤ 140737488355328, .int .i64 (checkTopL st re (lsOf cHd n f)))
  | _ => none
theorem conCheckTop : Con pg 38 ckCheckTop := by
  have hct := (ctA_ok conIsValue (ctA_ok conCheckHeads (ctN_ok _)))
  intro args q r h hq
  unfold ckCheckTop at h
  split at h
  · cases h
    rename_i st re n f x
    refine w38 (fun _ => false) [] rfl hct rfl rfl ?_
    push_cast (config := { maxSteps := 10000000 })
    obtain ⟨q1, q2, q3⟩ := hq
    refine ⟨fun h => ?_, fun h => ⟨by omega, fun h2 => ?_, fun h2 => ⟨⟨q1, q2⟩, ?_⟩⟩⟩
    · unfold checkTopL; rw [if_pos h]
    · unfold checkTopL; rw [if_neg (by omega), if_neg (by simp [h2])]
    · unfold checkTopL; rw [if_neg (by omega), if_pos h2]
  · cases h
attribute [push_cast] ckCheckTop
def ckFirst : Ck
  | [.sl n f, .str name] => some (isLs cHd n f ∧ hdsOk (lsOf cHd n f) ∧ n ≤ 1000000, .tup [.str ((valuesL (lsOf cHd n f) name).getD 0 []), .bool (decide (0 < (valuesL (lsOf cHd n f) name).length))])
  | _ => none
theorem conFirst : Con pg 105 ckFirst := by
  have hct := (ctA_ok conValues (ctN_ok _))
  intro args q r h hq
  unfold ckFirst at h
  split at h
  · cases h
    rename_i n f name
    refine pcall_args (args' := [.sl (lsOf cHd n f).length (lsF cHd (lsOf cHd n f)), .str name]) ⟨isLs.vle hq.1, VLe.refl _, trivial⟩ ?_
    obtain ⟨-, h1, h2⟩ := hq
    have hlen : (lsOf cHd n f).length = n := lsOf_len n f
    rw [← hlen] at h2
    generalize lsOf cHd n f = l at h1 h2 ⊢
    refine w105 (fun _ => false) [] rfl hct rfl rfl ?_
    push_cast (config := { maxSteps := 10000000 })
    refine ⟨⟨h1, h2⟩, fun h => ?_, fun h => ?_⟩
    · have : (valuesL l name).length = 0 := by omega
      rw [List.length_eq_zero_iff.1 this]; exact ⟨rfl, rfl⟩
    · exact ⟨by omega, (decide_eq_true (by omega)).symm⟩
  · cases h
attribute [push_cast] ckFirst
def wChd : List UInt8 := [99, 104, 117, 110, 107, 101, 100]
def frameL (st : Int) (l : List Hd) : Int := if st < 200 ∨ st = 204 ∨ st = 304 then 1 else if valuesL l wCod = [wChd] then 3 else if (valuesL l wCod).length ≠ 0 then 0 else if (valuesL l wLen).length = 0 then 4 else if (lengthL l).2 = true then 2 else 0
theorem fr1 {st : Int} {l : List Hd} (h : (st < 200 ∨ st = 204) ∨ st = 304) : 1 = frameL st l := by unfold frameL; rw [if_pos (by omega)]
theorem fr3 {st : Int} {l : List Hd} (h : (¬ st < 200 ∧ ¬ st = 204) ∧ ¬ st = 304) (h2 : ((valuesL l wCod).length : Int) = 1 ∧ (valuesL l wCod).getD 0 [] = wChd) : 3 = frameL st l := by unfold frameL; rw [if_neg (by omega), if_pos (sing_iff.2 h2)]
theorem fr0 {st : Int} {l : List Hd} (h : (¬ st < 200 ∧ ¬ st = 204) ∧ ¬ st = 304) (h2 : ((valuesL l wCod).length : Int) = 1 → ¬ (valuesL l wCod).getD 0 [] = wChd) (h3 : 0 < ((valuesL l wCod).length : Int)) : 0 = frameL st l := by
  unfold frameL; rw [if_neg (by omega), if_neg (fun e => h2 (sing_iff.1 e).1 (sing_iff.1 e).2), if_pos (by omega)]
theorem fr4 {st : Int} {l : List Hd} (h : (¬ st < 200 ∧ ¬ st = 204) ∧ ¬ st = 304) (h3 : ¬ 0 < ((valuesL l wCod).length : Int)) (h4 : ((valuesL l wLen).length : Int) = 0) : 4 = frameL st l := by
  unfold frameL; rw [if_neg (by omega), if_neg (fun e => by rw [e] at h3; simp at h3), if_neg (by omega), if_pos (by omega)]
theorem fr2 {st : Int} {l : List Hd} (h : (¬ st < 200 ∧ ¬ st = 204) ∧ ¬ st = 304) (h3 : ¬ 0 < ((valuesL l wCod).length : Int)) (h4 : ¬ ((valuesL l wLen).length : Int) = 0) : frameL st l = if (lengthL l).2 = true then 2 else 0 := by
  unfold frameL; rw [if_neg (by omega), if_neg (fun e => by rw [e] at h3; simp at h3), if_neg (by omega), if_neg (by omega)]
theorem headsGo_mem : ∀ {l : List Hd}, headsGo l = 0 → ∀ h ∈ l, tokL h.name = true ∧ valueL h.value = true
  | [], _, h, hh => by cases hh
  | x :: t, e, h, hh => by
    simp only [headsGo] at e
    split at e
    · rename_i h1
      split at e
      · rename_i h2
        rcases List.mem_cons.1 hh with rfl | hh
        · exact ⟨h1, h2⟩
        · exact headsGo_mem e h hh
      · omega
    · omega
theorem value_1000 {s : List UInt8} (h : valueL s = true) : s.length ≤ 1000 := by
  simp only [valueL, Bool.and_eq_true, decide_eq_true_eq] at h; exact h.1.1
def ckFrame : Ck
  | [.agg [.int .i64 st, .str re, .sl n f, _]] => some (isLs cHd n f ∧ hdsOk (lsOf cHd n f) ∧ n ≤ 1000000, .int .i64 (frameL st (lsOf cHd n f)))
  | _ => none
theorem conFrame : Con pg 39 ckFrame := by
  have hct := (ctA_ok conValues (ctA_ok conLength (ctN_ok _)))
  intro args q r h hq
  unfold ckFrame at h
  split at h
  · cases h
    rename_i st re n f x
    refine w39 (fun _ => false) [] rfl hct rfl rfl ?_
    push_cast (config := { maxSteps := 10000000 })
    refine ⟨hq, hq, fun h => fr1 h, fun h => ⟨fun h1 => ⟨h1, by omega⟩, fun h1 => fr3 h h1, fun h1 => ⟨fun h2 => fr0 h h1 h2, fun h2 => ⟨fun h3 => fr4 h h2 h3, fun h3 => ⟨hq, fun h4 => ?_, fun h4 => ?_⟩⟩⟩⟩⟩
    · rw [fr2 h h2 h3, if_pos h4]
    · rw [fr2 h h2 h3, if_neg (by simp [h4])]
  · cases h
attribute [push_cast] ckFrame
theorem splitL_le (s : List UInt8) (c : UInt8) : (splitL s c).length ≤ s.length + 1 := by
  rw [splitL_eq]
  induction s with
  | nil => simp [spl]
  | cons x t ih =>
    rw [spl]
    have := List.length_pos_iff.2 (spl_ne c t)
    split
    · simp only [List.length_cons]; omega
    · simp only [List.length_cons, List.length_tail]; omega
end Go.Abs
