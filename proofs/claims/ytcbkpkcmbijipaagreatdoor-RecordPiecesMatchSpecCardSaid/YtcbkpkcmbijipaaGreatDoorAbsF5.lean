/- what functions of this program compute: contracts, each a function's own -/
import Derived.Test.YtcbkpkcmbijipaaGreatDoorAbsK3
import Derived.Test.YtcbkpkcmbijipaaGreatDoorAbsFacts
import Derived.Test.YtcbkpkcmbijipaaGreatDoorAbsF4
import Derived.Test.YtcbkpkcmbijipaaGreatDoorAbsShelf
import Derived.Lib.SlTrimSet
import Derived.Lib.Atoi
import Derived.Lib.Itoa
import Derived.Lib.ItoaNum
import Derived.Lib.AtoiErrMem
import Derived.Lib.Repeat
import Derived.Lib.ItoaLen
import Derived.Lib.Walk
import Derived.WalkKit
import Derived.OwnWalkIn
import Derived.TacticsInMore
import Derived.RegionIn
import Derived.LoopNIn
import Derived.LoopIn
import Derived.Shelf.Abstract
namespace Go.Abs
open Go Go.Proofs
set_option maxHeartbeats 4000000
set_option maxRecDepth 100000
set_option linter.unusedVariables false
set_option linter.unusedSimpArgs false
/- record.write behind bytes that are there already: their row is block 12 of the caller's, 9012 here -/
def ckLineKb : List V → List Blk → Option (Prop × V × List Blk)
  | [.str a, .str v, .ptr 2 0], [.cells [.vec 9012 n], .vec 1 k g] => some (k = n ∧ isBy n g ∧ n ≤ 100000000 ∧ a.length ≤ 100000000 ∧ v.length ≤ 100000000, .tup [], [.cells [.vec 9012 (catL (bytesOf n g) a v).length], .vec 1 (catL (bytesOf n g) a v).length (byF (catL (bytesOf n g) a v))])
  | _, _ => none
def ckLine6b : Cf := ⟨fun | [_, _, .ptr 2 _] => [2, 9012] | _ => [], ckLineKb⟩
theorem conLine6b : FCon pg 53 ckLine6b := by
  have hct := ctN_ok pg
  intro args bs q r bs' h hq
  replace h : ckLineKb args bs = some (q, r, bs') := h
  unfold ckLineKb at h
  split at h
  · cases h
    rename_i a v n k g
    refine ⟨rfl, Nat.le_refl _, ?_⟩
    obtain ⟨rfl, hg, hk, ha, hv⟩ := hq
    show FCall pg 53 [.str a, .str v, .ptr 9002 0] [(9002, .cells [.vec 18012 k]), (18012, .vec 1 k fun i => V.shift (g i))] (.tup []) [(9002, .cells [.vec 18012 (catL (bytesOf k g) a v).length]), (18012, .vec 1 (catL (bytesOf k g) a v).length (byF (catL (bytesOf k g) a v)))]
    refine fcall_blk (hm := [(9002, .cells [.vec 18012 k]), (18012, .vec 1 k (byF (bytesOf k g)))]) ⟨rfl, ⟨⟨rfl, rfl⟩, trivial⟩, rfl, ⟨rfl, rfl, fun j hj => by show V.shift (g j) = _; rw [hg.2 j hj]; rfl⟩, trivial⟩ ?_
    have hl := bytesOf_len k g
    generalize bytesOf k g = b at hl ⊢
    subst hl
    refine fw53 (fun _ => false) [] rfl hct rfl (by simp) (by simp [hlIn, idsIn, Blk.menIn, V.menInL, V.menIn, V.flat, byF, lsF]) (by simp [V.menIn, V.menInL, idsIn]) ?_
    push_cast (config := { maxSteps := 10000000 })
    have hll : (lnB2 a v).length = a.length + 2 + v.length + 2 := by simp [lnB2]; omega
    have hcl := catL_len b a v
    have app := ByI.app (ByI.by b) (ByI.by (lnB2 a v)) rfl
    rw [hll] at app
    exact ⟨by omega, by omega, by omega, ⟨by omega, by omega⟩, by omega, by omega, app.2⟩
  · cases h
@[push_cast] theorem line6_idsb (x y : V) (o : Nat) : ckLine6b.ids [x, y, .ptr 2 o] = [2, 9012] := rfl
@[push_cast] theorem line6_kb (a v : List UInt8) (n k : Nat) (g : Nat → V) : ckLine6b.k [.str a, .str v, .ptr 2 0] [.cells [.vec 9012 n], .vec 1 k g] = some (k = n ∧ isBy n g ∧ n ≤ 100000000 ∧ a.length ≤ 100000000 ∧ v.length ≤ 100000000, .tup [], [.cells [.vec 9012 (catL (bytesOf n g) a v).length], .vec 1 (catL (bytesOf n g) a v).length (byF (catL (bytesOf n g) a v))]) := rfl
@[push_cast] theorem keptB_by (B : List UInt8) : bytesOf (B.length + 8) (appF B.length (byF B) (byF [75, 69, 80, 84, 47, 49, 13, 10])) = B ++ [75, 69, 80, 84, 47, 49, 13, 10] := (ByI.app (ByI.by B) (ByI.by [75, 69, 80, 84, 47, 49, 13, 10]) rfl).bytes
@[push_cast] theorem keptB_is (B : List UInt8) : isBy (B.length + 8) (appF B.length (byF B) (byF [75, 69, 80, 84, 47, 49, 13, 10])) = True := eq_true (ByI.app (ByI.by B) (ByI.by [75, 69, 80, 84, 47, 49, 13, 10]) rfl).is
theorem catL_B (B L a v : List UInt8) : catL (B ++ L) a v = B ++ catL L a v := by simp [catL]
theorem recP_owB (B : List UInt8) {r : Rcd} (h : ¬ r.ow = []) : catL (catL (catL (catL (catL (B ++ [75, 69, 80, 84, 47, 49, 13, 10]) [105, 100] r.id) [111, 102] r.ow) [107, 105, 110, 100] (kindW.getD (r.ki - 1).toNat [])) [100, 97, 116, 101] (dateTextL r.ti)) [107, 101, 121] r.ke = B ++ recP r := by
  rw [← recP_ow h]; simp only [catL_B]
theorem recP_noB (B : List UInt8) {r : Rcd} (h : r.ow = []) : catL (catL (catL (catL (B ++ [75, 69, 80, 84, 47, 49, 13, 10]) [105, 100] r.id) [107, 105, 110, 100] (kindW.getD (r.ki - 1).toNat [])) [100, 97, 116, 101] (dateTextL r.ti)) [107, 101, 121] r.ke = B ++ recP r := by
  rw [← recP_no h]; simp only [catL_B]
def ckWriteVK : List V → List Blk → Option (Prop × V × List Blk)
  | [.vec 12 n, .agg [.int .i64 ki, .str id, .str ow, .int .i64 ti, .str ke, .sl hn hf, .sl bn bf]], [.vec 1 k g] => some (k = n ∧ isBy n g ∧ n ≤ 50000000 ∧ isLs cHd hn hf ∧ isBy bn bf ∧ recOk ⟨ki, id, ow, ti, ke, lsOf cHd hn hf, bytesOf bn bf⟩ ∧ checkRecL ⟨ki, id, ow, ti, ke, lsOf cHd hn hf, bytesOf bn bf⟩ = 0, .vec 12 (bytesOf n g ++ recB ⟨ki, id, ow, ti, ke, lsOf cHd hn hf, bytesOf bn bf⟩).length, [.vec 1 (bytesOf n g ++ recB ⟨ki, id, ow, ti, ke, lsOf cHd hn hf, bytesOf bn bf⟩).length (byF (bytesOf n g ++ recB ⟨ki, id, ow, ti, ke, lsOf cHd hn hf, bytesOf bn bf⟩))])
  | _, _ => none
def ckWriteV : Cf := ⟨fun | [.vec 12 _, _] => [12] | _ => [], ckWriteVK⟩
theorem conWriteV : FCon pg 26 ckWriteV := by
  have hct := (ctF_ok conLine6b (ctA_ok conKinds (ctA_ok conDateText (ctA_ok conItoa (ctA_ok conDigest (ctN_ok _))))))
  intro args bs q r bs' h hq
  replace h : ckWriteVK args bs = some (q, r, bs') := h
  unfold ckWriteVK at h
  split at h
  · cases h
    rename_i n ki id ow ti ke hn hf bn bf k g
    refine ⟨rfl, by first | exact Nat.le_refl _ | exact Nat.zero_le _, ?_⟩
    obtain ⟨rfl, hg, hk, h1, h2, ha, hc⟩ := hq
    show FCall pg 26 [.vec 9012 k, .agg [.int .i64 ki, .str id, .str ow, .int .i64 ti, .str ke, .sl hn hf, .sl bn bf]] [(9012, .vec 1 k fun i => V.shift (g i))] (.vec 9012 (bytesOf k g ++ recB ⟨ki, id, ow, ti, ke, lsOf cHd hn hf, bytesOf bn bf⟩).length) [(9012, .vec 1 (bytesOf k g ++ recB ⟨ki, id, ow, ti, ke, lsOf cHd hn hf, bytesOf bn bf⟩).length (byF (bytesOf k g ++ recB ⟨ki, id, ow, ti, ke, lsOf cHd hn hf, bytesOf bn bf⟩)))]
    refine fcall_blk (hm := [(9012, .vec 1 (bytesOf k g).length (byF (bytesOf k g)))]) ⟨rfl, ⟨rfl, (bytesOf_len k g).symm, fun j hj => by show V.shift (g j) = _; rw [hg.2 j hj]; rfl⟩, trivial⟩ ?_
    refine fcall_args (args' := [.vec 9012 (bytesOf k g).length, cRec.enc ⟨ki, id, ow, ti, ke, lsOf cHd hn hf, bytesOf bn bf⟩]) ⟨VLe.of_eq (by rw [bytesOf_len]), isC_rec h1 h2, trivial⟩ ?_
    have hB : (bytesOf k g).length ≤ 50000000 := by rw [bytesOf_len]; exact hk
    generalize bytesOf k g = B at hB ⊢
    generalize (⟨ki, id, ow, ti, ke, lsOf cHd hn hf, bytesOf bn bf⟩ : Rcd) = r at ha hc ⊢
    refine fw26 (fun d => decide (d = 10006)) [] rfl hct rfl (by simp) (by simp [hlIn, idsIn, Blk.menIn, V.menInL, V.menIn, V.flat, byF, lsF]) (by simp [V.menIn, V.menInL, idsIn]) ?_
    push_cast (config := { maxSteps := 10000000 })
    obtain ⟨z1, z2, z3, z4, z5, z6, z7⟩ := rec_sz hc
    obtain ⟨y1, y2, y3, y4, y5, y6, y7, y8, y9, y10⟩ := rec_ok hc
    have zk := kindW_le (r.ki - 1).toNat
    have zp := recP_le hc
    have c8 : ([75, 69, 80, 84, 47, 49, 13, 10] : List UInt8).length = 8 := rfl
    have c2 : ([105, 100] : List UInt8).length = 2 := rfl
    rw [if_pos ⟨y5, y6⟩]
    refine ⟨⟨by omega, by omega⟩, ⟨by omega, by omega⟩, fun how => ?_, fun how => ?_⟩
    · have hP := recP_owB B how
      refine ⟨⟨by simp only [catL_len, List.length_append, List.length_cons, List.length_nil]; omega, by omega⟩, ⟨by omega, by omega⟩, ⟨by omega, by omega⟩, ⟨by simp only [catL_len, List.length_append, List.length_cons, List.length_nil]; omega, by omega⟩, ⟨by omega, by omega⟩, ⟨by simp only [catL_len, List.length_append, List.length_cons, List.length_nil]; omega, by omega⟩, ⟨by simp only [catL_len, List.length_append, List.length_cons, List.length_nil]; omega, by omega⟩, ?_⟩
      generalize catL (catL (catL (catL (catL (B ++ [75, 69, 80, 84, 47, 49, 13, 10]) [105, 100] r.id) [111, 102] r.ow) [107, 105, 110, 100] (kindW.getD (r.ki - 1).toNat [])) [100, 97, 116, 101] (dateTextL r.ti)) [107, 101, 121] r.ke = P at hP ⊢
      refine LoopW.adj ⟨hct, fol⟩ (by kernel_rfl) [] (fun t : Nat × List UInt8 => [(2, .ptr 2 0), (3, .ptr 3 0), (5, .fn (.func 53) [] [.ptr 2 0]), (46, .sl r.hd.length (lsF cHd r.hd)), (47, .int .i64 r.hd.length), (48, .int .i64 t.1)]) (fun t => [(2, .cells [.vec 9012 t.2.length]), (9012, .vec 1 t.2.length (byF t.2)), (3, .cells [.int .i64 r.ki, .str r.id, .str r.ow, .int .i64 r.ti, .str r.ke, .sl r.hd.length (lsF cHd r.hd), .sl r.bd.length (byF r.bd)])]) (fun t => t.1 ≤ r.hd.length ∧ t.2 ++ headsB (r.hd.drop t.1) = (B ++ recP r) ++ headsB r.hd) (fun t => r.hd.length - t.1) (0, P) ?_ fun t ht => ?_
      · push_cast (config := { maxSteps := 10000000 })
        exact ⟨Nat.zero_le _, congrArg (· ++ headsB r.hd) hP⟩
      · obtain ⟨i, o⟩ := t
        obtain ⟨i1, i2⟩ : i ≤ r.hd.length ∧ o ++ headsB (r.hd.drop i) = (B ++ recP r) ++ headsB r.hd := ht
        have hl := congrArg List.length i2
        simp only [List.length_append] at hl
        push_cast (config := { maxSteps := 10000000 })
        refine ⟨fun h => ?_, fun h => ?_⟩
        · have e := dropG (d := ⟨[], []⟩) h
          rw [e, headsB] at i2 hl
          have hx : (headB (r.hd.getD i ⟨[], []⟩)).length = (r.hd.getD i ⟨[], []⟩).name.length + 2 + (r.hd.getD i ⟨[], []⟩).value.length + 2 := by simp [headB]; omega
          simp only [List.length_append] at hl
          exact ⟨h, ⟨by omega, by omega, by omega⟩, ⟨by omega, by omega⟩, (i + 1, catL o (r.hd.getD i ⟨[], []⟩).name (r.hd.getD i ⟨[], []⟩).value), ⟨by show i + 1 ≤ r.hd.length; omega, by rw [← i2]; simp [catL, lnB2, headB]⟩, by show r.hd.length - (i + 1) < r.hd.length - i; omega, by show (i : Int) + 1 = ((i + 1 : Nat) : Int); omega, rfl, rfl, fun _ _ => rfl⟩
        · rw [List.drop_eq_nil_of_le (by omega)] at i2 hl
          simp only [headsB, List.append_nil, List.length_nil, Nat.add_zero] at i2 hl
          have hi6 := itoa_len (n := r.bd.length) (by omega)
          have hdg : (digestL r.bd).length = 16 := hex16_len _
          have hq1 := catL_len o [108, 101, 110, 103, 116, 104] (Lib.itoa r.bd.length)
          have hq2 := catL_len (catL o [108, 101, 110, 103, 116, 104] (Lib.itoa r.bd.length)) [100, 105, 103, 101, 115, 116] (digestL r.bd)
          have cl1 : ([108, 101, 110, 103, 116, 104] : List UInt8).length = 6 := rfl
          have cl2 : ([100, 105, 103, 101, 115, 116] : List UInt8).length = 6 := rfl
          have eq : catL (catL o [108, 101, 110, 103, 116, 104] (Lib.itoa r.bd.length)) [100, 105, 103, 101, 115, 116] (digestL r.bd) ++ [13, 10] ++ r.bd ++ [13, 10, 13, 10] = B ++ recB r := by
            rw [i2]; simp [recB, recQ, catL]
          generalize catL (catL o [108, 101, 110, 103, 116, 104] (Lib.itoa r.bd.length)) [100, 105, 103, 101, 115, 116] (digestL r.bd) = Q at hq2 eq ⊢
          have app : ByI (Q.length + 2 + r.bd.length + 4) (appF (Q.length + 2 + r.bd.length) (appF (Q.length + 2) (appF Q.length (byF Q) (byF [13, 10])) (byF r.bd)) (byF [13, 10, 13, 10])) (B ++ recB r) := (ByI.app (ByI.app (ByI.app (ByI.by Q) (ByI.by [13, 10]) rfl) (ByI.by r.bd) rfl) (ByI.by [13, 10, 13, 10]) rfl).eq eq
          exact ⟨⟨by omega, by omega⟩, ⟨by omega, by omega⟩, by omega, ⟨by omega, by omega⟩, ⟨by omega, by omega⟩, ⟨by omega, by omega⟩, ⟨by omega, by omega⟩, app.1.trans List.length_append, app.1.trans List.length_append, app.2⟩
    · have hP := recP_noB B how
      refine ⟨⟨by omega, by omega⟩, ⟨by omega, by omega⟩, ⟨by simp only [catL_len, List.length_append, List.length_cons, List.length_nil]; omega, by omega⟩, ⟨by omega, by omega⟩, ⟨by simp only [catL_len, List.length_append, List.length_cons, List.length_nil]; omega, by omega⟩, ⟨by simp only [catL_len, List.length_append, List.length_cons, List.length_nil]; omega, by omega⟩, ?_⟩
      generalize catL (catL (catL (catL (B ++ [75, 69, 80, 84, 47, 49, 13, 10]) [105, 100] r.id) [107, 105, 110, 100] (kindW.getD (r.ki - 1).toNat [])) [100, 97, 116, 101] (dateTextL r.ti)) [107, 101, 121] r.ke = P at hP ⊢
      refine LoopW.adj ⟨hct, fol⟩ (by kernel_rfl) [] (fun t : Nat × List UInt8 => [(2, .ptr 2 0), (3, .ptr 3 0), (5, .fn (.func 53) [] [.ptr 2 0]), (46, .sl r.hd.length (lsF cHd r.hd)), (47, .int .i64 r.hd.length), (48, .int .i64 t.1)]) (fun t => [(2, .cells [.vec 9012 t.2.length]), (9012, .vec 1 t.2.length (byF t.2)), (3, .cells [.int .i64 r.ki, .str r.id, .str r.ow, .int .i64 r.ti, .str r.ke, .sl r.hd.length (lsF cHd r.hd), .sl r.bd.length (byF r.bd)])]) (fun t => t.1 ≤ r.hd.length ∧ t.2 ++ headsB (r.hd.drop t.1) = (B ++ recP r) ++ headsB r.hd) (fun t => r.hd.length - t.1) (0, P) ?_ fun t ht => ?_
      · push_cast (config := { maxSteps := 10000000 })
        exact ⟨Nat.zero_le _, congrArg (· ++ headsB r.hd) hP⟩
      · obtain ⟨i, o⟩ := t
        obtain ⟨i1, i2⟩ : i ≤ r.hd.length ∧ o ++ headsB (r.hd.drop i) = (B ++ recP r) ++ headsB r.hd := ht
        have hl := congrArg List.length i2
        simp only [List.length_append] at hl
        push_cast (config := { maxSteps := 10000000 })
        refine ⟨fun h => ?_, fun h => ?_⟩
        · have e := dropG (d := ⟨[], []⟩) h
          rw [e, headsB] at i2 hl
          have hx : (headB (r.hd.getD i ⟨[], []⟩)).length = (r.hd.getD i ⟨[], []⟩).name.length + 2 + (r.hd.getD i ⟨[], []⟩).value.length + 2 := by simp [headB]; omega
          simp only [List.length_append] at hl
          exact ⟨h, ⟨by omega, by omega, by omega⟩, ⟨by omega, by omega⟩, (i + 1, catL o (r.hd.getD i ⟨[], []⟩).name (r.hd.getD i ⟨[], []⟩).value), ⟨by show i + 1 ≤ r.hd.length; omega, by rw [← i2]; simp [catL, lnB2, headB]⟩, by show r.hd.length - (i + 1) < r.hd.length - i; omega, by show (i : Int) + 1 = ((i + 1 : Nat) : Int); omega, rfl, rfl, fun _ _ => rfl⟩
        · rw [List.drop_eq_nil_of_le (by omega)] at i2 hl
          simp only [headsB, List.append_nil, List.length_nil, Nat.add_zero] at i2 hl
          have hi6 := itoa_len (n := r.bd.length) (by omega)
          have hdg : (digestL r.bd).length = 16 := hex16_len _
          have hq1 := catL_len o [108, 101, 110, 103, 116, 104] (Lib.itoa r.bd.length)
          have hq2 := catL_len (catL o [108, 101, 110, 103, 116, 104] (Lib.itoa r.bd.length)) [100, 105, 103, 101, 115, 116] (digestL r.bd)
          have cl1 : ([108, 101, 110, 103, 116, 104] : List UInt8).length = 6 := rfl
          have cl2 : ([100, 105, 103, 101, 115, 116] : List UInt8).length = 6 := rfl
          have eq : catL (catL o [108, 101, 110, 103, 116, 104] (Lib.itoa r.bd.length)) [100, 105, 103, 101, 115, 116] (digestL r.bd) ++ [13, 10] ++ r.bd ++ [13, 10, 13, 10] = B ++ recB r := by
            rw [i2]; simp [recB, recQ, catL]
          generalize catL (catL o [108, 101, 110, 103, 116, 104] (Lib.itoa r.bd.length)) [100, 105, 103, 101, 115, 116] (digestL r.bd) = Q at hq2 eq ⊢
          have app : ByI (Q.length + 2 + r.bd.length + 4) (appF (Q.length + 2 + r.bd.length) (appF (Q.length + 2) (appF Q.length (byF Q) (byF [13, 10])) (byF r.bd)) (byF [13, 10, 13, 10])) (B ++ recB r) := (ByI.app (ByI.app (ByI.app (ByI.by Q) (ByI.by [13, 10]) rfl) (ByI.by r.bd) rfl) (ByI.by [13, 10, 13, 10]) rfl).eq eq
          exact ⟨⟨by omega, by omega⟩, ⟨by omega, by omega⟩, by omega, ⟨by omega, by omega⟩, ⟨by omega, by omega⟩, ⟨by omega, by omega⟩, ⟨by omega, by omega⟩, app.1.trans List.length_append, app.1.trans List.length_append, app.2⟩
  · cases h
attribute [push_cast] ckWriteVK
@[push_cast] theorem writeV_ids (n : Nat) (x : V) : ckWriteV.ids [.vec 12 n, x] = [12] := rfl
@[push_cast] theorem writeV_k (n k hn bn : Nat) (ki ti : Int) (id ow ke : List UInt8) (g hf bf : Nat → V) : ckWriteV.k [.vec 12 n, .agg [.int .i64 ki, .str id, .str ow, .int .i64 ti, .str ke, .sl hn hf, .sl bn bf]] [.vec 1 k g] = some (k = n ∧ isBy n g ∧ n ≤ 50000000 ∧ isLs cHd hn hf ∧ isBy bn bf ∧ recOk ⟨ki, id, ow, ti, ke, lsOf cHd hn hf, bytesOf bn bf⟩ ∧ checkRecL ⟨ki, id, ow, ti, ke, lsOf cHd hn hf, bytesOf bn bf⟩ = 0, .vec 12 (bytesOf n g ++ recB ⟨ki, id, ow, ti, ke, lsOf cHd hn hf, bytesOf bn bf⟩).length, [.vec 1 (bytesOf n g ++ recB ⟨ki, id, ow, ti, ke, lsOf cHd hn hf, bytesOf bn bf⟩).length (byF (bytesOf n g ++ recB ⟨ki, id, ow, ti, ke, lsOf cHd hn hf, bytesOf bn bf⟩))]) := rfl

def ckCheckFile : Ck
  | [.sl n f] => some (isLs cRec n f ∧ recsOk (lsOf cRec n f), .int .i64 (checkFileL (lsOf cRec n f)))
  | _ => none
theorem conCheckFile : Con pg 9 ckCheckFile := by
  have hct := (ctA_ok conCheckRec (ctA_ok conWrite (ctN_ok _)))
  intro args q r h hq
  unfold ckCheckFile at h
  split at h
  · cases h
    rename_i n f
    refine pcall_args (args' := [.sl (lsOf cRec n f).length (lsF cRec (lsOf cRec n f))]) ⟨isLs.vle hq.1, trivial⟩ ?_
    obtain ⟨-, hl⟩ := hq
    generalize lsOf cRec n f = l at hl ⊢
    refine w9 (fun _ => false) [] rfl hct rfl rfl ?_
    push_cast (config := { maxSteps := 10000000 })
    refine ⟨fun h => by unfold checkFileL; rw [if_pos (by omega)], fun h => ?_⟩
    have e0 : checkFileL l = cfGo [] 0 l := by unfold checkFileL; rw [if_neg (by omega)]
    rw [e0]
    refine LoopW.adj ⟨hct, fol⟩ (by kernel_rfl) [] (fun t : Nat × Int => [(3, .map 11), (4, .int .i64 t.2), (12, .sl l.length (lsF cRec l)), (13, .int .i64 l.length), (14, .int .i64 t.1)]) (fun t => [(11, .mp .str (seenM ((l.take t.1).map Rcd.id)))]) (fun t => t.1 ≤ l.length ∧ 0 ≤ t.2 ∧ t.2 ≤ t.1 * 400000 ∧ cfGo ((l.take t.1).map Rcd.id) t.2 (l.drop t.1) = cfGo [] 0 l) (fun t => l.length - t.1) (0, 0) ?_ fun t ht => ?_
    · push_cast (config := { maxSteps := 10000000 })
      exact ⟨Nat.zero_le _, seen_nil⟩
    · obtain ⟨i, m⟩ := t
      obtain ⟨h1, h2, h3, h4⟩ : i ≤ l.length ∧ 0 ≤ m ∧ m ≤ i * 400000 ∧ cfGo ((l.take i).map Rcd.id) m (l.drop i) = cfGo [] 0 l := ht
      push_cast (config := { maxSteps := 10000000 })
      refine ⟨fun hi => ?_, fun hi => ?_⟩
      · rw [dropG (d := noRec) hi, cfGo] at h4
        have ea := cf_app hi
        have ok := recsOk_at hl hi
        generalize l.getD i noRec = r at *
        refine ⟨hi, ok, fun g => ?_, fun g => ⟨fun g2 => ?_, fun g2 => ⟨⟨ok, g⟩, ?_⟩⟩⟩
        · rw [if_pos g] at h4; exact h4
        · rw [if_neg (fun x => x g), if_pos g2] at h4; exact h4
        · rw [if_neg (fun x => x g), if_neg (by rw [g2]; simp)] at h4
          have hb := recB_le g
          exact ⟨⟨by omega, by omega⟩, ⟨by omega, by omega⟩, ((i + 1, m + (recB r).length) : Nat × Int), ⟨by show i + 1 ≤ _; omega, by show 0 ≤ m + _; omega, by show m + _ ≤ ((i + 1 : Nat) : Int) * 400000; omega, by rw [ea]; exact h4⟩, by show l.length - (i + 1) < l.length - i; omega, ⟨rfl, by show (i : Int) + 1 = ((i + 1 : Nat) : Int); omega⟩, fun k => by rw [putM_seen, ← ea]⟩
      · rw [List.drop_eq_nil_of_le (by omega), cfGo] at h4
        exact ⟨fun g => by rw [if_pos g] at h4; exact h4, fun g => by rw [if_neg g] at h4; exact h4⟩
  · cases h
attribute [push_cast] ckCheckFile
def fileR (l : List Rcd) : List UInt8 := if checkFileL l = 0 then fileB l else []
def ckFileBytes : Ck
  | [.sl n f] => some (isLs cRec n f ∧ recsOk (lsOf cRec n f), .tup [.sl (fileR (lsOf cRec n f)).length (byF (fileR (lsOf cRec n f))), .int .i64 (checkFileL (lsOf cRec n f))])
  | _ => none
attribute [push_cast] ckFileBytes
/- the calendar, by ranges -/
theorem daysI_next (y : Int) : daysI (y + 1) 1 = daysI y 1 + yearLong y := by
  rw [daysI_1, daysI_1]
  unfold yearLong leapB
  split
  · rename_i h; simp only [decide_eq_true_eq] at h; omega
  · rename_i h; simp only [decide_eq_true_eq] at h; omega
theorem daysI_month {y : Int} {m : Int} (h : 1 ≤ m) : daysI y (m + 1) = daysI y m + monthLongI y m := by
  unfold daysI
  obtain ⟨k, rfl⟩ : ∃ k : Nat, m = k + 1 := ⟨(m - 1).toNat, by omega⟩
  rw [show ((k : Int) + 1 + 1 - 1).toNat = k + 1 by omega, show ((k : Int) + 1 - 1).toNat = k by omega]
  simp only [monthsSum]; omega
theorem monthsSum_12 (y : Int) : monthsSum y 12 = yearLong y := by
  simp only [monthsSum]
  unfold monthLongI yearLong leapB
  by_cases h : y % 4 = 0 ∧ (y % 100 ≠ 0 ∨ y % 400 = 0)
  · simp [h]
  · simp [h]
theorem daysI_13 (y : Int) : daysI y 13 = daysI (y + 1) 1 := by
  rw [daysI_next, daysI_1]
  unfold daysI
  rw [show ((13 : Int) - 1).toNat = 12 from rfl, monthsSum_12]; 
theorem daysI_mono {y z : Int} (h : y < z) : daysI (y + 1) 1 ≤ daysI z 1 := by
  rw [daysI_1, daysI_1]; omega
theorem yearF_up (d : Int) : ∀ (n : Nat) (y : Int), d < daysI (yearF d n y + 1) 1 ∨ yearF d n y = y + n
  | 0, y => .inr (by simp [yearF])
  | n + 1, y => by
    simp only [yearF]
    split
    · rcases yearF_up d n (y + 1) with h | h
      · exact .inl h
      · exact .inr (by omega)
    · exact .inl (by omega)
theorem monthF_up (y d : Int) : ∀ (n : Nat) (m : Int), (12 ≤ monthF y d n m ∨ d < daysI y (monthF y d n m + 1)) ∨ monthF y d n m = m + n
  | 0, m => .inr (by simp [monthF])
  | n + 1, m => by
    simp only [monthF]
    split
    · rcases monthF_up y d n (m + 1) with h | h
      · exact .inl h
      · exact .inr (by omega)
    · exact .inl (by omega)
theorem yearI_up {d : Int} (h0 : 0 ≤ d) (h1 : d ≤ 2932896) : d < daysI (yearI d + 1) 1 := by
  have b := date_b h0 h1
  rcases yearF_up d 1000 (1970 + d / 366) with h | h
  · exact h
  · have hb := yearF_b d 1000 _ (daysI_y0 d h0 h1)
    have := daysI_step hb.2 hb.1 h0 h1
    omega
theorem yearI_is {d y : Int} (h0 : 0 ≤ d) (h1 : d ≤ 2932896) (a : daysI y 1 ≤ d) (b : d < daysI (y + 1) 1) : yearI d = y := by
  have hb := yearF_b d 1000 _ (daysI_y0 d h0 h1)
  have hu := yearI_up h0 h1
  have hl : daysI (yearI d) 1 ≤ d := hb.2
  rcases Int.lt_trichotomy (yearI d) y with h | h | h
  · have := daysI_mono h; omega
  · exact h
  · have := daysI_mono h; omega
theorem monthsSum_mono (y : Int) {i j : Nat} (h : i ≤ j) : monthsSum y i ≤ monthsSum y j := by
  induction h with
  | refl => exact Int.le_refl _
  | step _ ih => have := monthLongI_b y ((‹Nat› : Nat) + 1 : Int); simp only [monthsSum]; have := monthLongI_b y; omega
theorem daysI_mmono {y m k : Int} (h1 : 1 ≤ m) (h : m ≤ k) : daysI y m ≤ daysI y k := by
  have := monthsSum_mono y (i := (m - 1).toNat) (j := (k - 1).toNat) (by omega)
  unfold daysI; omega
theorem monthI_is {d m : Int} (h0 : 0 ≤ d) (h1 : d ≤ 2932896) (m1 : 1 ≤ m) (m2 : m ≤ 12) (a : daysI (yearI d) m ≤ d) (b : d < daysI (yearI d) (m + 1)) : monthI d = m := by
  have hd : daysI (yearI d) 1 ≤ d := (yearF_b d 1000 _ (daysI_y0 d h0 h1)).2
  have hb := monthF_b (yearI d) d 12 1 (by omega) (by omega) hd
  have hu : 12 ≤ monthI d ∨ d < daysI (yearI d) (monthI d + 1) := by
    rcases monthF_up (yearI d) d 12 1 with h | h
    · exact h
    · exact .inl (by unfold monthI; omega)
  change 1 ≤ monthI d ∧ monthI d ≤ 12 ∧ daysI (yearI d) (monthI d) ≤ d at hb
  rcases Int.lt_trichotomy (monthI d) m with h | h | h
  · rcases hu with hu | hu
    · omega
    · have := daysI_mmono (y := yearI d) (m := monthI d + 1) (k := m) (by omega) (by omega); omega
  · exact h
  · have := daysI_mmono (y := yearI d) (m := m + 1) (k := monthI d) (by omega) (by omega); omega
theorem monthI_up {d : Int} (h0 : 0 ≤ d) (h1 : d ≤ 2932896) : d < daysI (yearI d) (monthI d + 1) := by
  have hd : daysI (yearI d) 1 ≤ d := (yearF_b d 1000 _ (daysI_y0 d h0 h1)).2
  have hb := monthF_b (yearI d) d 12 1 (by omega) (by omega) hd
  change 1 ≤ monthI d ∧ monthI d ≤ 12 ∧ daysI (yearI d) (monthI d) ≤ d at hb
  rcases monthF_up (yearI d) d 12 1 with h | h
  · change 12 ≤ monthI d ∨ d < daysI (yearI d) (monthI d + 1) at h
    rcases h with h | h
    · rw [show monthI d = 12 by omega, show (12 : Int) + 1 = 13 from rfl, daysI_13]; exact yearI_up h0 h1
    · exact h
  · change monthI d = 1 + ((12 : Nat) : Int) at h; omega
theorem yearI_9999 {d : Int} (h0 : 0 ≤ d) (h1 : d ≤ 2932896) : yearI d ≤ 9999 := by
  have hd : daysI (yearI d) 1 ≤ d := (yearF_b d 1000 _ (daysI_y0 d h0 h1)).2
  rw [daysI_1] at hd; omega

theorem u8n {a b : Int} (h : a = b) : UInt8.ofNat a.toNat = UInt8.ofNat b.toNat := by rw [h]
theorem padded2 {n : Int} (h0 : 0 ≤ n) (h1 : n ≤ 99) : paddedL n 2 = twoL n := by
  obtain ⟨k, rfl⟩ : ∃ k : Nat, n = k := ⟨n.toNat, by omega⟩
  unfold paddedL twoL
  rw [itoa_nat]
  by_cases h : k < 10
  · rw [dec_small h]
    rw [show (48 + (k : Int) / 10 % 10).toNat = 48 by omega, show (48 + (k : Int) % 10).toNat = 48 + k by omega]
    rfl
  · rw [dec_step (by omega), dec_small (by omega)]
    rw [show (48 + (k : Int) / 10 % 10).toNat = 48 + k / 10 by omega, show (48 + (k : Int) % 10).toNat = 48 + k % 10 by omega]
    rfl
theorem padded4 {n : Int} (h0 : 1000 ≤ n) (h1 : n ≤ 9999) : paddedL n 4 = twoL (n / 100) ++ twoL n := by
  obtain ⟨k, rfl⟩ : ∃ k : Nat, n = k := ⟨n.toNat, by omega⟩
  unfold paddedL twoL
  rw [itoa_nat, dec_step (by omega), dec_step (n := k / 10) (by omega), dec_step (n := k / 10 / 10) (by omega), dec_small (by omega)]
  rw [show (48 + (k : Int) / 100 / 10 % 10).toNat = 48 + k / 10 / 10 / 10 by omega, show (48 + (k : Int) / 100 % 10).toNat = 48 + k / 10 / 10 % 10 by omega, show (48 + (k : Int) / 10 % 10).toNat = 48 + k / 10 % 10 by omega, show (48 + (k : Int) % 10).toNat = 48 + k % 10 by omega]
  rfl
theorem dayName (d : Int) : List.take ((3 * ((d + 4) % 7) + 3).toNat - (3 * ((d + 4) % 7)).toNat) (List.drop (3 * ((d + 4) % 7)).toNat ([83, 117, 110, 77, 111, 110, 84, 117, 101, 87, 101, 100, 84, 104, 117, 70, 114, 105, 83, 97, 116] : List UInt8)) = wdN.getD ((d + 3) % 7).toNat [] := by
  rcases (by omega : d % 7 = 0 ∨ d % 7 = 1 ∨ d % 7 = 2 ∨ d % 7 = 3 ∨ d % 7 = 4 ∨ d % 7 = 5 ∨ d % 7 = 6) with h | h | h | h | h | h | h
  · rw [show (d + 4) % 7 = 4 by omega, show (d + 3) % 7 = 3 by omega]; rfl
  · rw [show (d + 4) % 7 = 5 by omega, show (d + 3) % 7 = 4 by omega]; rfl
  · rw [show (d + 4) % 7 = 6 by omega, show (d + 3) % 7 = 5 by omega]; rfl
  · rw [show (d + 4) % 7 = 0 by omega, show (d + 3) % 7 = 6 by omega]; rfl
  · rw [show (d + 4) % 7 = 1 by omega, show (d + 3) % 7 = 0 by omega]; rfl
  · rw [show (d + 4) % 7 = 2 by omega, show (d + 3) % 7 = 1 by omega]; rfl
  · rw [show (d + 4) % 7 = 3 by omega, show (d + 3) % 7 = 2 by omega]; rfl
theorem conDateOf2 : Con pg 79 ckDateText0 := by
  have hct := (ctA_ok conYearDays (ctA_ok conMonthDays (ctA_ok conTwo (ctA_ok conMonthName (ctN_ok _)))))
  intro args q r h hq
  unfold ckDateText0 at h
  split at h
  · cases h
    rename_i n
    refine w79 (fun _ => false) [] rfl hct rfl rfl ?_
    push_cast (config := { maxSteps := 10000000 })
    (repeat (refine ⟨by omega, ?_⟩))
    generalize hd : n / 86400 = d at *
    have h0 : 0 ≤ d ∧ d ≤ 2932896 := by omega
    refine LoopW.adj ⟨hct, fol⟩ (by kernel_rfl) [] (fun t : Nat => [(3, .int .i64 (d - daysI (1970 + t) 1)), (4, .int .i64 (n % 86400)), (5, .int .i64 ((d + 4) % 7)), (6, .int .i64 (1970 + t)), (7, .int .i64 1)]) (fun _ => []) (fun t => daysI (1970 + t) 1 ≤ d) (fun t => 9000 - t) 0 ?_ fun t ht => ?_
    · push_cast (config := { maxSteps := 10000000 })
      have e : daysI 1970 1 = 0 := by rw [daysI_1]; omega
      simp [e]; omega
    · push_cast (config := { maxSteps := 10000000 })
      have hlo : (t : Int) ≤ 8029 := by have := daysI_1 (1970 + t); omega
      have hnx := daysI_next (1970 + t)
      have hyl : yearLong (1970 + t) = 365 ∨ yearLong (1970 + t) = 366 := by unfold yearLong; split <;> simp
      have hge : 0 ≤ daysI (1970 + t) 1 := by have := daysI_1 (1970 + t); omega
      refine ⟨⟨by omega, by omega⟩, fun h => ⟨⟨by omega, by omega⟩, ⟨by omega, by omega⟩, ⟨by omega, by omega⟩, t + 1, ?_, by omega, ?_, by omega⟩, fun h => ?_⟩
      · rw [show 1970 + ((t + 1 : Nat) : Int) = 1970 + (t : Int) + 1 by omega]; omega
      · rw [show 1970 + ((t + 1 : Nat) : Int) = 1970 + (t : Int) + 1 by omega]; omega
      · have hY : yearI d = 1970 + t := yearI_is h0.1 h0.2 ht (by omega)
        generalize 1970 + (t : Int) = y at *
        have hy : 1970 ≤ y ∧ y ≤ 9999 := by have := yearI_9999 h0.1 h0.2; have := (date_b h0.1 h0.2).1; omega
        refine LoopW.adj ⟨hct, fol⟩ (by kernel_rfl) [] (fun t : Nat => [(3, .int .i64 (d - daysI y (1 + t))), (4, .int .i64 (n % 86400)), (5, .int .i64 ((d + 4) % 7)), (6, .int .i64 y), (7, .int .i64 (1 + t))]) (fun _ => []) (fun t => daysI y (1 + t) ≤ d ∧ t ≤ 11) (fun t => 12 - t) 0 ?_ fun t ht2 => ?_
        · push_cast (config := { maxSteps := 10000000 })
          simpa using ht
        · push_cast (config := { maxSteps := 10000000 })
          have hm := daysI_month (y := y) (m := 1 + t) (by omega)
          have hml := monthLongI_b y (1 + t)
          have hmm := daysI_mmono (y := y) (m := 1) (k := 1 + t) (by omega) (by omega)
          have h12 : (t : Int) + 1 = 12 → d < daysI y (1 + t + 1) := fun e => by
            rw [show 1 + (t : Int) + 1 = 13 by omega, daysI_13]; omega
          have hl2 : ∀ x, (twoL x).length = 2 := fun _ => rfl
          have hl3 := mnN_b (1 + (t : Int) - 1).toNat
          have q1 : (0 ≤ y ∧ y ≤ 1000000 ∧ 1 ≤ 1 + (t : Int) ∧ 1 + (t : Int) ≤ 12) := by omega
          refine ⟨q1, fun h => ⟨q1, ⟨by omega, by omega⟩, ⟨by omega, by omega⟩, t + 1, ⟨?_, ?_⟩, by omega, ?_, by omega⟩, fun h => ?_⟩
          · rw [show 1 + ((t + 1 : Nat) : Int) = 1 + (t : Int) + 1 by omega]; omega
          · by_cases e : (t : Int) + 1 = 12
            · have := h12 e; omega
            · omega
          · rw [show 1 + ((t + 1 : Nat) : Int) = 1 + (t : Int) + 1 by omega]; omega
          have hM : monthI d = 1 + t := monthI_is h0.1 h0.2 (by omega) (by omega) (by rw [hY]; exact ht2.1) (by rw [hY]; omega)
          simp only [hl2]
          have hd2 : d - daysI y (1 + t) ≤ 30 := by omega
          (repeat (refine ⟨by omega, ?_⟩))
          rw [dayName]
          unfold dateTextL
          simp only [hd, hY, hM]
          rw [padded2 (n := d - daysI y (1 + t) + 1) (by omega) (by omega), padded4 (n := y) (by omega) (by omega), padded2 (n := n % 86400 / 3600) (by omega) (by omega), padded2 (n := n % 86400 / 60 % 60) (by omega) (by omega), padded2 (n := n % 86400 % 60) (by omega) (by omega)]
          simp only [List.append_assoc]
  · cases h

def ckWritten : Ck
  | [x] => some (isC cRec x ∧ recOk (cRec.dec x) ∧ checkRecL (cRec.dec x) = 0, .sl (recB (cRec.dec x)).length (byF (recB (cRec.dec x))))
  | _ => none
theorem conWritten : Con pg 61 ckWritten := by
  have hct := (ctA_ok conKindW (ctA_ok conDateOf2 (ctA_ok conItoa (ctA_ok conDigest2 (ctN_ok _)))))
  intro args q r h hq
  unfold ckWritten at h
  split at h
  · cases h
    rename_i x
    refine pcall_args (args' := [cRec.enc (cRec.dec x)]) ⟨hq.1, trivial⟩ ?_
    obtain ⟨-, ha, hc⟩ := hq
    generalize cRec.dec x = r at ha hc ⊢
    refine w61 (fun _ => false) [.frz 73] rfl hct rfl rfl ?_
    push_cast (config := { maxSteps := 10000000 })
    obtain ⟨z1, z2, z3, z4, z5, z6, z7⟩ := rec_sz hc
    obtain ⟨y1, y2, y3, y4, y5, y6, y7, y8, y9, y10⟩ := rec_ok hc
    have zk := kindW_le (r.ki - 1).toNat
    have zp := recP_le hc
    refine ⟨by omega, by omega, fun how => ?_, fun how => ?_⟩
    · (repeat (refine ⟨by omega, ?_⟩))
      refine LoopW.adj ⟨hct, fol⟩ (by kernel_rfl) [] (fun t : Nat × List UInt8 => [(1, .ptr 1 0), (3, .str t.2), (4, .int .i64 t.1)]) (fun t => [(1, .cells [.int .i64 r.ki, .str r.id, .str r.ow, .int .i64 r.ti, .str r.ke, .sl r.hd.length (lsF cHd r.hd), .sl r.bd.length (byF r.bd)])]) (fun t => t.1 ≤ r.hd.length ∧ t.2 ++ headsB (r.hd.drop t.1) = recP r ++ headsB r.hd) (fun t => r.hd.length - t.1) (0, recP r) ?_ fun t ht => ?_
      · push_cast (config := { maxSteps := 10000000 })
        refine ⟨Nat.zero_le _, ?_⟩
        unfold recP; rw [if_neg how]; simp [lnB2, wKept]
      · obtain ⟨i, o⟩ := t
        obtain ⟨i1, i2⟩ : i ≤ r.hd.length ∧ o ++ headsB (r.hd.drop i) = recP r ++ headsB r.hd := ht
        have hl := congrArg List.length i2
        simp only [List.length_append] at hl
        push_cast (config := { maxSteps := 10000000 })
        refine ⟨fun h => ?_, fun h => ?_⟩
        · have e := dropG (d := ⟨[], []⟩) h
          rw [e, headsB] at i2 hl
          have hx : (headB (r.hd.getD i ⟨[], []⟩)).length = (r.hd.getD i ⟨[], []⟩).name.length + 2 + (r.hd.getD i ⟨[], []⟩).value.length + 2 := by simp [headB]; omega
          simp only [List.length_append] at hl
          generalize r.hd.getD i ⟨[], []⟩ = y at *
          (repeat (refine ⟨by omega, ?_⟩))
          exact ⟨((i + 1, o ++ (y.name ++ [58, 32] ++ y.value ++ [13, 10])) : Nat × List UInt8), ⟨by show i + 1 ≤ _; omega, by rw [← i2]; simp [headB]⟩, by show r.hd.length - (i + 1) < r.hd.length - i; omega, rfl, by show (i : Int) + 1 = ((i + 1 : Nat) : Int); omega⟩
        · rw [List.drop_eq_nil_of_le (by omega)] at i2 hl
          simp only [headsB, List.append_nil, List.length_nil, Nat.add_zero] at i2 hl
          have hi6 := itoa_len (n := r.bd.length) (by omega)
          have hdg : (digestL r.bd).length = 16 := hex16_len _
          (repeat (refine ⟨by omega, ?_⟩))
          have eq : (o ++ 108 :: 101 :: 110 :: 103 :: 116 :: 104 :: 58 :: 32 :: (Lib.itoa r.bd.length ++ [13, 10, 100, 105, 103, 101, 115, 116, 58, 32] ++ digestL r.bd ++ [13, 10, 13, 10])) ++ r.bd ++ [13, 10, 13, 10] = recB r := by
            rw [i2]; simp [recB, recQ, lnB2]
          have hQ : (o ++ 108 :: 101 :: 110 :: 103 :: 116 :: 104 :: 58 :: 32 :: (Lib.itoa r.bd.length ++ [13, 10, 100, 105, 103, 101, 115, 116, 58, 32] ++ digestL r.bd ++ [13, 10, 13, 10])).length = o.length + ((Lib.itoa r.bd.length).length + 10 + (digestL r.bd).length + 4 + 1 + 1 + 1 + 1 + 1 + 1 + 1 + 1) := by simp; omega
          have app := (ByI.app (ByI.app (ByI.by (o ++ 108 :: 101 :: 110 :: 103 :: 116 :: 104 :: 58 :: 32 :: (Lib.itoa r.bd.length ++ [13, 10, 100, 105, 103, 101, 115, 116, 58, 32] ++ digestL r.bd ++ [13, 10, 13, 10]))) (ByI.by r.bd) rfl) (ByI.by [13, 10, 13, 10]) rfl).eq eq
          rw [hQ] at app
          exact ⟨app.pure, app.1, app.2⟩
    · (repeat (refine ⟨by omega, ?_⟩))
      refine LoopW.adj ⟨hct, fol⟩ (by kernel_rfl) [] (fun t : Nat × List UInt8 => [(1, .ptr 1 0), (3, .str t.2), (4, .int .i64 t.1)]) (fun t => [(1, .cells [.int .i64 r.ki, .str r.id, .str r.ow, .int .i64 r.ti, .str r.ke, .sl r.hd.length (lsF cHd r.hd), .sl r.bd.length (byF r.bd)])]) (fun t => t.1 ≤ r.hd.length ∧ t.2 ++ headsB (r.hd.drop t.1) = recP r ++ headsB r.hd) (fun t => r.hd.length - t.1) (0, recP r) ?_ fun t ht => ?_
      · push_cast (config := { maxSteps := 10000000 })
        refine ⟨Nat.zero_le _, ?_⟩
        unfold recP; rw [if_pos how]; simp [lnB2, wKept]
      · obtain ⟨i, o⟩ := t
        obtain ⟨i1, i2⟩ : i ≤ r.hd.length ∧ o ++ headsB (r.hd.drop i) = recP r ++ headsB r.hd := ht
        have hl := congrArg List.length i2
        simp only [List.length_append] at hl
        push_cast (config := { maxSteps := 10000000 })
        refine ⟨fun h => ?_, fun h => ?_⟩
        · have e := dropG (d := ⟨[], []⟩) h
          rw [e, headsB] at i2 hl
          have hx : (headB (r.hd.getD i ⟨[], []⟩)).length = (r.hd.getD i ⟨[], []⟩).name.length + 2 + (r.hd.getD i ⟨[], []⟩).value.length + 2 := by simp [headB]; omega
          simp only [List.length_append] at hl
          generalize r.hd.getD i ⟨[], []⟩ = y at *
          (repeat (refine ⟨by omega, ?_⟩))
          exact ⟨((i + 1, o ++ (y.name ++ [58, 32] ++ y.value ++ [13, 10])) : Nat × List UInt8), ⟨by show i + 1 ≤ _; omega, by rw [← i2]; simp [headB]⟩, by show r.hd.length - (i + 1) < r.hd.length - i; omega, rfl, by show (i : Int) + 1 = ((i + 1 : Nat) : Int); omega⟩
        · rw [List.drop_eq_nil_of_le (by omega)] at i2 hl
          simp only [headsB, List.append_nil, List.length_nil, Nat.add_zero] at i2 hl
          have hi6 := itoa_len (n := r.bd.length) (by omega)
          have hdg : (digestL r.bd).length = 16 := hex16_len _
          (repeat (refine ⟨by omega, ?_⟩))
          have eq : (o ++ 108 :: 101 :: 110 :: 103 :: 116 :: 104 :: 58 :: 32 :: (Lib.itoa r.bd.length ++ [13, 10, 100, 105, 103, 101, 115, 116, 58, 32] ++ digestL r.bd ++ [13, 10, 13, 10])) ++ r.bd ++ [13, 10, 13, 10] = recB r := by
            rw [i2]; simp [recB, recQ, lnB2]
          have hQ : (o ++ 108 :: 101 :: 110 :: 103 :: 116 :: 104 :: 58 :: 32 :: (Lib.itoa r.bd.length ++ [13, 10, 100, 105, 103, 101, 115, 116, 58, 32] ++ digestL r.bd ++ [13, 10, 13, 10])).length = o.length + ((Lib.itoa r.bd.length).length + 10 + (digestL r.bd).length + 4 + 1 + 1 + 1 + 1 + 1 + 1 + 1 + 1) := by simp; omega
          have app := (ByI.app (ByI.app (ByI.by (o ++ 108 :: 101 :: 110 :: 103 :: 116 :: 104 :: 58 :: 32 :: (Lib.itoa r.bd.length ++ [13, 10, 100, 105, 103, 101, 115, 116, 58, 32] ++ digestL r.bd ++ [13, 10, 13, 10]))) (ByI.by r.bd) rfl) (ByI.by [13, 10, 13, 10]) rfl).eq eq
          rw [hQ] at app
          exact ⟨app.pure, app.1, app.2⟩
  · cases h
attribute [push_cast] ckWritten

theorem conCheckFile2 : Con pg 30 ckCheckFile := by
  have hct := (ctA_ok conCheckRec2 (ctA_ok conWritten (ctA_ok conFind (ctN_ok _))))
  intro args q r h hq
  unfold ckCheckFile at h
  split at h
  · cases h
    rename_i n f
    refine pcall_args (args' := [.sl (lsOf cRec n f).length (lsF cRec (lsOf cRec n f))]) ⟨isLs.vle hq.1, trivial⟩ ?_
    obtain ⟨-, hl⟩ := hq
    generalize lsOf cRec n f = l at hl ⊢
    refine w30 (fun _ => false) [] rfl hct rfl rfl ?_
    push_cast (config := { maxSteps := 10000000 })
    refine ⟨fun h => by unfold checkFileL; rw [if_pos (by omega)], fun h => ?_⟩
    have e0 : checkFileL l = cfGo [] 0 l := by unfold checkFileL; rw [if_neg (by omega)]
    rw [e0]
    refine LoopW.adj ⟨hct, fol⟩ (by kernel_rfl) [] (fun t : Nat × Int => [(0, .sl l.length (lsF cRec l)), (3, .int .i64 t.2), (4, .int .i64 t.1)]) (fun t => []) (fun t => t.1 ≤ l.length ∧ 0 ≤ t.2 ∧ t.2 ≤ t.1 * 400000 ∧ cfGo ((l.take t.1).map Rcd.id) t.2 (l.drop t.1) = cfGo [] 0 l) (fun t => l.length - t.1) (0, 0) ?_ fun t ht => ?_
    · push_cast (config := { maxSteps := 10000000 })
      exact Nat.zero_le _
    · obtain ⟨i, m⟩ := t
      obtain ⟨h1, h2, h3, h4⟩ : i ≤ l.length ∧ 0 ≤ m ∧ m ≤ i * 400000 ∧ cfGo ((l.take i).map Rcd.id) m (l.drop i) = cfGo [] 0 l := ht
      push_cast (config := { maxSteps := 10000000 })
      refine ⟨fun hi => ?_, fun hi => ?_⟩
      · rw [dropG (d := noRec) hi, cfGo] at h4
        have ea := cf_app hi
        have ok := recsOk_at hl hi
        have hk := LsI.sh (LsI.ls (c := cRec) l) (l := 0) (k := i) (by omega)
        rw [List.drop_zero] at hk
        have hf := fndL_in (l.take i) (l.getD i noRec).id
        rw [hk.of]
        generalize l.getD i noRec = r at *
        refine ⟨hi, ok, fun g => ?_, fun g => ⟨by omega, hi, ⟨hk.is, by omega⟩, fun g2 => ?_, fun g2 => ⟨hi, ⟨ok, g⟩, ?_⟩⟩⟩
        · rw [if_pos g] at h4; exact h4
        · rw [if_neg (fun x => x g), if_pos (hf.1 g2)] at h4; exact h4
        · rw [if_neg (fun x => x g), if_neg (fun x => g2 (hf.2 x))] at h4
          have hb := recB_le g
          exact ⟨⟨by omega, by omega⟩, ⟨by omega, by omega⟩, ((i + 1, m + (recB r).length) : Nat × Int), ⟨by show i + 1 ≤ _; omega, by show 0 ≤ m + _; omega, by show m + _ ≤ ((i + 1 : Nat) : Int) * 400000; omega, by rw [ea]; exact h4⟩, by show l.length - (i + 1) < l.length - i; omega, rfl, by show (i : Int) + 1 = ((i + 1 : Nat) : Int); omega⟩
      · rw [List.drop_eq_nil_of_le (by omega), cfGo] at h4
        exact ⟨fun g => by rw [if_pos g] at h4; exact h4, fun g => by rw [if_neg g] at h4; exact h4⟩
  · cases h
attribute [push_cast] ckCheckFile
attribute [push_cast] ckFileBytes
theorem conPieces2 : Con pg 17 ckPieces := by
  have hct := (ctA_ok conCheckRec2 (ctA_ok conWithin6 (ctA_ok conValues2 (ctW_ok conCutH (ctA_ok conItoa (ctN_ok _))))))
  intro args q r h hq
  unfold ckPieces at h
  split at h
  · cases h
    rename_i x k
    refine pcall_args (args' := [cRec.enc (cRec.dec x), .int .i64 k]) ⟨hq.1, VLe.refl _, trivial⟩ ?_
    obtain ⟨-, ok⟩ := hq
    generalize cRec.dec x = r at *
    refine w17 (fun d => decide (d = 49 ∨ d = 20023)) [.frz 48, .frz 49, .frz 8000] rfl hct rfl rfl ?_
    push_cast (config := { maxSteps := 10000000 })
    have hv : 0 ≤ fstH r.hd wPieces ↔ ¬ ((valuesL r.hd [112, 105, 101, 99, 101, 115]).length : Int) = 0 := fstH_val r.hd
    refine ⟨ok, fun h => ?_, fun hc => ⟨fun h => ?_, fun h => ?_⟩⟩
    · have e : pcE r k = checkRecL r := by unfold pcE; rw [if_pos h]
      have e2 : pcP r k = [] := by unfold pcP; rw [e, if_pos h]
      rw [e, e2]; exact ⟨rfl, rfl⟩
    · have e : pcE r k = 1 := by unfold pcE; rw [if_neg (fun x => x hc), if_pos (fun x => h x.1 x.2)]
      have e2 : pcP r k = [] := by unfold pcP; rw [e]; rfl
      rw [e, e2]; exact ⟨rfl, rfl⟩
    obtain ⟨h1, h2⟩ := h
    obtain ⟨k, rfl⟩ : ∃ j : Nat, k = j := ⟨k.toNat, by omega⟩
    obtain ⟨z1, z2, z3, z4, z5, z6, z7⟩ := rec_sz hc
    have e0 : ((r.bd.length : Int) + k - 1) / k = (((r.bd.length + k - 1) / k : Nat) : Int) := by
      rw [Int.natCast_ediv, show ((r.bd.length + k - 1 : Nat) : Int) = (r.bd.length : Int) + k - 1 by omega]
    have hN : max 1 (((r.bd.length : Int) + k - 1) / k) = ((pcN r k : Nat) : Int) := by
      rw [e0]
      unfold pcN
      generalize (r.bd.length + k - 1) / k = q
      omega
    rw [hN]
    have hlt := fun i => @pcN_iff r k i (by omega)
    have eE : pcE r k = if 1000 < pcN r k then 2 else if r.ki = 5 ∨ 0 ≤ fstH r.hd wPieces then 12 else if pcN r k = 1 then 0 else bad1 (pcL r k (pcN r k)) := by
      unfold pcE
      rw [if_neg (fun x => x hc), if_neg (fun x => x ⟨h1, h2⟩), Int.toNat_natCast]
    have eP : pcP r k = if ¬ pcE r k = 0 then [] else if pcN r k = 1 then [r] else pcL r k (pcN r k) := by
      unfold pcP
      rw [Int.toNat_natCast]
    have hm1 : 1 ≤ pcN r k := by unfold pcN; omega
    generalize pcN r k = m at *
    refine ⟨⟨by omega, by omega⟩, ⟨by omega, by omega⟩, ⟨by omega, by omega, by omega, by omega⟩, fun h => ?_, fun h3 => ⟨fun h => ⟨h, ok.1, by omega⟩, fun h => ?_, fun h => ⟨fun h4 => ?_, fun h4 => ?_⟩⟩⟩
    · rw [if_pos (by omega)] at eE
      rw [eE, if_pos (by decide)] at eP
      rw [eE, eP]; exact ⟨rfl, rfl⟩
    · have h5 : r.ki = 5 ∨ 0 ≤ fstH r.hd wPieces := by
        rcases h with h | h
        · exact .inl h
        · exact .inr (hv.2 (by omega))
      rw [if_neg (by omega), if_pos h5] at eE
      rw [eE, if_pos (by decide)] at eP
      rw [eE, eP]; exact ⟨rfl, rfl⟩
    · have h5 : ¬ (r.ki = 5 ∨ 0 ≤ fstH r.hd wPieces) := fun x => x.elim h.1 fun y => by have := hv.1 y; omega
      rw [if_neg (by omega), if_neg h5, if_pos (by omega)] at eE
      rw [eE, if_neg (by simp), if_pos (by omega)] at eP
      rw [eE, eP]
      refine ⟨⟨ok, by omega, Nat.le_refl _⟩, rfl, fun i hi => ?_, ⟨rfl, fun i hi => ?_⟩, rfl⟩
      · obtain rfl : i = 0 := by omega
        show V.isPure (frzV 48 2 r.hd.length _ (.agg [_, _, _, _, _, _, _])) = true
        push_cast (config := { maxSteps := 10000000 })
        done
      · obtain rfl : i = 0 := by omega
        show frzV 48 2 r.hd.length _ (.agg [_, _, _, _, _, _, _]) = _
        push_cast (config := { maxSteps := 10000000 })
        rfl
    have h5 : ¬ (r.ki = 5 ∨ 0 ≤ fstH r.hd wPieces) := fun x => x.elim h.1 fun y => by have := hv.1 y; omega
    rw [if_neg (by omega), if_neg h5, if_neg (by omega)] at eE
    rw [eE, if_neg (show ¬ m = 1 by omega)] at eP
    have hb := fun i (h : i < (pcL r k m).length) h0 => @bad1_take (pcL r k m) i h h0
    have hbs := fun i h => @bad1_stop (pcL r k m) i h
    have hL := pcL_len r k m
    have hA := fun i (h : i < m) => pcL_at r k h
    have hX := fun i (h : i < m) => pcX_ok (k := k) (m := m) (i := i) ok hc (by omega) h
    refine LoopW.adj ⟨hct, fol⟩ (by kernel_rfl) [.nv 8 8000 7 (lsF cRec (pcL r k m))] (fun i : Nat => [(1, .int .i64 k), (2, .ptr 2 0), (7, .int .i64 m), (8, .vec 8000 i), (9, .int .i64 i)]) (fun i => [(2, .cells (cRec.enc r).flat), (8000, .vec 7 i (lsF cRec (pcL r k m)))]) (fun i => i ≤ m ∧ bad1 ((pcL r k m).take i) = 0) (fun i => m - i) 0 ?_ fun i hi => ?_
    · push_cast (config := { maxSteps := 10000000 })
      exact ⟨Nat.zero_le _, rfl⟩
    · obtain ⟨i1, i2⟩ := hi
      have im : i * k ≤ 1000 * 100000 := Nat.mul_le_mul (by omega) (by omega)
      have hil := hlt i (by omega)
      have q1 : ((i : Int) + 1) * k = ((i * k + k : Nat) : Int) := by rw [Int.add_mul, Int.one_mul]; rfl
      have q2 : (i : Int) * k = ((i * k : Nat) : Int) := rfl
      have hB : List.take ((min (((i * k + k : Nat) : Int)) (r.bd.length : Int)).toNat - (((i * k : Nat) : Int)).toNat) (List.drop (((i * k : Nat) : Int)).toNat r.bd) = (r.bd.drop (i * k)).take k := by
        rw [Int.toNat_natCast]
        generalize i * k = w
        by_cases e : w + k ≤ r.bd.length
        · rw [show (min (((w + k : Nat) : Int)) (r.bd.length : Int)).toNat - w = k by omega]
        · rw [List.take_of_length_le (by rw [List.length_drop]; omega), List.take_of_length_le (by rw [List.length_drop]; omega)]
      have hBl : min ((min (((i * k + k : Nat) : Int)) (r.bd.length : Int)).toNat - (((i * k : Nat) : Int)).toNat) (r.bd.length - (((i * k : Nat) : Int)).toNat) = ((r.bd.drop (i * k)).take k).length := by
        rw [← hB, List.length_take, List.length_drop]
      push_cast (config := { maxSteps := 10000000 })
      rw [q1, q2, hB, hBl]
      refine ⟨fun him => ⟨⟨by omega, by omega⟩, ⟨by omega, by omega⟩, ⟨by omega, by omega⟩, ⟨ok, by omega, by omega, by omega, by omega⟩, rfl, ?_⟩, fun him => ?_⟩
      · refine SeqW.cut ⟨hct, fol⟩ (by kernel_rfl) (by kernel_rfl) [.frz 67] (fun _ : Unit => [(1, .int .i64 k), (2, .ptr 2 0), (7, .int .i64 m), (8, .vec 8000 i), (9, .int .i64 i), (10, .ptr 10 0)]) (fun _ => [(2, .cells (cRec.enc r).flat), (8000, .vec 7 i (lsF cRec (pcL r k m))), (10, .cells (cRec.enc (pcX r k m i)).flat)]) (fun _ => True) ?_ fun t _ => ?_
        · push_cast (config := { maxSteps := 10000000 })
          have hbl : min k (r.bd.length - i * k) = ((r.bd.drop (i * k)).take k).length := by rw [List.length_take, List.length_drop]
          refine ⟨fun i0 => ?_, fun i0 => ?_⟩
          · obtain rfl : i = 0 := by omega
            have hH : LsI cHd (r.hd.length + 1) (appF r.hd.length (fun i => V.agg [V.str (r.hd.getD i ⟨[], []⟩).name, V.str (r.hd.getD i ⟨[], []⟩).value]) (litF [V.agg [V.str [112, 105, 101, 99, 101, 115], V.str (Lib.itoa (m : Int))]])) (r.hd ++ [⟨wPieces, Lib.itoa m⟩]) := LsI.app (LsI.ls r.hd) (LsI.one rfl) rfl
            have e0 : pcX r k m 0 = ⟨r.ki, r.id, r.ow, r.ti, r.ke, r.hd ++ [⟨wPieces, Lib.itoa m⟩], (r.bd.drop (0 * k)).take k⟩ := if_pos rfl
            rw [hbl, e0]
            refine ⟨⟨by omega, by omega⟩, ⟨by omega, by omega⟩, (), fun j hj => hH.pure (fun _ => rfl) j hj, rfl, rfl, rfl, rfl, rfl, ⟨hH.1, fun j hj => hH.2 j hj⟩, rfl, fun j hj => rfl⟩
          · have i0 : i ≠ 0 := by omega
            have hit := itoa_len6 (i := (i : Int) + 1) (by omega) (by omega)
            rw [pcX_s r k m i0, hbl]
            refine ⟨⟨by omega, by omega⟩, ⟨by omega, by omega⟩, by omega, by omega, (), rfl, rfl, rfl, rfl, rfl, ⟨rfl, fun j hj => ?_⟩, rfl, fun j hj => rfl⟩
            obtain rfl : j = 0 := by omega
            rfl
        · push_cast (config := { maxSteps := 10000000 })
          have hbi := hb i (by omega) i2
          rw [hA i him] at hbi
          refine ⟨hX i him, fun hne => ?_, fun he => ⟨⟨by omega, by omega⟩, ⟨by omega, by omega⟩, i + 1, ⟨by omega, by rw [hbi]; exact he⟩, by omega, ⟨rfl, by omega⟩, rfl, fun j hj => ?_⟩⟩
          · have e : bad1 (pcL r k m) = checkRecL (pcX r k m i) := by rw [hbs (i + 1) (by rw [hbi]; exact hne), hbi]
            rw [eE] at *
            rw [eP, e, if_pos hne]; exact ⟨rfl, rfl⟩
          · unfold appF
            by_cases e : j < i
            · rw [decide_eq_true e, cond_true]; rfl
            · obtain rfl : j = i := by omega
              rw [decide_eq_false e, cond_false, Nat.sub_self, hA j him]; rfl
      · obtain rfl : i = m := by omega
        rw [List.take_of_length_le (by omega)] at i2
        rw [eE, eP, i2, if_neg (by simp)]
        exact ⟨⟨hL.symm, fun j hj => rfl⟩, rfl⟩
  · cases h
attribute [push_cast] ckPieces

/- what a record shows -/
def showG (l : List Rcd) : Nat → List (List UInt8) → List UInt8 → List UInt8 × Int
  | 0, _, _ => ([], 0)
  | f + 1, seen, id =>
    if ¬ 0 ≤ fndL l id then ([], 9)
    else if seen.contains id = true then ([], 17)
    else if ¬ (fndR l id).ki = 4 then ((joinL l id).1.bd, (joinL l id).2)
    else showG l f (seen ++ [id]) (fndR l id).ow
def showL (l : List Rcd) (id : List UInt8) : List UInt8 × Int := if ¬ checkFileL l = 0 then ([], checkFileL l) else showG l (l.length + 1) [] id
theorem nodup_len {α : Type} [DecidableEq α] : ∀ (l m : List α), l.Nodup → (∀ x ∈ l, x ∈ m) → l.length ≤ m.length
  | [], _, _, _ => Nat.zero_le _
  | x :: l, m, hn, hm => by
    obtain ⟨h1, h2⟩ := List.nodup_cons.1 hn
    have := nodup_len l (m.erase x) h2 fun y hy => by
      have hne : y ≠ x := fun e => h1 (e ▸ hy)
      exact (List.mem_erase_of_ne hne).2 (hm y (by simp [hy]))
    rw [List.length_erase_of_mem (hm x (by simp))] at this
    have h3 : 0 < m.length := List.length_pos_iff.2 (List.ne_nil_of_mem (hm x (by simp)))
    rw [List.length_cons]; omega
theorem fnd_mem {l : List Rcd} {s : List UInt8} (h : 0 ≤ fndL l s) : s ∈ l.map Rcd.id := by
  obtain ⟨h1, h2⟩ := fndL_ok h
  have := getD_memH (d := noRec) h1
  exact List.mem_map.2 ⟨_, this, h2.1⟩
/-- between the rounds -/
def shI (l : List Rcd) (R : List UInt8 × Int) (t : Nat × List (List UInt8) × List UInt8) : Prop := t.2.1.Nodup ∧ (∀ x ∈ t.2.1, x ∈ l.map Rcd.id) ∧ l.length + 1 ≤ t.1 + t.2.1.length ∧ R = showG l t.1 t.2.1 t.2.2
theorem shI_pos {l : List Rcd} {R : List UInt8 × Int} {t : Nat × List (List UInt8) × List UInt8} (h : shI l R t) : 1 ≤ t.1 ∧ t.2.1.length ≤ l.length := by
  have := nodup_len t.2.1 (l.map Rcd.id) h.1 h.2.1
  rw [List.length_map] at this
  have := h.2.2.1
  omega
theorem shI_s {l : List Rcd} {R : List UInt8 × Int} {f : Nat} {seen : List (List UInt8)} {id : List UInt8} (h : shI l R (f + 1, seen, id)) (h1 : 0 ≤ fndL l id) (h2 : ¬ seen.contains id = true) (h3 : (fndR l id).ki = 4) : shI l R (f, seen ++ [id], (fndR l id).ow) := by
  obtain ⟨a, b, c, d⟩ := h
  refine ⟨?_, fun x hx => ?_, ?_, ?_⟩
  · show (seen ++ [id]).Nodup
    rw [List.nodup_append]
    refine ⟨a, by simp, fun x hx y hy => ?_⟩
    simp only [List.mem_singleton] at hy
    subst hy
    exact fun e => h2 (by rw [List.contains_iff_mem]; exact e ▸ hx)
  · have hx : x ∈ seen ++ [id] := hx
    rcases List.mem_append.1 hx with hx | hx
    · exact b x hx
    · simp only [List.mem_singleton] at hx
      subst hx; exact fnd_mem h1
  · show l.length + 1 ≤ f + (seen ++ [id]).length
    have c : l.length + 1 ≤ f + 1 + seen.length := c
    rw [List.length_append, List.length_singleton]; omega
  · rw [d]
    show (if ¬ 0 ≤ fndL l id then _ else if _ then _ else if _ then _ else _) = _
    rw [if_neg (fun x => x h1), if_neg h2, if_neg (fun x => x h3)]
theorem shI_0 (l : List Rcd) (id : List UInt8) : shI l (showG l (l.length + 1) [] id) (l.length + 1, [], id) := ⟨List.nodup_nil, fun _ h => (by cases h), Nat.le_refl _, rfl⟩
theorem fnd_of_mem {l : List Rcd} {s : List UInt8} (h : s ∈ l.map Rcd.id) : 0 ≤ fndL l s := by
  obtain ⟨r, hr, rfl⟩ := List.mem_map.1 h
  unfold fndL
  cases hk : l.findIdx? (fun x => x.id == r.id) with
  | some k => simp only; omega
  | none =>
    rw [List.findIdx?_eq_none_iff] at hk
    have := hk r hr
    simp at this
theorem joinL_err {l : List Rcd} {s : List UInt8} (h : ¬ (joinL l s).2 = 0) : (joinL l s).1 = noRec := by
  unfold joinL at h ⊢
  split
  · rfl
  · rename_i h1
    rw [if_neg h1] at h
    unfold jnR at h ⊢
    split
    · rename_i h2; rw [if_pos h2] at h; exact absurd rfl h
    · rename_i h2
      rw [if_neg h2] at h
      split
      · rfl
      · rename_i h3
        rw [if_neg h3] at h
        cases hj : joinG (pcsL (fndR l s) s l) (numV (hdV (fndR l s) wPieces) - 1).toNat 2 (fndR l s).bd with
        | none => rfl
        | some b =>
          rw [hj] at h
          unfold jnE at h ⊢
          simp only at h ⊢
          split
          · rename_i h4; rw [if_pos h4] at h; exact absurd rfl h
          · rfl
def ckShown : Ck
  | [.sl n f, .str s] => some (isLs cRec n f ∧ recsOk (lsOf cRec n f), .tup [.sl (showL (lsOf cRec n f) s).1.length (byF (showL (lsOf cRec n f) s).1), .int .i64 (showL (lsOf cRec n f) s).2])
  | _ => none
def ckShown0 : Ck
  | [.sl n f, .str s] => some (isLs cRec n f ∧ recsOk (lsOf cRec n f) ∧ checkFileL (lsOf cRec n f) = 0, .tup [.sl (showL (lsOf cRec n f) s).1.length (byF (showL (lsOf cRec n f) s).1), .int .i64 (showL (lsOf cRec n f) s).2])
  | _ => none
def joinedL (l : List Rcd) (s : List UInt8) : Rcd × Int := if ¬ checkFileL l = 0 then (noRec, checkFileL l) else joinL l s
def ckJoinedX : Ck
  | [.sl n f, .str s] => some (isLs cRec n f ∧ recsOk (lsOf cRec n f), .tup [cRec.enc (joinedL (lsOf cRec n f) s).1, .int .i64 (joinedL (lsOf cRec n f) s).2])
  | _ => none

end Go.Abs
