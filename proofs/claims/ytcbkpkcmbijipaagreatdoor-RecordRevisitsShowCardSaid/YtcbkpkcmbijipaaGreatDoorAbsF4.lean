/- what functions of this program compute: contracts, each a function's own -/
import Derived.Test.YtcbkpkcmbijipaaGreatDoorAbsK3
import Derived.Test.YtcbkpkcmbijipaaGreatDoorAbsFacts
import Derived.Test.YtcbkpkcmbijipaaGreatDoorAbsF3
import Derived.Test.YtcbkpkcmbijipaaGreatDoorAbsShelf
import Derived.Lib.SlTrimSet
import Derived.Lib.Atoi
import Derived.Lib.Itoa
import Derived.Lib.ItoaNum
import Derived.Lib.AtoiErrMem
import Derived.Lib.Repeat
import Derived.Lib.ItoaLen
import Derived.Lib.Fold
namespace Go.Abs
open Go Go.Proofs
set_option maxHeartbeats 4000000
set_option maxRecDepth 100000
set_option linter.unusedVariables false
set_option linter.unusedSimpArgs false
abbrev clR (r : Rcd) : Prop := r.ow = r.id ∨ (r.ow = [] ∧ (r.ki = 4 ∨ r.ki = 5)) ∨ (r.ow ≠ [] ∧ r.ki = 1)
abbrev nmR (r : Rcd) : Prop := nameL r.id = true ∧ (r.ow = [] ∨ nameL r.ow = true)
section
variable {r : Rcd}
theorem cr4 (h : r.ki < 1 ∨ 5 < r.ki) : 4 = checkRecL r := by unfold checkRecL; rw [if_pos h]
theorem cr5 (a1 : ¬ (r.ki < 1 ∨ 5 < r.ki)) (h : ¬ nmR r) : 5 = checkRecL r := by unfold checkRecL; rw [if_neg a1, if_pos h]
theorem cr12 (a1 : ¬ (r.ki < 1 ∨ 5 < r.ki)) (a2 : nmR r) (h : clR r) : 12 = checkRecL r := by unfold checkRecL; rw [if_neg a1, if_neg (fun x => x a2), if_pos h]
theorem cr1 (a1 : ¬ (r.ki < 1 ∨ 5 < r.ki)) (a2 : nmR r) (a3 : ¬ clR r) (h : ¬ (0 ≤ r.ti ∧ r.ti ≤ 253402300799)) : 1 = checkRecL r := by unfold checkRecL; rw [if_neg a1, if_neg (fun x => x a2), if_neg a3, if_pos h]
theorem cr3 (a1 : ¬ (r.ki < 1 ∨ 5 < r.ki)) (a2 : nmR r) (a3 : ¬ clR r) (a4 : 0 ≤ r.ti ∧ r.ti ≤ 253402300799) (h : ¬ targetL r.ke = true) : 3 = checkRecL r := by unfold checkRecL; rw [if_neg a1, if_neg (fun x => x a2), if_neg a3, if_neg (fun x => x a4), if_pos h]
theorem cr2 (a1 : ¬ (r.ki < 1 ∨ 5 < r.ki)) (a2 : nmR r) (a3 : ¬ clR r) (a4 : 0 ≤ r.ti ∧ r.ti ≤ 253402300799) (a5 : targetL r.ke = true) (h : 30 < r.hd.length) : 2 = checkRecL r := by unfold checkRecL; rw [if_neg a1, if_neg (fun x => x a2), if_neg a3, if_neg (fun x => x a4), if_neg (fun x => x a5), if_pos h]
theorem crh (a1 : ¬ (r.ki < 1 ∨ 5 < r.ki)) (a2 : nmR r) (a3 : ¬ clR r) (a4 : 0 ≤ r.ti ∧ r.ti ≤ 253402300799) (a5 : targetL r.ke = true) (a6 : ¬ 30 < r.hd.length) (h : ¬ checkHeadsL r.hd = 0) : checkHeadsL r.hd = checkRecL r := by unfold checkRecL; rw [if_neg a1, if_neg (fun x => x a2), if_neg a3, if_neg (fun x => x a4), if_neg (fun x => x a5), if_neg a6, if_pos h]
theorem crR (a1 : ¬ (r.ki < 1 ∨ 5 < r.ki)) (a2 : nmR r) (a3 : ¬ clR r) (a4 : 0 ≤ r.ti ∧ r.ti ≤ 253402300799) (a5 : targetL r.ke = true) (a6 : ¬ 30 < r.hd.length) (a7 : checkHeadsL r.hd = 0) : checkRecL r = if ownL r.hd = true then 12 else if 200000 < r.bd.length then 2 else if 0 < r.bd.length ∧ r.ki = 4 then 3 else 0 := by unfold checkRecL; rw [if_neg a1, if_neg (fun x => x a2), if_neg a3, if_neg (fun x => x a4), if_neg (fun x => x a5), if_neg a6, if_neg (fun x => x a7)]
end
def ckCheckRec : Ck
  | [x] => some (isC cRec x ∧ recOk (cRec.dec x), .int .i64 (checkRecL (cRec.dec x)))
  | _ => none
theorem conCheckRec : Con pg 25 ckCheckRec := by
  have hct := (ctA_ok conIsName (ctA_ok conIsMoment (ctA_ok conIsKey (ctA_ok conCheckHeads (ctA_ok conOwn (ctA_ok conSmallA (ctA_ok conHasStr (ctN_ok _))))))))
  intro args q r h hq
  unfold ckCheckRec at h
  split at h
  · cases h
    rename_i x
    refine pcall_args (args' := [cRec.enc (cRec.dec x)]) ⟨hq.1, trivial⟩ ?_
    obtain ⟨-, ha⟩ := hq
    generalize cRec.dec x = r at ha ⊢
    refine w25 (fun _ => false) [] rfl hct rfl rfl ?_
    push_cast (config := { maxSteps := 10000000 })
    have q1 := ha.2.1
    have q2 := ha.2.2.1
    have q3 := ha.2.2.2.1
    refine ⟨fun h => cr4 h, fun g => ⟨by omega, fun h => ⟨h, by omega⟩, fun h => ⟨h, fun h' => ⟨h, h'⟩⟩, fun h => ?_, fun h => ?_⟩⟩
    · refine cr5 (by omega) fun x => ?_
      rcases h with h | h
      · rw [x.1] at h; cases h
      · rcases x.2 with y | y
        · exact h.1 y
        · rw [y] at h; cases h.2
    have a1 : ¬ (r.ki < 1 ∨ 5 < r.ki) := by omega
    have a2 : nmR r := ⟨h.1, by
      by_cases e : r.ow = []
      · exact .inl e
      · exact .inr (h.2 e)⟩
    refine ⟨fun e1 => ⟨fun _ => cr12 a1 a2 (.inl e1), fun x => absurd e1 x⟩, fun e1 => ⟨fun e => ⟨e, fun e' => ⟨e, e'⟩⟩, fun e2 => ⟨fun _ => cr12 a1 a2 (.inr (.inl e2)), fun x => by rcases e2.2 with y | y; exact absurd y (x e2.1).1; exact absurd y (x e2.1).2⟩, fun e2 => ⟨fun e3 => cr12 a1 a2 (.inr (.inr e3)), fun e3 => ?_⟩⟩⟩
    have a3 : ¬ clR r := fun x => by
      rcases x with x | x | x
      · exact e1 x
      · rcases x.2 with y | y
        · exact (e2 x.1).1 y
        · exact (e2 x.1).2 y
      · exact e3 x.1 x.2
    refine ⟨fun h => cr1 a1 a2 a3 (fun x => h x.1 x.2), fun a4 => ⟨by omega, fun h => cr3 a1 a2 a3 a4 (by rw [h]; simp), fun a5 => ⟨fun h => cr2 a1 a2 a3 a4 a5 (by omega), fun h6 => ⟨ha.1, fun h => crh a1 a2 a3 a4 a5 (by omega) h, fun a7 => ?_⟩⟩⟩⟩
    have hR := crR a1 a2 a3 a4 a5 (by omega) a7
    rw [hR]
    refine LoopW.adj ⟨hct, fol⟩ (by kernel_rfl) [] (fun i : Nat => [(1, .ptr 1 0), (80, .sl r.hd.length (lsF cHd r.hd)), (81, .int .i64 r.hd.length), (82, .int .i64 i)]) (fun _ => [(1, .cells [.int .i64 r.ki, .str r.id, .str r.ow, .int .i64 r.ti, .str r.ke, .sl r.hd.length (lsF cHd r.hd), .sl r.bd.length (byF r.bd)])]) (fun i => i ≤ r.hd.length ∧ ∀ j, j < i → ownW.contains (lowL (r.hd.getD j ⟨[], []⟩).name) = false) (fun i => r.hd.length - i) 0 ?_ fun i hi => ?_
    · push_cast (config := { maxSteps := 10000000 })
      exact Nat.zero_le _
    · push_cast (config := { maxSteps := 10000000 })
      obtain ⟨i1, i2⟩ := hi
      rw [show lsOf cStr 7 (lsF cStr ownW) = ownW from lsOf_ls ownW]
      refine ⟨fun h => ⟨h, (hdsOk_at ha.1 h).1, isLs_ls ownW, fun h5 => ?_, fun h5 => ⟨⟨by omega, by omega⟩, i + 1, ⟨by omega, fun j hj => ?_⟩, by omega, by omega⟩⟩, fun h => ?_⟩
      · have : ownL r.hd = true := by
          unfold ownL
          rw [List.any_eq_true]
          refine ⟨r.hd.getD i ⟨[], []⟩, ?_, h5⟩
          rw [List.getD_eq_getElem?_getD, List.getElem?_eq_getElem h]; exact List.getElem_mem h
        rw [if_pos this]
      · by_cases e : j = i
        · subst e; exact h5
        · exact i2 j (by omega)
      · have : ownL r.hd = false := by
          unfold ownL
          rw [List.any_eq_false]
          intro x hx
          obtain ⟨j, hj, rfl⟩ := List.getElem_of_mem hx
          have h5 := i2 j (by omega)
          rw [List.getD_eq_getElem?_getD, List.getElem?_eq_getElem hj] at h5
          simp only [Option.getD_some] at h5
          rw [h5]; simp
        rw [if_neg (by rw [this]; simp)]
        exact ⟨fun g => by rw [if_pos (by omega)], fun g => ⟨fun g2 => by rw [if_neg (by omega), if_pos ⟨by omega, g2.1⟩], fun g2 => by rw [if_neg (by omega), if_neg (fun x => g2 x.2 (by omega))]⟩⟩
  · cases h
attribute [push_cast] ckCheckRec
theorem conCheckRec2 : Con pg 37 ckCheckRec := by
  have hct := (ctA_ok conWithin6 (ctA_ok conIsName2 (ctA_ok conIsKey2 (ctA_ok conCheckHeads2 (ctA_ok conValues2 (ctN_ok _))))))
  intro args q r h hq
  unfold ckCheckRec at h
  split at h
  · cases h
    rename_i x
    refine pcall_args (args' := [cRec.enc (cRec.dec x)]) ⟨hq.1, trivial⟩ ?_
    obtain ⟨-, ha⟩ := hq
    generalize cRec.dec x = r at ha ⊢
    refine w37 (fun _ => false) [] rfl hct rfl rfl ?_
    push_cast (config := { maxSteps := 10000000 })
    have q1 := ha.2.1
    have q2 := ha.2.2.1
    have q3 := ha.2.2.2.1
    refine ⟨fun h => cr4 (Classical.byContradiction fun x => h (by omega) (by omega)), fun g => ⟨by omega, fun h => ⟨h, by omega⟩, fun h => ⟨h, fun h' => ⟨h, h'⟩⟩, fun h => ?_, fun h => ?_⟩⟩
    · refine cr5 (by omega) fun x => ?_
      rcases h with h | h
      · rw [x.1] at h; cases h
      · rcases x.2 with y | y
        · exact h.1 y
        · rw [y] at h; cases h.2
    have a1 : ¬ (r.ki < 1 ∨ 5 < r.ki) := by omega
    have a2 : nmR r := ⟨h.1, by
      by_cases e : r.ow = []
      · exact .inl e
      · exact .inr (h.2 e)⟩
    refine ⟨fun e => ⟨e, fun e' => ⟨e, e'⟩⟩, fun e => ⟨e, fun e' => ⟨e, e'⟩⟩, fun e => cr12 a1 a2 (by rcases e with (e | e) | e; exact .inl e; exact .inr (.inl e); exact .inr (.inr e)), fun e => ?_⟩
    have a3 : ¬ clR r := fun x => by
      rcases x with x | x | x
      · exact e.1.1 x
      · rcases x.2 with y | y
        · exact (e.1.2 x.1).1 y
        · exact (e.1.2 x.1).2 y
      · exact e.2 x.1 x.2
    refine ⟨fun h => cr1 a1 a2 a3 (fun x => h x.1 x.2), fun a4 => ⟨by omega, fun h => cr3 a1 a2 a3 a4 (by rw [h]; simp), fun a5 => ⟨fun h => cr2 a1 a2 a3 a4 a5 (by omega), fun h6 => ⟨ha.1, fun h => crh a1 a2 a3 a4 a5 (by omega) h, fun a7 => ?_⟩⟩⟩⟩
    have hR := crR a1 a2 a3 a4 a5 (by omega) a7
    rw [hR]
    refine LoopW.adj ⟨hct, fol⟩ (by kernel_rfl) [] (fun i : Nat => [(1, .ptr 1 0), (75, .sl 7 (lsF cStr ownW)), (76, .int .i64 7), (77, .int .i64 i)]) (fun _ => [(1, .cells [.int .i64 r.ki, .str r.id, .str r.ow, .int .i64 r.ti, .str r.ke, .sl r.hd.length (lsF cHd r.hd), .sl r.bd.length (byF r.bd)])]) (fun i => i ≤ 7 ∧ ∀ j, j < i → ¬ 0 < ((valuesL r.hd (ownW.getD j [])).length : Int)) (fun i => 7 - i) 0 ?_ fun i hi => ?_
    · push_cast (config := { maxSteps := 10000000 })
      intro i hi
      rcases (by omega : i = 0 ∨ i = 1 ∨ i = 2 ∨ i = 3 ∨ i = 4 ∨ i = 5 ∨ i = 6) with rfl | rfl | rfl | rfl | rfl | rfl | rfl <;> rfl
    · push_cast (config := { maxSteps := 10000000 })
      obtain ⟨i1, i2⟩ := hi
      refine ⟨fun h => ⟨h, ⟨ha.1, by omega⟩, fun h5 => ?_, fun h5 => ⟨⟨by omega, by omega⟩, i + 1, ⟨by omega, fun j hj => ?_⟩, by omega, by omega⟩⟩, fun h => ?_⟩
      · have : ownL r.hd = true := own_iff.2 ⟨ownW.getD i [], by
          rw [List.getD_eq_getElem?_getD, List.getElem?_eq_getElem (show i < ownW.length by show i < 7; omega)]; exact List.getElem_mem _, h5⟩
        rw [if_pos this]
      · by_cases e : j = i
        · subst e; exact h5
        · exact i2 j (by omega)
      · have : ¬ ownL r.hd = true := fun x => by
          obtain ⟨w, hw, h5⟩ := own_iff.1 x
          obtain ⟨j, hj, rfl⟩ := List.getElem_of_mem hw
          have h6 := i2 j (by have : ownW.length = 7 := rfl; omega)
          rw [List.getD_eq_getElem?_getD, List.getElem?_eq_getElem hj] at h6
          exact h6 h5
        rw [if_neg this]
        exact ⟨fun g => by rw [if_pos (by omega)], fun g => ⟨fun g2 => by rw [if_neg (by omega), if_pos ⟨by omega, g2.2⟩], fun g2 => by rw [if_neg (by omega), if_neg (fun x => g2 (by omega) x.2)]⟩⟩
  · cases h

/- record.write behind bytes that are there already: their row is block 12 of the caller's, 9012 here -/
def ckLineKb : List V → List Blk → Option (Prop × V × List Blk)
  | [.str a, .str v, .ptr 2 0], [.cells [.vec 9012 n], .vec 1 k g] => some (k = n ∧ isBy n g ∧ n ≤ 100000000 ∧ a.length ≤ 100000000 ∧ v.length ≤ 100000000, .tup [], [.cells [.vec 9012 (catL (bytesOf n g) a v).length], .vec 1 (catL (bytesOf n g) a v).length (byF (catL (bytesOf n g) a v))])
  | _, _ => none
def ckLine6b : Cf := ⟨fun | [_, _, .ptr 2 _] => [2, 9012] | _ => [], ckLineKb⟩
theorem conLine6b : FCon pg 53 ckLine6b := by
  have hct := ctN_ok pg
  intro args bs q r bs' h hq
  replace h : ckLineKb args bs = some (q, r, bs') := h
  unfold ckLineKb at h
  split at h
  · cases h
    rename_i a v n k g
    refine ⟨rfl, Nat.le_refl _, ?_⟩
    obtain ⟨rfl, hg, hk, ha, hv⟩ := hq
    show FCall pg 53 [.str a, .str v, .ptr 9002 0] [(9002, .cells [.vec 18012 k]), (18012, .vec 1 k fun i => V.shift (g i))] (.tup []) [(9002, .cells [.vec 18012 (catL (bytesOf k g) a v).length]), (18012, .vec 1 (catL (bytesOf k g) a v).length (byF (catL (bytesOf k g) a v)))]
    refine fcall_blk (hm := [(9002, .cells [.vec 18012 k]), (18012, .vec 1 k (byF (bytesOf k g)))]) ⟨rfl, ⟨⟨rfl, rfl⟩, trivial⟩, rfl, ⟨rfl, rfl, fun j hj => by show V.shift (g j) = _; rw [hg.2 j hj]; rfl⟩, trivial⟩ ?_
    have hl := bytesOf_len k g
    generalize bytesOf k g = b at hl ⊢
    subst hl
    refine fw53 (fun _ => false) [] rfl hct rfl (by simp) (by simp [hlIn, idsIn, Blk.menIn, V.menInL, V.menIn, V.flat, byF, lsF]) (by simp [V.menIn, V.menInL, idsIn]) ?_
    push_cast (config := { maxSteps := 10000000 })
    have hll : (lnB2 a v).length = a.length + 2 + v.length + 2 := by simp [lnB2]; omega
    have hcl := catL_len b a v
    have app := ByI.app (ByI.by b) (ByI.by (lnB2 a v)) rfl
    rw [hll] at app
    exact ⟨by omega, by omega, by omega, ⟨by omega, by omega⟩, by omega, by omega, app.2⟩
  · cases h
@[push_cast] theorem line6_idsb (x y : V) (o : Nat) : ckLine6b.ids [x, y, .ptr 2 o] = [2, 9012] := rfl
@[push_cast] theorem line6_kb (a v : List UInt8) (n k : Nat) (g : Nat → V) : ckLine6b.k [.str a, .str v, .ptr 2 0] [.cells [.vec 9012 n], .vec 1 k g] = some (k = n ∧ isBy n g ∧ n ≤ 100000000 ∧ a.length ≤ 100000000 ∧ v.length ≤ 100000000, .tup [], [.cells [.vec 9012 (catL (bytesOf n g) a v).length], .vec 1 (catL (bytesOf n g) a v).length (byF (catL (bytesOf n g) a v))]) := rfl
@[push_cast] theorem keptB_by (B : List UInt8) : bytesOf (B.length + 8) (appF B.length (byF B) (byF [75, 69, 80, 84, 47, 49, 13, 10])) = B ++ [75, 69, 80, 84, 47, 49, 13, 10] := (ByI.app (ByI.by B) (ByI.by [75, 69, 80, 84, 47, 49, 13, 10]) rfl).bytes
@[push_cast] theorem keptB_is (B : List UInt8) : isBy (B.length + 8) (appF B.length (byF B) (byF [75, 69, 80, 84, 47, 49, 13, 10])) = True := eq_true (ByI.app (ByI.by B) (ByI.by [75, 69, 80, 84, 47, 49, 13, 10]) rfl).is
theorem catL_B (B L a v : List UInt8) : catL (B ++ L) a v = B ++ catL L a v := by simp [catL]
theorem recP_owB (B : List UInt8) {r : Rcd} (h : ¬ r.ow = []) : catL (catL (catL (catL (catL (B ++ [75, 69, 80, 84, 47, 49, 13, 10]) [105, 100] r.id) [111, 102] r.ow) [107, 105, 110, 100] (kindW.getD (r.ki - 1).toNat [])) [100, 97, 116, 101] (dateTextL r.ti)) [107, 101, 121] r.ke = B ++ recP r := by
  rw [← recP_ow h]; simp only [catL_B]
theorem recP_noB (B : List UInt8) {r : Rcd} (h : r.ow = []) : catL (catL (catL (catL (B ++ [75, 69, 80, 84, 47, 49, 13, 10]) [105, 100] r.id) [107, 105, 110, 100] (kindW.getD (r.ki - 1).toNat [])) [100, 97, 116, 101] (dateTextL r.ti)) [107, 101, 121] r.ke = B ++ recP r := by
  rw [← recP_no h]; simp only [catL_B]
def ckWriteVK : List V → List Blk → Option (Prop × V × List Blk)
  | [.vec 12 n, .agg [.int .i64 ki, .str id, .str ow, .int .i64 ti, .str ke, .sl hn hf, .sl bn bf]], [.vec 1 k g] => some (k = n ∧ isBy n g ∧ n ≤ 50000000 ∧ isLs cHd hn hf ∧ isBy bn bf ∧ recOk ⟨ki, id, ow, ti, ke, lsOf cHd hn hf, bytesOf bn bf⟩ ∧ checkRecL ⟨ki, id, ow, ti, ke, lsOf cHd hn hf, bytesOf bn bf⟩ = 0, .vec 12 (bytesOf n g ++ recB ⟨ki, id, ow, ti, ke, lsOf cHd hn hf, bytesOf bn bf⟩).length, [.vec 1 (bytesOf n g ++ recB ⟨ki, id, ow, ti, ke, lsOf cHd hn hf, bytesOf bn bf⟩).length (byF (bytesOf n g ++ recB ⟨ki, id, ow, ti, ke, lsOf cHd hn hf, bytesOf bn bf⟩))])
  | _, _ => none
def ckWriteV : Cf := ⟨fun | [.vec 12 _, _] => [12] | _ => [], ckWriteVK⟩
theorem conWriteV : FCon pg 26 ckWriteV := by
  have hct := (ctF_ok conLine6b (ctA_ok conKinds (ctA_ok conDateText (ctA_ok conItoa (ctA_ok conDigest (ctN_ok _))))))
  intro args bs q r bs' h hq
  replace h : ckWriteVK args bs = some (q, r, bs') := h
  unfold ckWriteVK at h
  split at h
  · cases h
    rename_i n ki id ow ti ke hn hf bn bf k g
    refine ⟨rfl, by first | exact Nat.le_refl _ | exact Nat.zero_le _, ?_⟩
    obtain ⟨rfl, hg, hk, h1, h2, ha, hc⟩ := hq
    show FCall pg 26 [.vec 9012 k, .agg [.int .i64 ki, .str id, .str ow, .int .i64 ti, .str ke, .sl hn hf, .sl bn bf]] [(9012, .vec 1 k fun i => V.shift (g i))] (.vec 9012 (bytesOf k g ++ recB ⟨ki, id, ow, ti, ke, lsOf cHd hn hf, bytesOf bn bf⟩).length) [(9012, .vec 1 (bytesOf k g ++ recB ⟨ki, id, ow, ti, ke, lsOf cHd hn hf, bytesOf bn bf⟩).length (byF (bytesOf k g ++ recB ⟨ki, id, ow, ti, ke, lsOf cHd hn hf, bytesOf bn bf⟩)))]
    refine fcall_blk (hm := [(9012, .vec 1 (bytesOf k g).length (byF (bytesOf k g)))]) ⟨rfl, ⟨rfl, (bytesOf_len k g).symm, fun j hj => by show V.shift (g j) = _; rw [hg.2 j hj]; rfl⟩, trivial⟩ ?_
    refine fcall_args (args' := [.vec 9012 (bytesOf k g).length, cRec.enc ⟨ki, id, ow, ti, ke, lsOf cHd hn hf, bytesOf bn bf⟩]) ⟨VLe.of_eq (by rw [bytesOf_len]), isC_rec h1 h2, trivial⟩ ?_
    have hB : (bytesOf k g).length ≤ 50000000 := by rw [bytesOf_len]; exact hk
    generalize bytesOf k g = B at hB ⊢
    generalize (⟨ki, id, ow, ti, ke, lsOf cHd hn hf, bytesOf bn bf⟩ : Rcd) = r at ha hc ⊢
    refine fw26 (fun d => decide (d = 10006)) [] rfl hct rfl (by simp) (by simp [hlIn, idsIn, Blk.menIn, V.menInL, V.menIn, V.flat, byF, lsF]) (by simp [V.menIn, V.menInL, idsIn]) ?_
    push_cast (config := { maxSteps := 10000000 })
    obtain ⟨z1, z2, z3, z4, z5, z6, z7⟩ := rec_sz hc
    obtain ⟨y1, y2, y3, y4, y5, y6, y7, y8, y9, y10⟩ := rec_ok hc
    have zk := kindW_le (r.ki - 1).toNat
    have zp := recP_le hc
    have c8 : ([75, 69, 80, 84, 47, 49, 13, 10] : List UInt8).length = 8 := rfl
    have c2 : ([105, 100] : List UInt8).length = 2 := rfl
    rw [if_pos ⟨y5, y6⟩]
    refine ⟨⟨by omega, by omega⟩, ⟨by omega, by omega⟩, fun how => ?_, fun how => ?_⟩
    · have hP := recP_owB B how
      refine ⟨⟨by simp only [catL_len, List.length_append, List.length_cons, List.length_nil]; omega, by omega⟩, ⟨by omega, by omega⟩, ⟨by omega, by omega⟩, ⟨by simp only [catL_len, List.length_append, List.length_cons, List.length_nil]; omega, by omega⟩, ⟨by omega, by omega⟩, ⟨by simp only [catL_len, List.length_append, List.length_cons, List.length_nil]; omega, by omega⟩, ⟨by simp only [catL_len, List.length_append, List.length_cons, List.length_nil]; omega, by omega⟩, ?_⟩
      generalize catL (catL (catL (catL (catL (B ++ [75, 69, 80, 84, 47, 49, 13, 10]) [105, 100] r.id) [111, 102] r.ow) [107, 105, 110, 100] (kindW.getD (r.ki - 1).toNat [])) [100, 97, 116, 101] (dateTextL r.ti)) [107, 101, 121] r.ke = P at hP ⊢
      refine LoopW.adj ⟨hct, fol⟩ (by kernel_rfl) [] (fun t : Nat × List UInt8 => [(2, .ptr 2 0), (3, .ptr 3 0), (5, .fn (.func 53) [] [.ptr 2 0]), (46, .sl r.hd.length (lsF cHd r.hd)), (47, .int .i64 r.hd.length), (48, .int .i64 t.1)]) (fun t => [(2, .cells [.vec 9012 t.2.length]), (9012, .vec 1 t.2.length (byF t.2)), (3, .cells [.int .i64 r.ki, .str r.id, .str r.ow, .int .i64 r.ti, .str r.ke, .sl r.hd.length (lsF cHd r.hd), .sl r.bd.length (byF r.bd)])]) (fun t => t.1 ≤ r.hd.length ∧ t.2 ++ headsB (r.hd.drop t.1) = (B ++ recP r) ++ headsB r.hd) (fun t => r.hd.length - t.1) (0, P) ?_ fun t ht => ?_
      · push_cast (config := { maxSteps := 10000000 })
        exact ⟨Nat.zero_le _, congrArg (· ++ headsB r.hd) hP⟩
      · obtain ⟨i, o⟩ := t
        obtain ⟨i1, i2⟩ : i ≤ r.hd.length ∧ o ++ headsB (r.hd.drop i) = (B ++ recP r) ++ headsB r.hd := ht
        have hl := congrArg List.length i2
        simp only [List.length_append] at hl
        push_cast (config := { maxSteps := 10000000 })
        refine ⟨fun h => ?_, fun h => ?_⟩
        · have e := dropG (d := ⟨[], []⟩) h
          rw [e, headsB] at i2 hl
          have hx : (headB (r.hd.getD i ⟨[], []⟩)).length = (r.hd.getD i ⟨[], []⟩).name.length + 2 + (r.hd.getD i ⟨[], []⟩).value.length + 2 := by simp [headB]; omega
          simp only [List.length_append] at hl
          exact ⟨h, ⟨by omega, by omega, by omega⟩, ⟨by omega, by omega⟩, (i + 1, catL o (r.hd.getD i ⟨[], []⟩).name (r.hd.getD i ⟨[], []⟩).value), ⟨by show i + 1 ≤ r.hd.length; omega, by rw [← i2]; simp [catL, lnB2, headB]⟩, by show r.hd.length - (i + 1) < r.hd.length - i; omega, by show (i : Int) + 1 = ((i + 1 : Nat) : Int); omega, rfl, rfl, fun _ _ => rfl⟩
        · rw [List.drop_eq_nil_of_le (by omega)] at i2 hl
          simp only [headsB, List.append_nil, List.length_nil, Nat.add_zero] at i2 hl
          have hi6 := itoa_len (n := r.bd.length) (by omega)
          have hdg : (digestL r.bd).length = 16 := hex16_len _
          have hq1 := catL_len o [108, 101, 110, 103, 116, 104] (Lib.itoa r.bd.length)
          have hq2 := catL_len (catL o [108, 101, 110, 103, 116, 104] (Lib.itoa r.bd.length)) [100, 105, 103, 101, 115, 116] (digestL r.bd)
          have cl1 : ([108, 101, 110, 103, 116, 104] : List UInt8).length = 6 := rfl
          have cl2 : ([100, 105, 103, 101, 115, 116] : List UInt8).length = 6 := rfl
          have eq : catL (catL o [108, 101, 110, 103, 116, 104] (Lib.itoa r.bd.length)) [100, 105, 103, 101, 115, 116] (digestL r.bd) ++ [13, 10] ++ r.bd ++ [13, 10, 13, 10] = B ++ recB r := by
            rw [i2]; simp [recB, recQ, catL]
          generalize catL (catL o [108, 101, 110, 103, 116, 104] (Lib.itoa r.bd.length)) [100, 105, 103, 101, 115, 116] (digestL r.bd) = Q at hq2 eq ⊢
          have app : ByI (Q.length + 2 + r.bd.length + 4) (appF (Q.length + 2 + r.bd.length) (appF (Q.length + 2) (appF Q.length (byF Q) (byF [13, 10])) (byF r.bd)) (byF [13, 10, 13, 10])) (B ++ recB r) := (ByI.app (ByI.app (ByI.app (ByI.by Q) (ByI.by [13, 10]) rfl) (ByI.by r.bd) rfl) (ByI.by [13, 10, 13, 10]) rfl).eq eq
          exact ⟨⟨by omega, by omega⟩, ⟨by omega, by omega⟩, by omega, ⟨by omega, by omega⟩, ⟨by omega, by omega⟩, ⟨by omega, by omega⟩, ⟨by omega, by omega⟩, app.1.trans List.length_append, app.1.trans List.length_append, app.2⟩
    · have hP := recP_noB B how
      refine ⟨⟨by omega, by omega⟩, ⟨by omega, by omega⟩, ⟨by simp only [catL_len, List.length_append, List.length_cons, List.length_nil]; omega, by omega⟩, ⟨by omega, by omega⟩, ⟨by simp only [catL_len, List.length_append, List.length_cons, List.length_nil]; omega, by omega⟩, ⟨by simp only [catL_len, List.length_append, List.length_cons, List.length_nil]; omega, by omega⟩, ?_⟩
      generalize catL (catL (catL (catL (B ++ [75, 69, 80, 84, 47, 49, 13, 10]) [105, 100] r.id) [107, 105, 110, 100] (kindW.getD (r.ki - 1).toNat [])) [100, 97, 116, 101] (dateTextL r.ti)) [107, 101, 121] r.ke = P at hP ⊢
      refine LoopW.adj ⟨hct, fol⟩ (by kernel_rfl) [] (fun t : Nat × List UInt8 => [(2, .ptr 2 0), (3, .ptr 3 0), (5, .fn (.func 53) [] [.ptr 2 0]), (46, .sl r.hd.length (lsF cHd r.hd)), (47, .int .i64 r.hd.length), (48, .int .i64 t.1)]) (fun t => [(2, .cells [.vec 9012 t.2.length]), (9012, .vec 1 t.2.length (byF t.2)), (3, .cells [.int .i64 r.ki, .str r.id, .str r.ow, .int .i64 r.ti, .str r.ke, .sl r.hd.length (lsF cHd r.hd), .sl r.bd.length (byF r.bd)])]) (fun t => t.1 ≤ r.hd.length ∧ t.2 ++ headsB (r.hd.drop t.1) = (B ++ recP r) ++ headsB r.hd) (fun t => r.hd.length - t.1) (0, P) ?_ fun t ht => ?_
      · push_cast (config := { maxSteps := 10000000 })
        exact ⟨Nat.zero_le _, congrArg (· ++ headsB r.hd) hP⟩
      · obtain ⟨i, o⟩ := t
        obtain ⟨i1, i2⟩ : i ≤ r.hd.length ∧ o ++ headsB (r.hd.drop i) = (B ++ recP r) ++ headsB r.hd := ht
        have hl := congrArg List.length i2
        simp only [List.length_append] at hl
        push_cast (config := { maxSteps := 10000000 })
        refine ⟨fun h => ?_, fun h => ?_⟩
        · have e := dropG (d := ⟨[], []⟩) h
          rw [e, headsB] at i2 hl
          have hx : (headB (r.hd.getD i ⟨[], []⟩)).length = (r.hd.getD i ⟨[], []⟩).name.length + 2 + (r.hd.getD i ⟨[], []⟩).value.length + 2 := by simp [headB]; omega
          simp only [List.length_append] at hl
          exact ⟨h, ⟨by omega, by omega, by omega⟩, ⟨by omega, by omega⟩, (i + 1, catL o (r.hd.getD i ⟨[], []⟩).name (r.hd.getD i ⟨[], []⟩).value), ⟨by show i + 1 ≤ r.hd.length; omega, by rw [← i2]; simp [catL, lnB2, headB]⟩, by show r.hd.length - (i + 1) < r.hd.length - i; omega, by show (i : Int) + 1 = ((i + 1 : Nat) : Int); omega, rfl, rfl, fun _ _ => rfl⟩
        · rw [List.drop_eq_nil_of_le (by omega)] at i2 hl
          simp only [headsB, List.append_nil, List.length_nil, Nat.add_zero] at i2 hl
          have hi6 := itoa_len (n := r.bd.length) (by omega)
          have hdg : (digestL r.bd).length = 16 := hex16_len _
          have hq1 := catL_len o [108, 101, 110, 103, 116, 104] (Lib.itoa r.bd.length)
          have hq2 := catL_len (catL o [108, 101, 110, 103, 116, 104] (Lib.itoa r.bd.length)) [100, 105, 103, 101, 115, 116] (digestL r.bd)
          have cl1 : ([108, 101, 110, 103, 116, 104] : List UInt8).length = 6 := rfl
          have cl2 : ([100, 105, 103, 101, 115, 116] : List UInt8).length = 6 := rfl
          have eq : catL (catL o [108, 101, 110, 103, 116, 104] (Lib.itoa r.bd.length)) [100, 105, 103, 101, 115, 116] (digestL r.bd) ++ [13, 10] ++ r.bd ++ [13, 10, 13, 10] = B ++ recB r := by
            rw [i2]; simp [recB, recQ, catL]
          generalize catL (catL o [108, 101, 110, 103, 116, 104] (Lib.itoa r.bd.length)) [100, 105, 103, 101, 115, 116] (digestL r.bd) = Q at hq2 eq ⊢
          have app : ByI (Q.length + 2 + r.bd.length + 4) (appF (Q.length + 2 + r.bd.length) (appF (Q.length + 2) (appF Q.length (byF Q) (byF [13, 10])) (byF r.bd)) (byF [13, 10, 13, 10])) (B ++ recB r) := (ByI.app (ByI.app (ByI.app (ByI.by Q) (ByI.by [13, 10]) rfl) (ByI.by r.bd) rfl) (ByI.by [13, 10, 13, 10]) rfl).eq eq
          exact ⟨⟨by omega, by omega⟩, ⟨by omega, by omega⟩, by omega, ⟨by omega, by omega⟩, ⟨by omega, by omega⟩, ⟨by omega, by omega⟩, ⟨by omega, by omega⟩, app.1.trans List.length_append, app.1.trans List.length_append, app.2⟩
  · cases h
attribute [push_cast] ckWriteVK
@[push_cast] theorem writeV_ids (n : Nat) (x : V) : ckWriteV.ids [.vec 12 n, x] = [12] := rfl
@[push_cast] theorem writeV_k (n k hn bn : Nat) (ki ti : Int) (id ow ke : List UInt8) (g hf bf : Nat → V) : ckWriteV.k [.vec 12 n, .agg [.int .i64 ki, .str id, .str ow, .int .i64 ti, .str ke, .sl hn hf, .sl bn bf]] [.vec 1 k g] = some (k = n ∧ isBy n g ∧ n ≤ 50000000 ∧ isLs cHd hn hf ∧ isBy bn bf ∧ recOk ⟨ki, id, ow, ti, ke, lsOf cHd hn hf, bytesOf bn bf⟩ ∧ checkRecL ⟨ki, id, ow, ti, ke, lsOf cHd hn hf, bytesOf bn bf⟩ = 0, .vec 12 (bytesOf n g ++ recB ⟨ki, id, ow, ti, ke, lsOf cHd hn hf, bytesOf bn bf⟩).length, [.vec 1 (bytesOf n g ++ recB ⟨ki, id, ow, ti, ke, lsOf cHd hn hf, bytesOf bn bf⟩).length (byF (bytesOf n g ++ recB ⟨ki, id, ow, ti, ke, lsOf cHd hn hf, bytesOf bn bf⟩))]) := rfl

def ckCheckFile : Ck
  | [.sl n f] => some (isLs cRec n f ∧ recsOk (lsOf cRec n f), .int .i64 (checkFileL (lsOf cRec n f)))
  | _ => none
theorem conCheckFile : Con pg 9 ckCheckFile := by
  have hct := (ctA_ok conCheckRec (ctA_ok conWrite (ctN_ok _)))
  intro args q r h hq
  unfold ckCheckFile at h
  split at h
  · cases h
    rename_i n f
    refine pcall_args (args' := [.sl (lsOf cRec n f).length (lsF cRec (lsOf cRec n f))]) ⟨isLs.vle hq.1, trivial⟩ ?_
    obtain ⟨-, hl⟩ := hq
    generalize lsOf cRec n f = l at hl ⊢
    refine w9 (fun _ => false) [] rfl hct rfl rfl ?_
    push_cast (config := { maxSteps := 10000000 })
    refine ⟨fun h => by unfold checkFileL; rw [if_pos (by omega)], fun h => ?_⟩
    have e0 : checkFileL l = cfGo [] 0 l := by unfold checkFileL; rw [if_neg (by omega)]
    rw [e0]
    refine LoopW.adj ⟨hct, fol⟩ (by kernel_rfl) [] (fun t : Nat × Int => [(3, .map 11), (4, .int .i64 t.2), (12, .sl l.length (lsF cRec l)), (13, .int .i64 l.length), (14, .int .i64 t.1)]) (fun t => [(11, .mp .str (seenM ((l.take t.1).map Rcd.id)))]) (fun t => t.1 ≤ l.length ∧ 0 ≤ t.2 ∧ t.2 ≤ t.1 * 400000 ∧ cfGo ((l.take t.1).map Rcd.id) t.2 (l.drop t.1) = cfGo [] 0 l) (fun t => l.length - t.1) (0, 0) ?_ fun t ht => ?_
    · push_cast (config := { maxSteps := 10000000 })
      exact ⟨Nat.zero_le _, seen_nil⟩
    · obtain ⟨i, m⟩ := t
      obtain ⟨h1, h2, h3, h4⟩ : i ≤ l.length ∧ 0 ≤ m ∧ m ≤ i * 400000 ∧ cfGo ((l.take i).map Rcd.id) m (l.drop i) = cfGo [] 0 l := ht
      push_cast (config := { maxSteps := 10000000 })
      refine ⟨fun hi => ?_, fun hi => ?_⟩
      · rw [dropG (d := noRec) hi, cfGo] at h4
        have ea := cf_app hi
        have ok := recsOk_at hl hi
        generalize l.getD i noRec = r at *
        refine ⟨hi, ok, fun g => ?_, fun g => ⟨fun g2 => ?_, fun g2 => ⟨⟨ok, g⟩, ?_⟩⟩⟩
        · rw [if_pos g] at h4; exact h4
        · rw [if_neg (fun x => x g), if_pos g2] at h4; exact h4
        · rw [if_neg (fun x => x g), if_neg (by rw [g2]; simp)] at h4
          have hb := recB_le g
          exact ⟨⟨by omega, by omega⟩, ⟨by omega, by omega⟩, ((i + 1, m + (recB r).length) : Nat × Int), ⟨by show i + 1 ≤ _; omega, by show 0 ≤ m + _; omega, by show m + _ ≤ ((i + 1 : Nat) : Int) * 400000; omega, by rw [ea]; exact h4⟩, by show l.length - (i + 1) < l.length - i; omega, ⟨rfl, by show (i : Int) + 1 = ((i + 1 : Nat) : Int); omega⟩, fun k => by rw [putM_seen, ← ea]⟩
      · rw [List.drop_eq_nil_of_le (by omega), cfGo] at h4
        exact ⟨fun g => by rw [if_pos g] at h4; exact h4, fun g => by rw [if_neg g] at h4; exact h4⟩
  · cases h
attribute [push_cast] ckCheckFile
def fileR (l : List Rcd) : List UInt8 := if checkFileL l = 0 then fileB l else []
def ckFileBytes : Ck
  | [.sl n f] => some (isLs cRec n f ∧ recsOk (lsOf cRec n f), .tup [.sl (fileR (lsOf cRec n f)).length (byF (fileR (lsOf cRec n f))), .int .i64 (checkFileL (lsOf cRec n f))])
  | _ => none
attribute [push_cast] ckFileBytes
/- lists of things as arguments, cell by cell -/
theorem VLe.slV {n : Nat} {f g : Nat → V} (h : ∀ i, i < n → (g i).flat.length = (f i).flat.length ∧ ∀ j, j < (f i).flat.length → VLe ((f i).flat.getD j .any) ((g i).flat.getD j .any) ∧ ((g i).flat.getD j .any).isPure = true) : VLe (.sl n f) (.sl n g) := by
  intro γ imm w v hr
  cases inv_sl (S := ⟨γ, imm, fun _ => none, w⟩) hr with
  | sl0 _ a c => exact .pure (.sl0 _ a c)
  | sl _ _ b off c sz u hb hnc hs hf hc ho hp =>
    refine .pure (.sl n g b off c sz u hb hnc hs (fun i hi => (h i hi).1.trans (hf i hi)) hc ho (fun i j hi hj => ?_))
    have hj' : j < (f i).flat.length := by rw [hf i hi]; exact hj
    obtain ⟨h1, h2⟩ := (h i hi).2 j hj'
    exact isPure_rep (S := ⟨γ, imm, fun _ => none, w⟩) (h1 _ _ _ _ (.pure (hp i j hi hj))) h2
def isLv {α : Type} (c : Cod α) (n : Nat) (f : Nat → V) : Prop := VLe (.sl n f) (.sl (lsOf c n f).length (lsF c (lsOf c n f)))
/-- a thing's cells say what its code says -/
def isE {α : Type} (c : Cod α) (v : V) : Prop := (c.enc (c.dec v)).flat.length = v.flat.length ∧ ∀ j, j < v.flat.length → VLe (v.flat.getD j .any) ((c.enc (c.dec v)).flat.getD j .any) ∧ ((c.enc (c.dec v)).flat.getD j .any).isPure = true
theorem shListE {α : Type} {c : Cod α} {s : Sh} {p : α → Prop} (hs : ∀ m v, s.has m v → isE c v ∧ p (c.dec v)) {m : Nat} {v : V} (h : Sh.has (.list s) m v) : ∃ (n : Nat) (f : Nat → V), v = .sl n f ∧ isLv c n f ∧ n ≤ 140737488355328 ∧ ∀ a ∈ lsOf c n f, p a := by
  obtain ⟨l, ms, rfl, h1, h2, h3, h4⟩ := h
  have := reach_le
  refine ⟨_, _, rfl, ?_, by omega, fun a ha => ?_⟩
  · unfold isLv
    rw [lsOf_len]
    refine VLe.slV fun i hi => ?_
    have hE := (hs _ _ (h4 i hi)).1
    have e2 : lsF c (lsOf c l.length (litF l)) i = c.enc (c.dec (litF l i)) := by
      unfold lsF lsOf
      rw [List.getD_eq_getElem?_getD, List.getElem?_map, List.getElem?_range hi]; rfl
    rw [e2]
    exact hE
  · simp only [lsOf, List.mem_map, List.mem_range] at ha
    obtain ⟨i, hi, rfl⟩ := ha
    exact (hs _ _ (h4 i hi)).2

/- pieces of bytes, one behind the other -/
def slOf : V → List UInt8
  | .sl n f => bytesOf n f
  | _ => []
def isSl : V → Prop
  | .sl n f => isBy n f
  | _ => False
def cBy : Cod (List UInt8) := ⟨fun s => .sl s.length (byF s), slOf, [], fun s => bytesOf_by s⟩
@[push_cast] theorem lsF_by (l : List (List UInt8)) (i : Nat) : lsF cBy l i = .sl (l.getD i []).length (byF (l.getD i [])) := rfl
theorem isSl_ple {v : V} (h : isSl v) : pleL v.flat [.sl (slOf v).length (byF (slOf v))] := by
  cases v <;> first | exact h.elim | skip
  rename_i n f
  exact ⟨PLe.sl h.1 fun i hi => by rw [h.2 i hi]; exact pleL_refl _, trivial⟩

def ckFold : Ck
  | [.str s, .str t] => some (s.length < 4294967281 ∧ asciiC s = true ∧ asciiC t = true, .bool (Lib.equalFold s t))
  | _ => none
attribute [push_cast] ckFold
theorem fold_low : ∀ (s t : List UInt8), lowL t = t → (Lib.equalFold s t = (lowL s == t))
  | [], [], _ => rfl
  | [], _ :: _, _ => rfl
  | x :: s, [], _ => rfl
  | x :: s, y :: t, h => by
    have h1 : lowB y = y := (List.cons.inj h).1
    have h2 : lowL t = t := (List.cons.inj h).2
    have ih := fold_low s t h2
    have e : Lib.foldEq x y = (lowB x == y) := by
      have key : ∀ a, a < 256 → ∀ b, b < 256 → lowB (UInt8.ofNat b) = UInt8.ofNat b → Lib.foldEq (UInt8.ofNat a) (UInt8.ofNat b) = (lowB (UInt8.ofNat a) == UInt8.ofNat b) := by
        intro a ha b hb hl
        rw [Bool.eq_iff_iff, beq_iff_eq]
        unfold Lib.foldEq
        rw [decide_eq_true_eq]
        have ea : (UInt8.ofNat a).toNat = a := by rw [UInt8.toNat_ofNat']; omega
        have eb : (UInt8.ofNat b).toNat = b := by rw [UInt8.toNat_ofNat']; omega
        have hb2 : ¬ (65 ≤ b ∧ b ≤ 90) := by
          intro hh
          unfold lowB at hl
          rw [eb, if_pos (by omega)] at hl
          have := congrArg UInt8.toNat hl
          rw [eb, UInt8.toNat_ofNat'] at this
          omega
        rw [ea, eb]
        unfold lowB
        rw [ea]
        constructor
        · intro hh
          by_cases hc : 65 ≤ a ∧ a ≤ 90
          · rw [if_pos hc]
            congr 1
            omega
          · rw [if_neg hc]
            congr 1
            omega
        · intro hh
          have := congrArg UInt8.toNat hh
          by_cases hc : 65 ≤ a ∧ a ≤ 90
          · rw [if_pos hc, eb, UInt8.toNat_ofNat'] at this; omega
          · rw [if_neg hc, ea, eb] at this; omega
      have := key x.toNat (UInt8.toNat_lt x) y.toNat (UInt8.toNat_lt y) (by simpa using h1)
      simpa using this
    show (Lib.foldEq x y && Lib.equalFold s t) = (lowB x :: lowL s == y :: t)
    rw [ih, e]; rfl
def namesA (l : List Hd) : Prop := ∀ h ∈ l, asciiC h.name = true ∧ h.name.length ≤ 1000000
def ckHasPie : Ck
  | [.agg [.int .i64 ki, .str id, .str ow, .int .i64 ti, .str ke, .sl n f, .sl m g]] => some (isLs cHd n f ∧ namesA (lsOf cHd n f) ∧ n ≤ 1000000, .bool ((lsOf cHd n f).any fun h => lowL h.name == wPieces))
  | _ => none
attribute [push_cast] ckHasPie
def recsA (l : List Rcd) : Prop := ∀ r ∈ l, namesA r.hd ∧ r.hd.length ≤ 1000000
def ckHasOf : Ck
  | [.sl n f] => some (isLs cRec n f ∧ recsA (lsOf cRec n f) ∧ n ≤ 1000000, .bool ((lsOf cRec n f).any fun r => decide (r.ow ≠ []) || pieB r))
  | _ => none
attribute [push_cast] ckHasOf
def lonG (l : List (List UInt8)) (k : Nat) : Int := l.foldl (fun n b => max n (b.length : Int)) (k : Int)
def lonL (l : List (List UInt8)) : Int := l.foldl (fun n b => max n (b.length : Int)) 0
def ckLon : Ck
  | [.sl n f] => some (isLs cBy n f ∧ n ≤ 1000000, .int .i64 (lonL (lsOf cBy n f)))
  | _ => none
attribute [push_cast] ckLon
def encN (r : Rcd) (b : Bool) : V := .agg [.int .i64 r.ki, .str r.id, .str r.ow, .int .i64 r.ti, .str r.ke, .sl r.hd.length (lsF cHd r.hd), bif b then .nilsl else .sl r.bd.length (byF r.bd)]
def isRev (l : List Rcd) (i : Nat) : Bool := candB l (l.getD i noRec) && (fstR l (l.take i) (l.getD i noRec)).isSome
def revG (l : List Rcd) (k j : Nat) : V := encN ((revU l k).getD j noRec) (decide (j < k) && isRev l j)
theorem ssC : SsK pg.prog 51 := by
  exact ssK_of (e := 9) (n := pg.prog.types.size - 1) (fs := match pg.prog.underlying 51 with
    | some (.struct x) => x
    | _ => #[]) (deep_law (m := 3) (by decide) (by kernel_rfl) (by kernel_rfl) (by kernel_rfl)) (by kernel_rfl) (by kernel_rfl) (by kernel_rfl) (by kernel_rfl) (by kernel_rfl) (by kernel_rfl) (by kernel_rfl) (by kernel_rfl)
theorem revU_kk (l : List Rcd) (k : Nat) : (revU l k).getD k noRec = l.getD k noRec := by
  by_cases h : k < l.length
  · exact revU_at l (Nat.le_refl k) h
  · rw [List.getD_eq_getElem?_getD, List.getD_eq_getElem?_getD, List.getElem?_eq_none (l := l) (by omega)]
    unfold revU
    rw [List.getElem?_eq_none]
    rw [List.length_append, List.length_map, List.length_range, List.length_drop]; omega
@[push_cast] theorem revG_kk (l : List Rcd) (k : Nat) : revG l k k = .agg [.int .i64 (l.getD k noRec).ki, .str (l.getD k noRec).id, .str (l.getD k noRec).ow, .int .i64 (l.getD k noRec).ti, .str (l.getD k noRec).ke, .sl (l.getD k noRec).hd.length (lsF cHd (l.getD k noRec).hd), .sl (l.getD k noRec).bd.length (byF (l.getD k noRec).bd)] := by
  unfold revG
  rw [revU_kk, decide_eq_false (Nat.lt_irrefl k)]; rfl
theorem revG_0 (l : List Rcd) (j : Nat) : revG l 0 j = lsF cRec l j := by
  unfold revG
  rw [revU_0, decide_eq_false (Nat.not_lt_zero j)]; rfl
@[push_cast] theorem kill_revG (d : Nat) (l : List Rcd) (k j : Nat) : V.kill d (revG l k j) = revG l k j := by
  unfold revG encN
  cases decide (j < k) && isRev l j <;> rfl
theorem pure_revG (l : List Rcd) (k j : Nat) : (revG l k j).isPure = true := by
  unfold revG encN
  cases decide (j < k) && isRev l j <;> rfl
@[push_cast] theorem setF_kkR (f : Nat → V) (k : Nat) (v : V) : setF f k v k = v := by
  unfold setF; rw [decide_eq_true rfl]; rfl
theorem setF_3 (f : Nat → V) (k : Nat) (a b c : V) (j : Nat) : setF (setF (setF f k a) k b) k c j = if j = k then c else f j := by
  unfold setF
  by_cases e : j = k
  · rw [decide_eq_true e, if_pos e]; rfl
  · rw [decide_eq_false e, if_neg e]; rfl
theorem revG_s (l : List Rcd) {k : Nat} (h : k < l.length) (j : Nat) : revG l (k + 1) j = if j = k then encN (revF l k) (isRev l k) else revG l k j := by
  have hl := revU_len l (Nat.le_of_lt h)
  unfold revG
  rw [revU_s l h]
  by_cases e : j = k
  · subst e
    rw [if_pos rfl, decide_eq_true (Nat.lt_succ_self j), Bool.true_and, List.getD_eq_getElem?_getD, List.getElem?_set_self (by omega)]; rfl
  · rw [if_neg e, List.getD_eq_getElem?_getD, List.getElem?_set, if_neg (fun x => e x.symm), ← List.getD_eq_getElem?_getD]
    congr 2
    exact decide_eq_decide.2 (by omega)
theorem rev_stay (l : List Rcd) {k : Nat} (h : isRev l k = false) : encN (revF l k) (isRev l k) = revG l k k := by
  have hF : revF l k = l.getD k noRec := by
    unfold revF revR
    unfold isRev at h
    by_cases hc : candB l (l.getD k noRec) = true
    · rw [if_pos hc]
      rw [hc, Bool.true_and] at h
      cases hf : fstR l (l.take k) (l.getD k noRec) with
      | none => rfl
      | some x => rw [hf] at h; cases h
    · rw [if_neg hc]
  rw [h, hF, revG_kk]; rfl
theorem rev_go (l : List Rcd) {k : Nat} {x : Rcd} (hc : candB l (l.getD k noRec) = true) (hf : fstR l (l.take k) (l.getD k noRec) = some x) : encN (revF l k) (isRev l k) = .agg [.int .i64 4, .str (l.getD k noRec).id, .str x.id, .int .i64 (l.getD k noRec).ti, .str (l.getD k noRec).ke, .sl (l.getD k noRec).hd.length (lsF cHd (l.getD k noRec).hd), .nilsl] := by
  have h1 : isRev l k = true := by unfold isRev; rw [hc, hf]; rfl
  have h2 : revF l k = ⟨4, (l.getD k noRec).id, x.id, (l.getD k noRec).ti, (l.getD k noRec).ke, (l.getD k noRec).hd, []⟩ := by
    unfold revF revR; rw [if_pos hc, hf]
  rw [h1, h2]; rfl
theorem rev_step (l : List Rcd) {k : Nat} (h : k < l.length) (hr : isRev l k = false) (j : Nat) : revG l k j = revG l (k + 1) j := by
  rw [revG_s l h]
  by_cases e : j = k
  · subst e; rw [if_pos rfl, rev_stay l hr]
  · rw [if_neg e]
theorem cand_iff {l : List Rcd} {r : Rcd} : candB l r = true ↔ (((r.ki = 3 ∧ ¬ (r.bd.length : Int) = 0) ∧ r.ow = []) ∧ (List.map Rcd.ow l).contains r.id = false) ∧ ¬ 0 ≤ fstH r.hd [112, 105, 101, 99, 101, 115] := by
  have hb : r.bd ≠ [] ↔ ¬ (r.bd.length : Int) = 0 := by
    rw [← List.length_pos_iff]; omega
  have hp : pieB r = false ↔ ¬ 0 ≤ fstH r.hd [112, 105, 101, 99, 101, 115] := by
    rw [fstH_any]
    show (r.hd.any fun h => lowL h.name == wPieces) = false ↔ ¬ (r.hd.any fun h => lowL h.name == wPieces) = true
    simp
  unfold candB ofB
  rw [← hb, ← hp]
  simp only [Bool.and_eq_true, Bool.not_eq_true', decide_eq_true_eq]
def ckRevV : Ck
  | [.sl n f] => some (isLs cRec n f ∧ recsOk (lsOf cRec n f), .tup [.sl (if checkFileL (lsOf cRec n f) = 0 then (lsOf cRec n f).length else 0) (revG (lsOf cRec n f) (lsOf cRec n f).length), .int .i64 (checkFileL (lsOf cRec n f))])
  | _ => none
theorem conRevV : Con pg 7 ckRevV := by
  have hct := (ctA_ok conCheckFile (ctA_ok conRhead (ctW_ok conCopiesN (ctN_ok _))))
  intro args q r h hq
  unfold ckRevV at h
  split at h
  · cases h
    rename_i n f
    refine pcall_args (args' := [.sl (lsOf cRec n f).length (lsF cRec (lsOf cRec n f))]) ⟨isLs.vle hq.1, trivial⟩ ?_
    obtain ⟨-, hl⟩ := hq
    generalize lsOf cRec n f = l at hl ⊢
    refine w7 (fun _ => false) [.frz 33] rfl hct rfl rfl ?_
    push_cast (config := { maxSteps := 10000000 })
    refine ⟨hl, fun h => ?_, fun h => ?_⟩
    · rw [if_neg h]
    rw [if_pos h]
    obtain ⟨hck, -, hlen⟩ := file_ok h
    refine LoopW.adj ⟨hct, fol⟩ (by kernel_rfl) [] (fun i : Nat => [(0, .sl l.length (lsF cRec l)), (5, .map 20), (21, .sl l.length (lsF cRec l)), (22, .int .i64 l.length), (23, .int .i64 i)]) (fun i => [(20, .mp .str (seenM ((l.take i).map Rcd.ow)))]) (fun i => i ≤ l.length) (fun i => l.length - i) 0 ?_ fun i hi => ?_
    · push_cast (config := { maxSteps := 10000000 })
      exact ⟨Nat.zero_le _, seen_nil⟩
    · push_cast (config := { maxSteps := 10000000 })
      refine ⟨fun hlt => ?_, fun hge => ?_⟩
      · refine ⟨hlt, by omega, i + 1, by omega, by omega, by omega, fun k => ?_⟩
        have e : l.take (i + 1) = l.take i ++ [l.getD i noRec] := by
          rw [List.getD_eq_getElem?_getD, List.getElem?_eq_getElem hlt, List.take_succ_eq_append_getElem hlt]; rfl
        rw [e, List.map_append]
        exact putM_seen _ _ _
      · have hi : i = l.length := by omega
        have hrs := fun r (hr : r ∈ l) => rec_sz (hck r hr)
        have h30 : ∀ r ∈ l, r.hd.length ≤ 1000000 := fun r hr => by
          obtain ⟨-, -, -, -, -, -, z⟩ := hrs r hr
          omega
        refine ⟨⟨hl, h30, by omega⟩, ?_⟩
        rw [hi, List.take_length]
        refine LoopW.adj ⟨hct, fol⟩ (by kernel_rfl) [] (fun k : Nat => [(5, .map 20), (8, .map 31), (9, .vec 33 l.length), (34, .vec 33 l.length), (35, .int .i64 l.length), (36, .int .i64 k)]) (fun k => [(20, .mp .str (seenM (l.map Rcd.ow))), (31, .mp .ss (firM l (l.take k))), (33, .vec 7 l.length (revG l k))]) (fun k => k ≤ l.length) (fun k => l.length - k) 0 ?_ fun k hk => ?_
        · push_cast (config := { maxSteps := 10000000 })
          exact ⟨Nat.zero_le _, fun k => by cases k <;> rfl, fun i hi => (revG_0 l i).symm⟩
        · push_cast (config := { maxSteps := 10000000 })
          refine ⟨fun hlt => ?_, fun hge => ?_⟩
          · have ok := recsOk_at hl hlt
            have e1 : l.take (k + 1) = l.take k ++ [l.getD k noRec] := by
              rw [List.getD_eq_getElem?_getD, List.getElem?_eq_getElem hlt, List.take_succ_eq_append_getElem hlt]; rfl
            have hN : hdsN (l.getD k noRec).hd := fun x hx => (ok.1 x hx).1
            have h30k := h30 _ (getD_memH (d := noRec) hlt)
            have hci := cand_iff (l := l) (r := l.getD k noRec)
            have hfm := firM_at l (l.take k) (l.getD k noRec)
            have hst := rev_step l hlt
            refine ⟨hlt, hlt, fun g => ⟨g, hN, h30k⟩, fun g => ?_, fun g => ?_⟩
            · have hc : candB l (l.getD k noRec) = false := by
                cases e : candB l (l.getD k noRec) with
                | false => rfl
                | true =>
                  obtain ⟨⟨⟨⟨x1, x2⟩, x3⟩, x4⟩, x5⟩ := hci.1 e
                  rcases g with ((g | g) | g) | g
                  · rcases g with g | g
                    · exact absurd x1 g
                    · exact absurd g x2
                  · exact absurd x3 g
                  · rw [x4] at g; cases g
                  · exact absurd g x5
              refine ⟨by omega, k + 1, by omega, by omega, by omega, fun z => ?_, fun j hj => hst (by unfold isRev; rw [hc]; rfl) j⟩
              rw [e1]; exact (firM_no hc z).symm
            · have hc := hci.2 g
              refine ⟨⟨⟨ssC, ok.2.2.2.1, ok.2.2.2.2.2.1⟩, firM_okS _ _ _⟩, fun a => ?_, fun a => ⟨⟨ssC, ok.2.2.2.1, ok.2.2.2.2.2.1⟩, by omega, k + 1, by omega, by omega, by omega, fun z => ?_, fun j hj => hst ?_ j⟩⟩
              · cases hf : fstR l (l.take k) (l.getD k noRec) with
                | none => rw [hfm, hf] at a; cases a
                | some x =>
                  refine ⟨hlt, hlt, hlt, hlt, hlt, hlt, by omega, k + 1, by omega, by omega, by omega, fun z => ?_, fun j hj => ?_⟩
                  · rw [e1]; exact (firM_old hf z).symm
                  · rw [setF_3, revG_s l hlt, rev_go l hc hf, hfm, hf]; rfl
              · have hf : fstR l (l.take k) (l.getD k noRec) = none := by
                  cases e : fstR l (l.take k) (l.getD k noRec) with
                  | none => rfl
                  | some x => rw [hfm, e] at a; cases a
                rw [e1]; exact firM_new hc hf z
              · have hf : fstR l (l.take k) (l.getD k noRec) = none := by
                  cases e : fstR l (l.take k) (l.getD k noRec) with
                  | none => rfl
                  | some x => rw [hfm, e] at a; cases a
                unfold isRev; rw [hf]; simp
          · have hkl : k = l.length := by omega
            refine ⟨fun j _ => pure_revG l k j, fun j _ => by rw [hkl], h.symm⟩
  · cases h
attribute [push_cast] ckRevV
def revR0 (l : List Rcd) : List Rcd := if checkFileL l = 0 then revL l else []
def ckRev : Ck
  | [.sl n f] => some (isLs cRec n f ∧ recsOk (lsOf cRec n f), .tup [.sl (revR0 (lsOf cRec n f)).length (lsF cRec (revR0 (lsOf cRec n f))), .int .i64 (checkFileL (lsOf cRec n f))])
  | _ => none
theorem VLe.tup2 {a b c : V} (h : VLe a b) : VLe (.tup [a, c]) (.tup [b, c]) := by
  intro γ imm w v hr
  obtain ⟨vs, rfl, h1, h2⟩ := inv_tup (S := ⟨γ, imm, fun _ => none, w⟩) hr
  exact .tup _ vs h1 fun i hi => by
    match i, hi with
    | 0, _ => exact h _ _ _ _ (h2 0 (by simp))
    | 1, _ => exact h2 1 (by simp)
theorem PLe.nilS (f : Nat → V) : PLe .nilsl (.sl 0 f) := by
  intro imm w v h
  cases h
  exact .sl0 _ _ _
theorem rev_bd (l : List Rcd) {i : Nat} (h : isRev l i = true) : (revF l i).bd = [] := by
  unfold isRev at h
  rw [Bool.and_eq_true] at h
  unfold revF revR
  rw [if_pos h.1]
  cases hf : fstR l (l.take i) (l.getD i noRec) with
  | none => rw [hf] at h; cases h.2
  | some x => rfl
theorem revG_end (l : List Rcd) {i : Nat} (h : i < l.length) : revG l l.length i = encN (revF l i) (isRev l i) := by
  unfold revG
  rw [revU_end, revL_at l h, decide_eq_true h, Bool.true_and]
theorem enc_ple (r : Rcd) {b : Bool} (h : b = true → r.bd = []) : pleL (encN r b).flat (cRec.enc r).flat := by
  refine ⟨PLe.refl _, PLe.refl _, PLe.refl _, PLe.refl _, PLe.refl _, PLe.refl _, ?_, trivial⟩
  cases b with
  | false => exact PLe.refl _
  | true =>
    rw [h rfl]
    exact PLe.nilS _
theorem conRev : Con pg 7 ckRev := by
  intro args q r h hq
  unfold ckRev at h
  split at h
  · cases h
    rename_i n f
    refine pcall_res (VLe.tup2 ?_) (conRevV _ _ _ rfl hq)
    generalize lsOf cRec n f = l
    unfold revR0
    by_cases he : checkFileL l = 0
    · rw [if_pos he, if_pos he]
      refine VLe.slP (revL_len l).symm fun i hi => ?_
      rw [revG_end l hi]
      have e : lsF cRec (revL l) i = cRec.enc (revF l i) := by
        show cRec.enc ((revL l).getD i noRec) = _
        rw [revL_at l hi]
      rw [e]
      exact enc_ple _ (rev_bd l)
    · rw [if_neg he, if_neg he]
      exact VLe.slP rfl fun i hi => absurd hi (Nat.not_lt_zero i)
  · cases h
attribute [push_cast] ckRev

/-- the number of the record with a name, or -1 -/
def fndL (l : List Rcd) (s : List UInt8) : Int := match l.findIdx? (fun r => r.id == s) with
  | some k => k
  | none => -1
theorem fndL_at {l : List Rcd} {s : List UInt8} {i : Nat} (hi : i < l.length) (h : (l.getD i noRec).id = s) (hn : ∀ j, j < i → (l.getD j noRec).id ≠ s) : fndL l s = i := by
  unfold fndL
  have : l.findIdx? (fun r => r.id == s) = some i := by
    rw [List.findIdx?_eq_some_iff_getElem]
    refine ⟨hi, ?_, fun j hj => ?_⟩
    · rw [List.getD_eq_getElem?_getD, List.getElem?_eq_getElem hi] at h; exact beq_iff_eq.2 h
    · have h1 := hn j hj
      rw [List.getD_eq_getElem?_getD, List.getElem?_eq_getElem (by omega)] at h1
      simpa using h1
  rw [this]
theorem fndL_no {l : List Rcd} {s : List UInt8} (hn : ∀ j, j < l.length → (l.getD j noRec).id ≠ s) : fndL l s = -1 := by
  unfold fndL
  have : l.findIdx? (fun r => r.id == s) = none := by
    rw [List.findIdx?_eq_none_iff]
    intro x hx
    obtain ⟨j, hj, rfl⟩ := List.getElem_of_mem hx
    have h1 := hn j hj
    rw [List.getD_eq_getElem?_getD, List.getElem?_eq_getElem hj] at h1
    simpa using h1
  rw [this]
theorem fndL_in (l : List Rcd) (s : List UInt8) : 0 ≤ fndL l s ↔ (l.map Rcd.id).contains s = true := by
  unfold fndL
  cases h : l.findIdx? (fun r => r.id == s) with
  | none =>
    rw [List.findIdx?_eq_none_iff] at h
    constructor
    · intro h'; have h' : (0 : Int) ≤ -1 := h'; omega
    · intro h'
      rw [List.contains_iff_mem, List.mem_map] at h'
      obtain ⟨r, hr, e⟩ := h'
      have := h r hr
      rw [e] at this; simp at this
  | some k =>
    rw [List.findIdx?_eq_some_iff_getElem] at h
    obtain ⟨hk, h1, _⟩ := h
    constructor
    · intro _
      rw [List.contains_iff_mem, List.mem_map]
      exact ⟨l[k], List.getElem_mem hk, beq_iff_eq.1 h1⟩
    · intro _; exact Int.natCast_nonneg k
theorem fndL_ok {l : List Rcd} {s : List UInt8} (h : 0 ≤ fndL l s) : (fndL l s).toNat < l.length ∧ (l.getD (fndL l s).toNat noRec).id = s ∧ ∀ j, j < (fndL l s).toNat → (l.getD j noRec).id ≠ s := by
  unfold fndL at h ⊢
  cases e : l.findIdx? (fun r => r.id == s) with
  | none => rw [e] at h; have h : (0 : Int) ≤ -1 := h; omega
  | some k =>
    rw [List.findIdx?_eq_some_iff_getElem] at e
    obtain ⟨hk, h1, h2⟩ := e
    refine ⟨hk, ?_, fun j hj => ?_⟩
    · show (l.getD k noRec).id = s
      rw [List.getD_eq_getElem?_getD, List.getElem?_eq_getElem hk]; exact beq_iff_eq.1 h1
    · have hj : j < k := hj
      have := h2 j hj
      rw [List.getD_eq_getElem?_getD, List.getElem?_eq_getElem (by omega)]
      simpa using this
theorem fndL_b (l : List Rcd) (s : List UInt8) : -1 ≤ fndL l s ∧ fndL l s < l.length := by
  by_cases h : 0 ≤ fndL l s
  · have := (fndL_ok h).1; omega
  · refine ⟨?_, by omega⟩
    unfold fndL
    split <;> omega
def ckFind : Ck
  | [.sl n f, .str s] => some (isLs cRec n f ∧ n ≤ 4611686018427387900, .int .i64 (fndL (lsOf cRec n f) s))
  | _ => none
theorem conFind : Con pg 12 ckFind := by
  have hct := ctN_ok pg
  intro args q r h hq
  unfold ckFind at h
  split at h
  · cases h
    rename_i n f s
    refine pcall_args (args' := [.sl (lsOf cRec n f).length (lsF cRec (lsOf cRec n f)), .str s]) ⟨isLs.vle hq.1, VLe.refl _, trivial⟩ ?_
    have hn : (lsOf cRec n f).length ≤ 4611686018427387900 := by rw [lsOf_len]; exact hq.2
    generalize lsOf cRec n f = l at hn ⊢
    refine w12 (fun _ => false) [] rfl hct rfl rfl ?_
    push_cast (config := { maxSteps := 10000000 })
    refine LoopW.adj ⟨hct, fol⟩ (by kernel_rfl) [] (fun i : Nat => [(0, .sl l.length (lsF cRec l)), (1, .str s), (5, .int .i64 i)]) (fun _ => []) (fun i => i ≤ l.length ∧ ∀ j, j < i → (l.getD j noRec).id ≠ s) (fun i => l.length - i) 0 ?_ fun i hi => ?_
    · push_cast (config := { maxSteps := 10000000 })
      exact Nat.zero_le _
    · push_cast (config := { maxSteps := 10000000 })
      obtain ⟨h1, h2⟩ := hi
      refine ⟨fun h => ⟨h, fun g => (fndL_at h g h2).symm, fun g => ⟨⟨by omega, by omega⟩, i + 1, ⟨by omega, fun j hj => ?_⟩, by omega, by omega⟩⟩, fun h => (fndL_no fun j hj => h2 j (by omega)).symm⟩
      by_cases e : j = i
      · subst e; exact g
      · exact h2 j (by omega)
  · cases h
attribute [push_cast] ckFind

/- the record with a name -/
def ckFClK : List V → List Blk → Option (Prop × V × List Blk)
  | [.agg [.int .i64 ki, .str id, .str ow, .int .i64 ti, .str ke, x, y], .ptr i 0], [.cells [.str s]] => some (True, .bool (id == s), [.cells [.str s]])
  | _, _ => none
def ckFCl : Cf := ⟨fun | [_, .ptr i _] => [i] | _ => [], ckFClK⟩
theorem conFCl : FCon pg 57 ckFCl := by
  have hct := ctN_ok pg
  intro args bs q r bs' h hq
  replace h : ckFClK args bs = some (q, r, bs') := h
  unfold ckFClK at h
  split at h
  · cases h
    rename_i ki id ow ti ke x y i s
    refine ⟨rfl, by first | exact Nat.le_refl _ | exact Nat.zero_le _, ?_⟩
    show FCall pg 57 [.agg [.int .i64 ki, .str id, .str ow, .int .i64 ti, .str ke, x.shift, y.shift], .ptr (i + 9000) 0] [(i + 9000, .cells [.str s])] (.bool (id == s)) [(i + 9000, .cells [.str s])]
    refine fw57 (fun _ => false) [] rfl hct rfl (by simp) (by simp [hlIn, idsIn, Blk.menIn, V.menInL, V.menIn, V.flat, byF, lsF]) (by simp [V.menIn, V.menInL, idsIn]) ?_
    push_cast (config := { maxSteps := 10000000 })
  · cases h
attribute [push_cast] ckFClK
@[push_cast] theorem fcl_ids (x : V) (i o : Nat) : ckFCl.ids [x, .ptr i o] = [i] := rfl
@[push_cast] theorem fcl_k {id ow ke s : List UInt8} {ki ti : Int} {x y : V} (i : Nat) : ckFCl.k [.agg [.int .i64 ki, .str id, .str ow, .int .i64 ti, .str ke, x, y], .ptr i 0] [.cells [.str s]] = some (True, .bool (id == s), [.cells [.str s]]) := rfl
@[push_cast] theorem vle_fnR (f : Fn) (a b : List V) : vle (.fn f a b) (.fn f a b) = True := eq_true rfl
def ckIxRK : List V → List Blk → Option (Prop × V × List Blk)
  | [.sl n f, .fn (.func 57) [] [.ptr i 0]], [.cells [.str s]] => some (isLs cRec n f ∧ n ≤ 4611686018427387900, .int .i64 (fndL (lsOf cRec n f) s), [.cells [.str s]])
  | _, _ => none
def ckIxR : Cf := ⟨fun | [_, .fn _ _ [.ptr i _]] => [i] | _ => [], ckIxRK⟩
theorem conIxR : FCon pg 56 ckIxR := by
  have hct := (ctF_ok conFCl (ctN_ok _))
  intro args bs q r bs' h hq
  replace h : ckIxRK args bs = some (q, r, bs') := h
  unfold ckIxRK at h
  split at h
  · cases h
    rename_i n f i s
    refine ⟨rfl, by first | exact Nat.le_refl _ | exact Nat.zero_le _, ?_⟩
    refine fcall_args (args' := [.sl (lsOf cRec n f).length (lsF cRec (lsOf cRec n f)), .fn (.func 57) [] [.ptr (i + 9000) 0]]) ⟨isLs.vle hq.1, VLe.refl _, trivial⟩ ?_
    have hn : (lsOf cRec n f).length ≤ 4611686018427387900 := by rw [lsOf_len]; exact hq.2
    generalize lsOf cRec n f = l at hn ⊢
    show FCall pg 56 [.sl l.length (lsF cRec l), .fn (.func 57) [] [.ptr (i + 9000) 0]] [(i + 9000, .cells [.str s])] (.int .i64 (fndL l s)) [(i + 9000, .cells [.str s])]
    refine fw56 (fun _ => false) [] rfl hct rfl (by simp) (by simp [hlIn, idsIn, Blk.menIn, V.menInL, V.menIn, V.flat, byF, lsF]) (by simp [V.menIn, V.menInL, idsIn]) ?_
    push_cast (config := { maxSteps := 10000000 })
    refine LoopW.adj ⟨hct, fol⟩ (by kernel_rfl) [] (fun k : Nat => [(0, .sl l.length (lsF cRec l)), (1, .fn (.func 57) [] [.ptr (i + 9000) 0]), (7, .int .i64 l.length), (8, .int .i64 k)]) (fun _ => [(i + 9000, .cells [.str s])]) (fun k => k ≤ l.length ∧ ∀ j, j < k → (l.getD j noRec).id ≠ s) (fun k => l.length - k) 0 ?_ fun k hk => ?_
    · push_cast (config := { maxSteps := 10000000 })
      exact Nat.zero_le _
    · push_cast (config := { maxSteps := 10000000 })
      obtain ⟨h1, h2⟩ := hk
      refine ⟨fun h => ⟨h, fun h3 => (fndL_at h h3 h2).symm, fun h3 => ⟨⟨by omega, by omega⟩, k + 1, ⟨by omega, fun j hj => ?_⟩, by omega, by omega⟩⟩, fun h => (fndL_no fun j hj => h2 j (by omega)).symm⟩
      by_cases e : j = k
      · subst e; exact h3
      · exact h2 j (by omega)
  · cases h
attribute [push_cast] ckIxRK
@[push_cast] theorem ixR_ids (x : V) (f : Fn) (i o : Nat) : ckIxR.ids [x, .fn f [] [.ptr i o]] = [i] := rfl
@[push_cast] theorem ixR_k {n : Nat} {f : Nat → V} {s : List UInt8} (i : Nat) : ckIxR.k [.sl n f, .fn (.func 57) [] [.ptr i 0]] [.cells [.str s]] = some (isLs cRec n f ∧ n ≤ 4611686018427387900, .int .i64 (fndL (lsOf cRec n f) s), [.cells [.str s]]) := rfl
def fndR (l : List Rcd) (s : List UInt8) : Rcd := if 0 ≤ fndL l s then l.getD (fndL l s).toNat noRec else noRec
def ckFind6 : Ck
  | [.sl n f, .str s] => some (isLs cRec n f ∧ n ≤ 4611686018427387900, .tup [cRec.enc (fndR (lsOf cRec n f) s), .bool (decide (0 ≤ fndL (lsOf cRec n f) s))])
  | _ => none
theorem conFind6 : Con pg 27 ckFind6 := by
  have hct := (ctF_ok conIxR (ctN_ok _))
  intro args q r h hq
  unfold ckFind6 at h
  split at h
  · cases h
    rename_i n f s
    refine pcall_args (args' := [.sl (lsOf cRec n f).length (lsF cRec (lsOf cRec n f)), .str s]) ⟨isLs.vle hq.1, VLe.refl _, trivial⟩ ?_
    have hn : (lsOf cRec n f).length ≤ 4611686018427387900 := by rw [lsOf_len]; exact hq.2
    generalize lsOf cRec n f = l at hn ⊢
    refine w27 (fun _ => false) [] rfl hct rfl rfl ?_
    push_cast (config := { maxSteps := 10000000 })
    refine ⟨hn, fun h => ?_, fun h => ?_⟩
    · have e : fndR l s = noRec := by unfold fndR; rw [if_neg (by omega)]
      rw [e]
      exact ⟨⟨rfl, rfl, rfl, rfl, rfl, rfl, rfl⟩, (decide_eq_false (by omega)).symm⟩
    · have e : fndR l s = l.getD (fndL l s).toNat noRec := by unfold fndR; rw [if_pos (by omega)]
      rw [e]
      exact ⟨⟨by omega, (fndL_b l s).2⟩, ⟨rfl, rfl, rfl, rfl, rfl, ⟨rfl, fun _ _ => rfl⟩, rfl, fun _ _ => rfl⟩, (decide_eq_true (by omega)).symm⟩
  · cases h
attribute [push_cast] ckFind6

def ckCloneByN : List V → Option (Prop × V × Blk)
  | [.sl n f] => some (isBy n f ∧ n ≤ 140737488355328, .vec 8999 n, .vec 1 n f)
  | _ => none
theorem conCloneByN : NCon pg 34 ckCloneByN := by
  have hct := ctN_ok pg
  intro args q r nb h hq
  unfold ckCloneByN at h
  split at h
  · cases h
    rename_i n f
    by_cases hn : n = 0
    · subst hn
      refine ncall_nil1 fun a c => ?_
      cases a
      · refine nw34 (fun d => decide (d < 9999)) [.nv 2 8999 1 f] rfl hct rfl rfl ?_ ?_
        · simp [noIdB]
        push_cast (config := { maxSteps := 10000000 })
      · refine nw34 (fun d => decide (d < 9999)) [.ren 5 8999] rfl hct rfl rfl ?_ ?_
        · simp [noIdB]
        push_cast (config := { maxSteps := 10000000 })
    · obtain ⟨h1, h2⟩ := hq
      refine nw34 (fun d => decide (d < 9999)) [.ren 5 8999] rfl hct rfl rfl ?_ ?_
      · intro i hi; show V.noIdL (f i).flat = true; rw [h1.2 i hi]; rfl
      push_cast (config := { maxSteps := 10000000 })
      exact ⟨by omega, ⟨h1.flat, by omega, by omega⟩, fun i hi => by rw [h1.2 i hi]; rfl⟩
  · cases h
attribute [push_cast] ckCloneByN
theorem insF_in {f g : Nat → V} {o m i : Nat} (h : o ≤ i) (h2 : i < o + m) : insF f o m g i = g (i - o) := by
  unfold insF
  rw [decide_eq_true (show o ≤ i ∧ i < o + m from ⟨h, h2⟩)]; rfl
theorem insF_out {f g : Nat → V} {o m i : Nat} (h : i < o ∨ o + m ≤ i) : insF f o m g i = f i := by
  unfold insF
  rw [decide_eq_false (show ¬ (o ≤ i ∧ i < o + m) by omega)]; rfl

end Go.Abs
