/- what functions of this program compute: contracts, each a function's own -/
import Derived.Test.YthcimhogoiklfaaGreatDoorAbsK2
import Derived.Test.YthcimhogoiklfaaGreatDoorAbsFacts
import Derived.Test.YthcimhogoiklfaaGreatDoorAbsF4
import Derived.Test.YthcimhogoiklfaaGreatDoorAbsShelf
import Derived.Lib.SplitLaws
import Derived.Lib.SlTrimSet
import Derived.Lib.IndexMore
import Derived.Lib.Atoi
import Derived.Lib.Itoa
import Derived.Lib.ItoaNum
import Derived.Lib.AtoiErrMem
import Derived.Lib.Join
import Derived.Lib.Repeat
import Derived.Lib.ItoaLen
import Derived.Lib.Walk
import Derived.Deep.RegionLaw
import Derived.Lib.SliceRun
import Derived.Shelf.RegionOpenPlain
namespace Go.Abs
open Go Go.Proofs
set_option maxHeartbeats 4000000
set_option maxRecDepth 100000
set_option linter.unusedVariables false
set_option linter.unusedSimpArgs false
/- the closure: its captured cookie lies in a block of the caller's -/
def ckCloK : List V → List Blk → Option (Prop × V × List Blk)
  | [.agg [.str b1, .str b2, .str b3, .bool b4, .str b5, .bool b6, .int .i64 b7, .int .i64 b8], .ptr i 0], [.cells [.str a1, .str a2, .str a3, .bool a4, .str a5, .bool a6, .int .i64 a7, .int .i64 a8]] => some (True, .bool (a1 == b1 && a3 == b3 && a5 == b5), [.cells [.str a1, .str a2, .str a3, .bool a4, .str a5, .bool a6, .int .i64 a7, .int .i64 a8]])
  | _, _ => none
def ckClo : Cf := ⟨fun | [_, .ptr i _] => [i] | _ => [], ckCloK⟩
theorem conClo : FCon pg 72 ckClo := by
  have hct := (ctA_ok conSame (ctN_ok _))
  intro args bs q r bs' h hq
  replace h : ckCloK args bs = some (q, r, bs') := h
  unfold ckCloK at h
  split at h
  · cases h
    rename_i b1 b2 b3 b4 b5 b6 b7 b8 i a1 a2 a3 a4 a5 a6 a7 a8
    refine ⟨rfl, by first | exact Nat.le_refl _ | exact Nat.zero_le _, ?_⟩
    show FCall pg 72 [.agg [.str b1, .str b2, .str b3, .bool b4, .str b5, .bool b6, .int .i64 b7, .int .i64 b8], .ptr (i + 9000) 0] [(i + 9000, .cells [.str a1, .str a2, .str a3, .bool a4, .str a5, .bool a6, .int .i64 a7, .int .i64 a8])] (.bool (a1 == b1 && a3 == b3 && a5 == b5)) [(i + 9000, .cells [.str a1, .str a2, .str a3, .bool a4, .str a5, .bool a6, .int .i64 a7, .int .i64 a8])]
    refine fw72 (fun _ => false) [] rfl hct rfl (by simp) (by simp [hlIn, idsIn, Blk.menIn, V.menInL, V.menIn, V.flat, byF, lsF]) (by simp [V.menIn, V.menInL, idsIn]) ?_
    push_cast (config := { maxSteps := 10000000 })
  · cases h
attribute [push_cast] ckCloK
@[push_cast] theorem clo_ids (x : V) (i o : Nat) : ckClo.ids [x, .ptr i o] = [i] := rfl
@[push_cast] theorem clo_k {a1 a2 a3 a5 b1 b2 b3 b5 : List UInt8} {a4 a6 b4 b6 : Bool} {a7 a8 b7 b8 : Int} (i : Nat) : ckClo.k [.agg [.str b1, .str b2, .str b3, .bool b4, .str b5, .bool b6, .int .i64 b7, .int .i64 b8], .ptr i 0] [.cells [.str a1, .str a2, .str a3, .bool a4, .str a5, .bool a6, .int .i64 a7, .int .i64 a8]] = some (True, .bool (a1 == b1 && a3 == b3 && a5 == b5), [.cells [.str a1, .str a2, .str a3, .bool a4, .str a5, .bool a6, .int .i64 a7, .int .i64 a8]]) := rfl
@[push_cast] theorem vle_fn (f : Fn) (a b : List V) : vle (.fn f a b) (.fn f a b) = True := eq_true rfl
/-- the first cookie that is the same -/
def fstC (l : List Coo) (c : Coo) : Int := match l.findIdx? (sameC c) with
  | some k => k
  | none => -1
theorem fstC_at {l : List Coo} {c : Coo} {i : Nat} (hi : i < l.length) (h : sameC c (l.getD i noCoo) = true) (hn : ∀ j, j < i → sameC c (l.getD j noCoo) = false) : fstC l c = i := by
  unfold fstC
  have : l.findIdx? (sameC c) = some i := by
    rw [List.findIdx?_eq_some_iff_getElem]
    refine ⟨hi, ?_, fun j hj => ?_⟩
    · rw [List.getD_eq_getElem?_getD, List.getElem?_eq_getElem hi] at h; exact h
    · have h1 := hn j hj
      rw [List.getD_eq_getElem?_getD, List.getElem?_eq_getElem (by omega)] at h1
      simpa using h1
  rw [this]
theorem fstC_no {l : List Coo} {c : Coo} (hn : ∀ j, j < l.length → sameC c (l.getD j noCoo) = false) : fstC l c = -1 := by
  unfold fstC
  have : l.findIdx? (sameC c) = none := by
    rw [List.findIdx?_eq_none_iff]
    intro x hx
    obtain ⟨j, hj, rfl⟩ := List.getElem_of_mem hx
    have h1 := hn j hj
    rw [List.getD_eq_getElem?_getD, List.getElem?_eq_getElem hj] at h1
    exact h1
  rw [this]
def ckIdxFK : List V → List Blk → Option (Prop × V × List Blk)
  | [.sl n f, .fn (.func 72) [] [.ptr i 0]], [.cells [.str a1, .str a2, .str a3, .bool a4, .str a5, .bool a6, .int .i64 a7, .int .i64 a8]] => some (isLs cCoo n f ∧ n ≤ 4611686018427387900, .int .i64 (fstC (lsOf cCoo n f) ⟨a1, a2, a3, a4, a5, a6, a7, a8⟩), [.cells [.str a1, .str a2, .str a3, .bool a4, .str a5, .bool a6, .int .i64 a7, .int .i64 a8]])
  | _, _ => none
def ckIdxF : Cf := ⟨fun | [_, .fn _ _ [.ptr i _]] => [i] | _ => [], ckIdxFK⟩
theorem conIdxF : FCon pg 127 ckIdxF := by
  have hct := (ctF_ok conClo (ctN_ok _))
  intro args bs q r bs' h hq
  replace h : ckIdxFK args bs = some (q, r, bs') := h
  unfold ckIdxFK at h
  split at h
  · cases h
    rename_i n f i a1 a2 a3 a4 a5 a6 a7 a8
    refine ⟨rfl, by first | exact Nat.le_refl _ | exact Nat.zero_le _, ?_⟩
    refine fcall_args (args' := [.sl (lsOf cCoo n f).length (lsF cCoo (lsOf cCoo n f)), .fn (.func 72) [] [.ptr (i + 9000) 0]]) ⟨isLs.vle hq.1, VLe.refl _, trivial⟩ ?_
    have hn : (lsOf cCoo n f).length ≤ 4611686018427387900 := by rw [lsOf_len]; exact hq.2
    generalize lsOf cCoo n f = l at hn ⊢
    show FCall pg 127 [.sl l.length (lsF cCoo l), .fn (.func 72) [] [.ptr (i + 9000) 0]] [(i + 9000, .cells [.str a1, .str a2, .str a3, .bool a4, .str a5, .bool a6, .int .i64 a7, .int .i64 a8])] (.int .i64 (fstC l ⟨a1, a2, a3, a4, a5, a6, a7, a8⟩)) [(i + 9000, .cells [.str a1, .str a2, .str a3, .bool a4, .str a5, .bool a6, .int .i64 a7, .int .i64 a8])]
    refine fw127 (fun _ => false) [] rfl hct rfl (by simp) (by simp [hlIn, idsIn, Blk.menIn, V.menInL, V.menIn, V.flat, byF, lsF]) (by simp [V.menIn, V.menInL, idsIn]) ?_
    push_cast (config := { maxSteps := 10000000 })
    refine LoopW.adj ⟨hct, fol⟩ (by kernel_rfl) [] (fun k : Nat => [(0, .sl l.length (lsF cCoo l)), (1, .fn (.func 72) [] [.ptr (i + 9000) 0]), (7, .int .i64 l.length), (8, .int .i64 k)]) (fun _ => [(i + 9000, .cells [.str a1, .str a2, .str a3, .bool a4, .str a5, .bool a6, .int .i64 a7, .int .i64 a8])]) (fun k => k ≤ l.length ∧ ∀ j, j < k → sameC ⟨a1, a2, a3, a4, a5, a6, a7, a8⟩ (l.getD j noCoo) = false) (fun k => l.length - k) 0 ?_ fun k hk => ?_
    · push_cast (config := { maxSteps := 10000000 })
      exact Nat.zero_le _
    · push_cast (config := { maxSteps := 10000000 })
      obtain ⟨h1, h2⟩ := hk
      have hs : sameC ⟨a1, a2, a3, a4, a5, a6, a7, a8⟩ (l.getD k noCoo) = true ↔ (a1 = (l.getD k noCoo).na ∧ a3 = (l.getD k noCoo).ho) ∧ a5 = (l.getD k noCoo).pa := by simp only [sameC, Bool.and_eq_true, beq_iff_eq]
      refine ⟨fun h => ⟨h, fun h3 => (fstC_at h (hs.2 h3) h2).symm, fun h3 => ⟨⟨by omega, by omega⟩, k + 1, ⟨by omega, fun j hj => ?_⟩, by omega, by omega⟩⟩, fun h => (fstC_no fun j hj => h2 j (by omega)).symm⟩
      by_cases e : j = k
      · subst e
        cases hh : sameC ⟨a1, a2, a3, a4, a5, a6, a7, a8⟩ (l.getD j noCoo) with
        | false => rfl
        | true =>
          have := hs.1 hh
          exact absurd this.2 (h3 this.1)
      · exact h2 j (by omega)
  · cases h
attribute [push_cast] ckIdxFK
@[push_cast] theorem idxF_ids (x : V) (f : Fn) (i o : Nat) : ckIdxF.ids [x, .fn f [] [.ptr i o]] = [i] := rfl
@[push_cast] theorem idxF_k {n : Nat} {f : Nat → V} {a1 a2 a3 a5 : List UInt8} {a4 a6 : Bool} {a7 a8 : Int} (i : Nat) : ckIdxF.k [.sl n f, .fn (.func 72) [] [.ptr i 0]] [.cells [.str a1, .str a2, .str a3, .bool a4, .str a5, .bool a6, .int .i64 a7, .int .i64 a8]] = some (isLs cCoo n f ∧ n ≤ 4611686018427387900, .int .i64 (fstC (lsOf cCoo n f) ⟨a1, a2, a3, a4, a5, a6, a7, a8⟩), [.cells [.str a1, .str a2, .str a3, .bool a4, .str a5, .bool a6, .int .i64 a7, .int .i64 a8]]) := rfl
theorem fstC_any (l : List Coo) (c : Coo) : decide (0 ≤ fstC l c) = l.any (sameC c) := by
  unfold fstC
  cases h : l.findIdx? (sameC c) with
  | none =>
    rw [List.findIdx?_eq_none_iff] at h
    have : l.any (sameC c) = false := by rw [List.any_eq_false]; intro x hx; rw [h x hx]; simp
    rw [this]; rfl
  | some k =>
    rw [List.findIdx?_eq_some_iff_getElem] at h
    obtain ⟨hk, h1, _⟩ := h
    have : l.any (sameC c) = true := List.any_eq_true.2 ⟨_, List.getElem_mem hk, h1⟩
    rw [this]
    exact decide_eq_true (Int.natCast_nonneg k)
def ckCtnFK : List V → List Blk → Option (Prop × V × List Blk)
  | [.sl n f, .fn (.func 72) [] [.ptr i 0]], [.cells [.str a1, .str a2, .str a3, .bool a4, .str a5, .bool a6, .int .i64 a7, .int .i64 a8]] => some (isLs cCoo n f ∧ n ≤ 4611686018427387900, .bool ((lsOf cCoo n f).any (sameC ⟨a1, a2, a3, a4, a5, a6, a7, a8⟩)), [.cells [.str a1, .str a2, .str a3, .bool a4, .str a5, .bool a6, .int .i64 a7, .int .i64 a8]])
  | _, _ => none
def ckCtnF : Cf := ⟨fun | [_, .fn _ _ [.ptr i _]] => [i] | _ => [], ckCtnFK⟩
theorem conCtnF : FCon pg 71 ckCtnF := by
  have hct := (ctF_ok conIdxF (ctN_ok _))
  intro args bs q r bs' h hq
  replace h : ckCtnFK args bs = some (q, r, bs') := h
  unfold ckCtnFK at h
  split at h
  · cases h
    rename_i n f i a1 a2 a3 a4 a5 a6 a7 a8
    refine ⟨rfl, by first | exact Nat.le_refl _ | exact Nat.zero_le _, ?_⟩
    show FCall pg 71 [V.shift (.sl n f), .fn (.func 72) [] [.ptr (i + 9000) 0]] [(i + 9000, .cells [.str a1, .str a2, .str a3, .bool a4, .str a5, .bool a6, .int .i64 a7, .int .i64 a8])] (.bool ((lsOf cCoo n f).any (sameC ⟨a1, a2, a3, a4, a5, a6, a7, a8⟩))) [(i + 9000, .cells [.str a1, .str a2, .str a3, .bool a4, .str a5, .bool a6, .int .i64 a7, .int .i64 a8])]
    refine fcall_args (args' := [.sl (lsOf cCoo n f).length (lsF cCoo (lsOf cCoo n f)), .fn (.func 72) [] [.ptr (i + 9000) 0]]) ⟨isLs.vle hq.1, VLe.refl _, trivial⟩ ?_
    have hn : (lsOf cCoo n f).length ≤ 4611686018427387900 := by rw [lsOf_len]; exact hq.2
    generalize lsOf cCoo n f = l at hn ⊢
    refine fw71 (fun _ => false) [] rfl hct rfl (by simp) (by simp [hlIn, idsIn, Blk.menIn, V.menInL, V.menIn, V.flat, byF, lsF]) (by simp [V.menIn, V.menInL, idsIn]) ?_
    push_cast (config := { maxSteps := 10000000 })
    exact ⟨hn, fstC_any _ _⟩
  · cases h
attribute [push_cast] ckCtnFK
@[push_cast] theorem ctnF_ids (x : V) (f : Fn) (i o : Nat) : ckCtnF.ids [x, .fn f [] [.ptr i o]] = [i] := rfl
@[push_cast] theorem ctnF_k {n : Nat} {f : Nat → V} {a1 a2 a3 a5 : List UInt8} {a4 a6 : Bool} {a7 a8 : Int} (i : Nat) : ckCtnF.k [.sl n f, .fn (.func 72) [] [.ptr i 0]] [.cells [.str a1, .str a2, .str a3, .bool a4, .str a5, .bool a6, .int .i64 a7, .int .i64 a8]] = some (isLs cCoo n f ∧ n ≤ 4611686018427387900, .bool ((lsOf cCoo n f).any (sameC ⟨a1, a2, a3, a4, a5, a6, a7, a8⟩)), [.cells [.str a1, .str a2, .str a3, .bool a4, .str a5, .bool a6, .int .i64 a7, .int .i64 a8]]) := rfl
/-- the error of cookies -/
def ccGo : List Coo → List Coo → Int
  | _, [] => 0
  | p, c :: t => if checkCooL c = 0 then (if p.any (sameC c) = true then 7 else ccGo (p ++ [c]) t) else checkCooL c
def checkCoosL (l : List Coo) : Int := if 200 < l.length then 2 else ccGo [] l
def ckCheckCoos : Ck
  | [.sl n f] => some (isLs cCoo n f ∧ coosOk (lsOf cCoo n f), .int .i64 (checkCoosL (lsOf cCoo n f)))
  | _ => none
theorem conCheckCoos : Con pg 21 ckCheckCoos := by
  have hct := (ctA_ok conCheckCoo (ctF_ok conCtnF (ctN_ok _)))
  intro args q r h hq
  unfold ckCheckCoos at h
  split at h
  · cases h
    rename_i n f
    refine pcall_args (args' := [.sl (lsOf cCoo n f).length (lsF cCoo (lsOf cCoo n f))]) ⟨isLs.vle hq.1, trivial⟩ ?_
    obtain ⟨-, hl⟩ := hq
    generalize lsOf cCoo n f = l at hl ⊢
    refine w21 (fun _ => false) [] rfl hct rfl rfl ?_
    push_cast (config := { maxSteps := 10000000 })
    refine ⟨fun h => by unfold checkCoosL; rw [if_pos (by omega)], fun h => ?_⟩
    have e0 : checkCoosL l = ccGo [] l := by unfold checkCoosL; rw [if_neg (by omega)]
    rw [e0]
    refine LoopW.adj ⟨hct, fol⟩ (by kernel_rfl) [] (fun i : Nat => [(0, .sl l.length (lsF cCoo l)), (9, .sl l.length (lsF cCoo l)), (10, .int .i64 l.length), (11, .int .i64 i)]) (fun _ => []) (fun i => i ≤ l.length ∧ ccGo (l.take i) (l.drop i) = ccGo [] l) (fun i => l.length - i) 0 ?_ fun i hi => ?_
    · push_cast (config := { maxSteps := 10000000 })
      exact Nat.zero_le _
    · push_cast (config := { maxSteps := 10000000 })
      obtain ⟨h1, h2⟩ := hi
      refine ⟨fun h3 => ?_, fun h3 => ?_⟩
      · have hk := LsI.sh (LsI.ls (c := cCoo) l) (l := 0) (k := i) (by omega)
        rw [List.drop_zero] at hk
        rw [hk.of]
        have e := dropG (d := noCoo) h3
        have et := takeG (d := noCoo) h3
        rw [e, ccGo] at h2
        refine ⟨h3, coosOk_at hl h3, fun h4 => ?_, fun h4 => ?_⟩
        · rw [if_neg h4] at h2; exact h2
        rw [if_pos h4] at h2
        refine ⟨by omega, ⟨hk.is, by omega⟩, fun h5 => ?_, fun h5 => ?_⟩
        · rw [if_pos h5] at h2; exact h2
        · rw [if_neg (by rw [h5]; simp)] at h2
          exact ⟨⟨by omega, by omega⟩, i + 1, ⟨by omega, by rw [et]; exact h2⟩, by omega, by omega⟩
      · rw [List.drop_eq_nil_of_le (by omega)] at h2
        exact h2
  · cases h
attribute [push_cast] ckCheckCoos
theorem conCheckCoos2 : Con pg 30 ckCheckCoos := by
  have hct := (ctA_ok conCheckCoo2 (ctA_ok conSame2 (ctN_ok _)))
  intro args q r h hq
  unfold ckCheckCoos at h
  split at h
  · cases h
    rename_i n f
    refine pcall_args (args' := [.sl (lsOf cCoo n f).length (lsF cCoo (lsOf cCoo n f))]) ⟨isLs.vle hq.1, trivial⟩ ?_
    obtain ⟨-, hl⟩ := hq
    generalize lsOf cCoo n f = l at hl ⊢
    refine w30 (fun _ => false) [] rfl hct rfl rfl ?_
    push_cast (config := { maxSteps := 10000000 })
    refine ⟨fun h => by unfold checkCoosL; rw [if_pos (by omega)], fun h => ?_⟩
    have e0 : checkCoosL l = ccGo [] l := by unfold checkCoosL; rw [if_neg (by omega)]
    rw [e0]
    refine LoopW.adj ⟨hct, fol⟩ (by kernel_rfl) [] (fun i : Nat => [(0, .sl l.length (lsF cCoo l)), (3, .int .i64 i)]) (fun _ => []) (fun i => i ≤ l.length ∧ ccGo (l.take i) (l.drop i) = ccGo [] l) (fun i => l.length - i) 0 ?_ fun i hi => ?_
    · push_cast (config := { maxSteps := 10000000 })
      exact Nat.zero_le _
    · push_cast (config := { maxSteps := 10000000 })
      obtain ⟨h1, h2⟩ := hi
      refine ⟨fun h3 => ?_, fun h3 => ?_⟩
      · have e := dropG (d := noCoo) h3
        have et := takeG (d := noCoo) h3
        rw [e, ccGo] at h2
        refine ⟨h3, coosOk_at hl h3, fun h4 => ?_, fun h4 => ?_⟩
        · rw [if_neg h4] at h2; exact h2
        rw [if_pos h4] at h2
        have hlen : (l.take i).length = i := by rw [List.length_take]; omega
        have hg : ∀ j, j < i → (l.take i).getD j noCoo = l.getD j noCoo := fun j hj => by rw [List.getD_eq_getElem?_getD, List.getD_eq_getElem?_getD, List.getElem?_take_of_lt hj]
        refine LoopW.adj ⟨hct, fol⟩ (by kernel_rfl) [] (fun k : Nat => [(0, .sl l.length (lsF cCoo l)), (3, .int .i64 i), (5, .int .i64 k)]) (fun _ => []) (fun k => k ≤ i ∧ ∀ j, j < k → sameC (l.getD i noCoo) (l.getD j noCoo) = false) (fun k => i - k) 0 ?_ fun k hk => ?_
        · push_cast (config := { maxSteps := 10000000 })
          exact Nat.zero_le _
        · push_cast (config := { maxSteps := 10000000 })
          obtain ⟨k1, k2⟩ := hk
          have hs : sameC (l.getD i noCoo) (l.getD k noCoo) = true ↔ ((l.getD i noCoo).na = (l.getD k noCoo).na ∧ (l.getD i noCoo).ho = (l.getD k noCoo).ho) ∧ (l.getD i noCoo).pa = (l.getD k noCoo).pa := by simp only [sameC, Bool.and_eq_true, beq_iff_eq]
          refine ⟨fun k3 => ⟨by omega, by omega, fun k4 => ?_, fun k4 => ⟨⟨by omega, by omega⟩, k + 1, ⟨by omega, fun j hj => ?_⟩, by omega, by omega⟩⟩, fun k3 => ?_⟩
          · have : (l.take i).any (sameC (l.getD i noCoo)) = true := by
              rw [List.any_eq_true]
              refine ⟨(l.take i).getD k noCoo, ?_, by rw [hg k k3]; exact hs.2 k4⟩
              rw [List.getD_eq_getElem?_getD, List.getElem?_eq_getElem (by omega)]
              exact List.getElem_mem _
            rw [if_pos this] at h2; exact h2
          · by_cases e : j = k
            · subst e
              cases hh : sameC (l.getD i noCoo) (l.getD j noCoo) with
              | false => rfl
              | true =>
                have := hs.1 hh
                exact absurd this.2 (k4 this.1)
            · exact k2 j (by omega)
          · have : (l.take i).any (sameC (l.getD i noCoo)) = false := by
              rw [List.any_eq_false]
              intro x hx
              obtain ⟨j, hj, rfl⟩ := List.getElem_of_mem hx
              have h5 := k2 j (by omega)
              have ex : (l.take i)[j] = l.getD j noCoo := by
                rw [← hg j (by omega), List.getD_eq_getElem?_getD, List.getElem?_eq_getElem hj]; rfl
              rw [ex, h5]; simp
            rw [if_neg (by rw [this]; simp)] at h2
            exact ⟨⟨by omega, by omega⟩, i + 1, ⟨by omega, by rw [et]; exact h2⟩, by omega, by omega⟩
      · rw [List.drop_eq_nil_of_le (by omega)] at h2
        exact h2
  · cases h

open Go.Lib
def cooZ : List Value := [.string ⟨#[]⟩, .string ⟨#[]⟩, .string ⟨#[]⟩, .bool false, .string ⟨#[]⟩, .bool false, .int .i64 0, .int .i64 0]
theorem zero_cells1 (z : Array Value) : (Builtin.zeroCells z 1).toList = z.toList := by
  unfold Builtin.zeroCells
  apply List.ext_getElem
  · simp
  · intro i h1 h2
    have h3 : i < z.size := by simpa using h2
    simp [Nat.mod_eq_of_lt h3, h3]
theorem delWalk (w : World) (b cap n i j : Nat) (hij : j = i + 1) (hj : j ≤ n) (hn : n ≤ cap) (A : Addr) (hA : (if cap = j then (some ⟨b, 0, none⟩ : Option Addr) else some ⟨b, j * 8, none⟩) = some A) (news : List Value) (hl : news.length = (n - j) * 8) (hsrc : ∀ t u, news[t]? = some u → w.drew.cell? (A.add t) = some u) (h1 : ∀ u ∈ news, u.oneCell' = true) (hsp : ∀ t, t < n * 8 → (w.drew.cell? ⟨b, t, none⟩).isSome = true ∧ w.drew.frozen? ⟨b, t, none⟩ = false)
    (hcl : ∀ ty, (Builtin.clear_ #[22] ty #[.slice (some ⟨b, (i + (n - j)) * 8, none⟩) (n - (i + (n - j))) (cap - (i + (n - j)))]).run Tryz.prog (w.drew.setCells b (i * 8) news) = .ok (.tuple #[]) ((w.drew.setCells b (i * 8) news).setCells b ((i + (n - j)) * 8) cooZ)) :
    Calls Tryz.prog 51 #[.slice (some ⟨b, 0, none⟩) n cap, .int .i64 i, .int .i64 j] w fun e w' => e = .returned (.slice (some ⟨b, 0, none⟩) (i + (n - j)) cap) ∧ w' = (w.drew.setCells b (i * 8) news).setCells b ((i + (n - j)) * 8) cooZ := by
  have t22 := Tryz.underlying22
  have mixed : Tryz.prog.follows .mixedOrders = true := fol
  obtain ⟨i0, hi0, hz0⟩ := ti_size (P := Tryz.prog) (t := 31) (by rw [show (ti Tryz.prog 31).size = 8 by kernel_rfl]; omega)
  have hz1 : i0.size = 8 := by rw [← hz0]; kernel_rfl
  have hlt : i < j := by omega
  have hic : i ≤ cap := by omega
  have hjc : j ≤ cap := by omega
  have hne : ¬ i = j := by omega
  clear hij
  obtain ⟨W1, hW1⟩ : ∃ W1, W1 = w.drew.setCells b (i * 8) news := ⟨_, rfl⟩
  simp only [← hW1] at hcl
  have hW : Go.RowKit.Hid (W1 = w.drew.setCells b (i * 8) news) := hW1
  rw [← hW1]
  clear hW1
  go_enter Tryz.func51, Tryz.ntmps51
  go_wp2_with fail
  go_region_law_o (refine step_append_room rfl (.tmp 22) (.tmp 25) 22 rfl 31 i0 8 t22 hi0 hz1 b 0 i cap (by simp [Act.eval, Act.put]) A (n - j) (cap - j) news (by simp [Act.eval, Act.put]) hl hsrc h1 (by omega) (fun t ht => by rw [Nat.zero_add]; exact hsp _ (by omega)) ?_; rw [Nat.zero_add, ← hW.out])
  go_wp2
  go_ret
  exact ⟨rfl, rfl⟩
/- cells written in a row -/
def wrC : Array Value → Nat → List Value → Array Value
  | a, _, [] => a
  | a, o, v :: r => wrC (a.setIfInBounds o v) (o + 1) r
theorem wrC_size : ∀ (vs : List Value) (a : Array Value) (o : Nat), (wrC a o vs).size = a.size
  | [], _, _ => rfl
  | v :: r, a, o => by rw [wrC, wrC_size r, Array.size_setIfInBounds]
theorem getD_setI (a : Array Value) (o k : Nat) (v : Value) (h : o < a.size) : (a.setIfInBounds o v).getD k undef = if k = o then v else a.getD k undef := by
  by_cases e : k = o
  · subst e; rw [if_pos rfl]; simp [Array.getD, h]
  · rw [if_neg e]
    rw [Array.getD_eq_getD_getElem?, Array.getD_eq_getD_getElem?, Array.getElem?_setIfInBounds, if_neg (fun x => e x.symm)]
theorem wrC_at : ∀ (vs : List Value) (a : Array Value) (o k : Nat), o + vs.length ≤ a.size → (wrC a o vs).getD k undef = if o ≤ k ∧ k < o + vs.length then vs.getD (k - o) undef else a.getD k undef
  | [], a, o, k, h => by rw [if_neg (by simp only [List.length_nil]; omega)]; rfl
  | v :: r, a, o, k, h => by
    simp only [List.length_cons] at h ⊢
    rw [wrC, wrC_at r _ (o + 1) k (by rw [Array.size_setIfInBounds]; omega), getD_setI _ _ _ _ (by omega)]
    by_cases e : k = o
    · subst e
      rw [if_neg (by omega), if_pos rfl, if_pos (by omega), Nat.sub_self]; rfl
    · rw [if_neg e]
      by_cases h2 : o + 1 ≤ k ∧ k < o + 1 + r.length
      · rw [if_pos h2, if_pos (by omega), show k - o = (k - (o + 1)) + 1 by omega, List.getD_cons_succ]
      · rw [if_neg h2, if_neg (by omega)]
theorem setCells_row {b : Nat} {t : TypeId} {fr : Nat × Nat} : ∀ (vs : List Value) (o : Nat) (arr : Array Value) (w : World), w.heap[b]? = some (.cells arr t fr) → w.setCells b o vs = w.setRow b (wrC arr o vs)
  | [], o, arr, w, h => by
    rw [wrC]
    show w = _
    rw [setRow_self w b arr t fr h]
  | v :: r, o, arr, w, h => by
    show (w.setCell ⟨b, o, none⟩ v).setCells b (o + 1) r = _
    rw [setCell_eq_setRow w b o arr t fr v h, setCells_row r (o + 1) (arr.setIfInBounds o v) _ (setRow_heap w b arr _ t fr h), setRow_setRow, wrC]
def ckDelK : List V → List Blk → Option (Prop × V × List Blk)
  | [.vec i n, .int .i64 a, .int .i64 c], [.vec 8 k f] => some (k = n ∧ isLs cCoo n f ∧ 0 ≤ a ∧ a < n ∧ c = a + 1, .sl (n - 1) (lsF cCoo ((lsOf cCoo n f).eraseIdx a.toNat)), [])
  | _, _ => none
def ckDel : Cf := ⟨fun | [.vec i _, _, _] => [i] | _ => [], ckDelK⟩
theorem coo_pure (a : Coo) (t : Nat) (ht : t < 8) : ((cCoo.enc a).flat.getD t .any).isPure = true := by
  rcases (by omega : t = 0 ∨ t = 1 ∨ t = 2 ∨ t = 3 ∨ t = 4 ∨ t = 5 ∨ t = 6 ∨ t = 7) with rfl | rfl | rfl | rfl | rfl | rfl | rfl | rfl <;> rfl
theorem eraseAt (l : List Coo) (a j : Nat) : (l.eraseIdx a).getD j noCoo = if j < a then l.getD j noCoo else l.getD (j + 1) noCoo := by
  rw [List.getD_eq_getElem?_getD, List.getD_eq_getElem?_getD, List.getD_eq_getElem?_getD, List.getElem?_eraseIdx]
  split <;> rfl
theorem conDel : FCon pg 51 ckDel := by
  intro args bs q r bs' h hq
  replace h : ckDelK args bs = some (q, r, bs') := h
  unfold ckDelK at h
  split at h
  · cases h
    rename_i i n a c k f
    refine ⟨rfl, Nat.zero_le _, ?_⟩
    obtain ⟨rfl, hf, ha0, han, rfl⟩ := hq
    show FCall pg 51 [.vec (i + 9000) k, .int .i64 a, .int .i64 (a + 1)] [(i + 9000, .vec 8 k fun j => V.shift (f j))] (.sl (k - 1) (lsF cCoo ((lsOf cCoo k f).eraseIdx a.toNat))) []
    refine fcall_blk (hm := [(i + 9000, .vec 8 (lsOf cCoo k f).length (lsF cCoo (lsOf cCoo k f)))]) ⟨rfl, ⟨rfl, (lsOf_len k f).symm, fun j hj => by show V.shift (f j) = _; rw [hf.2 j hj]; rfl⟩, trivial⟩ ?_
    have hk := lsOf_len (c := cCoo) k f
    generalize lsOf cCoo k f = l at hk ⊢
    subst hk
    obtain ⟨a, rfl⟩ : ∃ m : Nat, a = m := ⟨a.toNat, by omega⟩
    rw [Int.toNat_natCast]
    have ha : a < l.length := by omega
    intro S vals hs hh hl hr
    obtain ⟨v0, v1, v2, rfl⟩ : ∃ v0 v1 v2, vals = [v0, v1, v2] := by
      match vals, hl with
      | [x, y, z], _ => exact ⟨x, y, z, rfl⟩
    have r0 : S.rep (.vec (i + 9000) l.length) v0 := hr 0 (by simp)
    have r1 : S.rep (.int .i64 a) v1 := hr 1 (by simp)
    have r2 : S.rep (.int .i64 (a + 1)) v2 := hr 2 (by simp)
    obtain rfl := inv_int r1
    obtain rfl := inv_int r2
    have hid : S.h (i + 9000) = some (.vec 8 l.length (lsF cCoo l)) := by rw [hh]; simp [hOf]
    obtain ⟨va, vm, vc, g1, g2, g3⟩ := inv_vec r0
    have em := vec_len hs hid g1
    subst em
    have hv := g3 rfl
    obtain ⟨k1, k2, ⟨k3, va', k4⟩ | ⟨b, cap, arr, tt, lo, hi', k3, k4, kc, k5, k6, k7, k8⟩⟩ := hs.blk _ _ hid
    · omega
    rw [k3] at hv
    subst hv
    have hown : S.own b := ⟨i + 9000, by rw [hid]; rfl, by simp [k3, blkOf]; omega⟩
    have hnb : ¬ S.imm b := hs.disj b hown
    have hsz : l.length * 8 ≤ arr.size := by omega
    have cellW : ∀ o, S.w.drew.cell? ⟨b, o, none⟩ = arr[o]? := fun o => cell_of_heap (w := S.w.drew) k5 o
    have at' : ∀ o, o < arr.size → arr[o]? = some (arr.getD o undef) := fun o ho => by simp [Array.getD, ho]
    obtain ⟨news, hnews⟩ : ∃ news, news = (List.range ((l.length - (a + 1)) * 8)).map fun t => arr.getD ((a + 1) * 8 + t) undef := ⟨_, rfl⟩
    have hlen : news.length = (l.length - (a + 1)) * 8 := by rw [hnews]; simp
    have hget : ∀ t u, news[t]? = some u → t < (l.length - (a + 1)) * 8 ∧ u = arr.getD ((a + 1) * 8 + t) undef := fun t u hu => by
      have ht := (List.getElem?_eq_some_iff.1 hu).1
      rw [hlen] at ht
      refine ⟨ht, ?_⟩
      rw [hnews, List.getElem?_map, List.getElem?_range ht] at hu
      simpa using hu.symm
    have hone : ∀ q, q < l.length * 8 → one (arr.getD q undef) := fun q hq => by
      have h1 : q / 8 < l.length := by omega
      have h2 : q % 8 < 8 := by omega
      have h3 : q / 8 * 8 + q % 8 = q := by omega
      have := (k8 _ _ h1 h2).2
      rwa [h3] at this
    obtain ⟨A, hA, hsrc⟩ : ∃ A : Addr, (if cap = a + 1 then (some ⟨b, 0, none⟩ : Option Addr) else some ⟨b, (a + 1) * 8, none⟩) = some A ∧ ∀ t u, news[t]? = some u → S.w.drew.cell? (A.add t) = some u := by
      by_cases hc : cap = a + 1
      · exact ⟨_, if_pos hc, fun t u hu => by have := (hget t u hu).1; omega⟩
      · refine ⟨_, if_neg hc, fun t u hu => ?_⟩
        obtain ⟨h1, rfl⟩ := hget t u hu
        rw [addr_add, cellW, at' _ (by omega)]
    have hfz : ∀ o, o < arr.size → S.w.drew.frozen? ⟨b, o, none⟩ = false := fun o ho => by
      simp only [World.frozen?, show S.w.drew.heap[b]? = _ from k5, Bool.and_eq_false_iff, decide_eq_false_iff_not]
      omega
    have hw1 : S.w.drew.setCells b (a * 8) news = S.w.drew.setRow b (wrC arr (a * 8) news) := setCells_row news (a * 8) arr _ k5
    have hh1 : (S.w.drew.setRow b (wrC arr (a * 8) news)).heap[b]? = some (.cells (wrC arr (a * 8) news) tt (lo, hi')) := setRow_heap S.w.drew b arr _ tt _ k5
    have hs1 : (wrC arr (a * 8) news).size = arr.size := wrC_size _ _ _
    have hat1 := fun k => wrC_at news arr (a * 8) k (by omega)
    generalize wrC arr (a * 8) news = arr1 at hw1 hh1 hs1 hat1
    have hz8 : cooZ.length = 8 := rfl
    have hcl : ∀ ty, (Builtin.clear_ #[22] ty #[.slice (some ⟨b, (a + (l.length - (a + 1))) * 8, none⟩) (l.length - (a + (l.length - (a + 1)))) (cap - (a + (l.length - (a + 1))))]).run Tryz.prog (S.w.drew.setCells b (a * 8) news) = .ok (.tuple #[]) ((S.w.drew.setCells b (a * 8) news).setCells b ((a + (l.length - (a + 1))) * 8) cooZ) := by
      intro ty
      rw [hw1, show l.length - (a + (l.length - (a + 1))) = 1 by omega]
      have hv : ∀ w, (zeroValue 31).run Tryz.prog w = .ok (.agg cooZ.toArray) w := fun w => Tryz.zeroValue31 w
      have hzc : (Builtin.zeroCells (Value.agg cooZ.toArray).cells 1).toList = cooZ := zero_cells1 _
      have hst := run_storeCells_cells (P := Tryz.prog) b ((a + (l.length - (a + 1))) * 8) cooZ 0 (S.w.drew.setRow b arr1) (fun j hj => by
        rw [Nat.add_zero, cell_of_heap hh1, Array.getElem?_eq_getElem (by omega)]; rfl) (fun j hj => by
        simp only [World.frozen?, hh1, Bool.and_eq_false_iff, decide_eq_false_iff_not]
        omega) (by decide)
      rw [Nat.add_zero] at hst
      simp [Builtin.clear_, run_underlying Tryz.underlying22, hv, hzc, hst]
    refine .inl ⟨by kernel_rfl, (delWalk S.w b cap l.length a (a + 1) rfl (by omega) k4 A hA news hlen hsrc (fun u hu => ?_) (fun t ht => ⟨?_, hfz t (by omega)⟩) hcl).mono fun e w' ⟨he, hw⟩ => ?_⟩
    · obtain ⟨t, ht, rfl⟩ := List.getElem_of_mem hu
      obtain ⟨h1, h2⟩ := hget t _ (List.getElem?_eq_getElem ht)
      rw [h2]; exact hone _ (by omega)
    · rw [cellW, at' _ (by omega)]; rfl
    rw [hw1, setCells_row cooZ _ arr1 _ hh1, setRow_setRow] at hw
    have hat2 := fun k => wrC_at cooZ arr1 ((a + (l.length - (a + 1))) * 8) k (by omega)
    have hs2 : (wrC arr1 ((a + (l.length - (a + 1))) * 8) cooZ).size = arr1.size := wrC_size _ _ _
    generalize wrC arr1 ((a + (l.length - (a + 1))) * 8) cooZ = arr2 at hw hat2 hs2
    subst hw
    have oth : ∀ x, x ≠ b → (S.w.drew.setRow b arr2).heap[x]? = S.w.heap[x]? := fun x hx => setRow_other S.w.drew b x arr2 hx
    have immS : ∀ x, S.imm x → (S.w.drew.setRow b arr2).heap[x]? = S.w.heap[x]? := fun x hx => oth x (fun e => hnb (e ▸ hx))
    have szS : (S.w.drew.setRow b arr2).heap.size = S.w.heap.size := setRow_size S.w.drew b arr2
    have hb2 : (S.w.drew.setRow b arr2).heap[b]? = some (.cells arr2 tt (lo, hi')) := setRow_heap S.w.drew b arr _ tt _ k5
    refine ⟨_, S.γ, fun x => S.imm x ∨ x = b, he, ⟨fun id b hb => (by cases hb), fun i j b hi => (by cases hi), fun x hx => ?_, fun x ⟨i, hi, _⟩ => (by cases hi), hs.tab.of (fun _ h => .inl h) immS⟩, ⟨rfl, rfl, rfl, by rw [szS]; exact Nat.le_refl _, fun x hx ho => oth x (fun e => ho (e ▸ hown)), fun _ h => .inl h, fun x h => h.elim .inl fun e => .inr (.inl (e ▸ hown)), fun x ⟨i, hi, _⟩ => (by cases hi), fun _ _ => .refl _⟩, fun _ _ => rfl, .pure ?_⟩
    · rw [szS]
      rcases hx with hx | rfl
      · exact hs.immLt x hx
      · exact hs.ownLt hown
    rw [show a + (l.length - (a + 1)) = l.length - 1 by omega]
    have key : ∀ j t, j < l.length - 1 → t < 8 → ∃ j', j' < l.length ∧ (l.eraseIdx a).getD j noCoo = l.getD j' noCoo ∧ arr2.getD (j * 8 + t) undef = arr.getD (j' * 8 + t) undef := by
      intro j t hj ht
      rw [hat2, if_neg (by omega), hat1, eraseAt]
      by_cases e : j < a
      · rw [if_pos e, if_neg (by omega)]
        exact ⟨j, by omega, rfl, rfl⟩
      · rw [if_neg e, if_pos (by omega)]
        refine ⟨j + 1, by omega, rfl, ?_⟩
        have hlt : j * 8 + t - a * 8 < (l.length - (a + 1)) * 8 := by omega
        rw [hnews, List.getD_eq_getElem?_getD, List.getElem?_map, List.getElem?_range hlt]
        simp only [Option.map_some, Option.getD_some]
        congr 1
        omega
    refine .sl (l.length - 1) _ b 0 cap 8 (fun j t => arr2.getD (j * 8 + t) undef) (.inr rfl) (by omega) (by omega) (fun j hj => rfl) (fun j t hj ht => ?_) (fun j t hj ht => ?_) (fun j t hj ht => ?_)
    · rw [Nat.zero_add, cell_of_heap hb2, Array.getElem?_eq_getElem (by omega)]
      unfold Array.getD
      rw [dif_pos (by omega)]; rfl
    · obtain ⟨j', h1, h2, h3⟩ := key j t hj ht
      show one (arr2.getD (j * 8 + t) undef)
      rw [h3]; exact hone _ (by omega)
    · obtain ⟨j', h1, h2, h3⟩ := key j t hj ht
      show RepP _ _ ((cCoo.enc ((l.eraseIdx a).getD j noCoo)).flat.getD t .any) (arr2.getD (j * 8 + t) undef)
      rw [h2, h3]
      exact (isPure_rep (S := S) (k8 j' t h1 ht).1 (coo_pure _ t ht)).mono (fun _ h => .inl h) immS
  · cases h

@[push_cast] theorem del_ids (i n : Nat) (x y : V) : ckDel.ids [.vec i n, x, y] = [i] := rfl
@[push_cast] theorem del_k (i n k : Nat) (a c : Int) (f : Nat → V) : ckDel.k [.vec i n, .int .i64 a, .int .i64 c] [.vec 8 k f] = some (k = n ∧ isLs cCoo n f ∧ 0 ≤ a ∧ a < n ∧ c = a + 1, .sl (n - 1) (lsF cCoo ((lsOf cCoo n f).eraseIdx a.toNat)), []) := rfl
def setS (c d : Coo) : Coo := ⟨c.na, c.va, c.ho, c.wi, c.pa, c.se, c.un, d.si⟩
/-- what is kept of the old ones; and whether the new one has its place -/
def kA (c : Coo) (m : Int) (ov : Bool) : List Coo → List Coo → Bool → List Coo × Bool
  | [], o, p => (o, p)
  | d :: t, o, p => if endedC d m = true ∨ (sameC c d = true ∧ ov = true) then kA c m ov t o p else if sameC c d = true then kA c m ov t (o ++ [setS c d]) true else kA c m ov t (o ++ [d]) p
def kB (m : Int) : List Coo → List Coo → Bool → Coo → List Coo × Bool × Coo
  | [], o, p, c => (o, p, c)
  | d :: t, o, p, c => if endedC d m = true then kB m t o p c else if sameC d c = true then (if p = true then kB m t o p c else kB m t (o ++ [setS c d]) true (setS c d)) else kB m t (o ++ [d]) p c
def leastGo (o : List Coo) : Nat → Nat → Nat → Nat
  | 0, _, b => b
  | k + 1, i, b => leastGo o k (i + 1) (if (o.getD i noCoo).si < (o.getD b noCoo).si then i else b)
def leastL (o : List Coo) : Nat := leastGo o o.length 0 0
def finO (o : List Coo) (p : Bool) (c : Coo) : List Coo := if p = true then o else o ++ [c]
def finL (o : List Coo) : List Coo := if 200 < o.length then o.eraseIdx (leastL o) else o
def keepL (l : List Coo) (c : Coo) (m : Int) : List Coo × Int :=
  if ¬ checkCoosL l = 0 then ([], checkCoosL l) else if ¬ checkCooL c = 0 then ([], checkCooL c) else if ¬ (0 ≤ m ∧ m ≤ 253402300799) then ([], 1)
  else (finL (finO (kA c m (endedC c m) l [] (endedC c m)).1 (kA c m (endedC c m) l [] (endedC c m)).2 c), 0)
theorem same_iff {a b : Coo} : sameC a b = true ↔ a.na = b.na ∧ a.ho = b.ho ∧ a.pa = b.pa := by simp only [sameC, Bool.and_eq_true, beq_iff_eq, and_assoc]
theorem same_sym {a b : Coo} : sameC a b = sameC b a := by
  rw [Bool.eq_iff_iff, same_iff, same_iff]
  exact ⟨fun ⟨x, y, z⟩ => ⟨x.symm, y.symm, z.symm⟩, fun ⟨x, y, z⟩ => ⟨x.symm, y.symm, z.symm⟩⟩
theorem same_trans {a b c : Coo} (h1 : sameC a b = true) (h2 : sameC b c = true) : sameC a c = true := by
  rw [same_iff] at *
  exact ⟨h1.1.trans h2.1, h1.2.1.trans h2.2.1, h1.2.2.trans h2.2.2⟩
theorem same_setS (a c d : Coo) : sameC a (setS c d) = sameC a c := rfl
theorem coos_200 {l : List Coo} (h : checkCoosL l = 0) : l.length ≤ 200 := by
  unfold checkCoosL at h
  split at h
  · omega
  · omega
/-- no two are the same -/
theorem ccGo_ok : ∀ {t p : List Coo}, ccGo p t = 0 → t.Pairwise (fun a b => sameC b a = false) ∧ ∀ x ∈ t, checkCooL x = 0
  | [], p, _ => ⟨.nil, fun x h => by cases h⟩
  | c :: t, p, h => by
    rw [ccGo] at h
    by_cases h1 : checkCooL c = 0
    · rw [if_pos h1] at h
      by_cases h2 : p.any (sameC c) = true
      · rw [if_pos h2] at h; omega
      · rw [if_neg h2] at h
        obtain ⟨a, b⟩ := ccGo_ok h
        refine ⟨.cons (fun x hx => ?_) a, fun x hx => ?_⟩
        · have key : ∀ {t p : List Coo}, ccGo p t = 0 → ∀ y ∈ p, ∀ x ∈ t, sameC x y = false := by
            intro t
            induction t with
            | nil => intro p _ y _ x hx; cases hx
            | cons d t ih =>
              intro p hg y hy x hx
              rw [ccGo] at hg
              by_cases g1 : checkCooL d = 0
              · rw [if_pos g1] at hg
                by_cases g2 : p.any (sameC d) = true
                · rw [if_pos g2] at hg; omega
                · rw [if_neg g2] at hg
                  rcases List.mem_cons.1 hx with rfl | hx
                  · cases hs : sameC x y with
                    | false => rfl
                    | true => exact absurd (List.any_eq_true.2 ⟨y, hy, hs⟩) g2
                  · exact ih hg y (List.mem_append_left _ hy) x hx
              · rw [if_neg g1] at hg; exact absurd hg g1
          exact key h c (by simp) x hx
        · rcases List.mem_cons.1 hx with rfl | hx
          · exact h1
          · exact b x hx
    · rw [if_neg h1] at h; exact absurd h h1
theorem coos_ok {l : List Coo} (h : checkCoosL l = 0) : l.Pairwise (fun a b => sameC b a = false) ∧ ∀ x ∈ l, checkCooL x = 0 := by
  unfold checkCoosL at h
  split at h
  · omega
  · exact ccGo_ok h
theorem kA_len (c : Coo) (m : Int) (ov : Bool) : ∀ (t o : List Coo) (p : Bool), (kA c m ov t o p).1.length ≤ o.length + t.length
  | [], o, p => by simp [kA]
  | d :: t, o, p => by
    rw [kA]
    split
    · have := kA_len c m ov t o p; simp; omega
    · split
      · have := kA_len c m ov t (o ++ [setS c d]) true; simp at this ⊢; omega
      · have := kA_len c m ov t (o ++ [d]) p; simp at this ⊢; omega
/-- once none of the rest is the same, both go alike -/
theorem kAB_none (c c' : Coo) (m : Int) (ov : Bool) (hc : ∀ d, sameC d c' = sameC c d) : ∀ (t o : List Coo) (p : Bool), (∀ d ∈ t, sameC c d = false) → kB m t o p c' = ((kA c m ov t o p).1, (kA c m ov t o p).2, c')
  | [], o, p, _ => rfl
  | d :: t, o, p, h => by
    have hd := h d (by simp)
    have ht := fun x hx => h x (List.mem_cons_of_mem _ hx)
    rw [kB, kA]
    by_cases he : endedC d m = true
    · rw [if_pos he, if_pos (.inl he)]; exact kAB_none c c' m ov hc t o p ht
    · rw [if_neg he, if_neg (by rw [hc, hd]; simp), if_neg (by rw [hd]; simp [he]), if_neg (by rw [hd]; simp)]
      exact kAB_none c c' m ov hc t (o ++ [d]) p ht
theorem kAB_over (c : Coo) (m : Int) : ∀ (t o : List Coo), kB m t o true c = ((kA c m true t o true).1, (kA c m true t o true).2, c) ∧ (kA c m true t o true).2 = true
  | [], o => ⟨rfl, rfl⟩
  | d :: t, o => by
    rw [kB, kA]
    by_cases he : endedC d m = true
    · rw [if_pos he, if_pos (.inl he)]; exact kAB_over c m t o
    · rw [if_neg he]
      by_cases hs : sameC d c = true
      · rw [if_pos hs, if_pos rfl, if_pos (.inr ⟨by rw [same_sym]; exact hs, rfl⟩)]; exact kAB_over c m t o
      · have hs' : ¬ sameC c d = true := by rw [same_sym]; exact hs
        rw [if_neg hs, if_neg (by rintro (x | x); exact he x; exact hs' x.1), if_neg hs']; exact kAB_over c m t (o ++ [d])
theorem kAB (c : Coo) (m : Int) : ∀ (t o : List Coo), t.Pairwise (fun a b => sameC b a = false) → ∃ c', kB m t o false c = ((kA c m false t o false).1, (kA c m false t o false).2, c') ∧ ((kA c m false t o false).2 = false → c' = c)
  | [], o, _ => ⟨c, rfl, fun _ => rfl⟩
  | d :: t, o, hp => by
    rw [List.pairwise_cons] at hp
    rw [kB, kA]
    by_cases he : endedC d m = true
    · rw [if_pos he, if_pos (.inl he)]; exact kAB c m t o hp.2
    · rw [if_neg he]
      by_cases hs : sameC d c = true
      · have hs' : sameC c d = true := by rw [same_sym]; exact hs
        rw [if_pos hs, if_neg (by simp), if_neg (by rintro (x | x); exact he x; exact absurd x.2 (by simp)), if_pos hs']
        have hn : ∀ x ∈ t, sameC c x = false := fun x hx => by
          cases h : sameC c x with
          | false => rfl
          | true =>
            have := same_trans (by rw [same_sym]; exact h : sameC x c = true) hs'
            rw [hp.1 x hx] at this; cases this
        refine ⟨setS c d, kAB_none c (setS c d) m false (fun x => by rw [same_setS, same_sym]) t _ true hn, fun h => ?_⟩
        exfalso
        have key : ∀ (t o : List Coo), (∀ x ∈ t, sameC c x = false) → (kA c m false t o true).2 = true := by
          intro t
          induction t with
          | nil => intro o _; rfl
          | cons y t ih =>
            intro o hy
            rw [kA]
            split
            · exact ih o fun x hx => hy x (List.mem_cons_of_mem _ hx)
            · rw [if_neg (by rw [hy y (by simp)]; simp)]; exact ih _ fun x hx => hy x (List.mem_cons_of_mem _ hx)
        rw [key t _ hn] at h; cases h
      · have hs' : ¬ sameC c d = true := by rw [same_sym]; exact hs
        rw [if_neg hs, if_neg (by rintro (x | x); exact he x; exact hs' x.1), if_neg hs']
        exact kAB c m t (o ++ [d]) hp.2
theorem keep_ref {l : List Coo} {c : Coo} {m : Int} (h : checkCoosL l = 0) : finO (kB m l [] (endedC c m) c).1 (kB m l [] (endedC c m) c).2.1 (kB m l [] (endedC c m) c).2.2 = finO (kA c m (endedC c m) l [] (endedC c m)).1 (kA c m (endedC c m) l [] (endedC c m)).2 c := by
  cases he : endedC c m with
  | true =>
    obtain ⟨e1, e2⟩ := kAB_over c m l []
    rw [e1]
  | false =>
    obtain ⟨c', e1, e2⟩ := kAB c m l [] (coos_ok h).1
    rw [e1]
    simp only
    cases hp : (kA c m false l [] false).2 with
    | true => rfl
    | false => rw [e2 hp]

theorem toldM_at (l : List (List UInt8)) (h : ∀ x ∈ l, x.length ≤ 1000) : ∀ k, toldM l k = none ∨ ∃ s : List UInt8, toldM l k = some (.str s) ∧ s.length ≤ 1000 := by
  have key : ∀ (l : List (List UInt8)) (f : MK → Option V), (∀ x ∈ l, x.length ≤ 1000) → (∀ k, f k = none ∨ ∃ s : List UInt8, f k = some (.str s) ∧ s.length ≤ 1000) → ∀ k, (l.foldl (fun f p => putM f (.str (lowL (Lib.cut p [61]).1)) (.str (Lib.cut p [61]).2.1)) f) k = none ∨ ∃ s : List UInt8, (l.foldl (fun f p => putM f (.str (lowL (Lib.cut p [61]).1)) (.str (Lib.cut p [61]).2.1)) f) k = some (.str s) ∧ s.length ≤ 1000 := by
    intro l
    induction l with
    | nil => intro f _ hf k; exact hf k
    | cons x t ih =>
      intro f hx hf k
      rw [List.foldl_cons]
      refine ih _ (fun y hy => hx y (List.mem_cons_of_mem _ hy)) (fun j => ?_) k
      unfold putM
      by_cases e : j = MK.str (lowL (Lib.cut x [61]).1)
      · rw [decide_eq_true e, cond_true]
        have := (cut_sz x [61]).2
        have := hx x List.mem_cons_self
        exact .inr ⟨_, rfl, by omega⟩
      · rw [decide_eq_false e, cond_false]; exact hf j
  exact key l _ h fun _ => .inl rfl
theorem toldM_ok {l : List (List UInt8)} (h : ∀ x ∈ l, x.length ≤ 1000) (k : MK) : okS (toldM l k) := by
  rcases toldM_at l h k with e | ⟨s, e, _⟩ <;> rw [e] <;> trivial
theorem toldM_sz {l : List (List UInt8)} (h : ∀ x ∈ l, x.length ≤ 1000) (w : List UInt8) : (mvS (toldM l) w).length ≤ 1000 := by
  unfold mvS
  rcases toldM_at l h (.str w) with e | ⟨s, e, hs⟩ <;> rw [e]
  · exact Nat.zero_le _
  · exact hs
def withinL (h o : List UInt8) : Bool := decide (h = o) || hasSuf h (46 :: o)
def wHostK : List UInt8 := [104, 111, 115, 116]
def wPathK : List UInt8 := [112, 97, 116, 104]
def wSecK : List UInt8 := [115, 101, 99, 117, 114, 101]
def wS : List UInt8 := [104, 116, 116, 112, 115]
def undot1 (s : List UInt8) : List UInt8 := bif hasPre s [46] then s.drop 1 else s
def mpathL (s : List UInt8) : Bool := decide (1 ≤ s.length) && decide ((s.getD 0 0).toNat = 47) && rowP s
def hostOf (T : MK → Option V) : List UInt8 := lowL (undot1 (mvS T wHostK))
/-- the host that is told, if it may be -/
def bakH (T : MK → Option V) (h : List UInt8) : Option (List UInt8 × Bool) :=
  if mhS T wHostK = true then (if hostL (hostOf T) = true ∧ lowL (hostOf T) = hostOf T then (if withinL h (hostOf T) = true then (if hostOf T = h ∨ Lib.contains (hostOf T) [46] = true then some (hostOf T, true) else none) else none) else none) else some (h, false)
def bakP (T : MK → Option V) (p : List UInt8) : List UInt8 := if mhS T wPathK = true ∧ mpathL (mvS T wPathK) = true then mvS T wPathK else folderL p
def bakG (T : MK → Option V) (a : Adr) (m : Int) (n v : List UInt8) : Option Coo :=
  match bakH T (lowL a.ho) with
  | none => none
  | some x => if mhS T wSecK = true ∧ ¬ lowL a.sc = wS then none else some ⟨n, v, x.1, x.2, bakP T a.pa, mhS T wSecK, endsF T m, m⟩
def bakC (t : List UInt8) (a : Adr) (m : Int) : Option Coo :=
  if (Lib.cut ((partsL t 59).getD 0 []) [61]).2.2 = true ∧ tokL (Lib.cut ((partsL t 59).getD 0 []) [61]).1 = true ∧ bakedL (Lib.cut ((partsL t 59).getD 0 []) [61]).2.1 = true
  then bakG (toldM ((partsL t 59).drop 1)) a m (Lib.cut ((partsL t 59).getD 0 []) [61]).1 (Lib.cut ((partsL t 59).getD 0 []) [61]).2.1 else none
def bakE (t : List UInt8) (a : Adr) (m : Int) : Int := if 1000 < t.length then 2 else if ¬ checkAdrL a = 0 then checkAdrL a else if ¬ (0 ≤ m ∧ m ≤ 253402300799) then 1 else 0
theorem rdV_b {s : List UInt8} (h : rdB s = true) : 0 ≤ rdV s ∧ rdV s ≤ 253402300799 := by
  have hh := h
  unfold rdB at hh
  unfold rdV
  rw [if_pos h]
  have := of_decide_eq_true hh
  exact ⟨this.1, this.2.1⟩
theorem endsF_b (T : MK → Option V) {m : Int} (h1 : 0 ≤ m) (h2 : m ≤ 253402300799) : -1 ≤ endsF T m ∧ endsF T m ≤ 256402300799 := by
  have b1 := secL_b (mvS T wAge)
  unfold endsF
  split
  · split
    · omega
    · split <;> omega
  · split
    · rename_i h
      have := rdV_b h; omega
    · omega
theorem folder_ok {p : List UInt8} (h1 : p = [] ∨ (p.getD 0 0).toNat = 47) (h2 : rowP p = true) (h3 : p.length ≤ 2000) : cpathL (folderL p) = true := by
  have hI : ∀ n, n ≤ p.length → 0 ≤ lastI p 47 n → p.getD (lastI p 47 n).toNat 0 = 47 := by
    intro n
    induction n with
    | zero => intro _ h; rw [lastI] at h; omega
    | succ n ih =>
      intro hn h
      rw [lastI] at h ⊢
      by_cases e : p.getD n 0 = 47
      · rw [if_pos e]; simpa using e
      · rw [if_neg e] at h ⊢; exact ih (by omega) h
  have lb := lastI_b p 47 p.length
  unfold folderL
  by_cases e : p.take (max 0 (lastI p 47 p.length)).toNat = []
  · rw [if_pos e]; decide
  rw [if_neg e]
  have hp : ¬ p = [] := fun x => e (by rw [x]; simp)
  have hk : 0 < lastI p 47 p.length := by
    refine Classical.byContradiction fun hn => e ?_
    rw [show (max 0 (lastI p 47 p.length)).toNat = 0 by omega]; rfl
  have h47 := hI p.length (Nat.le_refl _) (by omega)
  have hk2 : (max 0 (lastI p 47 p.length)).toNat = (lastI p 47 p.length).toNat := by omega
  rw [hk2]
  generalize hK : (lastI p 47 p.length).toNat = k at *
  have k0 : 0 < k := by omega
  have k1 : k < p.length := by omega
  have hl : (p.take k).length = k := by rw [List.length_take]; omega
  have hg : ∀ j, j < k → (p.take k).getD j 0 = p.getD j 0 := fun j hj => by
    rw [List.getD_eq_getElem?_getD, List.getD_eq_getElem?_getD, List.getElem?_take, if_pos hj]
  have hr := h2
  unfold rowP at hr
  rw [List.all_eq_true] at hr
  have hrow : rowP (p.take k) = true := by
    unfold rowP
    rw [hl, List.all_eq_true]
    intro j hj
    have hjk := List.mem_range.1 hj
    have hc := hr j (List.mem_range.2 (by omega))
    unfold cellP pctB at hc ⊢
    rw [hl]
    rw [hg j hjk]
    simp only [Bool.and_eq_true, Bool.or_eq_true, decide_eq_true_eq] at hc ⊢
    refine ⟨hc.1, hc.2.imp id fun x => ?_⟩
    have e1 : ¬ j + 1 = k := fun e => by
      have := x.1.2
      rw [e, h47] at this
      exact absurd this (by decide)
    have e2 : ¬ j + 2 = k := fun e => by
      have := x.2
      rw [e, h47] at this
      exact absurd this (by decide)
    rw [hg (j + 1) (by omega), hg (j + 2) (by omega)]
    exact ⟨⟨by omega, x.1.2⟩, x.2⟩
  unfold cpathL
  rw [hrow, hl, hg 0 k0, (h1.resolve_left hp)]
  simp only [Bool.and_eq_true, decide_eq_true_eq]
  exact ⟨⟨⟨by omega, trivial⟩, trivial⟩, by omega⟩
theorem bak_ok {t : List UInt8} {a : Adr} {m : Int} {c : Coo} (hE : bakE t a m = 0) (h : bakC t a m = some c) :
    checkCooL c = 0 ∧ cooOk c ∧ (lowL a.ho = c.ho ∨ (c.wi = true ∧ withinL (lowL a.ho) c.ho = true)) ∧ (c.se = true → lowL a.sc = wS) ∧ c.si = m := by
  unfold bakE at hE
  have ht : t.length ≤ 1000 := by
    refine Classical.byContradiction fun hn => ?_
    rw [if_pos (by omega)] at hE; cases hE
  rw [if_neg (by omega)] at hE
  have ha : checkAdrL a = 0 := by
    refine Classical.byContradiction fun hn => ?_
    rw [if_pos hn] at hE; exact hn hE
  rw [if_neg (by simpa using ha)] at hE
  have hm : 0 ≤ m ∧ m ≤ 253402300799 := by
    refine Classical.byContradiction fun hn => ?_
    rw [if_pos hn] at hE; cases hE
  obtain ⟨s1, s2, s3, s4, s5, s6, s7, s8⟩ := check_sz ha
  simp only [synA, Bool.and_eq_true, Bool.or_eq_true, beq_iff_eq, decide_eq_true_eq] at s1
  obtain ⟨⟨⟨⟨⟨⟨a1, a2⟩, a3⟩, a4⟩, a5⟩, a6⟩, a7⟩ := s1
  have hP : ∀ x ∈ partsL t 59, x.length ≤ 1000 := by
    intro x hx
    unfold partsL at hx
    obtain ⟨y, hy, rfl⟩ := List.mem_map.1 hx
    rw [splitL_eq] at hy
    have := spl_len 59 _ y hy
    have := trimS_len y [32, 9]
    omega
  have h0 : ((partsL t 59).getD 0 []).length ≤ 1000 := by
    by_cases e : 0 < (partsL t 59).length
    · exact hP _ (mem_at' e)
    · rw [List.getD_eq_getElem?_getD, List.getElem?_eq_none (by omega)]; exact Nat.zero_le _
  have hT : ∀ x ∈ (partsL t 59).drop 1, x.length ≤ 1000 := fun x hx => hP x (List.mem_of_mem_drop hx)
  have hz := toldM_sz hT
  unfold bakC at h
  have hc := cut_sz ((partsL t 59).getD 0 []) [61]
  generalize toldM ((partsL t 59).drop 1) = T at *
  generalize Lib.cut ((partsL t 59).getD 0 []) [61] = q at *
  by_cases g : q.2.2 = true ∧ tokL q.1 = true ∧ bakedL q.2.1 = true
  · rw [if_pos g] at h
    unfold bakG at h
    have eH : ∀ x, bakH T (lowL a.ho) = some x → (hostL x.1 = true ∧ lowL x.1 = x.1) ∧ (lowL a.ho = x.1 ∨ (x.2 = true ∧ withinL (lowL a.ho) x.1 = true)) := by
      intro x hx
      unfold bakH at hx
      split at hx
      · split at hx
        · split at hx
          · split at hx
            · cases hx
              rename_i z1 z2 z3
              exact ⟨z1, .inr ⟨rfl, z2⟩⟩
            · cases hx
          · cases hx
        · cases hx
      · cases hx
        exact ⟨⟨by rw [host_low]; exact a2, lowL_idem _⟩, .inl rfl⟩
    cases hH : bakH T (lowL a.ho) with
    | none => rw [hH] at h; cases h
    | some x =>
      obtain ⟨x1, x2⟩ := eH x hH
      rw [hH] at h
      simp only at h
      split at h
      · cases h
      · rename_i hs
        cases h
        have hp : cpathL (bakP T a.pa) = true := by
          unfold bakP
          split
          · rename_i z
            have z := z.2
            have z2 := hz wPathK
            unfold mpathL at z
            unfold cpathL
            rw [z, Bool.true_and, decide_eq_true_eq]; omega
          · exact folder_ok a4 a5 s6
        have he := endsF_b T hm.1 hm.2
        have hlp := (cpath_iff.1 hp).2
        have hlh : x.1.length ≤ 253 := by
          have := x1.1
          unfold hostL at this
          rw [Bool.and_eq_true, decide_eq_true_eq] at this
          exact this.1
        refine ⟨?_, ⟨by show q.1.length ≤ _; omega, by show q.2.1.length ≤ _; omega, by show x.1.length ≤ _; omega, by show (bakP T a.pa).length ≤ _; omega, ?_, ?_⟩, x2, fun hse => ?_, rfl⟩
        · rw [ccr g.2.1 g.2.2 x1 hp]
          exact if_pos ⟨he, hm⟩
        · show I64 (endsF T m); unfold I64; omega
        · show I64 m; unfold I64; omega
        · exact Classical.byContradiction fun hn => hs ⟨hse, hn⟩
  · rw [if_neg g] at h; cases h

theorem conHasSufS : Con pg 78 ckHasSuf := by
  have hct := (ctA_ok conHasSuf (ctN_ok _))
  intro args q r h hq
  unfold ckHasSuf at h
  split at h
  · cases h
    rename_i s t
    refine w78 (fun _ => false) [] rfl hct rfl rfl ?_
    push_cast (config := { maxSteps := 10000000 })
    exact hq
  · cases h
def ckTrimPre : Ck
  | [.str s, .str t] => some ((s.length : Int) ≤ 4611686018427387904, .str (bif hasPre s t then s.drop t.length else s))
  | _ => none
theorem conTrimPre1 : Con pg 101 ckTrimPre := by
  have hct := (ctA_ok conHasPre1 (ctN_ok _))
  intro args q r h hq
  unfold ckTrimPre at h
  split at h
  · cases h
    rename_i s t
    refine w101 (fun _ => false) [] rfl hct rfl rfl ?_
    push_cast (config := { maxSteps := 10000000 })
    refine ⟨hq, fun a => ?_, fun a => by rw [a]; rfl⟩
    refine ⟨?_, by rw [a]; rfl⟩
    obtain ⟨r, rfl⟩ := hasPre_iff.1 a
    simp
  · cases h
attribute [push_cast] ckTrimPre
theorem conTrimPre : Con pg 43 ckTrimPre := by
  have hct := (ctA_ok conTrimPre1 (ctN_ok _))
  intro args q r h hq
  unfold ckTrimPre at h
  split at h
  · cases h
    rename_i s t
    refine w43 (fun _ => false) [] rfl hct rfl rfl ?_
    push_cast (config := { maxSteps := 10000000 })
    exact hq
  · cases h
def ckWithinM : Ck
  | [.str h, .str o] => some (h.length ≤ 140737488355328 ∧ o.length ≤ 140737488355328, .bool (withinL h o))
  | _ => none
theorem conWithinM : Con pg 45 ckWithinM := by
  have hct := (ctA_ok conHasSufS (ctN_ok _))
  intro args q r h hq
  unfold ckWithinM at h
  split at h
  · cases h
    rename_i h o
    refine w45 (fun _ => false) [] rfl hct rfl rfl ?_
    push_cast (config := { maxSteps := 10000000 })
    unfold withinL
    refine ⟨fun a => ⟨a, by omega⟩, fun a => ⟨a, by omega⟩, ?_⟩
    congr 1
    rw [Bool.eq_iff_iff, beq_iff_eq, decide_eq_true_eq]
  · cases h
attribute [push_cast] ckWithinM
def fitsL (cp p : List UInt8) : Bool := hasPre p cp && (decide (p.drop cp.length = []) || hasSuf cp [47] || decide (((p.drop cp.length).getD 0 0).toNat = 47))
def goesL (c : Coo) (a : Adr) (m : Int) : Bool := !endedC c m && (decide (lowL a.ho = c.ho) || (c.wi && withinL (lowL a.ho) c.ho)) && fitsL c.pa (if a.pa = [] then [47] else a.pa) && (!c.se || decide (lowL a.sc = wS))
def ckGoes : Ck
  | [.agg [.str na, .str va, .str ho, .bool wi, .str pa, .bool se, .int .i64 un, .int .i64 si], .agg [.str sc, .str h1, .str po, .str p1, .str qu, .bool q1, .str fr, .bool hf], .int .i64 m] => some (cooOk ⟨na, va, ho, wi, pa, se, un, si⟩ ∧ adrOk ⟨sc, h1, po, p1, qu, q1, fr, hf⟩, .bool (goesL ⟨na, va, ho, wi, pa, se, un, si⟩ ⟨sc, h1, po, p1, qu, q1, fr, hf⟩ m))
  | _ => none
theorem conGoes : Con pg 24 ckGoes := by
  have hct := (ctA_ok conSmallA (ctA_ok conCutPre (ctA_ok conHasSufS (ctA_ok conEnded (ctA_ok conWithinM (ctN_ok _))))))
  intro args q r h hq
  unfold ckGoes at h
  split at h
  · cases h
    rename_i na va ho wi pa se un si sc h1 po p1 qu q1 fr hf m
    refine w24 (fun _ => false) [] rfl hct rfl rfl ?_
    push_cast (config := { maxSteps := 10000000 })
    obtain ⟨⟨z1, z2, z3, z4, z5, z6⟩, y1, y2, y3, y4, y5, y6⟩ := hq
    simp only at z1 z2 z3 z4 z5 z6 y1 y2 y3 y4 y5 y6
    have fin : ∀ P : List UInt8, (!(decide ¬un = -1 && decide (un ≤ m)) && (lowL h1 == ho || wi && withinL (lowL h1) ho) && (hasPre P pa && ((bif hasPre P pa then List.drop pa.length P else P) == [] || hasSuf pa [47] || ((((bif hasPre P pa then List.drop pa.length P else P).getD 0 0).toNat : Int) == 47))) && (!se || lowL sc == [104, 116, 116, 112, 115])) = (!(decide ¬un = -1 && decide (un ≤ m)) && (decide (lowL h1 = ho) || (wi && withinL (lowL h1) ho)) && fitsL pa P && (!se || decide (lowL sc = wS))) := fun P => by
      unfold fitsL
      have e1 : (lowL h1 == ho) = decide (lowL h1 = ho) := by rw [Bool.eq_iff_iff, beq_iff_eq, decide_eq_true_eq]
      have e2 : (lowL sc == [104, 116, 116, 112, 115]) = decide (lowL sc = wS) := by rw [Bool.eq_iff_iff, beq_iff_eq, decide_eq_true_eq]; rfl
      rw [e1, e2]
      cases hasPre P pa
      · simp
      · simp only [cond_true, Bool.true_and]
        have e3 : (List.drop pa.length P == []) = decide (List.drop pa.length P = []) := by rw [Bool.eq_iff_iff, beq_iff_eq, decide_eq_true_eq]
        have e4 : ((((List.drop pa.length P).getD 0 0).toNat : Int) == 47) = decide (((List.drop pa.length P).getD 0 0).toNat = 47) := by rw [Bool.eq_iff_iff, beq_iff_eq, decide_eq_true_eq]; omega
        rw [e3, e4]
    have hlow := lowL_len h1
    refine ⟨by omega, fun a => ?_, fun a => ?_⟩
    · have f1 := fin [47]
      have eP : ∀ x : List UInt8, ¬ x = [] → 0 < (x.length : Int) := fun x hx => by have := List.length_pos_iff.2 hx; omega
      have eG : goesL ⟨na, va, ho, wi, pa, se, un, si⟩ ⟨sc, h1, po, p1, qu, q1, fr, hf⟩ m = (!(decide ¬un = -1 && decide (un ≤ m)) && (decide (lowL h1 = ho) || (wi && withinL (lowL h1) ho)) && fitsL pa [47] && (!se || decide (lowL sc = wS))) := by unfold goesL; simp only; rw [if_pos a]; rfl
      rw [← eG] at f1
      clear fin eG
      generalize (bif hasPre ([47] : List UInt8) pa then List.drop pa.length ([47] : List UInt8) else ([47] : List UInt8)) = q at *
      have eq := eP q
      clear eP
      generalize goesL ⟨na, va, ho, wi, pa, se, un, si⟩ ⟨sc, h1, po, p1, qu, q1, fr, hf⟩ m = G at *
      (repeat' (first | apply And.intro | intro _)) <;> first | assumption | omega | grind
    · have f1 := fin p1
      have eP : ∀ x : List UInt8, ¬ x = [] → 0 < (x.length : Int) := fun x hx => by have := List.length_pos_iff.2 hx; omega
      have eG : goesL ⟨na, va, ho, wi, pa, se, un, si⟩ ⟨sc, h1, po, p1, qu, q1, fr, hf⟩ m = (!(decide ¬un = -1 && decide (un ≤ m)) && (decide (lowL h1 = ho) || (wi && withinL (lowL h1) ho)) && fitsL pa p1 && (!se || decide (lowL sc = wS))) := by unfold goesL; simp only; rw [if_neg a]; rfl
      rw [← eG] at f1
      clear fin eG
      generalize (bif hasPre p1 pa then List.drop pa.length p1 else p1) = q at *
      have eq := eP q
      clear eP
      generalize goesL ⟨na, va, ho, wi, pa, se, un, si⟩ ⟨sc, h1, po, p1, qu, q1, fr, hf⟩ m = G at *
      (repeat' (first | apply And.intro | intro _)) <;> first | assumption | omega | grind
  · cases h
attribute [push_cast] ckGoes

end Go.Abs
