/- what functions of this program compute: contracts, each a function's own -/
import Derived.Test.YtgkjefmoaebfaaaDoorAbsK2
import Derived.Test.YtgkjefmoaebfaaaDoorAbsFacts
import Derived.Test.YtgkjefmoaebfaaaDoorAbsF1
import Derived.Test.YtgkjefmoaebfaaaDoorAbsShelf
import Derived.Lib.SlTrimSet
import Derived.Lib.Atoi
import Derived.Lib.Itoa
import Derived.Lib.ItoaNum
import Derived.Lib.SplitLaws
import Derived.Lib.ItoaLen
import Derived.Lib.Walk
import Derived.Deep.RegionLaw
import Derived.Lib.SliceRun
import Derived.Shelf.RegionOpenPlain
namespace Go.Abs
open Go Go.Proofs
set_option maxHeartbeats 4000000
set_option maxRecDepth 100000
set_option linter.unusedVariables false
set_option linter.unusedSimpArgs false
/- the closure: its captured cookie lies in a block of the caller's -/
def ckCloK : List V → List Blk → Option (Prop × V × List Blk)
  | [.agg [.str b1, .str b2, .str b3, .bool b4, .str b5, .bool b6, .int .i64 b7, .int .i64 b8], .ptr i 0], [.cells [.str a1, .str a2, .str a3, .bool a4, .str a5, .bool a6, .int .i64 a7, .int .i64 a8]] => some (True, .bool (a1 == b1 && a3 == b3 && a5 == b5), [.cells [.str a1, .str a2, .str a3, .bool a4, .str a5, .bool a6, .int .i64 a7, .int .i64 a8]])
  | _, _ => none
def ckClo : Cf := ⟨fun | [_, .ptr i _] => [i] | _ => [], ckCloK⟩
theorem conClo : FCon pg 20 ckClo := by
  have hct := (ctA_ok conSame (ctN_ok _))
  intro args bs q r bs' h hq
  replace h : ckCloK args bs = some (q, r, bs') := h
  unfold ckCloK at h
  split at h
  · cases h
    rename_i b1 b2 b3 b4 b5 b6 b7 b8 i a1 a2 a3 a4 a5 a6 a7 a8
    refine ⟨rfl, by first | exact Nat.le_refl _ | exact Nat.zero_le _, ?_⟩
    show FCall pg 20 [.agg [.str b1, .str b2, .str b3, .bool b4, .str b5, .bool b6, .int .i64 b7, .int .i64 b8], .ptr (i + 9000) 0] [(i + 9000, .cells [.str a1, .str a2, .str a3, .bool a4, .str a5, .bool a6, .int .i64 a7, .int .i64 a8])] (.bool (a1 == b1 && a3 == b3 && a5 == b5)) [(i + 9000, .cells [.str a1, .str a2, .str a3, .bool a4, .str a5, .bool a6, .int .i64 a7, .int .i64 a8])]
    refine fw20 (fun _ => false) [] rfl hct rfl (by simp) (by simp [hlIn, idsIn, Blk.menIn, V.menInL, V.menIn, V.flat, byF, lsF]) (by simp [V.menIn, V.menInL, idsIn]) ?_
    push_cast (config := { maxSteps := 10000000 })
  · cases h
attribute [push_cast] ckCloK
@[push_cast] theorem clo_ids (x : V) (i o : Nat) : ckClo.ids [x, .ptr i o] = [i] := rfl
@[push_cast] theorem clo_k {a1 a2 a3 a5 b1 b2 b3 b5 : List UInt8} {a4 a6 b4 b6 : Bool} {a7 a8 b7 b8 : Int} (i : Nat) : ckClo.k [.agg [.str b1, .str b2, .str b3, .bool b4, .str b5, .bool b6, .int .i64 b7, .int .i64 b8], .ptr i 0] [.cells [.str a1, .str a2, .str a3, .bool a4, .str a5, .bool a6, .int .i64 a7, .int .i64 a8]] = some (True, .bool (a1 == b1 && a3 == b3 && a5 == b5), [.cells [.str a1, .str a2, .str a3, .bool a4, .str a5, .bool a6, .int .i64 a7, .int .i64 a8]]) := rfl
@[push_cast] theorem vle_fn (f : Fn) (a b : List V) : vle (.fn f a b) (.fn f a b) = True := eq_true rfl
/-- the first cookie that is the same -/
def fstC (l : List Coo) (c : Coo) : Int := match l.findIdx? (sameC c) with
  | some k => k
  | none => -1
theorem fstC_at {l : List Coo} {c : Coo} {i : Nat} (hi : i < l.length) (h : sameC c (l.getD i noCoo) = true) (hn : ∀ j, j < i → sameC c (l.getD j noCoo) = false) : fstC l c = i := by
  unfold fstC
  have : l.findIdx? (sameC c) = some i := by
    rw [List.findIdx?_eq_some_iff_getElem]
    refine ⟨hi, ?_, fun j hj => ?_⟩
    · rw [List.getD_eq_getElem?_getD, List.getElem?_eq_getElem hi] at h; exact h
    · have h1 := hn j hj
      rw [List.getD_eq_getElem?_getD, List.getElem?_eq_getElem (by omega)] at h1
      simpa using h1
  rw [this]
theorem fstC_no {l : List Coo} {c : Coo} (hn : ∀ j, j < l.length → sameC c (l.getD j noCoo) = false) : fstC l c = -1 := by
  unfold fstC
  have : l.findIdx? (sameC c) = none := by
    rw [List.findIdx?_eq_none_iff]
    intro x hx
    obtain ⟨j, hj, rfl⟩ := List.getElem_of_mem hx
    have h1 := hn j hj
    rw [List.getD_eq_getElem?_getD, List.getElem?_eq_getElem hj] at h1
    exact h1
  rw [this]
def ckIdxFK : List V → List Blk → Option (Prop × V × List Blk)
  | [.sl n f, .fn (.func 20) [] [.ptr i 0]], [.cells [.str a1, .str a2, .str a3, .bool a4, .str a5, .bool a6, .int .i64 a7, .int .i64 a8]] => some (isLs cCoo n f ∧ n ≤ 4611686018427387900, .int .i64 (fstC (lsOf cCoo n f) ⟨a1, a2, a3, a4, a5, a6, a7, a8⟩), [.cells [.str a1, .str a2, .str a3, .bool a4, .str a5, .bool a6, .int .i64 a7, .int .i64 a8]])
  | _, _ => none
def ckIdxF : Cf := ⟨fun | [_, .fn _ _ [.ptr i _]] => [i] | _ => [], ckIdxFK⟩
theorem conIdxF : FCon pg 31 ckIdxF := by
  have hct := (ctF_ok conClo (ctN_ok _))
  intro args bs q r bs' h hq
  replace h : ckIdxFK args bs = some (q, r, bs') := h
  unfold ckIdxFK at h
  split at h
  · cases h
    rename_i n f i a1 a2 a3 a4 a5 a6 a7 a8
    refine ⟨rfl, by first | exact Nat.le_refl _ | exact Nat.zero_le _, ?_⟩
    refine fcall_args (args' := [.sl (lsOf cCoo n f).length (lsF cCoo (lsOf cCoo n f)), .fn (.func 20) [] [.ptr (i + 9000) 0]]) ⟨isLs.vle hq.1, VLe.refl _, trivial⟩ ?_
    have hn : (lsOf cCoo n f).length ≤ 4611686018427387900 := by rw [lsOf_len]; exact hq.2
    generalize lsOf cCoo n f = l at hn ⊢
    show FCall pg 31 [.sl l.length (lsF cCoo l), .fn (.func 20) [] [.ptr (i + 9000) 0]] [(i + 9000, .cells [.str a1, .str a2, .str a3, .bool a4, .str a5, .bool a6, .int .i64 a7, .int .i64 a8])] (.int .i64 (fstC l ⟨a1, a2, a3, a4, a5, a6, a7, a8⟩)) [(i + 9000, .cells [.str a1, .str a2, .str a3, .bool a4, .str a5, .bool a6, .int .i64 a7, .int .i64 a8])]
    refine fw31 (fun _ => false) [] rfl hct rfl (by simp) (by simp [hlIn, idsIn, Blk.menIn, V.menInL, V.menIn, V.flat, byF, lsF]) (by simp [V.menIn, V.menInL, idsIn]) ?_
    push_cast (config := { maxSteps := 10000000 })
    refine LoopW.adj ⟨hct, fol⟩ (by kernel_rfl) [] (fun k : Nat => [(0, .sl l.length (lsF cCoo l)), (1, .fn (.func 20) [] [.ptr (i + 9000) 0]), (7, .int .i64 l.length), (8, .int .i64 k)]) (fun _ => [(i + 9000, .cells [.str a1, .str a2, .str a3, .bool a4, .str a5, .bool a6, .int .i64 a7, .int .i64 a8])]) (fun k => k ≤ l.length ∧ ∀ j, j < k → sameC ⟨a1, a2, a3, a4, a5, a6, a7, a8⟩ (l.getD j noCoo) = false) (fun k => l.length - k) 0 ?_ fun k hk => ?_
    · push_cast (config := { maxSteps := 10000000 })
      exact Nat.zero_le _
    · push_cast (config := { maxSteps := 10000000 })
      obtain ⟨h1, h2⟩ := hk
      have hs : sameC ⟨a1, a2, a3, a4, a5, a6, a7, a8⟩ (l.getD k noCoo) = true ↔ (a1 = (l.getD k noCoo).na ∧ a3 = (l.getD k noCoo).ho) ∧ a5 = (l.getD k noCoo).pa := by simp only [sameC, Bool.and_eq_true, beq_iff_eq]
      refine ⟨fun h => ⟨h, fun h3 => (fstC_at h (hs.2 h3) h2).symm, fun h3 => ⟨⟨by omega, by omega⟩, k + 1, ⟨by omega, fun j hj => ?_⟩, by omega, by omega⟩⟩, fun h => (fstC_no fun j hj => h2 j (by omega)).symm⟩
      by_cases e : j = k
      · subst e
        cases hh : sameC ⟨a1, a2, a3, a4, a5, a6, a7, a8⟩ (l.getD j noCoo) with
        | false => rfl
        | true =>
          have := hs.1 hh
          exact absurd this.2 (h3 this.1)
      · exact h2 j (by omega)
  · cases h
attribute [push_cast] ckIdxFK
@[push_cast] theorem idxF_ids (x : V) (f : Fn) (i o : Nat) : ckIdxF.ids [x, .fn f [] [.ptr i o]] = [i] := rfl
@[push_cast] theorem idxF_k {n : Nat} {f : Nat → V} {a1 a2 a3 a5 : List UInt8} {a4 a6 : Bool} {a7 a8 : Int} (i : Nat) : ckIdxF.k [.sl n f, .fn (.func 20) [] [.ptr i 0]] [.cells [.str a1, .str a2, .str a3, .bool a4, .str a5, .bool a6, .int .i64 a7, .int .i64 a8]] = some (isLs cCoo n f ∧ n ≤ 4611686018427387900, .int .i64 (fstC (lsOf cCoo n f) ⟨a1, a2, a3, a4, a5, a6, a7, a8⟩), [.cells [.str a1, .str a2, .str a3, .bool a4, .str a5, .bool a6, .int .i64 a7, .int .i64 a8]]) := rfl
theorem fstC_any (l : List Coo) (c : Coo) : decide (0 ≤ fstC l c) = l.any (sameC c) := by
  unfold fstC
  cases h : l.findIdx? (sameC c) with
  | none =>
    rw [List.findIdx?_eq_none_iff] at h
    have : l.any (sameC c) = false := by rw [List.any_eq_false]; intro x hx; rw [h x hx]; simp
    rw [this]; rfl
  | some k =>
    rw [List.findIdx?_eq_some_iff_getElem] at h
    obtain ⟨hk, h1, _⟩ := h
    have : l.any (sameC c) = true := List.any_eq_true.2 ⟨_, List.getElem_mem hk, h1⟩
    rw [this]
    exact decide_eq_true (Int.natCast_nonneg k)
def ckCtnFK : List V → List Blk → Option (Prop × V × List Blk)
  | [.sl n f, .fn (.func 20) [] [.ptr i 0]], [.cells [.str a1, .str a2, .str a3, .bool a4, .str a5, .bool a6, .int .i64 a7, .int .i64 a8]] => some (isLs cCoo n f ∧ n ≤ 4611686018427387900, .bool ((lsOf cCoo n f).any (sameC ⟨a1, a2, a3, a4, a5, a6, a7, a8⟩)), [.cells [.str a1, .str a2, .str a3, .bool a4, .str a5, .bool a6, .int .i64 a7, .int .i64 a8]])
  | _, _ => none
def ckCtnF : Cf := ⟨fun | [_, .fn _ _ [.ptr i _]] => [i] | _ => [], ckCtnFK⟩
theorem conCtnF : FCon pg 19 ckCtnF := by
  have hct := (ctF_ok conIdxF (ctN_ok _))
  intro args bs q r bs' h hq
  replace h : ckCtnFK args bs = some (q, r, bs') := h
  unfold ckCtnFK at h
  split at h
  · cases h
    rename_i n f i a1 a2 a3 a4 a5 a6 a7 a8
    refine ⟨rfl, by first | exact Nat.le_refl _ | exact Nat.zero_le _, ?_⟩
    show FCall pg 19 [V.shift (.sl n f), .fn (.func 20) [] [.ptr (i + 9000) 0]] [(i + 9000, .cells [.str a1, .str a2, .str a3, .bool a4, .str a5, .bool a6, .int .i64 a7, .int .i64 a8])] (.bool ((lsOf cCoo n f).any (sameC ⟨a1, a2, a3, a4, a5, a6, a7, a8⟩))) [(i + 9000, .cells [.str a1, .str a2, .str a3, .bool a4, .str a5, .bool a6, .int .i64 a7, .int .i64 a8])]
    refine fcall_args (args' := [.sl (lsOf cCoo n f).length (lsF cCoo (lsOf cCoo n f)), .fn (.func 20) [] [.ptr (i + 9000) 0]]) ⟨isLs.vle hq.1, VLe.refl _, trivial⟩ ?_
    have hn : (lsOf cCoo n f).length ≤ 4611686018427387900 := by rw [lsOf_len]; exact hq.2
    generalize lsOf cCoo n f = l at hn ⊢
    refine fw19 (fun _ => false) [] rfl hct rfl (by simp) (by simp [hlIn, idsIn, Blk.menIn, V.menInL, V.menIn, V.flat, byF, lsF]) (by simp [V.menIn, V.menInL, idsIn]) ?_
    push_cast (config := { maxSteps := 10000000 })
    exact ⟨hn, fstC_any _ _⟩
  · cases h
attribute [push_cast] ckCtnFK
@[push_cast] theorem ctnF_ids (x : V) (f : Fn) (i o : Nat) : ckCtnF.ids [x, .fn f [] [.ptr i o]] = [i] := rfl
@[push_cast] theorem ctnF_k {n : Nat} {f : Nat → V} {a1 a2 a3 a5 : List UInt8} {a4 a6 : Bool} {a7 a8 : Int} (i : Nat) : ckCtnF.k [.sl n f, .fn (.func 20) [] [.ptr i 0]] [.cells [.str a1, .str a2, .str a3, .bool a4, .str a5, .bool a6, .int .i64 a7, .int .i64 a8]] = some (isLs cCoo n f ∧ n ≤ 4611686018427387900, .bool ((lsOf cCoo n f).any (sameC ⟨a1, a2, a3, a4, a5, a6, a7, a8⟩)), [.cells [.str a1, .str a2, .str a3, .bool a4, .str a5, .bool a6, .int .i64 a7, .int .i64 a8]]) := rfl
/-- the error of cookies -/
def ccGo : List Coo → List Coo → Int
  | _, [] => 0
  | p, c :: t => if checkCooL c = 0 then (if p.any (sameC c) = true then 7 else ccGo (p ++ [c]) t) else checkCooL c
def checkCoosL (l : List Coo) : Int := if 200 < l.length then 2 else ccGo [] l
def ckCheckCoos : Ck
  | [.sl n f] => some (isLs cCoo n f ∧ coosOk (lsOf cCoo n f), .int .i64 (checkCoosL (lsOf cCoo n f)))
  | _ => none
theorem conCheckCoos : Con pg 6 ckCheckCoos := by
  have hct := (ctA_ok conCheckCoo (ctF_ok conCtnF (ctN_ok _)))
  intro args q r h hq
  unfold ckCheckCoos at h
  split at h
  · cases h
    rename_i n f
    refine pcall_args (args' := [.sl (lsOf cCoo n f).length (lsF cCoo (lsOf cCoo n f))]) ⟨isLs.vle hq.1, trivial⟩ ?_
    obtain ⟨-, hl⟩ := hq
    generalize lsOf cCoo n f = l at hl ⊢
    refine w6 (fun _ => false) [] rfl hct rfl rfl ?_
    push_cast (config := { maxSteps := 10000000 })
    refine ⟨fun h => by unfold checkCoosL; rw [if_pos (by omega)], fun h => ?_⟩
    have e0 : checkCoosL l = ccGo [] l := by unfold checkCoosL; rw [if_neg (by omega)]
    rw [e0]
    refine LoopW.adj ⟨hct, fol⟩ (by kernel_rfl) [] (fun i : Nat => [(0, .sl l.length (lsF cCoo l)), (9, .sl l.length (lsF cCoo l)), (10, .int .i64 l.length), (11, .int .i64 i)]) (fun _ => []) (fun i => i ≤ l.length ∧ ccGo (l.take i) (l.drop i) = ccGo [] l) (fun i => l.length - i) 0 ?_ fun i hi => ?_
    · push_cast (config := { maxSteps := 10000000 })
      exact Nat.zero_le _
    · push_cast (config := { maxSteps := 10000000 })
      obtain ⟨h1, h2⟩ := hi
      refine ⟨fun h3 => ?_, fun h3 => ?_⟩
      · have hk := LsI.sh (LsI.ls (c := cCoo) l) (l := 0) (k := i) (by omega)
        rw [List.drop_zero] at hk
        rw [hk.of]
        have e := dropG (d := noCoo) h3
        have et := takeG (d := noCoo) h3
        rw [e, ccGo] at h2
        refine ⟨h3, coosOk_at hl h3, fun h4 => ?_, fun h4 => ?_⟩
        · rw [if_neg h4] at h2; exact h2
        rw [if_pos h4] at h2
        refine ⟨by omega, ⟨hk.is, by omega⟩, fun h5 => ?_, fun h5 => ?_⟩
        · rw [if_pos h5] at h2; exact h2
        · rw [if_neg (by rw [h5]; simp)] at h2
          exact ⟨⟨by omega, by omega⟩, i + 1, ⟨by omega, by rw [et]; exact h2⟩, by omega, by omega⟩
      · rw [List.drop_eq_nil_of_le (by omega)] at h2
        exact h2
  · cases h
attribute [push_cast] ckCheckCoos
theorem conCheckCoos2 : Con pg 7 ckCheckCoos := by
  have hct := (ctA_ok conCheckCoo2 (ctA_ok conSame2 (ctN_ok _)))
  intro args q r h hq
  unfold ckCheckCoos at h
  split at h
  · cases h
    rename_i n f
    refine pcall_args (args' := [.sl (lsOf cCoo n f).length (lsF cCoo (lsOf cCoo n f))]) ⟨isLs.vle hq.1, trivial⟩ ?_
    obtain ⟨-, hl⟩ := hq
    generalize lsOf cCoo n f = l at hl ⊢
    refine w7 (fun _ => false) [] rfl hct rfl rfl ?_
    push_cast (config := { maxSteps := 10000000 })
    refine ⟨fun h => by unfold checkCoosL; rw [if_pos (by omega)], fun h => ?_⟩
    have e0 : checkCoosL l = ccGo [] l := by unfold checkCoosL; rw [if_neg (by omega)]
    rw [e0]
    refine LoopW.adj ⟨hct, fol⟩ (by kernel_rfl) [] (fun i : Nat => [(0, .sl l.length (lsF cCoo l)), (3, .int .i64 i)]) (fun _ => []) (fun i => i ≤ l.length ∧ ccGo (l.take i) (l.drop i) = ccGo [] l) (fun i => l.length - i) 0 ?_ fun i hi => ?_
    · push_cast (config := { maxSteps := 10000000 })
      exact Nat.zero_le _
    · push_cast (config := { maxSteps := 10000000 })
      obtain ⟨h1, h2⟩ := hi
      refine ⟨fun h3 => ?_, fun h3 => ?_⟩
      · have e := dropG (d := noCoo) h3
        have et := takeG (d := noCoo) h3
        rw [e, ccGo] at h2
        refine ⟨h3, coosOk_at hl h3, fun h4 => ?_, fun h4 => ?_⟩
        · rw [if_neg h4] at h2; exact h2
        rw [if_pos h4] at h2
        have hlen : (l.take i).length = i := by rw [List.length_take]; omega
        have hg : ∀ j, j < i → (l.take i).getD j noCoo = l.getD j noCoo := fun j hj => by rw [List.getD_eq_getElem?_getD, List.getD_eq_getElem?_getD, List.getElem?_take_of_lt hj]
        refine LoopW.adj ⟨hct, fol⟩ (by kernel_rfl) [] (fun k : Nat => [(0, .sl l.length (lsF cCoo l)), (3, .int .i64 i), (5, .int .i64 k)]) (fun _ => []) (fun k => k ≤ i ∧ ∀ j, j < k → sameC (l.getD i noCoo) (l.getD j noCoo) = false) (fun k => i - k) 0 ?_ fun k hk => ?_
        · push_cast (config := { maxSteps := 10000000 })
          exact Nat.zero_le _
        · push_cast (config := { maxSteps := 10000000 })
          obtain ⟨k1, k2⟩ := hk
          have hs : sameC (l.getD i noCoo) (l.getD k noCoo) = true ↔ ((l.getD i noCoo).na = (l.getD k noCoo).na ∧ (l.getD i noCoo).ho = (l.getD k noCoo).ho) ∧ (l.getD i noCoo).pa = (l.getD k noCoo).pa := by simp only [sameC, Bool.and_eq_true, beq_iff_eq]
          refine ⟨fun k3 => ⟨by omega, by omega, fun k4 => ?_, fun k4 => ⟨⟨by omega, by omega⟩, k + 1, ⟨by omega, fun j hj => ?_⟩, by omega, by omega⟩⟩, fun k3 => ?_⟩
          · have : (l.take i).any (sameC (l.getD i noCoo)) = true := by
              rw [List.any_eq_true]
              refine ⟨(l.take i).getD k noCoo, ?_, by rw [hg k k3]; exact hs.2 k4⟩
              rw [List.getD_eq_getElem?_getD, List.getElem?_eq_getElem (by omega)]
              exact List.getElem_mem _
            rw [if_pos this] at h2; exact h2
          · by_cases e : j = k
            · subst e
              cases hh : sameC (l.getD i noCoo) (l.getD j noCoo) with
              | false => rfl
              | true =>
                have := hs.1 hh
                exact absurd this.2 (k4 this.1)
            · exact k2 j (by omega)
          · have : (l.take i).any (sameC (l.getD i noCoo)) = false := by
              rw [List.any_eq_false]
              intro x hx
              obtain ⟨j, hj, rfl⟩ := List.getElem_of_mem hx
              have h5 := k2 j (by omega)
              have ex : (l.take i)[j] = l.getD j noCoo := by
                rw [← hg j (by omega), List.getD_eq_getElem?_getD, List.getElem?_eq_getElem hj]; rfl
              rw [ex, h5]; simp
            rw [if_neg (by rw [this]; simp)] at h2
            exact ⟨⟨by omega, by omega⟩, i + 1, ⟨by omega, by rw [et]; exact h2⟩, by omega, by omega⟩
      · rw [List.drop_eq_nil_of_le (by omega)] at h2
        exact h2
  · cases h

open Go.Lib
def cooZ : List Value := [.string ⟨#[]⟩, .string ⟨#[]⟩, .string ⟨#[]⟩, .bool false, .string ⟨#[]⟩, .bool false, .int .i64 0, .int .i64 0]
theorem zero_cells1 (z : Array Value) : (Builtin.zeroCells z 1).toList = z.toList := by
  unfold Builtin.zeroCells
  apply List.ext_getElem
  · simp
  · intro i h1 h2
    have h3 : i < z.size := by simpa using h2
    simp [Nat.mod_eq_of_lt h3, h3]
theorem delWalk (w : World) (b cap n i j : Nat) (hij : j = i + 1) (hj : j ≤ n) (hn : n ≤ cap) (A : Addr) (hA : (if cap = j then (some ⟨b, 0, none⟩ : Option Addr) else some ⟨b, j * 8, none⟩) = some A) (news : List Value) (hl : news.length = (n - j) * 8) (hsrc : ∀ t u, news[t]? = some u → w.drew.cell? (A.add t) = some u) (h1 : ∀ u ∈ news, u.oneCell' = true) (hsp : ∀ t, t < n * 8 → (w.drew.cell? ⟨b, t, none⟩).isSome = true ∧ w.drew.frozen? ⟨b, t, none⟩ = false)
    (hcl : ∀ ty, (Builtin.clear_ #[22] ty #[.slice (some ⟨b, (i + (n - j)) * 8, none⟩) (n - (i + (n - j))) (cap - (i + (n - j)))]).run Tryd.prog (w.drew.setCells b (i * 8) news) = .ok (.tuple #[]) ((w.drew.setCells b (i * 8) news).setCells b ((i + (n - j)) * 8) cooZ)) :
    Calls Tryd.prog 14 #[.slice (some ⟨b, 0, none⟩) n cap, .int .i64 i, .int .i64 j] w fun e w' => e = .returned (.slice (some ⟨b, 0, none⟩) (i + (n - j)) cap) ∧ w' = (w.drew.setCells b (i * 8) news).setCells b ((i + (n - j)) * 8) cooZ := by
  have t22 := Tryd.underlying22
  have mixed : Tryd.prog.follows .mixedOrders = true := fol
  obtain ⟨i0, hi0, hz0⟩ := ti_size (P := Tryd.prog) (t := 24) (by rw [show (ti Tryd.prog 24).size = 8 by kernel_rfl]; omega)
  have hz1 : i0.size = 8 := by rw [← hz0]; kernel_rfl
  have hlt : i < j := by omega
  have hic : i ≤ cap := by omega
  have hjc : j ≤ cap := by omega
  have hne : ¬ i = j := by omega
  clear hij
  obtain ⟨W1, hW1⟩ : ∃ W1, W1 = w.drew.setCells b (i * 8) news := ⟨_, rfl⟩
  simp only [← hW1] at hcl
  have hW : Go.RowKit.Hid (W1 = w.drew.setCells b (i * 8) news) := hW1
  rw [← hW1]
  clear hW1
  go_enter Tryd.func14, Tryd.ntmps14
  go_wp2_with fail
  go_region_law_o (refine step_append_room rfl (.tmp 22) (.tmp 25) 22 rfl 24 i0 8 t22 hi0 hz1 b 0 i cap (by simp [Act.eval, Act.put]) A (n - j) (cap - j) news (by simp [Act.eval, Act.put]) hl hsrc h1 (by omega) (fun t ht => by rw [Nat.zero_add]; exact hsp _ (by omega)) ?_; rw [Nat.zero_add, ← hW.out])
  go_wp2
  go_ret
  exact ⟨rfl, rfl⟩
/- cells written in a row -/
def wrC : Array Value → Nat → List Value → Array Value
  | a, _, [] => a
  | a, o, v :: r => wrC (a.setIfInBounds o v) (o + 1) r
theorem wrC_size : ∀ (vs : List Value) (a : Array Value) (o : Nat), (wrC a o vs).size = a.size
  | [], _, _ => rfl
  | v :: r, a, o => by rw [wrC, wrC_size r, Array.size_setIfInBounds]
theorem getD_setI (a : Array Value) (o k : Nat) (v : Value) (h : o < a.size) : (a.setIfInBounds o v).getD k undef = if k = o then v else a.getD k undef := by
  by_cases e : k = o
  · subst e; rw [if_pos rfl]; simp [Array.getD, h]
  · rw [if_neg e]
    rw [Array.getD_eq_getD_getElem?, Array.getD_eq_getD_getElem?, Array.getElem?_setIfInBounds, if_neg (fun x => e x.symm)]
theorem wrC_at : ∀ (vs : List Value) (a : Array Value) (o k : Nat), o + vs.length ≤ a.size → (wrC a o vs).getD k undef = if o ≤ k ∧ k < o + vs.length then vs.getD (k - o) undef else a.getD k undef
  | [], a, o, k, h => by rw [if_neg (by simp only [List.length_nil]; omega)]; rfl
  | v :: r, a, o, k, h => by
    simp only [List.length_cons] at h ⊢
    rw [wrC, wrC_at r _ (o + 1) k (by rw [Array.size_setIfInBounds]; omega), getD_setI _ _ _ _ (by omega)]
    by_cases e : k = o
    · subst e
      rw [if_neg (by omega), if_pos rfl, if_pos (by omega), Nat.sub_self]; rfl
    · rw [if_neg e]
      by_cases h2 : o + 1 ≤ k ∧ k < o + 1 + r.length
      · rw [if_pos h2, if_pos (by omega), show k - o = (k - (o + 1)) + 1 by omega, List.getD_cons_succ]
      · rw [if_neg h2, if_neg (by omega)]
theorem setCells_row {b : Nat} {t : TypeId} {fr : Nat × Nat} : ∀ (vs : List Value) (o : Nat) (arr : Array Value) (w : World), w.heap[b]? = some (.cells arr t fr) → w.setCells b o vs = w.setRow b (wrC arr o vs)
  | [], o, arr, w, h => by
    rw [wrC]
    show w = _
    rw [setRow_self w b arr t fr h]
  | v :: r, o, arr, w, h => by
    show (w.setCell ⟨b, o, none⟩ v).setCells b (o + 1) r = _
    rw [setCell_eq_setRow w b o arr t fr v h, setCells_row r (o + 1) (arr.setIfInBounds o v) _ (setRow_heap w b arr _ t fr h), setRow_setRow, wrC]
def ckDelK : List V → List Blk → Option (Prop × V × List Blk)
  | [.vec i n, .int .i64 a, .int .i64 c], [.vec 8 k f] => some (k = n ∧ isLs cCoo n f ∧ 0 ≤ a ∧ a < n ∧ c = a + 1, .sl (n - 1) (lsF cCoo ((lsOf cCoo n f).eraseIdx a.toNat)), [])
  | _, _ => none
def ckDel : Cf := ⟨fun | [.vec i _, _, _] => [i] | _ => [], ckDelK⟩
theorem coo_pure (a : Coo) (t : Nat) (ht : t < 8) : ((cCoo.enc a).flat.getD t .any).isPure = true := by
  rcases (by omega : t = 0 ∨ t = 1 ∨ t = 2 ∨ t = 3 ∨ t = 4 ∨ t = 5 ∨ t = 6 ∨ t = 7) with rfl | rfl | rfl | rfl | rfl | rfl | rfl | rfl <;> rfl
theorem eraseAt (l : List Coo) (a j : Nat) : (l.eraseIdx a).getD j noCoo = if j < a then l.getD j noCoo else l.getD (j + 1) noCoo := by
  rw [List.getD_eq_getElem?_getD, List.getD_eq_getElem?_getD, List.getD_eq_getElem?_getD, List.getElem?_eraseIdx]
  split <;> rfl
theorem conDel : FCon pg 14 ckDel := by
  intro args bs q r bs' h hq
  replace h : ckDelK args bs = some (q, r, bs') := h
  unfold ckDelK at h
  split at h
  · cases h
    rename_i i n a c k f
    refine ⟨rfl, Nat.zero_le _, ?_⟩
    obtain ⟨rfl, hf, ha0, han, rfl⟩ := hq
    show FCall pg 14 [.vec (i + 9000) k, .int .i64 a, .int .i64 (a + 1)] [(i + 9000, .vec 8 k fun j => V.shift (f j))] (.sl (k - 1) (lsF cCoo ((lsOf cCoo k f).eraseIdx a.toNat))) []
    refine fcall_blk (hm := [(i + 9000, .vec 8 (lsOf cCoo k f).length (lsF cCoo (lsOf cCoo k f)))]) ⟨rfl, ⟨rfl, (lsOf_len k f).symm, fun j hj => by show V.shift (f j) = _; rw [hf.2 j hj]; rfl⟩, trivial⟩ ?_
    have hk := lsOf_len (c := cCoo) k f
    generalize lsOf cCoo k f = l at hk ⊢
    subst hk
    obtain ⟨a, rfl⟩ : ∃ m : Nat, a = m := ⟨a.toNat, by omega⟩
    rw [Int.toNat_natCast]
    have ha : a < l.length := by omega
    intro S vals hs hh hl hr
    obtain ⟨v0, v1, v2, rfl⟩ : ∃ v0 v1 v2, vals = [v0, v1, v2] := by
      match vals, hl with
      | [x, y, z], _ => exact ⟨x, y, z, rfl⟩
    have r0 : S.rep (.vec (i + 9000) l.length) v0 := hr 0 (by simp)
    have r1 : S.rep (.int .i64 a) v1 := hr 1 (by simp)
    have r2 : S.rep (.int .i64 (a + 1)) v2 := hr 2 (by simp)
    obtain rfl := inv_int r1
    obtain rfl := inv_int r2
    have hid : S.h (i + 9000) = some (.vec 8 l.length (lsF cCoo l)) := by rw [hh]; simp [hOf]
    obtain ⟨va, vm, vc, g1, g2, g3⟩ := inv_vec r0
    have em := vec_len hs hid g1
    subst em
    have hv := g3 rfl
    obtain ⟨k1, k2, ⟨k3, va', k4⟩ | ⟨b, cap, arr, tt, lo, hi', k3, k4, kc, k5, k6, k7, k8⟩⟩ := hs.blk _ _ hid
    · omega
    rw [k3] at hv
    subst hv
    have hown : S.own b := ⟨i + 9000, by rw [hid]; rfl, by simp [k3, blkOf]; omega⟩
    have hnb : ¬ S.imm b := hs.disj b hown
    have hsz : l.length * 8 ≤ arr.size := by omega
    have cellW : ∀ o, S.w.drew.cell? ⟨b, o, none⟩ = arr[o]? := fun o => cell_of_heap (w := S.w.drew) k5 o
    have at' : ∀ o, o < arr.size → arr[o]? = some (arr.getD o undef) := fun o ho => by simp [Array.getD, ho]
    obtain ⟨news, hnews⟩ : ∃ news, news = (List.range ((l.length - (a + 1)) * 8)).map fun t => arr.getD ((a + 1) * 8 + t) undef := ⟨_, rfl⟩
    have hlen : news.length = (l.length - (a + 1)) * 8 := by rw [hnews]; simp
    have hget : ∀ t u, news[t]? = some u → t < (l.length - (a + 1)) * 8 ∧ u = arr.getD ((a + 1) * 8 + t) undef := fun t u hu => by
      have ht := (List.getElem?_eq_some_iff.1 hu).1
      rw [hlen] at ht
      refine ⟨ht, ?_⟩
      rw [hnews, List.getElem?_map, List.getElem?_range ht] at hu
      simpa using hu.symm
    have hone : ∀ q, q < l.length * 8 → one (arr.getD q undef) := fun q hq => by
      have h1 : q / 8 < l.length := by omega
      have h2 : q % 8 < 8 := by omega
      have h3 : q / 8 * 8 + q % 8 = q := by omega
      have := (k8 _ _ h1 h2).2
      rwa [h3] at this
    obtain ⟨A, hA, hsrc⟩ : ∃ A : Addr, (if cap = a + 1 then (some ⟨b, 0, none⟩ : Option Addr) else some ⟨b, (a + 1) * 8, none⟩) = some A ∧ ∀ t u, news[t]? = some u → S.w.drew.cell? (A.add t) = some u := by
      by_cases hc : cap = a + 1
      · exact ⟨_, if_pos hc, fun t u hu => by have := (hget t u hu).1; omega⟩
      · refine ⟨_, if_neg hc, fun t u hu => ?_⟩
        obtain ⟨h1, rfl⟩ := hget t u hu
        rw [addr_add, cellW, at' _ (by omega)]
    have hfz : ∀ o, o < arr.size → S.w.drew.frozen? ⟨b, o, none⟩ = false := fun o ho => by
      simp only [World.frozen?, show S.w.drew.heap[b]? = _ from k5, Bool.and_eq_false_iff, decide_eq_false_iff_not]
      omega
    have hw1 : S.w.drew.setCells b (a * 8) news = S.w.drew.setRow b (wrC arr (a * 8) news) := setCells_row news (a * 8) arr _ k5
    have hh1 : (S.w.drew.setRow b (wrC arr (a * 8) news)).heap[b]? = some (.cells (wrC arr (a * 8) news) tt (lo, hi')) := setRow_heap S.w.drew b arr _ tt _ k5
    have hs1 : (wrC arr (a * 8) news).size = arr.size := wrC_size _ _ _
    have hat1 := fun k => wrC_at news arr (a * 8) k (by omega)
    generalize wrC arr (a * 8) news = arr1 at hw1 hh1 hs1 hat1
    have hz8 : cooZ.length = 8 := rfl
    have hcl : ∀ ty, (Builtin.clear_ #[22] ty #[.slice (some ⟨b, (a + (l.length - (a + 1))) * 8, none⟩) (l.length - (a + (l.length - (a + 1)))) (cap - (a + (l.length - (a + 1))))]).run Tryd.prog (S.w.drew.setCells b (a * 8) news) = .ok (.tuple #[]) ((S.w.drew.setCells b (a * 8) news).setCells b ((a + (l.length - (a + 1))) * 8) cooZ) := by
      intro ty
      rw [hw1, show l.length - (a + (l.length - (a + 1))) = 1 by omega]
      have hv : ∀ w, (zeroValue 24).run Tryd.prog w = .ok (.agg cooZ.toArray) w := fun w => Tryd.zeroValue24 w
      have hzc : (Builtin.zeroCells (Value.agg cooZ.toArray).cells 1).toList = cooZ := zero_cells1 _
      have hst := run_storeCells_cells (P := Tryd.prog) b ((a + (l.length - (a + 1))) * 8) cooZ 0 (S.w.drew.setRow b arr1) (fun j hj => by
        rw [Nat.add_zero, cell_of_heap hh1, Array.getElem?_eq_getElem (by omega)]; rfl) (fun j hj => by
        simp only [World.frozen?, hh1, Bool.and_eq_false_iff, decide_eq_false_iff_not]
        omega) (by decide)
      rw [Nat.add_zero] at hst
      simp [Builtin.clear_, run_underlying Tryd.underlying22, hv, hzc, hst]
    refine .inl ⟨by kernel_rfl, (delWalk S.w b cap l.length a (a + 1) rfl (by omega) k4 A hA news hlen hsrc (fun u hu => ?_) (fun t ht => ⟨?_, hfz t (by omega)⟩) hcl).mono fun e w' ⟨he, hw⟩ => ?_⟩
    · obtain ⟨t, ht, rfl⟩ := List.getElem_of_mem hu
      obtain ⟨h1, h2⟩ := hget t _ (List.getElem?_eq_getElem ht)
      rw [h2]; exact hone _ (by omega)
    · rw [cellW, at' _ (by omega)]; rfl
    rw [hw1, setCells_row cooZ _ arr1 _ hh1, setRow_setRow] at hw
    have hat2 := fun k => wrC_at cooZ arr1 ((a + (l.length - (a + 1))) * 8) k (by omega)
    have hs2 : (wrC arr1 ((a + (l.length - (a + 1))) * 8) cooZ).size = arr1.size := wrC_size _ _ _
    generalize wrC arr1 ((a + (l.length - (a + 1))) * 8) cooZ = arr2 at hw hat2 hs2
    subst hw
    have oth : ∀ x, x ≠ b → (S.w.drew.setRow b arr2).heap[x]? = S.w.heap[x]? := fun x hx => setRow_other S.w.drew b x arr2 hx
    have immS : ∀ x, S.imm x → (S.w.drew.setRow b arr2).heap[x]? = S.w.heap[x]? := fun x hx => oth x (fun e => hnb (e ▸ hx))
    have szS : (S.w.drew.setRow b arr2).heap.size = S.w.heap.size := setRow_size S.w.drew b arr2
    have hb2 : (S.w.drew.setRow b arr2).heap[b]? = some (.cells arr2 tt (lo, hi')) := setRow_heap S.w.drew b arr _ tt _ k5
    refine ⟨_, S.γ, fun x => S.imm x ∨ x = b, he, ⟨fun id b hb => (by cases hb), fun i j b hi => (by cases hi), fun x hx => ?_, fun x ⟨i, hi, _⟩ => (by cases hi), hs.tab.of (fun _ h => .inl h) immS⟩, ⟨rfl, rfl, rfl, by rw [szS]; exact Nat.le_refl _, fun x hx ho => oth x (fun e => ho (e ▸ hown)), fun _ h => .inl h, fun x h => h.elim .inl fun e => .inr (.inl (e ▸ hown)), fun x ⟨i, hi, _⟩ => (by cases hi), fun _ _ => .refl _⟩, fun _ _ => rfl, .pure ?_⟩
    · rw [szS]
      rcases hx with hx | rfl
      · exact hs.immLt x hx
      · exact hs.ownLt hown
    rw [show a + (l.length - (a + 1)) = l.length - 1 by omega]
    have key : ∀ j t, j < l.length - 1 → t < 8 → ∃ j', j' < l.length ∧ (l.eraseIdx a).getD j noCoo = l.getD j' noCoo ∧ arr2.getD (j * 8 + t) undef = arr.getD (j' * 8 + t) undef := by
      intro j t hj ht
      rw [hat2, if_neg (by omega), hat1, eraseAt]
      by_cases e : j < a
      · rw [if_pos e, if_neg (by omega)]
        exact ⟨j, by omega, rfl, rfl⟩
      · rw [if_neg e, if_pos (by omega)]
        refine ⟨j + 1, by omega, rfl, ?_⟩
        have hlt : j * 8 + t - a * 8 < (l.length - (a + 1)) * 8 := by omega
        rw [hnews, List.getD_eq_getElem?_getD, List.getElem?_map, List.getElem?_range hlt]
        simp only [Option.map_some, Option.getD_some]
        congr 1
        omega
    refine .sl (l.length - 1) _ b 0 cap 8 (fun j t => arr2.getD (j * 8 + t) undef) (.inr rfl) (by omega) (by omega) (fun j hj => rfl) (fun j t hj ht => ?_) (fun j t hj ht => ?_) (fun j t hj ht => ?_)
    · rw [Nat.zero_add, cell_of_heap hb2, Array.getElem?_eq_getElem (by omega)]
      unfold Array.getD
      rw [dif_pos (by omega)]; rfl
    · obtain ⟨j', h1, h2, h3⟩ := key j t hj ht
      show one (arr2.getD (j * 8 + t) undef)
      rw [h3]; exact hone _ (by omega)
    · obtain ⟨j', h1, h2, h3⟩ := key j t hj ht
      show RepP _ _ ((cCoo.enc ((l.eraseIdx a).getD j noCoo)).flat.getD t .any) (arr2.getD (j * 8 + t) undef)
      rw [h2, h3]
      exact (isPure_rep (S := S) (k8 j' t h1 ht).1 (coo_pure _ t ht)).mono (fun _ h => .inl h) immS
  · cases h

@[push_cast] theorem del_ids (i n : Nat) (x y : V) : ckDel.ids [.vec i n, x, y] = [i] := rfl
@[push_cast] theorem del_k (i n k : Nat) (a c : Int) (f : Nat → V) : ckDel.k [.vec i n, .int .i64 a, .int .i64 c] [.vec 8 k f] = some (k = n ∧ isLs cCoo n f ∧ 0 ≤ a ∧ a < n ∧ c = a + 1, .sl (n - 1) (lsF cCoo ((lsOf cCoo n f).eraseIdx a.toNat)), []) := rfl
def setS (c d : Coo) : Coo := ⟨c.na, c.va, c.ho, c.wi, c.pa, c.se, c.un, d.si⟩
/-- what is kept of the old ones; and whether the new one has its place -/
def kA (c : Coo) (m : Int) (ov : Bool) : List Coo → List Coo → Bool → List Coo × Bool
  | [], o, p => (o, p)
  | d :: t, o, p => if endedC d m = true ∨ (sameC c d = true ∧ ov = true) then kA c m ov t o p else if sameC c d = true then kA c m ov t (o ++ [setS c d]) true else kA c m ov t (o ++ [d]) p
def kB (m : Int) : List Coo → List Coo → Bool → Coo → List Coo × Bool × Coo
  | [], o, p, c => (o, p, c)
  | d :: t, o, p, c => if endedC d m = true then kB m t o p c else if sameC d c = true then (if p = true then kB m t o p c else kB m t (o ++ [setS c d]) true (setS c d)) else kB m t (o ++ [d]) p c
def leastGo (o : List Coo) : Nat → Nat → Nat → Nat
  | 0, _, b => b
  | k + 1, i, b => leastGo o k (i + 1) (if (o.getD i noCoo).si < (o.getD b noCoo).si then i else b)
def leastL (o : List Coo) : Nat := leastGo o o.length 0 0
def finO (o : List Coo) (p : Bool) (c : Coo) : List Coo := if p = true then o else o ++ [c]
def finL (o : List Coo) : List Coo := if 200 < o.length then o.eraseIdx (leastL o) else o
def keepL (l : List Coo) (c : Coo) (m : Int) : List Coo × Int :=
  if ¬ checkCoosL l = 0 then ([], checkCoosL l) else if ¬ checkCooL c = 0 then ([], checkCooL c) else if ¬ (0 ≤ m ∧ m ≤ 253402300799) then ([], 1)
  else (finL (finO (kA c m (endedC c m) l [] (endedC c m)).1 (kA c m (endedC c m) l [] (endedC c m)).2 c), 0)
theorem same_iff {a b : Coo} : sameC a b = true ↔ a.na = b.na ∧ a.ho = b.ho ∧ a.pa = b.pa := by simp only [sameC, Bool.and_eq_true, beq_iff_eq, and_assoc]
theorem same_sym {a b : Coo} : sameC a b = sameC b a := by
  rw [Bool.eq_iff_iff, same_iff, same_iff]
  exact ⟨fun ⟨x, y, z⟩ => ⟨x.symm, y.symm, z.symm⟩, fun ⟨x, y, z⟩ => ⟨x.symm, y.symm, z.symm⟩⟩
theorem same_trans {a b c : Coo} (h1 : sameC a b = true) (h2 : sameC b c = true) : sameC a c = true := by
  rw [same_iff] at *
  exact ⟨h1.1.trans h2.1, h1.2.1.trans h2.2.1, h1.2.2.trans h2.2.2⟩
theorem same_setS (a c d : Coo) : sameC a (setS c d) = sameC a c := rfl
theorem coos_200 {l : List Coo} (h : checkCoosL l = 0) : l.length ≤ 200 := by
  unfold checkCoosL at h
  split at h
  · omega
  · omega
/-- no two are the same -/
theorem ccGo_ok : ∀ {t p : List Coo}, ccGo p t = 0 → t.Pairwise (fun a b => sameC b a = false) ∧ ∀ x ∈ t, checkCooL x = 0
  | [], p, _ => ⟨.nil, fun x h => by cases h⟩
  | c :: t, p, h => by
    rw [ccGo] at h
    by_cases h1 : checkCooL c = 0
    · rw [if_pos h1] at h
      by_cases h2 : p.any (sameC c) = true
      · rw [if_pos h2] at h; omega
      · rw [if_neg h2] at h
        obtain ⟨a, b⟩ := ccGo_ok h
        refine ⟨.cons (fun x hx => ?_) a, fun x hx => ?_⟩
        · have key : ∀ {t p : List Coo}, ccGo p t = 0 → ∀ y ∈ p, ∀ x ∈ t, sameC x y = false := by
            intro t
            induction t with
            | nil => intro p _ y _ x hx; cases hx
            | cons d t ih =>
              intro p hg y hy x hx
              rw [ccGo] at hg
              by_cases g1 : checkCooL d = 0
              · rw [if_pos g1] at hg
                by_cases g2 : p.any (sameC d) = true
                · rw [if_pos g2] at hg; omega
                · rw [if_neg g2] at hg
                  rcases List.mem_cons.1 hx with rfl | hx
                  · cases hs : sameC x y with
                    | false => rfl
                    | true => exact absurd (List.any_eq_true.2 ⟨y, hy, hs⟩) g2
                  · exact ih hg y (List.mem_append_left _ hy) x hx
              · rw [if_neg g1] at hg; exact absurd hg g1
          exact key h c (by simp) x hx
        · rcases List.mem_cons.1 hx with rfl | hx
          · exact h1
          · exact b x hx
    · rw [if_neg h1] at h; exact absurd h h1
theorem coos_ok {l : List Coo} (h : checkCoosL l = 0) : l.Pairwise (fun a b => sameC b a = false) ∧ ∀ x ∈ l, checkCooL x = 0 := by
  unfold checkCoosL at h
  split at h
  · omega
  · exact ccGo_ok h
theorem kA_len (c : Coo) (m : Int) (ov : Bool) : ∀ (t o : List Coo) (p : Bool), (kA c m ov t o p).1.length ≤ o.length + t.length
  | [], o, p => by simp [kA]
  | d :: t, o, p => by
    rw [kA]
    split
    · have := kA_len c m ov t o p; simp; omega
    · split
      · have := kA_len c m ov t (o ++ [setS c d]) true; simp at this ⊢; omega
      · have := kA_len c m ov t (o ++ [d]) p; simp at this ⊢; omega
/-- once none of the rest is the same, both go alike -/
theorem kAB_none (c c' : Coo) (m : Int) (ov : Bool) (hc : ∀ d, sameC d c' = sameC c d) : ∀ (t o : List Coo) (p : Bool), (∀ d ∈ t, sameC c d = false) → kB m t o p c' = ((kA c m ov t o p).1, (kA c m ov t o p).2, c')
  | [], o, p, _ => rfl
  | d :: t, o, p, h => by
    have hd := h d (by simp)
    have ht := fun x hx => h x (List.mem_cons_of_mem _ hx)
    rw [kB, kA]
    by_cases he : endedC d m = true
    · rw [if_pos he, if_pos (.inl he)]; exact kAB_none c c' m ov hc t o p ht
    · rw [if_neg he, if_neg (by rw [hc, hd]; simp), if_neg (by rw [hd]; simp [he]), if_neg (by rw [hd]; simp)]
      exact kAB_none c c' m ov hc t (o ++ [d]) p ht
theorem kAB_over (c : Coo) (m : Int) : ∀ (t o : List Coo), kB m t o true c = ((kA c m true t o true).1, (kA c m true t o true).2, c) ∧ (kA c m true t o true).2 = true
  | [], o => ⟨rfl, rfl⟩
  | d :: t, o => by
    rw [kB, kA]
    by_cases he : endedC d m = true
    · rw [if_pos he, if_pos (.inl he)]; exact kAB_over c m t o
    · rw [if_neg he]
      by_cases hs : sameC d c = true
      · rw [if_pos hs, if_pos rfl, if_pos (.inr ⟨by rw [same_sym]; exact hs, rfl⟩)]; exact kAB_over c m t o
      · have hs' : ¬ sameC c d = true := by rw [same_sym]; exact hs
        rw [if_neg hs, if_neg (by rintro (x | x); exact he x; exact hs' x.1), if_neg hs']; exact kAB_over c m t (o ++ [d])
theorem kAB (c : Coo) (m : Int) : ∀ (t o : List Coo), t.Pairwise (fun a b => sameC b a = false) → ∃ c', kB m t o false c = ((kA c m false t o false).1, (kA c m false t o false).2, c') ∧ ((kA c m false t o false).2 = false → c' = c)
  | [], o, _ => ⟨c, rfl, fun _ => rfl⟩
  | d :: t, o, hp => by
    rw [List.pairwise_cons] at hp
    rw [kB, kA]
    by_cases he : endedC d m = true
    · rw [if_pos he, if_pos (.inl he)]; exact kAB c m t o hp.2
    · rw [if_neg he]
      by_cases hs : sameC d c = true
      · have hs' : sameC c d = true := by rw [same_sym]; exact hs
        rw [if_pos hs, if_neg (by simp), if_neg (by rintro (x | x); exact he x; exact absurd x.2 (by simp)), if_pos hs']
        have hn : ∀ x ∈ t, sameC c x = false := fun x hx => by
          cases h : sameC c x with
          | false => rfl
          | true =>
            have := same_trans (by rw [same_sym]; exact h : sameC x c = true) hs'
            rw [hp.1 x hx] at this; cases this
        refine ⟨setS c d, kAB_none c (setS c d) m false (fun x => by rw [same_setS, same_sym]) t _ true hn, fun h => ?_⟩
        exfalso
        have key : ∀ (t o : List Coo), (∀ x ∈ t, sameC c x = false) → (kA c m false t o true).2 = true := by
          intro t
          induction t with
          | nil => intro o _; rfl
          | cons y t ih =>
            intro o hy
            rw [kA]
            split
            · exact ih o fun x hx => hy x (List.mem_cons_of_mem _ hx)
            · rw [if_neg (by rw [hy y (by simp)]; simp)]; exact ih _ fun x hx => hy x (List.mem_cons_of_mem _ hx)
        rw [key t _ hn] at h; cases h
      · have hs' : ¬ sameC c d = true := by rw [same_sym]; exact hs
        rw [if_neg hs, if_neg (by rintro (x | x); exact he x; exact hs' x.1), if_neg hs']
        exact kAB c m t (o ++ [d]) hp.2
theorem keep_ref {l : List Coo} {c : Coo} {m : Int} (h : checkCoosL l = 0) : finO (kB m l [] (endedC c m) c).1 (kB m l [] (endedC c m) c).2.1 (kB m l [] (endedC c m) c).2.2 = finO (kA c m (endedC c m) l [] (endedC c m)).1 (kA c m (endedC c m) l [] (endedC c m)).2 c := by
  cases he : endedC c m with
  | true =>
    obtain ⟨e1, e2⟩ := kAB_over c m l []
    rw [e1]
  | false =>
    obtain ⟨c', e1, e2⟩ := kAB c m l [] (coos_ok h).1
    rw [e1]
    simp only
    cases hp : (kA c m false l [] false).2 with
    | true => rfl
    | false => rw [e2 hp]

def ckKeep : Ck
  | [.sl n f, x, .int .i64 m] => some (isLs cCoo n f ∧ isC cCoo x ∧ coosOk (lsOf cCoo n f) ∧ cooOk (cCoo.dec x), .tup [.sl (keepL (lsOf cCoo n f) (cCoo.dec x) m).1.length (lsF cCoo (keepL (lsOf cCoo n f) (cCoo.dec x) m).1), .int .i64 (keepL (lsOf cCoo n f) (cCoo.dec x) m).2])
  | _ => none
theorem conKeep : Con pg 4 ckKeep := by
  have hct := (ctA_ok conCheckCoos (ctA_ok conCheckCoo (ctA_ok conIsMoment (ctA_ok conEnded (ctA_ok conSame (ctF_ok conDel (ctN_ok _)))))))
  intro args q r h hq
  unfold ckKeep at h
  split at h
  · cases h
    rename_i n f x m
    refine pcall_args (args' := [.sl (lsOf cCoo n f).length (lsF cCoo (lsOf cCoo n f)), cCoo.enc (cCoo.dec x), .int .i64 m]) ⟨isLs.vle hq.1, hq.2.1, VLe.refl _, trivial⟩ ?_
    obtain ⟨-, -, hl, hc⟩ := hq
    generalize lsOf cCoo n f = l at hl ⊢
    generalize cCoo.dec x = c at hc ⊢
    refine w4 (fun _ => false) [.frz 8000] rfl hct rfl rfl ?_
    push_cast (config := { maxSteps := 10000000 })
    refine ⟨hl, fun h => by unfold keepL; rw [if_pos h]; exact ⟨rfl, rfl⟩, fun h1 => ⟨hc, fun h => by unfold keepL; rw [if_neg (fun x => x h1), if_pos h]; exact ⟨rfl, rfl⟩, fun h2 => ⟨fun h => by unfold keepL; rw [if_neg (fun x => x h1), if_neg (fun x => x h2), if_pos (fun x => h x.1 x.2)]; exact ⟨rfl, rfl⟩, fun h3 => ?_⟩⟩⟩
    have hK : keepL l c m = (finL (finO (kA c m (endedC c m) l [] (endedC c m)).1 (kA c m (endedC c m) l [] (endedC c m)).2 c), 0) := by
      unfold keepL; rw [if_neg (fun x => x h1), if_neg (fun x => x h2), if_neg (fun x => x h3)]
    rw [hK]
    have hl200 := coos_200 h1
    have hOl := kA_len c m (endedC c m) l [] (endedC c m)
    simp only [List.length_nil, Nat.zero_add] at hOl
    generalize hR : kA c m (endedC c m) l [] (endedC c m) = R at hOl ⊢
    refine LoopW.adj ⟨hct, fol⟩ (by kernel_rfl) [.nv 12 8000 8 (lsF cCoo [])] (fun t : Nat × List Coo × Bool => [(2, .int .i64 m), (4, .ptr 4 0), (10, .bool (endedC c m)), (11, .bool t.2.2), (12, .vec 8000 t.2.1.length), (35, .sl l.length (lsF cCoo l)), (36, .int .i64 l.length), (37, .int .i64 t.1)]) (fun t => [(8000, .vec 8 t.2.1.length (lsF cCoo t.2.1)), (4, .cells [.str c.na, .str c.va, .str c.ho, .bool c.wi, .str c.pa, .bool c.se, .int .i64 c.un, .int .i64 c.si])]) (fun t => t.1 ≤ l.length ∧ t.2.1.length ≤ t.1 ∧ kA c m (endedC c m) (l.drop t.1) t.2.1 t.2.2 = R) (fun t => l.length - t.1) (0, [], endedC c m) ?_ fun t ht => ?_
    · push_cast (config := { maxSteps := 10000000 })
      exact ⟨⟨Nat.zero_le _, hR⟩, rfl⟩
    · obtain ⟨i, o, p⟩ := t
      obtain ⟨i1, i2, i3⟩ : i ≤ l.length ∧ o.length ≤ i ∧ kA c m (endedC c m) (l.drop i) o p = R := ht
      push_cast (config := { maxSteps := 10000000 })
      refine ⟨fun h => ?_, fun h => ?_⟩
      · rw [dropG (d := noCoo) h, kA] at i3
        generalize l.getD i noCoo = d at *
        have hEd : endedC d m = true ↔ ¬ d.un = -1 ∧ d.un ≤ m := by simp only [endedC, Bool.and_eq_true, decide_eq_true_eq, ne_eq]
        have hSm : sameC c d = true ↔ (c.na = d.na ∧ c.ho = d.ho) ∧ c.pa = d.pa := by simp only [sameC, Bool.and_eq_true, beq_iff_eq]
        refine ⟨h, fun a => ⟨a, fun b => ⟨a, b⟩⟩, fun a => ?_, fun a => ⟨fun b => ?_, fun b => ?_⟩⟩
        · rw [if_pos (a.imp hEd.2 fun x => ⟨hSm.2 x.1, x.2⟩)] at i3
          exact ⟨⟨by omega, by omega⟩, ((i + 1, o, p) : Nat × List Coo × Bool), ⟨by show i + 1 ≤ _; omega, by show o.length ≤ i + 1; omega, i3⟩, by show l.length - (i + 1) < l.length - i; omega, ⟨rfl, rfl, by show (i : Int) + 1 = ((i + 1 : Nat) : Int); omega⟩, rfl, fun _ _ => rfl⟩
        · have hn : ¬ (endedC d m = true ∨ (sameC c d = true ∧ endedC c m = true)) := by
            rintro (x | x)
            · have := hEd.1 x; exact a.1 this.1 this.2
            · rw [a.2 (hSm.1 x.1)] at x; exact absurd x.2 (by simp)
          rw [if_neg hn, if_pos (hSm.2 b)] at i3
          have app := LsI.app (c := cCoo) (f := lsF cCoo o) (g := litF [cCoo.enc (setS c d)]) (LsI.ls o) (LsI.one (c := cCoo) (a := setS c d) rfl) rfl
          exact ⟨⟨by omega, by omega⟩, ⟨by omega, by omega⟩, ((i + 1, o ++ [setS c d], true) : Nat × List Coo × Bool), ⟨by show i + 1 ≤ _; omega, by show (o ++ [setS c d]).length ≤ i + 1; simp; omega, i3⟩, by show l.length - (i + 1) < l.length - i; omega, ⟨rfl, by simp, by show (i : Int) + 1 = ((i + 1 : Nat) : Int); omega⟩, by simp, app.2⟩
        · have hn : ¬ (endedC d m = true ∨ (sameC c d = true ∧ endedC c m = true)) := by
            rintro (x | x)
            · have := hEd.1 x; exact a.1 this.1 this.2
            · have := hSm.1 x.1; exact b this.1 this.2
          rw [if_neg hn, if_neg (fun x => by have := hSm.1 x; exact b this.1 this.2)] at i3
          have app := LsI.app (c := cCoo) (f := lsF cCoo o) (g := litF [cCoo.enc d]) (LsI.ls o) (LsI.one (c := cCoo) (a := d) rfl) rfl
          exact ⟨⟨by omega, by omega⟩, ⟨by omega, by omega⟩, ((i + 1, o ++ [d], p) : Nat × List Coo × Bool), ⟨by show i + 1 ≤ _; omega, by show (o ++ [d]).length ≤ i + 1; simp; omega, i3⟩, by show l.length - (i + 1) < l.length - i; omega, ⟨rfl, by simp, by show (i : Int) + 1 = ((i + 1 : Nat) : Int); omega⟩, by simp, app.2⟩
      · rw [List.drop_eq_nil_of_le (by omega), kA] at i3
        subst i3
        simp only at hOl ⊢
        refine ⟨fun hp => ⟨⟨by omega, by omega⟩, fun hb => ?_, fun hb => ?_⟩, fun hp => ⟨fun hb => absurd hb (by omega), fun hb => ?_⟩⟩
        · subst hp
          have eO : finO o false c = o ++ [c] := rfl
          rw [eO]
          have hO : (o ++ [c]).length = o.length + 1 := by simp
          have app := LsI.app (c := cCoo) (f := lsF cCoo o) (g := litF [cCoo.enc c]) (LsI.ls o) (LsI.one (c := cCoo) (a := c) rfl) rfl
          have eF : finL (o ++ [c]) = (o ++ [c]).eraseIdx (leastL (o ++ [c])) := by unfold finL; rw [if_pos (by omega)]
          rw [eF]
          have hd : ∀ i, i < o.length + 1 → appF o.length (lsF cCoo o) (litF [cCoo.enc c]) i = lsF cCoo (o ++ [c]) i := app.2
          generalize o ++ [c] = O at *
          refine LoopW.adj ⟨hct, fol⟩ (by kernel_rfl) [] (fun t : Nat × Nat => [(12, .vec 8000 O.length), (16, .int .i64 t.2), (75, .int .i64 O.length), (76, .int .i64 t.1)]) (fun _ => [(8000, .vec 8 O.length (lsF cCoo O))]) (fun t => t.1 ≤ O.length ∧ t.2 < O.length ∧ leastGo O (O.length - t.1) t.1 t.2 = leastL O) (fun t => O.length - t.1) (0, 0) ?_ fun t ht => ?_
          · push_cast (config := { maxSteps := 10000000 })
            exact ⟨⟨Nat.zero_le _, by omega, rfl⟩, ⟨hO.symm, by omega⟩, hO.symm, hd⟩
          · obtain ⟨i, b⟩ := t
            obtain ⟨j1, j2, j3⟩ : i ≤ O.length ∧ b < O.length ∧ leastGo O (O.length - i) i b = leastL O := ht
            push_cast (config := { maxSteps := 10000000 })
            refine ⟨fun h => ?_, fun h => ?_⟩
            · have e : O.length - i = (O.length - (i + 1)) + 1 := by omega
              rw [e, leastGo] at j3
              refine ⟨h, h, j2, j2, fun g => ?_, fun g => ?_⟩
              · rw [if_pos g] at j3
                exact ⟨⟨by omega, by omega⟩, ((i + 1, i) : Nat × Nat), ⟨by show i + 1 ≤ _; omega, by show i < _; omega, j3⟩, by show O.length - (i + 1) < O.length - i; omega, rfl, by show (i : Int) + 1 = ((i + 1 : Nat) : Int); omega⟩
              · rw [if_neg g] at j3
                exact ⟨⟨by omega, by omega⟩, ((i + 1, b) : Nat × Nat), ⟨by show i + 1 ≤ _; omega, by show b < _; omega, j3⟩, by show O.length - (i + 1) < O.length - i; omega, rfl, by show (i : Int) + 1 = ((i + 1 : Nat) : Int); omega⟩
            · have e : O.length - i = 0 := by omega
              rw [e, leastGo] at j3
              subst j3
              have eL : (O.eraseIdx (leastL O)).length = O.length - 1 := by rw [List.length_eraseIdx, if_pos j2]
              exact ⟨by omega, j2, eL.symm, fun _ _ => rfl⟩
        · subst hp
          have eO : finO o false c = o ++ [c] := rfl
          rw [eO]
          have hO : (o ++ [c]).length = o.length + 1 := by simp
          have app := LsI.app (c := cCoo) (f := lsF cCoo o) (g := litF [cCoo.enc c]) (LsI.ls o) (LsI.one (c := cCoo) (a := c) rfl) rfl
          have eF : finL (o ++ [c]) = o ++ [c] := by unfold finL; rw [if_neg (by omega)]
          rw [eF]
          exact ⟨app.pure (fun _ => rfl), hO.symm, app.2⟩
        · subst hp
          have eF : finL (finO o true c) = o := by show finL o = o; unfold finL; rw [if_neg (by omega)]
          rw [eF]
          exact ⟨rfl, fun _ _ => rfl⟩
  · cases h
attribute [push_cast] ckKeep

theorem kB_len (m : Int) : ∀ (t o : List Coo) (p : Bool) (c : Coo), (kB m t o p c).1.length ≤ o.length + t.length
  | [], o, p, c => by simp [kB]
  | d :: t, o, p, c => by
    rw [kB]
    split
    · have := kB_len m t o p c; simp; omega
    · split
      · split
        · have := kB_len m t o p c; simp; omega
        · have := kB_len m t (o ++ [setS c d]) true (setS c d); simp at this ⊢; omega
      · have := kB_len m t (o ++ [d]) p c; simp at this ⊢; omega
theorem conKeep2 : Con pg 5 ckKeep := by
  have hct := (ctA_ok conCheckCoos2 (ctA_ok conCheckCoo2 (ctA_ok conWithin2b (ctA_ok conEnded2 (ctA_ok conSame2 (ctN_ok _))))))
  intro args q r h hq
  unfold ckKeep at h
  split at h
  · cases h
    rename_i n f x m
    refine pcall_args (args' := [.sl (lsOf cCoo n f).length (lsF cCoo (lsOf cCoo n f)), cCoo.enc (cCoo.dec x), .int .i64 m]) ⟨isLs.vle hq.1, hq.2.1, VLe.refl _, trivial⟩ ?_
    obtain ⟨-, -, hl, hc⟩ := hq
    generalize lsOf cCoo n f = l at hl ⊢
    generalize cCoo.dec x = c at hc ⊢
    refine w5 (fun _ => false) [.frz 8000,.frz 90] rfl hct rfl rfl ?_
    push_cast (config := { maxSteps := 10000000 })
    refine ⟨hl, fun h => by unfold keepL; rw [if_pos h]; exact ⟨rfl, rfl⟩, fun h1 => ⟨hc, fun h => by unfold keepL; rw [if_neg (fun x => x h1), if_pos h]; exact ⟨rfl, rfl⟩, fun h2 => ⟨fun h => by unfold keepL; rw [if_neg (fun x => x h1), if_neg (fun x => x h2), if_pos (fun x => h x.1 x.2)]; exact ⟨rfl, rfl⟩, fun h3 => ?_⟩⟩⟩
    have hK : keepL l c m = (finL (finO (kB m l [] (endedC c m) c).1 (kB m l [] (endedC c m) c).2.1 (kB m l [] (endedC c m) c).2.2), 0) := by
      unfold keepL; rw [if_neg (fun x => x h1), if_neg (fun x => x h2), if_neg (fun x => x h3), keep_ref h1]
    rw [hK]
    have hl200 := coos_200 h1
    have hOl := kB_len m l [] (endedC c m) c
    simp only [List.length_nil, Nat.zero_add] at hOl
    generalize hR : kB m l [] (endedC c m) c = R at hOl ⊢
    refine LoopW.adj ⟨hct, fol⟩ (by kernel_rfl) [.nv 10 8000 8 (lsF cCoo [])] (fun t : Nat × List Coo × Bool × Coo => [(0, .sl l.length (lsF cCoo l)), (2, .int .i64 m), (4, .ptr 4 0), (10, .vec 8000 t.2.1.length), (11, .bool t.2.2.1), (12, .int .i64 t.1)]) (fun t => [(8000, .vec 8 t.2.1.length (lsF cCoo t.2.1)), (4, .cells [.str t.2.2.2.na, .str t.2.2.2.va, .str t.2.2.2.ho, .bool t.2.2.2.wi, .str t.2.2.2.pa, .bool t.2.2.2.se, .int .i64 t.2.2.2.un, .int .i64 t.2.2.2.si])]) (fun t => t.1 ≤ l.length ∧ t.2.1.length ≤ t.1 ∧ kB m (l.drop t.1) t.2.1 t.2.2.1 t.2.2.2 = R) (fun t => l.length - t.1) (0, [], endedC c m, c) ?_ fun t ht => ?_
    · push_cast (config := { maxSteps := 10000000 })
      exact ⟨⟨Nat.zero_le _, hR⟩, rfl⟩
    · obtain ⟨i, o, p, c'⟩ := t
      obtain ⟨i1, i2, i3⟩ : i ≤ l.length ∧ o.length ≤ i ∧ kB m (l.drop i) o p c' = R := ht
      push_cast (config := { maxSteps := 10000000 })
      refine ⟨fun h => ?_, fun h => ?_⟩
      · rw [dropG (d := noCoo) h, kB] at i3
        generalize l.getD i noCoo = d at *
        have hEd : endedC d m = true ↔ ¬ d.un = -1 ∧ d.un ≤ m := by simp only [endedC, Bool.and_eq_true, decide_eq_true_eq, ne_eq]
        have hSm : sameC d c' = true ↔ (d.na = c'.na ∧ d.ho = c'.ho) ∧ d.pa = c'.pa := by simp only [sameC, Bool.and_eq_true, beq_iff_eq]
        refine ⟨h, fun a => ?_, fun a => ⟨fun b => ⟨fun g => ?_, fun g => ?_⟩, fun b => ?_⟩⟩
        · rw [if_pos (hEd.2 a)] at i3
          exact ⟨⟨by omega, by omega⟩, ((i + 1, o, p, c') : Nat × List Coo × Bool × Coo), ⟨by show i + 1 ≤ _; omega, by show o.length ≤ i + 1; omega, i3⟩, by show l.length - (i + 1) < l.length - i; omega, ⟨rfl, rfl, by show (i : Int) + 1 = ((i + 1 : Nat) : Int); omega⟩, ⟨rfl, fun _ _ => rfl⟩, rfl, rfl, rfl, rfl, rfl, rfl, rfl, rfl⟩
        all_goals rw [if_neg (fun x => a (hEd.1 x).1 (hEd.1 x).2)] at i3
        · rw [if_pos (hSm.2 b), if_pos g] at i3
          exact ⟨⟨by omega, by omega⟩, ((i + 1, o, p, c') : Nat × List Coo × Bool × Coo), ⟨by show i + 1 ≤ _; omega, by show o.length ≤ i + 1; omega, i3⟩, by show l.length - (i + 1) < l.length - i; omega, ⟨rfl, rfl, by show (i : Int) + 1 = ((i + 1 : Nat) : Int); omega⟩, ⟨rfl, fun _ _ => rfl⟩, rfl, rfl, rfl, rfl, rfl, rfl, rfl, rfl⟩
        · rw [if_pos (hSm.2 b), if_neg (by rw [g]; simp)] at i3
          have app := LsI.app (c := cCoo) (f := lsF cCoo o) (g := litF [cCoo.enc (setS c' d)]) (LsI.ls o) (LsI.one (c := cCoo) (a := setS c' d) rfl) rfl
          exact ⟨⟨by omega, by omega⟩, ⟨by omega, by omega⟩, ((i + 1, o ++ [setS c' d], true, setS c' d) : Nat × List Coo × Bool × Coo), ⟨by show i + 1 ≤ _; omega, by show (o ++ [setS c' d]).length ≤ i + 1; simp; omega, i3⟩, by show l.length - (i + 1) < l.length - i; omega, ⟨by simp, rfl, by show (i : Int) + 1 = ((i + 1 : Nat) : Int); omega⟩, ⟨by simp, app.2⟩, rfl, rfl, rfl, rfl, rfl, rfl, rfl, rfl⟩
        · rw [if_neg (fun x => b (hSm.1 x).1 (hSm.1 x).2)] at i3
          have app := LsI.app (c := cCoo) (f := lsF cCoo o) (g := litF [cCoo.enc d]) (LsI.ls o) (LsI.one (c := cCoo) (a := d) rfl) rfl
          exact ⟨⟨by omega, by omega⟩, ⟨by omega, by omega⟩, ((i + 1, o ++ [d], p, c') : Nat × List Coo × Bool × Coo), ⟨by show i + 1 ≤ _; omega, by show (o ++ [d]).length ≤ i + 1; simp; omega, i3⟩, by show l.length - (i + 1) < l.length - i; omega, ⟨by simp, rfl, by show (i : Int) + 1 = ((i + 1 : Nat) : Int); omega⟩, ⟨by simp, app.2⟩, rfl, rfl, rfl, rfl, rfl, rfl, rfl, rfl⟩
      · rw [List.drop_eq_nil_of_le (by omega), kB] at i3
        subst i3
        simp only at hOl ⊢
        refine ⟨fun hp => ⟨⟨by omega, by omega⟩, fun hb => ?_, fun hb => ?_⟩, fun hp => ⟨fun hb => ?_, fun hb => absurd hb (by omega)⟩⟩
        · subst hp
          have eO : finO o false c' = o ++ [c'] := rfl
          rw [eO]
          have hO : (o ++ [c']).length = o.length + 1 := by simp
          have app := LsI.app (c := cCoo) (f := lsF cCoo o) (g := litF [cCoo.enc c']) (LsI.ls o) (LsI.one (c := cCoo) (a := c') rfl) rfl
          have eF : finL (o ++ [c']) = o ++ [c'] := by unfold finL; rw [if_neg (by omega)]
          rw [eF]
          exact ⟨app.pure (fun _ => rfl), hO.symm, app.2⟩
        · subst hp
          have eO : finO o false c' = o ++ [c'] := rfl
          rw [eO]
          have hO : (o ++ [c']).length = o.length + 1 := by simp
          have app := LsI.app (c := cCoo) (f := lsF cCoo o) (g := litF [cCoo.enc c']) (LsI.ls o) (LsI.one (c := cCoo) (a := c') rfl) rfl
          have eF : finL (o ++ [c']) = (o ++ [c']).eraseIdx (leastL (o ++ [c'])) := by unfold finL; rw [if_pos (by omega)]
          rw [eF]
          have hd : ∀ i, i < o.length + 1 → appF o.length (lsF cCoo o) (litF [cCoo.enc c']) i = lsF cCoo (o ++ [c']) i := app.2
          have hpu : ∀ i, i < o.length + 1 → (appF o.length (lsF cCoo o) (litF [cCoo.enc c']) i).isPure = true := app.pure (fun _ => rfl)
          generalize o ++ [c'] = O at *
          refine LoopW.adj ⟨hct, fol⟩ (by kernel_rfl) [.frz 8000] (fun t : Nat × Nat => [(10, .sl O.length (lsF cCoo O)), (14, .int .i64 t.2), (15, .int .i64 t.1)]) (fun _ => []) (fun t => t.1 ≤ O.length ∧ t.2 < O.length ∧ leastGo O (O.length - t.1) t.1 t.2 = leastL O) (fun t => O.length - t.1) (0, 0) ?_ fun t ht => ?_
          · push_cast (config := { maxSteps := 10000000 })
            exact ⟨⟨Nat.zero_le _, by omega, rfl⟩, hpu, hO.symm, hd⟩
          · obtain ⟨i, b⟩ := t
            obtain ⟨j1, j2, j3⟩ : i ≤ O.length ∧ b < O.length ∧ leastGo O (O.length - i) i b = leastL O := ht
            push_cast (config := { maxSteps := 10000000 })
            refine ⟨fun h => ?_, fun h => ?_⟩
            · have e : O.length - i = (O.length - (i + 1)) + 1 := by omega
              rw [e, leastGo] at j3
              refine ⟨h, j2, fun g => ?_, fun g => ?_⟩
              · rw [if_pos g] at j3
                exact ⟨⟨by omega, by omega⟩, ((i + 1, i) : Nat × Nat), ⟨by show i + 1 ≤ _; omega, by show i < _; omega, j3⟩, by show O.length - (i + 1) < O.length - i; omega, rfl, by show (i : Int) + 1 = ((i + 1 : Nat) : Int); omega⟩
              · rw [if_neg g] at j3
                exact ⟨⟨by omega, by omega⟩, ((i + 1, b) : Nat × Nat), ⟨by show i + 1 ≤ _; omega, by show b < _; omega, j3⟩, by show O.length - (i + 1) < O.length - i; omega, rfl, by show (i : Int) + 1 = ((i + 1 : Nat) : Int); omega⟩
            · have e : O.length - i = 0 := by omega
              rw [e, leastGo] at j3
              subst j3
              generalize leastL O = b at j2 ⊢
              have k1 := LsI.sh (LsI.ls (c := cCoo) O) (l := 0) (k := b) (by omega)
              have k2 := LsI.sh (LsI.ls (c := cCoo) O) (l := b + 1) (k := O.length - (b + 1)) (by omega)
              have kf1 : ∀ i, i < b → shF (lsF cCoo O) 0 i = lsF cCoo ((O.drop 0).take b) i := k1.2
              have kf2 : ∀ i, i < O.length - (b + 1) → shF (lsF cCoo O) (b + 1) i = lsF cCoo ((O.drop (b + 1)).take (O.length - (b + 1))) i := k2.2
              have k3 : LsI cCoo b (fun i => V.kill 90 (shF (lsF cCoo O) 0 i)) ((O.drop 0).take b) := ⟨k1.1, fun i hi => by show V.kill 90 _ = _; rw [kf1 i hi]; rfl⟩
              have k4 := LsI.app k3 k2 rfl
              have eE : O.eraseIdx b = (O.drop 0).take b ++ (O.drop (b + 1)).take (O.length - (b + 1)) := by
                rw [List.eraseIdx_eq_take_drop_succ, List.drop_zero, List.take_of_length_le (l := O.drop (b + 1)) (by rw [List.length_drop]; omega)]
              rw [eE]
              refine ⟨by omega, ⟨fun i hi => by rw [kf1 i hi]; rfl, by omega, by omega⟩, by omega, ⟨⟨by omega, by omega⟩, by omega⟩, ⟨fun i hi => by rw [kf2 i hi]; rfl, by omega, by omega⟩, k4.pure (fun _ => rfl), k4.1, k4.2⟩
        · subst hp
          have eF : finL (finO o true c') = o := by show finL o = o; unfold finL; rw [if_neg (by omega)]
          rw [eF]
          exact ⟨rfl, fun _ _ => rfl⟩
  · cases h
attribute [push_cast] ckKeep

theorem eq_take {α : Type} [DecidableEq α] {d : α} {a b : List α} (h : a.length = b.length) (hh : ∀ j, j < a.length → a.getD j d = b.getD j d) : a = b := by
  apply List.ext_getElem h
  intro i h1 h2
  have := hh i h1
  rwa [List.getD_eq_getElem?_getD, List.getD_eq_getElem?_getD, List.getElem?_eq_getElem h1, List.getElem?_eq_getElem h2] at this
theorem ne_at {α : Type} {d : α} {a b : List α} {i : Nat} (h : a.getD i d ≠ b.getD i d) : a ≠ b := fun e => h (by rw [e])
def ckEqHd : Ck
  | [.sl n f, .sl m g] => some (isLs cHd n f ∧ isLs cHd m g ∧ n ≤ 4611686018427387904, .bool (decide (lsOf cHd n f = lsOf cHd m g)))
  | _ => none
attribute [push_cast] ckEqHd
end Go.Abs
