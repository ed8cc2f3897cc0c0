/- what functions of this program compute: contracts, each a function's own -/
import Derived.Test.YtkpecjbbmadlcaaGreatDoorAbsK3
import Derived.Test.YtkpecjbbmadlcaaGreatDoorAbsFacts
import Derived.Test.YtkpecjbbmadlcaaGreatDoorAbsF8
import Derived.Test.YtkpecjbbmadlcaaGreatDoorAbsShelf
import Derived.Lib.SplitLaws
import Derived.Lib.SlTrimSet
import Derived.Lib.Atoi
import Derived.Lib.Itoa
import Derived.Lib.ItoaNum
import Derived.Lib.ItoaLen
import Derived.Lib.Replace
import Derived.Lib.ReplaceLaws
import Derived.Lib.AtoiErrMem
import Derived.Lib.Overlaps
import Derived.Deep.AppendSrc
import Derived.Laws.NewBlocks
import Derived.WalkKit
import Derived.Lib.Walk
import Derived.Lib.AppendStr
import Derived.Lib.AppendZeros
import Derived.Lib.UnsafeStr
import Derived.Lib.Builder
import Derived.Laws.Externs
import Derived.Lib.Repeat
import Derived.Lib.Join
namespace Go.Abs
open Go Go.Proofs
set_option maxHeartbeats 4000000
set_option maxRecDepth 100000
set_option linter.unusedVariables false
set_option linter.unusedSimpArgs false
theorem eqR_take {α : Type} {d : α} {a b : List α} (h : a.length = b.length) (hh : ∀ j, j < a.length → a.getD j d = b.getD j d) : a = b := by
  apply List.ext_getElem h
  intro i h1 h2
  have := hh i h1
  rwa [List.getD_eq_getElem?_getD, List.getD_eq_getElem?_getD, List.getElem?_eq_getElem h1, List.getElem?_eq_getElem h2] at this
theorem neR_at {α : Type} {d : α} {a b : List α} {i : Nat} (h : a.getD i d ≠ b.getD i d) : a ≠ b := fun e => h (by rw [e])
def ckEqRul : Ck
  | [.sl n f, .sl m g] => some (isLs cRul n f ∧ isLs cRul m g ∧ n ≤ 4611686018427387904, .bool (decide (lsOf cRul n f = lsOf cRul m g)))
  | _ => none
theorem conEqRul : Con pg 48 ckEqRul := by
  have hct := ctN_ok pg
  intro args q r h hq
  unfold ckEqRul at h
  split at h
  · cases h
    rename_i n f m g
    refine pcall_args (args' := [.sl (lsOf cRul n f).length (lsF cRul (lsOf cRul n f)), .sl (lsOf cRul m g).length (lsF cRul (lsOf cRul m g))]) ⟨isLs.vle hq.1, isLs.vle hq.2.1, trivial⟩ ?_
    have hn : (lsOf cRul n f).length ≤ 4611686018427387904 := by rw [lsOf_len]; exact hq.2.2
    generalize lsOf cRul n f = a at hn ⊢
    generalize lsOf cRul m g = b
    refine w48 (fun _ => false) [] rfl hct rfl rfl ?_
    push_cast (config := { maxSteps := 10000000 })
    refine ⟨fun h => ?_, fun h => ?_⟩
    · exact (decide_eq_false fun e => h (by rw [e])).symm
    refine LoopW.adj ⟨hct, fol⟩ (by kernel_rfl) [] (fun i : Nat => [(0, .sl a.length (lsF cRul a)), (1, .sl b.length (lsF cRul b)), (12, .int .i64 a.length), (13, .int .i64 i)]) (fun _ => []) (fun i => i ≤ a.length ∧ ∀ j, j < i → a.getD j noRul = b.getD j noRul) (fun i => a.length - i) 0 ?_ fun i hi => ?_
    · push_cast (config := { maxSteps := 10000000 })
      exact Nat.zero_le _
    · push_cast (config := { maxSteps := 10000000 })
      obtain ⟨h1, h2⟩ := hi
      refine ⟨fun hlt => ⟨hlt, by omega, fun hne => ?_, fun he => ⟨by omega, i + 1, ⟨by omega, fun j hj => ?_⟩, by omega, by omega⟩⟩, fun hge => ?_⟩
      · exact (decide_eq_false (neR_at (d := noRul) (i := i) fun e => hne (by rw [e]) (by rw [e]))).symm
      · by_cases e : j = i
        · subst e
          have e1 : ∀ x y : Rul, x.al = y.al → x.pa = y.pa → x = y := fun x y h h' => by cases x; cases y; simp_all
          exact e1 _ _ he.1 he.2
        · exact h2 j (by omega)
      · exact (decide_eq_true (eqR_take (d := noRul) (by omega) fun j hj => h2 j (by omega))).symm
  · cases h
attribute [push_cast] ckEqRul

attribute [push_cast] ckNeed
def ckSameG : Ck
  | [.sl n f, .sl m g] => some (isLs cGrp n f ∧ isLs cGrp m g ∧ n ≤ 140737488355328 ∧ (∀ x ∈ lsOf cGrp n f, grpOk x) ∧ (∀ x ∈ lsOf cGrp m g, grpOk x), .bool (decide (lsOf cGrp n f = lsOf cGrp m g)))
  | _ => none
theorem conSameG : Con pg 25 ckSameG := by
  have hct := (ctA_ok conEqStr (ctA_ok conEqRul (ctN_ok _)))
  intro args q r h hq
  unfold ckSameG at h
  split at h
  · cases h
    rename_i n f m g
    refine pcall_args (args' := [.sl (lsOf cGrp n f).length (lsF cGrp (lsOf cGrp n f)), .sl (lsOf cGrp m g).length (lsF cGrp (lsOf cGrp m g))]) ⟨isLs.vle hq.1, isLs.vle hq.2.1, trivial⟩ ?_
    obtain ⟨-, -, hn, h1, h2⟩ := hq
    have hlen : (lsOf cGrp n f).length = n := lsOf_len n f
    rw [← hlen] at hn
    generalize lsOf cGrp n f = a at hn h1 ⊢
    generalize lsOf cGrp m g = b at h2 ⊢
    refine w25 (fun _ => false) [] rfl hct rfl rfl ?_
    push_cast (config := { maxSteps := 10000000 })
    refine ⟨fun h => ?_, fun h => ?_⟩
    · exact (decide_eq_false fun e => h (by rw [e])).symm
    refine LoopW.adj ⟨hct, fol⟩ (by kernel_rfl) [] (fun i : Nat => [(0, .sl a.length (lsF cGrp a)), (1, .sl b.length (lsF cGrp b)), (12, .int .i64 a.length), (13, .int .i64 i)]) (fun _ => []) (fun i => i ≤ a.length ∧ ∀ j, j < i → a.getD j noGrp = b.getD j noGrp) (fun i => a.length - i) 0 ?_ fun i hi => ?_
    · push_cast (config := { maxSteps := 10000000 })
      exact Nat.zero_le _
    · push_cast (config := { maxSteps := 10000000 })
      obtain ⟨i1, i2⟩ := hi
      have eg : ∀ x y : Grp, x.de = y.de → x.ag = y.ag → x.ru = y.ru → x = y := fun x y h h' h'' => by cases x; cases y; simp_all
      refine ⟨fun hlt => ?_, fun hge => ?_⟩
      · have g1 := h1 _ (mem_at (d := noGrp) hlt)
        have g1a := g1.1
        have g1b := g1.2.2.1
        refine ⟨hlt, by omega, fun h => ⟨h, hlt⟩, fun h => ⟨h, by omega⟩, fun h => ⟨h, by omega⟩, fun h => ⟨h, hlt⟩, fun h => ⟨h, by omega⟩, fun h => ⟨h, by omega⟩, fun h => ?_, fun h => ⟨by omega, i + 1, ⟨by omega, fun j hj => ?_⟩, by omega, by omega⟩⟩
        · refine (decide_eq_false fun e => ?_).symm
          subst e
          rcases h with (h | h) | h <;> exact h rfl
        · by_cases e : j = i
          · subst e; exact eg _ _ h.1.1 h.1.2 h.2
          · exact i2 j (by omega)
      · exact (decide_eq_true (eqR_take (d := noGrp) (by omega) fun j hj => i2 j (by omega))).symm
  · cases h
attribute [push_cast] ckSameG
def ckSame : Ck
  | [x, y] => some (isC cRob x ∧ isC cRob y ∧ robOk (cRob.dec x) ∧ robOk (cRob.dec y), .bool (decide (cRob.dec x = cRob.dec y)))
  | _ => none
theorem conSame : Con pg 10 ckSame := by
  have hct := (ctA_ok conSameG (ctA_ok conEqStr (ctN_ok _)))
  intro args q r h hq
  unfold ckSame at h
  split at h
  · cases h
    rename_i x y
    refine pcall_args (args' := [cRob.enc (cRob.dec x), cRob.enc (cRob.dec y)]) ⟨hq.1, hq.2.1, trivial⟩ ?_
    obtain ⟨-, -, o1, o2⟩ := hq
    generalize cRob.dec x = r at o1 ⊢
    generalize cRob.dec y = s at o2 ⊢
    refine w10 (fun _ => false) [] rfl hct rfl rfl ?_
    push_cast (config := { maxSteps := 10000000 })
    refine ⟨⟨o1.1, o1.2.1, o2.2.1⟩, fun h => ⟨h, by have := o1.2.2.1; omega⟩, ?_⟩
    have e : r = s ↔ r.gr = s.gr ∧ r.ma = s.ma := by
      cases r; cases s; simp
    rw [Bool.eq_iff_iff, Bool.and_eq_true, decide_eq_true_eq, decide_eq_true_eq, decide_eq_true_eq, e]
  · cases h
attribute [push_cast] ckSame

def ckLawRT : Ck
  | [x] => some (isC cRob x ∧ robOk (cRob.dec x), .bool true)
  | _ => none
theorem conLawRT : Con pg 3 ckLawRT := by
  have hct := (ctA_ok conText (ctA_ok conText4 (ctA_ok conAwake4 (ctA_ok conReadR (ctA_ok conSame (ctN_ok _))))))
  intro args q r h hq
  unfold ckLawRT at h
  split at h
  · cases h
    rename_i x
    refine pcall_args (args' := [cRob.enc (cRob.dec x)]) ⟨hq.1, trivial⟩ ?_
    obtain ⟨-, ok⟩ := hq
    generalize cRob.dec x = r at ok ⊢
    have hb := text_back (r := r)
    refine w3 (fun _ => false) [] rfl hct rfl rfl ?_
    push_cast (config := { maxSteps := 10000000 })
    refine ⟨ok, ok, fun h => ?_⟩
    obtain ⟨b1, b2⟩ := hb h
    rw [b1]
    exact ⟨by omega, fun _ => ⟨rfl, ok, ok⟩, rfl, rfl⟩
  · cases h
attribute [push_cast] ckLawRT
theorem allLawRT {H : Type} (ds : List (DataW H)) (hh : hasD [sRob] ds) : PCall pg 3 (ds.map toV) (.bool true) := by
  obtain ⟨d1, rfl, x⟩ := hasD1 hh
  obtain ⟨i1, k1⟩ := shRob x
  simp only [List.map_cons, List.map_nil]
  exact conLawRT _ _ _ rfl ⟨i1, k1⟩

end Go.Abs
