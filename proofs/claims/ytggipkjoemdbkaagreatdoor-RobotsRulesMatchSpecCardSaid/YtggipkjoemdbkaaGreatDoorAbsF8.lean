/- what functions of this program compute: contracts, each a function's own -/
import Derived.Test.YtggipkjoemdbkaaGreatDoorAbsK2
import Derived.Test.YtggipkjoemdbkaaGreatDoorAbsFacts
import Derived.Test.YtggipkjoemdbkaaGreatDoorAbsF7
import Derived.Test.YtggipkjoemdbkaaGreatDoorAbsShelf
import Derived.Lib.SplitLaws
import Derived.Lib.SlTrimSet
import Derived.Lib.Atoi
import Derived.Lib.Itoa
import Derived.Lib.ItoaNum
import Derived.Lib.AtoiErrMem
import Derived.Lib.Join
import Derived.Lib.Repeat
namespace Go.Abs
open Go Go.Proofs
set_option maxHeartbeats 4000000
set_option maxRecDepth 100000
set_option linter.unusedVariables false
set_option linter.unusedSimpArgs false
theorem eqR_take {α : Type} {d : α} {a b : List α} (h : a.length = b.length) (hh : ∀ j, j < a.length → a.getD j d = b.getD j d) : a = b := by
  apply List.ext_getElem h
  intro i h1 h2
  have := hh i h1
  rwa [List.getD_eq_getElem?_getD, List.getD_eq_getElem?_getD, List.getElem?_eq_getElem h1, List.getElem?_eq_getElem h2] at this
theorem neR_at {α : Type} {d : α} {a b : List α} {i : Nat} (h : a.getD i d ≠ b.getD i d) : a ≠ b := fun e => h (by rw [e])
def ckEqRul : Ck
  | [.sl n f, .sl m g] => some (isLs cRul n f ∧ isLs cRul m g ∧ n ≤ 4611686018427387904, .bool (decide (lsOf cRul n f = lsOf cRul m g)))
  | _ => none
theorem conEqRul : Con pg 15 ckEqRul := by
  have hct := ctN_ok pg
  intro args q r h hq
  unfold ckEqRul at h
  split at h
  · cases h
    rename_i n f m g
    refine pcall_args (args' := [.sl (lsOf cRul n f).length (lsF cRul (lsOf cRul n f)), .sl (lsOf cRul m g).length (lsF cRul (lsOf cRul m g))]) ⟨isLs.vle hq.1, isLs.vle hq.2.1, trivial⟩ ?_
    have hn : (lsOf cRul n f).length ≤ 4611686018427387904 := by rw [lsOf_len]; exact hq.2.2
    generalize lsOf cRul n f = a at hn ⊢
    generalize lsOf cRul m g = b
    refine w15 (fun _ => false) [] rfl hct rfl rfl ?_
    push_cast (config := { maxSteps := 10000000 })
    refine ⟨fun h => ?_, fun h => ?_⟩
    · exact (decide_eq_false fun e => h (by rw [e])).symm
    refine LoopW.adj ⟨hct, fol⟩ (by kernel_rfl) [] (fun i : Nat => [(0, .sl a.length (lsF cRul a)), (1, .sl b.length (lsF cRul b)), (12, .int .i64 a.length), (13, .int .i64 i)]) (fun _ => []) (fun i => i ≤ a.length ∧ ∀ j, j < i → a.getD j noRul = b.getD j noRul) (fun i => a.length - i) 0 ?_ fun i hi => ?_
    · push_cast (config := { maxSteps := 10000000 })
      exact Nat.zero_le _
    · push_cast (config := { maxSteps := 10000000 })
      obtain ⟨h1, h2⟩ := hi
      refine ⟨fun hlt => ⟨hlt, by omega, fun hne => ?_, fun he => ⟨by omega, i + 1, ⟨by omega, fun j hj => ?_⟩, by omega, by omega⟩⟩, fun hge => ?_⟩
      · exact (decide_eq_false (neR_at (d := noRul) (i := i) fun e => hne (by rw [e]) (by rw [e]))).symm
      · by_cases e : j = i
        · subst e
          have e1 : ∀ x y : Rul, x.al = y.al → x.pa = y.pa → x = y := fun x y h h' => by cases x; cases y; simp_all
          exact e1 _ _ he.1 he.2
        · exact h2 j (by omega)
      · exact (decide_eq_true (eqR_take (d := noRul) (by omega) fun j hj => h2 j (by omega))).symm
  · cases h
attribute [push_cast] ckEqRul

def ckLawRU : Ck
  | [x, .str a, .agg [.str sc, .str ho, .str po, .str pa, .str qu, .bool hq, .str fr, .bool hf]] => some (isC cRob x ∧ robOk (cRob.dec x) ∧ a.length ≤ 140737488355328 ∧ adrOk ⟨sc, ho, po, pa, qu, hq, fr, hf⟩, .bool true)
  | _ => none
theorem conLawRU : Con pg 4 ckLawRU := by
  have hct := (ctA_ok conRulesF (ctA_ok conRulesF4 (ctA_ok conEqRul (ctA_ok conDecF (ctA_ok conDecF4 (ctA_ok conAwake4 (ctN_ok _)))))))
  intro args q r h hq
  unfold ckLawRU at h
  split at h
  · cases h
    rename_i x a sc ho po pa qu hq1 fr hf
    refine pcall_args (args' := [cRob.enc (cRob.dec x), .str a, .agg [.str sc, .str ho, .str po, .str pa, .str qu, .bool hq1, .str fr, .bool hf]]) ⟨hq.1, VLe.refl _, VLe.refl _, trivial⟩ ?_
    obtain ⟨-, ok, ha, hx⟩ := hq
    generalize cRob.dec x = r at ok ⊢
    refine w4 (fun _ => false) [] rfl hct rfl rfl ?_
    push_cast (config := { maxSteps := 10000000 })
    refine ⟨⟨ok, ha⟩, ⟨ok, ha⟩, ?_, ok, ha, hx⟩
    split
    · rename_i h
      have := (rules_b a (agE_rob h).1).1
      omega
    · simp
  · cases h
attribute [push_cast] ckLawRU
theorem allLawRU {H : Type} (ds : List (DataW H)) (hh : hasD [sRob, .str, .tup [.str, .str, .str, .str, .str, .bool, .str, .bool]] ds) : PCall pg 4 (ds.map toV) (.bool true) := by
  obtain ⟨d1, d2, d3, rfl, x, y, z⟩ := hasD3 hh
  obtain ⟨i1, k1⟩ := shRob x
  obtain ⟨a, e2, b2⟩ := shStr y
  obtain ⟨y, e3, b3⟩ := shAdr z
  simp only [List.map_cons, List.map_nil, e2, e3]
  exact conLawRU _ _ _ rfl ⟨i1, k1, b2, b3⟩

end Go.Abs
