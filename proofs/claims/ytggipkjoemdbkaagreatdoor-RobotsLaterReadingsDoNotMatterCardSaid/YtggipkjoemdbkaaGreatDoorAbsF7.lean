/- what functions of this program compute: contracts, each a function's own -/
import Derived.Test.YtggipkjoemdbkaaGreatDoorAbsK2
import Derived.Test.YtggipkjoemdbkaaGreatDoorAbsFacts
import Derived.Test.YtggipkjoemdbkaaGreatDoorAbsF6
import Derived.Test.YtggipkjoemdbkaaGreatDoorAbsShelf
import Derived.Lib.SplitLaws
import Derived.Lib.SlTrimSet
import Derived.Lib.Atoi
import Derived.Lib.Itoa
import Derived.Lib.ItoaNum
import Derived.Lib.AtoiErrMem
import Derived.Lib.Join
import Derived.Lib.Repeat
import Derived.Lib.Walk
namespace Go.Abs
open Go Go.Proofs
set_option maxHeartbeats 4000000
set_option maxRecDepth 100000
set_option linter.unusedVariables false
set_option linter.unusedSimpArgs false
def ckAgE : Ck
  | [x, .str a] => some (isC cRob x ∧ robOk (cRob.dec x) ∧ a.length ≤ 140737488355328, .int .i64 (agE (cRob.dec x) a))
  | _ => none
theorem conAgE : Con pg 40 ckAgE := by
  have hct := (ctA_ok conCheckRob (ctA_ok conIsAgent (ctN_ok _)))
  intro args q r h hq
  unfold ckAgE at h
  split at h
  · cases h
    rename_i x a
    refine pcall_args (args' := [cRob.enc (cRob.dec x), .str a]) ⟨hq.1, VLe.refl _, trivial⟩ ?_
    obtain ⟨-, ok, ha⟩ := hq
    generalize cRob.dec x = r at ok ⊢
    refine w40 (fun _ => false) [] rfl hct rfl rfl ?_
    push_cast (config := { maxSteps := 10000000 })
    unfold agE
    refine ⟨ok, fun h => by rw [if_neg h], fun h => ⟨ha, fun h2 => ?_, fun h2 => ?_⟩⟩
    · rw [if_pos h, if_neg ?_]
      rintro ⟨x, y⟩
      rcases h2 with h2 | h2
      · rw [h2] at x; cases x
      · exact y h2
    · rw [if_pos h, if_pos h2]
  · cases h
attribute [push_cast] ckAgE
def ckRulesS : Ck
  | [x, .str a] => some (isC cRob x ∧ robOk (cRob.dec x) ∧ checkRobL (cRob.dec x) = 0 ∧ a = [42], .tup [.sl (rulesL (cRob.dec x) [42]).1.length (lsF cRul (rulesL (cRob.dec x) [42]).1), .int .i64 (rulesL (cRob.dec x) [42]).2])
  | _ => none
theorem conRulesS : Con pg 41 ckRulesS := by
  have hct := (ctA_ok conCtnS (ctN_ok _))
  intro args q r h hq
  unfold ckRulesS at h
  split at h
  · cases h
    rename_i x a
    refine pcall_args (args' := [cRob.enc (cRob.dec x), .str a]) ⟨hq.1, VLe.refl _, trivial⟩ ?_
    obtain ⟨-, ok, hc, rfl⟩ := hq
    generalize cRob.dec x = r at ok hc ⊢
    refine w41 (fun _ => false) [.frz 8000] rfl hct rfl rfl ?_
    push_cast (config := { maxSteps := 10000000 })
    obtain ⟨o1, o2, o3, o4⟩ := ok
    obtain ⟨c1, c2, -, -⟩ := rob_ok hc
    have eR : rulesL r [42] = (rulG r.gr [42], delG r.gr [42]) := by unfold rulesL; split <;> rfl
    rw [eR]
    refine LoopW.adj ⟨hct, fol⟩ (by kernel_rfl) [.nv 6 8000 2 (lsF cRul [])] (fun i : Nat => [(1, .str [42]), (2, .ptr 2 0), (6, .vec 8000 (rulG (r.gr.take i) [42]).length), (7, .int .i64 (delG (r.gr.take i) [42])), (8, .bool (namG (r.gr.take i) [42])), (12, .sl r.gr.length (lsF cGrp r.gr)), (13, .int .i64 r.gr.length), (14, .int .i64 i)]) (fun i => [(2, .cells [.sl r.gr.length (lsF cGrp r.gr), .sl r.ma.length (lsF cStr r.ma)]), (8000, .vec 2 (rulG (r.gr.take i) [42]).length (lsF cRul (rulG (r.gr.take i) [42])))]) (fun i => i ≤ r.gr.length) (fun i => r.gr.length - i) 0 ?_ fun i hi => ?_
    · push_cast (config := { maxSteps := 10000000 })
      exact ⟨Nat.zero_le _, ⟨rfl, rfl, rfl⟩, rfl⟩
    · push_cast (config := { maxSteps := 10000000 })
      refine ⟨fun hlt => ?_, fun hge => ?_⟩
      · have hg := o2 _ (mem_at hlt (d := noGrp))
        have hk := grp_ok (c2 _ (mem_at hlt (d := noGrp)))
        have tb := rulG_b (G := r.gr.take i) [42] fun g hg => c2 g (List.mem_of_mem_take hg)
        have hk2 := hk.2.2.2.1
        have tb2 := tb.1
        have tl : (r.gr.take i).length ≤ 100 := by rw [List.length_take]; omega
        have e1 := rulG_s r.gr [42] hlt
        have e2 := delG_s r.gr [42] hlt
        have e3 := namG_s r.gr [42] hlt
        refine ⟨hlt, by have := hg.1; omega, fun h => ?_, fun h => ?_⟩
        · rw [if_pos h] at e1 e2
          rw [h, Bool.or_true] at e3
          refine ⟨⟨by omega, by omega⟩, by omega, i + 1, by omega, by omega, ⟨by rw [e1, List.length_append], e2.symm, e3.symm, by omega⟩, by rw [e1, List.length_append], fun j hj => ?_⟩
          rw [e1]
          exact (LsI.app (c := cRul) (f := lsF cRul (rulG (r.gr.take i) [42])) (g := lsF cRul (r.gr.getD i noGrp).ru) (LsI.ls _) (LsI.ls _) rfl).2 j hj
        · rw [if_neg (by rw [h]; simp)] at e1 e2
          rw [h, Bool.or_false] at e3
          exact ⟨by omega, i + 1, by omega, by omega, ⟨by rw [e1], e2.symm, e3.symm, by omega⟩, by rw [e1], fun j hj => by rw [e1]⟩
      · obtain rfl : i = r.gr.length := by omega
        rw [List.take_length]
        exact ⟨⟨rfl, fun _ _ => rfl⟩, rfl⟩
  · cases h
attribute [push_cast] ckRulesS
def ckRules : Ck
  | [x, .str a] => some (isC cRob x ∧ robOk (cRob.dec x) ∧ checkRobL (cRob.dec x) = 0, .tup [.sl (rulesL (cRob.dec x) a).1.length (lsF cRul (rulesL (cRob.dec x) a).1), .int .i64 (rulesL (cRob.dec x) a).2])
  | _ => none
theorem conRules : Con pg 41 ckRules := by
  have hct := (ctA_ok conCtnS (ctA_ok conRulesS (ctN_ok _)))
  intro args q r h hq
  unfold ckRules at h
  split at h
  · cases h
    rename_i x a
    refine pcall_args (args' := [cRob.enc (cRob.dec x), .str a]) ⟨hq.1, VLe.refl _, trivial⟩ ?_
    obtain ⟨-, ok, hc⟩ := hq
    generalize cRob.dec x = r at ok hc ⊢
    refine w41 (fun _ => false) [.frz 8000] rfl hct rfl rfl ?_
    push_cast (config := { maxSteps := 10000000 })
    obtain ⟨o1, o2, o3, o4⟩ := ok
    obtain ⟨c1, c2, -, -⟩ := rob_ok hc
    refine LoopW.adj ⟨hct, fol⟩ (by kernel_rfl) [.nv 6 8000 2 (lsF cRul [])] (fun i : Nat => [(1, .str a), (2, .ptr 2 0), (6, .vec 8000 (rulG (r.gr.take i) a).length), (7, .int .i64 (delG (r.gr.take i) a)), (8, .bool (namG (r.gr.take i) a)), (12, .sl r.gr.length (lsF cGrp r.gr)), (13, .int .i64 r.gr.length), (14, .int .i64 i)]) (fun i => [(2, .cells [.sl r.gr.length (lsF cGrp r.gr), .sl r.ma.length (lsF cStr r.ma)]), (8000, .vec 2 (rulG (r.gr.take i) a).length (lsF cRul (rulG (r.gr.take i) a)))]) (fun i => i ≤ r.gr.length) (fun i => r.gr.length - i) 0 ?_ fun i hi => ?_
    · push_cast (config := { maxSteps := 10000000 })
      exact ⟨Nat.zero_le _, ⟨rfl, rfl, rfl⟩, rfl⟩
    · push_cast (config := { maxSteps := 10000000 })
      refine ⟨fun hlt => ?_, fun hge => ?_⟩
      · have hg := o2 _ (mem_at hlt (d := noGrp))
        have hk := grp_ok (c2 _ (mem_at hlt (d := noGrp)))
        have tb := rulG_b (G := r.gr.take i) a fun g hg => c2 g (List.mem_of_mem_take hg)
        have hk2 := hk.2.2.2.1
        have tb2 := tb.1
        have tl : (r.gr.take i).length ≤ 100 := by rw [List.length_take]; omega
        have e1 := rulG_s r.gr a hlt
        have e2 := delG_s r.gr a hlt
        have e3 := namG_s r.gr a hlt
        refine ⟨hlt, by have := hg.1; omega, fun h => ?_, fun h => ?_⟩
        · rw [if_pos h] at e1 e2
          rw [h, Bool.or_true] at e3
          refine ⟨⟨by omega, by omega⟩, by omega, i + 1, by omega, by omega, ⟨by rw [e1, List.length_append], e2.symm, e3.symm, by omega⟩, by rw [e1, List.length_append], fun j hj => ?_⟩
          rw [e1]
          exact (LsI.app (c := cRul) (f := lsF cRul (rulG (r.gr.take i) a)) (g := lsF cRul (r.gr.getD i noGrp).ru) (LsI.ls _) (LsI.ls _) rfl).2 j hj
        · rw [if_neg (by rw [h]; simp)] at e1 e2
          rw [h, Bool.or_false] at e3
          exact ⟨by omega, i + 1, by omega, by omega, ⟨by rw [e1], e2.symm, e3.symm, by omega⟩, by rw [e1], fun j hj => by rw [e1]⟩
      · obtain rfl : i = r.gr.length := by omega
        rw [List.take_length]
        refine ⟨fun h => ⟨⟨⟨o1, o2, o3, o4⟩, hc⟩, ?_⟩, fun h => ?_⟩
        · have e : rulesL r a = rulesL r [42] := by
            unfold rulesL
            rw [if_neg (by rw [h.1]; simp)]
            split <;> rfl
          rw [e]
          exact ⟨⟨rfl, fun _ _ => rfl⟩, rfl⟩
        · have e : rulesL r a = (rulG r.gr a, delG r.gr a) := by
            unfold rulesL
            by_cases hn : namG r.gr a = true
            · rw [if_pos hn]
            · rw [if_neg hn, h (by simpa using hn)]
          rw [e]
          exact ⟨⟨rfl, fun _ _ => rfl⟩, rfl⟩
  · cases h
attribute [push_cast] ckRules
def ckDec : Ck
  | [.sl n f, .str p] => some (isLs cRul n f ∧ n ≤ 20000 ∧ (∀ x ∈ lsOf cRul n f, patOk x.pa = true) ∧ p.length ≤ 1048000, .int .i64 (decL (lsOf cRul n f) p))
  | _ => none
theorem conDec : Con pg 45 ckDec := by
  have hct := (ctA_ok conMatch (ctN_ok _))
  intro args q r h hq
  unfold ckDec at h
  split at h
  · cases h
    rename_i n f p
    refine pcall_args (args' := [.sl (lsOf cRul n f).length (lsF cRul (lsOf cRul n f)), .str p]) ⟨isLs.vle hq.1, VLe.refl _, trivial⟩ ?_
    obtain ⟨hL, hn, hp, hl⟩ := hq
    have hlen : (lsOf cRul n f).length = n := lsOf_len n f
    rw [← hlen] at hn
    generalize lsOf cRul n f = l at hn hp ⊢
    refine w45 (fun _ => false) [] rfl hct rfl rfl ?_
    push_cast (config := { maxSteps := 10000000 })
    refine LoopW.adj ⟨hct, fol⟩ (by kernel_rfl) [] (fun i : Nat => [(0, .sl l.length (lsF cRul l)), (1, .str p), (5, .int .i64 (decG l p i)), (8, .sl l.length (lsF cRul l)), (9, .int .i64 l.length), (10, .int .i64 i)]) (fun _ => []) (fun i => i ≤ l.length) (fun i => l.length - i) 0 ?_ fun i hi => ?_
    · push_cast (config := { maxSteps := 10000000 })
      exact ⟨Nat.zero_le _, rfl⟩
    · push_cast (config := { maxSteps := 10000000 })
      have db := decG_b l p i
      refine ⟨fun hlt => ?_, fun hge => ?_⟩
      · have hpt := pat_len (hp _ (mem_at hlt (d := noRul)))
        have eD : decG l p (i + 1) = if matchesB (l.getD i noRul).pa p = true ∧ betB l (decG l p i) i = true then (i : Int) else decG l p i := rfl
        have eB : betB l (decG l p i) i = true ↔ (decG l p i < 0 ∨ (l.getD (decG l p i).toNat noRul).pa.length < (l.getD i noRul).pa.length) ∨ ((l.getD i noRul).pa.length = (l.getD (decG l p i).toNat noRul).pa.length ∧ (l.getD i noRul).al = true) ∧ (l.getD (decG l p i).toNat noRul).al = false := by
          unfold betB
          simp only [Bool.or_eq_true, Bool.and_eq_true, decide_eq_true_eq, Bool.not_eq_true']
        have eY : matchesB (l.getD i noRul).pa p = true → ((decG l p i < 0 ∨ (l.getD (decG l p i).toNat noRul).pa.length < (l.getD i noRul).pa.length) ∨ ((l.getD i noRul).pa.length = (l.getD (decG l p i).toNat noRul).pa.length ∧ (l.getD i noRul).al = true) ∧ (l.getD (decG l p i).toNat noRul).al = false) → (i : Int) = decG l p (i + 1) := fun h1 h2 => by rw [eD, if_pos ⟨h1, eB.2 h2⟩]
        have eN : (matchesB (l.getD i noRul).pa p = false ∨ ¬ ((decG l p i < 0 ∨ (l.getD (decG l p i).toNat noRul).pa.length < (l.getD i noRul).pa.length) ∨ ((l.getD i noRul).pa.length = (l.getD (decG l p i).toNat noRul).pa.length ∧ (l.getD i noRul).al = true) ∧ (l.getD (decG l p i).toNat noRul).al = false)) → decG l p i = decG l p (i + 1) := fun h => by
          rw [eD, if_neg]
          rintro ⟨h1, h2⟩
          rcases h with h | h
          · rw [h] at h1; cases h1
          · exact h (eB.1 h2)
        clear eD eB
        generalize decG l p i = D at *
        generalize (l.getD D.toNat noRul).pa.length = x1 at *
        generalize (l.getD i noRul).pa.length = x2 at *
        generalize (l.getD D.toNat noRul).al = b1 at *
        generalize (l.getD i noRul).al = b2 at *
        refine ⟨hlt, by omega, fun hm => ⟨by omega, i + 1, by omega, by omega, eN (.inl hm), by omega⟩, fun hm => ?_⟩
        refine ⟨by omega, by omega, by grind, by grind, by grind, fun h => ⟨by omega, i + 1, by omega, by omega, eY hm h, by omega⟩, fun h => ⟨by omega, i + 1, by omega, by omega, eN (.inr (by grind)), by omega⟩⟩
      · obtain rfl : i = l.length := by omega
        rfl
  · cases h
attribute [push_cast] ckDec
def ckRulesF : Ck
  | [x, .str a] => some (isC cRob x ∧ robOk (cRob.dec x) ∧ a.length ≤ 140737488355328, .tup [.sl (if agE (cRob.dec x) a = 0 then (rulesL (cRob.dec x) a).1 else []).length (lsF cRul (if agE (cRob.dec x) a = 0 then (rulesL (cRob.dec x) a).1 else [])), .int .i64 (if agE (cRob.dec x) a = 0 then (rulesL (cRob.dec x) a).2 else 0), .int .i64 (agE (cRob.dec x) a)])
  | _ => none
theorem agE_rob {r : Rob} {a : List UInt8} (h : agE r a = 0) : checkRobL r = 0 ∧ agentL a = true := by
  unfold agE at h
  by_cases h1 : checkRobL r = 0
  · rw [if_pos h1] at h
    refine ⟨h1, Classical.byContradiction fun h2 => ?_⟩
    rw [if_neg (fun y => h2 y.1)] at h; cases h
  · rw [if_neg h1] at h; exact absurd h h1
theorem conRulesF : Con pg 13 ckRulesF := by
  have hct := (ctA_ok conAgE (ctA_ok conRules (ctN_ok _)))
  intro args q r h hq
  unfold ckRulesF at h
  split at h
  · cases h
    rename_i x a
    refine pcall_args (args' := [cRob.enc (cRob.dec x), .str a]) ⟨hq.1, VLe.refl _, trivial⟩ ?_
    obtain ⟨-, ok, ha⟩ := hq
    generalize cRob.dec x = r at ok ⊢
    refine w13 (fun _ => false) [] rfl hct rfl rfl ?_
    push_cast (config := { maxSteps := 10000000 })
    refine ⟨⟨ok, ha⟩, fun h => ?_, fun h => ?_⟩
    · rw [if_neg h, if_neg h]; exact ⟨rfl, rfl⟩
    · rw [if_pos h, if_pos h]; exact ⟨⟨ok, (agE_rob h).1⟩, ⟨rfl, fun _ _ => rfl⟩, rfl, h.symm⟩
  · cases h
attribute [push_cast] ckRulesF
def ckPer : Ck
  | [x, .str a, .str p] => some (isC cRob x ∧ robOk (cRob.dec x) ∧ checkRobL (cRob.dec x) = 0 ∧ p.length ≤ 1048000, .bool (perL (cRob.dec x) a p))
  | _ => none
theorem conPer : Con pg 49 ckPer := by
  have hct := (ctA_ok conRules (ctA_ok conDec (ctN_ok _)))
  intro args q r h hq
  unfold ckPer at h
  split at h
  · cases h
    rename_i x a p
    refine pcall_args (args' := [cRob.enc (cRob.dec x), .str a, .str p]) ⟨hq.1, VLe.refl _, VLe.refl _, trivial⟩ ?_
    obtain ⟨-, ok, hc, hp⟩ := hq
    generalize cRob.dec x = r at ok hc ⊢
    obtain ⟨b1, b2, b3, b4⟩ := rules_b a hc
    refine w49 (fun _ => false) [] rfl hct rfl rfl ?_
    push_cast (config := { maxSteps := 10000000 })
    have db := decG_b (rulesL r a).1 p (rulesL r a).1.length
    have db2 : decL (rulesL r a).1 p = decG (rulesL r a).1 p (rulesL r a).1.length := rfl
    refine ⟨⟨ok, hc⟩, ⟨b1, b2, hp⟩, fun h => ⟨h, by omega, by omega⟩, ?_⟩
    unfold perL
    rw [Bool.or_assoc]; rfl
  · cases h
attribute [push_cast] ckPer
def ckPermits : Ck
  | [x, .str a, .agg [.str sc, .str ho, .str po, .str pa, .str qu, .bool hq, .str fr, .bool hf]] => some (isC cRob x ∧ robOk (cRob.dec x) ∧ a.length ≤ 140737488355328 ∧ adrOk ⟨sc, ho, po, pa, qu, hq, fr, hf⟩,
      .tup [.bool (decide (adE (cRob.dec x) a ⟨sc, ho, po, pa, qu, hq, fr, hf⟩ = 0) && perL (cRob.dec x) a (pathL ⟨sc, ho, po, pa, qu, hq, fr, hf⟩)), .int .i64 (adE (cRob.dec x) a ⟨sc, ho, po, pa, qu, hq, fr, hf⟩)])
  | _ => none
theorem conPermits : Con pg 18 ckPermits := by
  have hct := (ctA_ok conAgE (ctA_ok conCheckAdr (ctA_ok conPathOf (ctA_ok conPer (ctN_ok _)))))
  intro args q r h hq
  unfold ckPermits at h
  split at h
  · cases h
    rename_i x a sc ho po pa qu hq1 fr hf
    refine pcall_args (args' := [cRob.enc (cRob.dec x), .str a, .agg [.str sc, .str ho, .str po, .str pa, .str qu, .bool hq1, .str fr, .bool hf]]) ⟨hq.1, VLe.refl _, VLe.refl _, trivial⟩ ?_
    obtain ⟨-, ok, ha, hx⟩ := hq
    generalize cRob.dec x = r at ok ⊢
    refine w18 (fun _ => false) [] rfl hct rfl rfl ?_
    push_cast (config := { maxSteps := 10000000 })
    generalize (⟨sc, ho, po, pa, qu, hq1, fr, hf⟩ : Adr) = y at *
    refine ⟨⟨ok, ha⟩, fun h => ?_, fun h => ⟨hx, fun h2 => ?_, fun h2 => ?_⟩⟩
    · unfold adE; rw [if_neg h, decide_eq_false h]; exact ⟨rfl, rfl⟩
    · unfold adE; rw [if_pos h, decide_eq_false h2]; exact ⟨rfl, rfl⟩
    · have := pathL_len h2
      have e : adE r a y = 0 := by unfold adE; rw [if_pos h, h2]
      rw [e]
      exact ⟨h2, ⟨ok, (agE_rob h).1, by omega⟩, rfl, rfl⟩
  · cases h
attribute [push_cast] ckPermits
def ckDecF : Ck
  | [x, .str a, .agg [.str sc, .str ho, .str po, .str pa, .str qu, .bool hq, .str fr, .bool hf]] => some (isC cRob x ∧ robOk (cRob.dec x) ∧ a.length ≤ 140737488355328 ∧ adrOk ⟨sc, ho, po, pa, qu, hq, fr, hf⟩,
      .tup [.int .i64 (if adE (cRob.dec x) a ⟨sc, ho, po, pa, qu, hq, fr, hf⟩ = 0 then max (decL (rulesL (cRob.dec x) a).1 (pathL ⟨sc, ho, po, pa, qu, hq, fr, hf⟩)) 0 else 0), .bool (decide (adE (cRob.dec x) a ⟨sc, ho, po, pa, qu, hq, fr, hf⟩ = 0) && decide (0 ≤ decL (rulesL (cRob.dec x) a).1 (pathL ⟨sc, ho, po, pa, qu, hq, fr, hf⟩))), .int .i64 (adE (cRob.dec x) a ⟨sc, ho, po, pa, qu, hq, fr, hf⟩)])
  | _ => none
theorem conDecF : Con pg 16 ckDecF := by
  have hct := (ctA_ok conAgE (ctA_ok conCheckAdr (ctA_ok conRules (ctA_ok conPathOf (ctA_ok conDec (ctN_ok _))))))
  intro args q r h hq
  unfold ckDecF at h
  split at h
  · cases h
    rename_i x a sc ho po pa qu hq1 fr hf
    refine pcall_args (args' := [cRob.enc (cRob.dec x), .str a, .agg [.str sc, .str ho, .str po, .str pa, .str qu, .bool hq1, .str fr, .bool hf]]) ⟨hq.1, VLe.refl _, VLe.refl _, trivial⟩ ?_
    obtain ⟨-, ok, ha, hx⟩ := hq
    generalize cRob.dec x = r at ok ⊢
    refine w16 (fun _ => false) [] rfl hct rfl rfl ?_
    push_cast (config := { maxSteps := 10000000 })
    generalize (⟨sc, ho, po, pa, qu, hq1, fr, hf⟩ : Adr) = y at *
    refine ⟨⟨ok, ha⟩, fun h => ?_, fun h => ⟨hx, fun h2 => ?_, fun h2 => ?_⟩⟩
    · unfold adE; rw [if_neg h, decide_eq_false h, if_neg h]; exact ⟨rfl, rfl, rfl⟩
    · unfold adE; rw [if_pos h, decide_eq_false h2, if_neg h2]; exact ⟨rfl, rfl, rfl⟩
    · have := pathL_len h2
      have e : adE r a y = 0 := by unfold adE; rw [if_pos h, h2]
      have hc := (agE_rob h).1
      obtain ⟨b1, b2, b3, b4⟩ := rules_b a hc
      rw [e]
      exact ⟨⟨ok, hc⟩, h2, ⟨b1, b2, by omega⟩, (if_pos rfl).symm, rfl, rfl⟩
  · cases h
attribute [push_cast] ckDecF

def ckIsMom : Ck
  | [.int .i64 n] => some (True, .bool (decide (0 ≤ n) && decide (n ≤ 253402300799)))
  | _ => none
theorem conIsMomR : Con pg 33 ckIsMom := by
  have hct := ctN_ok pg
  intro args q r h hq
  unfold ckIsMom at h
  split at h
  · cases h
    rename_i n
    refine w33 (fun _ => false) [] rfl hct rfl rfl ?_
    push_cast (config := { maxSteps := 10000000 })
  · cases h
attribute [push_cast] ckIsMom
def ckIsRules : Ck
  | [.int .i64 n] => some (True, .bool (isRulS n))
  | _ => none
theorem conIsRules : Con pg 34 ckIsRules := by
  have hct := ctN_ok pg
  intro args q r h hq
  unfold ckIsRules at h
  split at h
  · cases h
    rename_i n
    refine w34 (fun _ => false) [] rfl hct rfl rfl ?_
    push_cast (config := { maxSteps := 10000000 })
    rfl
  · cases h
attribute [push_cast] ckIsRules
def ckIsAll : Ck
  | [.int .i64 n] => some (True, .bool (isAllS n))
  | _ => none
theorem conIsAll : Con pg 57 ckIsAll := by
  have hct := ctN_ok pg
  intro args q r h hq
  unfold ckIsAll at h
  split at h
  · cases h
    rename_i n
    refine w57 (fun _ => false) [] rfl hct rfl rfl ?_
    push_cast (config := { maxSteps := 10000000 })
    rfl
  · cases h
attribute [push_cast] ckIsAll
def rdgsOk (l : List Rdg) : Prop := ∀ x ∈ l, rdgOk x
theorem rdgs_at {l : List Rdg} (h : rdgsOk l) {i : Nat} (hi : i < l.length) : rdgOk (l.getD i noRdg) := h _ (by rw [List.getD_eq_getElem?_getD, List.getElem?_eq_getElem hi]; exact List.getElem_mem hi)
def prevA (l : List Rdg) (i : Nat) : Int := if i = 0 then -1 else (l.getD (i - 1) noRdg).at'
def ckCheckRdgs : Ck
  | [.sl n f] => some (isLs cRdg n f ∧ rdgsOk (lsOf cRdg n f), .int .i64 (checkRdgs (lsOf cRdg n f)))
  | _ => none
theorem conCheckRdgs : Con pg 10 ckCheckRdgs := by
  have hct := (ctA_ok conIsMomR (ctA_ok conIsRules (ctA_ok conCheckRob (ctN_ok _))))
  intro args q r h hq
  unfold ckCheckRdgs at h
  split at h
  · cases h
    rename_i n f
    refine pcall_args (args' := [.sl (lsOf cRdg n f).length (lsF cRdg (lsOf cRdg n f))]) ⟨isLs.vle hq.1, trivial⟩ ?_
    obtain ⟨-, hl⟩ := hq
    generalize lsOf cRdg n f = l at hl ⊢
    refine w10 (fun _ => false) [] rfl hct rfl rfl ?_
    push_cast (config := { maxSteps := 10000000 })
    refine ⟨fun h => by unfold checkRdgs; rw [if_pos (by omega)], fun h => ?_⟩
    have e0 : checkRdgs l = rdgsGo (-1) l := by unfold checkRdgs; rw [if_neg (by omega)]
    rw [e0]
    refine LoopW.adj ⟨hct, fol⟩ (by kernel_rfl) [] (fun i : Nat => [(0, .sl l.length (lsF cRdg l)), (9, .sl l.length (lsF cRdg l)), (10, .int .i64 l.length), (11, .int .i64 i)]) (fun _ => []) (fun i => i ≤ l.length ∧ rdgsGo (prevA l i) (l.drop i) = rdgsGo (-1) l) (fun i => l.length - i) 0 ?_ fun i hi => ?_
    · push_cast (config := { maxSteps := 10000000 })
      exact ⟨Nat.zero_le _, rfl⟩
    · push_cast (config := { maxSteps := 10000000 })
      obtain ⟨i1, i2⟩ := hi
      have ep : ∀ j, prevA l (j + 1) = (l.getD j noRdg).at' := fun j => by unfold prevA; rw [if_neg (by omega)]; rfl
      refine ⟨fun hlt => ?_, fun hge => ?_⟩
      · rw [dropG (d := noRdg) hlt, rdgsGo] at i2
        have ok := rdgs_at hl hlt
        have e1 := ep i
        have hp : 0 < i → prevA l i = (l.getD ((i : Int) - 1).toNat noRdg).at' := fun h => by
          unfold prevA; rw [if_neg (by omega)]; congr 2; omega
        have hp0 : i = 0 → prevA l i = -1 := fun h => by subst h; rfl
        generalize l.getD i noRdg = x at *
        obtain ⟨k1, k2, k3, k4, k5⟩ := ok
        have g1 := k5.1
        have g2 := k5.2.2.1
        refine ⟨hlt, fun h => ⟨h, fun h' => ⟨h, h'⟩⟩, fun h => ⟨h, fun h' => ⟨h, h'⟩⟩, fun h => ?_, fun h => ⟨fun h2 => ⟨h2, by omega, by omega⟩, fun h2 => ?_, fun h2 => ⟨k5, fun h3 => ?_, fun h3 => ⟨fun h4 => ⟨h4, by omega, by omega⟩, fun h4 => ⟨h4, by omega, by omega⟩, fun h4 => ?_, fun h4 => ⟨⟨by omega, by omega⟩, i + 1, ⟨by omega, ?_⟩, by omega, by omega⟩⟩⟩⟩⟩
        · have hE : rdgE x = 1 := by unfold rdgE; rw [if_pos (by omega)]
          rw [hE, if_neg (by omega)] at i2; exact i2
        · have hE : rdgE x = 3 := by unfold rdgE; rw [if_neg (by omega), if_pos ⟨h2.1, by omega⟩]
          rw [hE, if_neg (by omega)] at i2; exact i2
        all_goals
          have hE : rdgE x = checkRobL x.ro := by unfold rdgE; rw [if_neg (by omega), if_neg (fun y => h2 y.1 (by omega))]
          rw [hE] at i2
        · rw [if_neg h3] at i2; exact i2
        · rw [if_pos h3, if_pos (by rw [hp (by omega)]; exact h4.2)] at i2; exact i2
        · rw [if_pos h3, if_neg ?_, ← e1] at i2
          · exact i2
          · by_cases hi0 : i = 0
            · rw [hp0 hi0]; omega
            · rw [hp (by omega)]; exact h4 (by omega)
      · rw [List.drop_eq_nil_of_le (by omega), rdgsGo] at i2
        exact i2
  · cases h
attribute [push_cast] ckCheckRdgs
def ckAsk : Ck
  | [.sl n f, .int .i64 a, .int .i64 m] => some (isLs cRdg n f ∧ rdgsOk (lsOf cRdg n f), .int .i64 (askE (lsOf cRdg n f) a m))
  | _ => none
theorem conAsk : Con pg 29 ckAsk := by
  have hct := (ctA_ok conCheckRdgs (ctA_ok conIsMomR (ctN_ok _)))
  intro args q r h hq
  unfold ckAsk at h
  split at h
  · cases h
    rename_i n f a m
    refine pcall_args (args' := [.sl (lsOf cRdg n f).length (lsF cRdg (lsOf cRdg n f)), .int .i64 a, .int .i64 m]) ⟨isLs.vle hq.1, VLe.refl _, VLe.refl _, trivial⟩ ?_
    obtain ⟨-, hl⟩ := hq
    generalize lsOf cRdg n f = l at hl ⊢
    refine w29 (fun _ => false) [] rfl hct rfl rfl ?_
    push_cast (config := { maxSteps := 10000000 })
    refine ⟨hl, fun h => by unfold askE; rw [if_neg h], fun h => ⟨fun h2 => ?_, fun h2 => ?_⟩⟩
    · unfold askE; rw [if_pos h, if_neg (by omega)]
    · unfold askE; rw [if_pos h, if_pos (by omega)]
  · cases h
attribute [push_cast] ckAsk
theorem rdgsGo_ok : ∀ {l : List Rdg} {p : Int}, rdgsGo p l = 0 → (∀ x ∈ l, rdgE x = 0 ∧ p ≤ x.at') ∧ l.Pairwise fun x y => x.at' ≤ y.at'
  | [], p, _ => ⟨fun x hx => (by cases hx), .nil⟩
  | x :: t, p, h => by
    rw [rdgsGo] at h
    by_cases h1 : rdgE x = 0
    · rw [if_pos h1] at h
      by_cases h2 : x.at' < p
      · rw [if_pos h2] at h; cases h
      · rw [if_neg h2] at h
        obtain ⟨a, b⟩ := rdgsGo_ok h
        refine ⟨fun y hy => ?_, .cons (fun y hy => (a y hy).2) b⟩
        rcases List.mem_cons.1 hy with rfl | hy
        · exact ⟨h1, by omega⟩
        · have := a y hy; exact ⟨this.1, by omega⟩
    · rw [if_neg h1] at h; exact absurd h h1
theorem rdgE_ok {x : Rdg} (h : rdgE x = 0) : 0 ≤ x.at' ∧ x.at' ≤ 253402300799 ∧ checkRobL x.ro = 0 := by
  unfold rdgE at h
  split at h
  · cases h
  · split at h
    · cases h
    · exact ⟨by omega, by omega, h⟩
theorem rdgs_ok {l : List Rdg} (h : checkRdgs l = 0) : l.length ≤ 500 ∧ (∀ x ∈ l, 0 ≤ x.at' ∧ x.at' ≤ 253402300799 ∧ checkRobL x.ro = 0) ∧ ∀ i j, i ≤ j → j < l.length → (l.getD i noRdg).at' ≤ (l.getD j noRdg).at' := by
  unfold checkRdgs at h
  split at h
  · cases h
  · obtain ⟨a, b⟩ := rdgsGo_ok h
    refine ⟨by omega, fun x hx => rdgE_ok (a x hx).1, fun i j hij hj => ?_⟩
    by_cases e : i = j
    · subst e; exact Int.le_refl _
    · rw [List.getD_eq_getElem?_getD, List.getD_eq_getElem?_getD, List.getElem?_eq_getElem (by omega), List.getElem?_eq_getElem hj]
      exact List.pairwise_iff_getElem.1 b i j (by omega) hj (by omega)
theorem lastN_at : ∀ {l : List Rdg} {m : Int} {n : Nat}, n ≤ l.length → (∀ j, j < n → (l.getD j noRdg).at' ≤ m) → (n < l.length → m < (l.getD n noRdg).at') → lastN l m = n
  | [], m, n, h, _, _ => by simp at h; subst h; rfl
  | c :: t, m, 0, h, _, h2 => by
    have := h2 (by simp)
    unfold lastN
    rw [List.takeWhile_cons, if_neg (by have h3 : m < c.at' := by simpa using this
                                        simp; omega)]; rfl
  | c :: t, m, n + 1, h, h1, h2 => by
    have h0 := h1 0 (by omega)
    have h0 : c.at' ≤ m := by simpa using h0
    unfold lastN
    rw [List.takeWhile_cons, if_pos (by simpa using h0), List.length_cons]
    congr 1
    exact lastN_at (by simpa using h) (fun j hj => by have := h1 (j + 1) (by omega); simpa using this) (fun hn => by have := h2 (by simpa using hn); simpa using this)
theorem goodI_b (l : List Rdg) : ∀ n, -1 ≤ goodI l n ∧ goodI l n < n
  | 0 => ⟨Int.le_refl _, by show (-1 : Int) < 0; omega⟩
  | n + 1 => by
    have := goodI_b l n
    rw [goodI]
    split <;> omega
theorem goodI_says (l : List Rdg) : ∀ n, 0 ≤ goodI l n → saysB (l.getD (goodI l n).toNat noRdg) = true
  | 0, h => by have h : (0 : Int) ≤ -1 := h; omega
  | n + 1, h => by
    rw [goodI] at h ⊢
    split
    · rename_i hs; rw [Int.toNat_natCast]; exact hs
    · rename_i hs
      rw [if_neg hs] at h
      exact goodI_says l n h
def ckStand0 : Ck
  | [.sl n f, .int .i64 a, .int .i64 m] => some (isLs cRdg n f ∧ rdgsOk (lsOf cRdg n f) ∧ askE (lsOf cRdg n f) a m = 0, .tup [.int .i64 (standL (lsOf cRdg n f) a m).1, .int .i64 (standL (lsOf cRdg n f) a m).2])
  | _ => none
theorem conStand0 : Con pg 30 ckStand0 := by
  have hct := (ctA_ok conIsRules (ctA_ok conIsAll (ctN_ok _)))
  intro args q r h hq
  unfold ckStand0 at h
  split at h
  · cases h
    rename_i n f a m
    refine pcall_args (args' := [.sl (lsOf cRdg n f).length (lsF cRdg (lsOf cRdg n f)), .int .i64 a, .int .i64 m]) ⟨isLs.vle hq.1, VLe.refl _, VLe.refl _, trivial⟩ ?_
    obtain ⟨-, hl, hask⟩ := hq
    generalize lsOf cRdg n f = l at hl hask ⊢
    refine w30 (fun _ => false) [] rfl hct rfl rfl ?_
    push_cast (config := { maxSteps := 10000000 })
    have hc : checkRdgs l = 0 ∧ 1 ≤ a ∧ a ≤ 100000000 ∧ 0 ≤ m ∧ m ≤ 253402300799 := by
      unfold askE at hask
      split at hask
      · rename_i h0
        split at hask
        · exact ⟨h0, by assumption⟩
        · cases hask
      · exact absurd hask (by assumption)
    obtain ⟨s1, s2, s3⟩ := rdgs_ok hc.1
    refine LoopW.adj ⟨hct, fol⟩ (by kernel_rfl) [] (fun i : Nat => [(0, .sl l.length (lsF cRdg l)), (1, .int .i64 a), (2, .int .i64 m), (8, .int .i64 ((i : Int) - 1)), (9, .int .i64 (goodI l i)), (12, .sl l.length (lsF cRdg l)), (13, .int .i64 l.length), (14, .int .i64 i)]) (fun _ => []) (fun i => i ≤ l.length ∧ ∀ j, j < i → (l.getD j noRdg).at' ≤ m) (fun i => l.length - i) 0 ?_ fun i hi => ?_
    · push_cast (config := { maxSteps := 10000000 })
      exact ⟨Nat.zero_le _, rfl⟩
    · push_cast (config := { maxSteps := 10000000 })
      obtain ⟨i1, i2⟩ := hi
      have gb := goodI_b l i
      have gr : 0 ≤ goodI l i → 0 ≤ (l.getD (goodI l i).toNat noRdg).at' ∧ (l.getD (goodI l i).toNat noRdg).at' ≤ 253402300799 := fun h => by
        have hlt : (goodI l i).toNat < l.length := by omega
        have := s2 (l.getD (goodI l i).toNat noRdg) (by rw [List.getD_eq_getElem?_getD, List.getElem?_eq_getElem hlt]; exact List.getElem_mem hlt)
        exact ⟨this.1, this.2.1⟩
      have fin : lastN l m = i → ((i : Int) - 1 < 0 → 1 = (standL l a m).1 ∧ -1 = (standL l a m).2) ∧
              (¬(i : Int) - 1 < 0 →
                (¬goodI l i < 0 ∧ goodI l i < (i : Int) - 1 →
                    (¬goodI l i < 0 ∧ goodI l i < (i : Int) - 1) ∧ 0 ≤ goodI l i ∧ goodI l i < (l.length : Int)) ∧
                  (¬goodI l i < 0 ∧ goodI l i < (i : Int) - 1 →
                      (¬goodI l i < 0 ∧ goodI l i < (i : Int) - 1) ∧
                        -9223372036854775808 ≤ (l.getD (goodI l i).toNat noRdg).at' + a ∧
                          (l.getD (goodI l i).toNat noRdg).at' + a ≤ 9223372036854775807) ∧
                    (¬goodI l i < 0 → ¬goodI l i < 0 ∧ (goodI l i < (i : Int) - 1 → ¬goodI l i < 0 ∧ goodI l i < (i : Int) - 1)) ∧
                      (goodI l i < 0 ∨ goodI l i < (i : Int) - 1 ∧ (l.getD (goodI l i).toNat noRdg).at' + a ≤ m →
                          4 = (standL l a m).1 ∧ (i : Int) - 1 = (standL l a m).2) ∧
                        (¬goodI l i < 0 ∧ (goodI l i < (i : Int) - 1 → ¬(l.getD (goodI l i).toNat noRdg).at' + a ≤ m) →
                          (0 ≤ goodI l i ∧ goodI l i < (l.length : Int)) ∧
                            (isRulS (l.getD (goodI l i).toNat noRdg).st = true →
                                2 = (standL l a m).1 ∧ goodI l i = (standL l a m).2) ∧
                              (isRulS (l.getD (goodI l i).toNat noRdg).st = false →
                                3 = (standL l a m).1 ∧ goodI l i = (standL l a m).2))) := fun hN => by
        unfold standL
        rw [hN]
        refine ⟨fun h => by rw [if_pos (by omega)]; exact ⟨rfl, rfl⟩, fun h => ?_⟩
        rw [if_neg (by omega)]
        refine ⟨fun x => ⟨x, by omega, by omega⟩, fun x => ⟨x, ?_⟩, fun x => ⟨x, fun y => ⟨x, y⟩⟩, fun x => ?_, fun x => ⟨⟨by omega, by omega⟩, fun y => ?_, fun y => ?_⟩⟩
        · have := gr (by omega); omega
        · rw [if_pos x]; exact ⟨rfl, rfl⟩
        · rw [if_neg (fun z => z.elim x.1 fun w => x.2 w.1 w.2), if_pos y]; exact ⟨rfl, rfl⟩
        · rw [if_neg (fun z => z.elim x.1 fun w => x.2 w.1 w.2), if_neg (by rw [y]; simp)]; exact ⟨rfl, rfl⟩
      refine ⟨fun hlt => ⟨hlt, fun hb => fin (lastN_at i1 i2 fun _ => hb), fun hb => ?_⟩, fun hge => fin (lastN_at i1 i2 fun h => absurd h hge)⟩
      have i2' : ∀ j, j < i + 1 → (l.getD j noRdg).at' ≤ m := fun j hj => by
        by_cases e : j = i
        · subst e; omega
        · exact i2 j (by omega)
      refine ⟨fun hs => ⟨⟨by omega, by omega⟩, i + 1, ⟨by omega, i2'⟩, by omega, by omega, ?_, by omega⟩, fun hs => ⟨⟨by omega, by omega⟩, i + 1, ⟨by omega, i2'⟩, by omega, by omega, ?_, by omega⟩⟩
      · have h0 : saysB (l.getD i noRdg) = true := by unfold saysB; rw [Bool.or_eq_true]; exact hs
        rw [goodI, if_pos h0]
      · have h0 : saysB (l.getD i noRdg) = false := by unfold saysB; rw [hs.1, hs.2]; rfl
        rw [goodI, if_neg (by rw [h0]; simp)]
  · cases h
attribute [push_cast] ckStand0
def ckStand : Ck
  | [.sl n f, .int .i64 a, .int .i64 m] => some (isLs cRdg n f ∧ rdgsOk (lsOf cRdg n f), .tup [.int .i64 (if askE (lsOf cRdg n f) a m = 0 then (standL (lsOf cRdg n f) a m).1 else 0), .int .i64 (if askE (lsOf cRdg n f) a m = 0 then (standL (lsOf cRdg n f) a m).2 else 0), .int .i64 (askE (lsOf cRdg n f) a m)])
  | _ => none
theorem conStand : Con pg 8 ckStand := by
  have hct := (ctA_ok conAsk (ctA_ok conStand0 (ctN_ok _)))
  intro args q r h hq
  unfold ckStand at h
  split at h
  · cases h
    rename_i n f a m
    refine pcall_args (args' := [.sl (lsOf cRdg n f).length (lsF cRdg (lsOf cRdg n f)), .int .i64 a, .int .i64 m]) ⟨isLs.vle hq.1, VLe.refl _, VLe.refl _, trivial⟩ ?_
    obtain ⟨-, hl⟩ := hq
    generalize lsOf cRdg n f = l at hl ⊢
    refine w8 (fun _ => false) [] rfl hct rfl rfl ?_
    push_cast (config := { maxSteps := 10000000 })
    refine ⟨hl, fun h => ?_, fun h => ⟨⟨hl, h⟩, ?_⟩⟩
    · rw [if_neg h, if_neg h]; exact ⟨rfl, rfl⟩
    · rw [if_pos h, if_pos h]; exact ⟨rfl, rfl, h.symm⟩
  · cases h
attribute [push_cast] ckStand

def ckAt : Ck
  | [.sl n f, .int .i64 a, .str ag, .agg [.str sc, .str ho, .str po, .str pa, .str qu, .bool hq, .str fr, .bool hf], .int .i64 m] => some (isLs cRdg n f ∧ rdgsOk (lsOf cRdg n f) ∧ ag.length ≤ 140737488355328 ∧ adrOk ⟨sc, ho, po, pa, qu, hq, fr, hf⟩,
      .tup [.bool (decide (atE (lsOf cRdg n f) a m ag ⟨sc, ho, po, pa, qu, hq, fr, hf⟩ = 0) && atL (lsOf cRdg n f) a m ag ⟨sc, ho, po, pa, qu, hq, fr, hf⟩), .int .i64 (atE (lsOf cRdg n f) a m ag ⟨sc, ho, po, pa, qu, hq, fr, hf⟩)])
  | _ => none
theorem conAt : Con pg 23 ckAt := by
  have hct := (ctA_ok conAsk (ctA_ok conAgE (ctA_ok conCheckAdr (ctA_ok conPathOf (ctA_ok conStand0 (ctA_ok conPer (ctN_ok _)))))))
  intro args q r h hq
  unfold ckAt at h
  split at h
  · cases h
    rename_i n f a ag sc ho po pa qu hq1 fr hf m
    refine pcall_args (args' := [.sl (lsOf cRdg n f).length (lsF cRdg (lsOf cRdg n f)), .int .i64 a, .str ag, .agg [.str sc, .str ho, .str po, .str pa, .str qu, .bool hq1, .str fr, .bool hf], .int .i64 m]) ⟨isLs.vle hq.1, VLe.refl _, VLe.refl _, VLe.refl _, VLe.refl _, trivial⟩ ?_
    obtain ⟨-, hl, ha, hx⟩ := hq
    generalize lsOf cRdg n f = l at hl ⊢
    refine w23 (fun _ => false) [] rfl hct rfl rfl ?_
    push_cast (config := { maxSteps := 10000000 })
    generalize (⟨sc, ho, po, pa, qu, hq1, fr, hf⟩ : Adr) = y at *
    refine ⟨hl, fun h => ?_, fun h => ?_⟩
    · have e : atE l a m ag y = askE l a m := by unfold atE; rw [if_neg h]
      rw [e, decide_eq_false h]; exact ⟨rfl, rfl⟩
    have e : atE l a m ag y = adE noRob ag y := by unfold atE; rw [if_pos h]
    rw [e]
    refine ⟨⟨noRob_ok, ha⟩, fun h2 => ?_, fun h2 => ⟨hx, fun h3 => ?_, fun h3 => ?_⟩⟩
    · unfold adE; rw [if_neg h2, decide_eq_false h2]; exact ⟨rfl, rfl⟩
    · unfold adE; rw [if_pos h2, decide_eq_false h3]; exact ⟨rfl, rfl⟩
    have e3 : adE noRob ag y = 0 := by unfold adE; rw [if_pos h2, h3]
    have hp := pathL_len h3
    have s2 := stand_2 (l := l) (a := a) (m := m)
    have sl := lastN_le l m
    have hR : (standL l a m).1 = 2 → robOk (l.getD (standL l a m).2.toNat noRdg).ro ∧ checkRobL (l.getD (standL l a m).2.toNat noRdg).ro = 0 := fun q => by
      have q2 := s2 q
      have hm := mem_at (d := noRdg) (show (standL l a m).2.toNat < l.length by omega)
      exact ⟨(hl _ hm).2.2.2.2, ((rdgs_ok (ask_ok h).1).2.1 _ hm).2.2⟩
    rw [e3]
    refine ⟨h3, ⟨hl, h⟩, fun q => ⟨q, by have := s2 q.2; omega⟩, fun q => ⟨q, (hR q.2).1, (hR q.2).2, by omega⟩, fun q => ⟨q, fun q2 => ⟨q, q2⟩⟩, ?_, rfl⟩
    unfold atL
    rw [Bool.or_assoc]; rfl
  · cases h
attribute [push_cast] ckAt
def ckAgain : Ck
  | [.sl n f, .int .i64 a, .int .i64 m] => some (isLs cRdg n f ∧ rdgsOk (lsOf cRdg n f), .tup [.int .i64 (if askE (lsOf cRdg n f) a m = 0 then againL (lsOf cRdg n f) a m else 0), .int .i64 (askE (lsOf cRdg n f) a m)])
  | _ => none
theorem conAgain : Con pg 27 ckAgain := by
  have hct := (ctA_ok conAsk (ctA_ok conIsRules (ctA_ok conIsAll (ctN_ok _))))
  intro args q r h hq
  unfold ckAgain at h
  split at h
  · cases h
    rename_i n f a m
    refine pcall_args (args' := [.sl (lsOf cRdg n f).length (lsF cRdg (lsOf cRdg n f)), .int .i64 a, .int .i64 m]) ⟨isLs.vle hq.1, VLe.refl _, VLe.refl _, trivial⟩ ?_
    obtain ⟨-, hl⟩ := hq
    generalize lsOf cRdg n f = l at hl ⊢
    refine w27 (fun _ => false) [] rfl hct rfl rfl ?_
    push_cast (config := { maxSteps := 10000000 })
    refine ⟨hl, fun h => ?_, fun h => ?_⟩
    · rw [if_neg h]
    obtain ⟨hc, ha⟩ := ask_ok h
    obtain ⟨s1, s2, s3⟩ := rdgs_ok hc
    refine LoopW.adj ⟨hct, fol⟩ (by kernel_rfl) [] (fun i : Nat => [(0, .sl l.length (lsF cRdg l)), (1, .int .i64 a), (2, .int .i64 m), (9, .int .i64 ((lastN (l.take i) m : Int) - 1)), (19, .sl l.length (lsF cRdg l)), (20, .int .i64 l.length), (21, .int .i64 i)]) (fun _ => []) (fun i => i ≤ l.length) (fun i => l.length - i) 0 ?_ fun i hi => ?_
    · push_cast (config := { maxSteps := 10000000 })
      exact ⟨Nat.zero_le _, rfl⟩
    · push_cast (config := { maxSteps := 10000000 })
      have e1 := fun h : i < l.length => lastN_s (m := m) s3 h
      have b1 := lastN_le (l.take i) m
      rw [List.length_take] at b1
      refine ⟨fun hlt => ?_, fun hge => ?_⟩
      · have e1 := e1 hlt
        refine ⟨hlt, fun q => ⟨by omega, i + 1, by omega, by omega, ?_, by omega⟩, fun q => ⟨by omega, i + 1, by omega, by omega, ?_, by omega⟩⟩
        · rw [e1, if_pos q]; omega
        · rw [e1, if_neg q]
      · rw [List.take_of_length_le (by omega), if_pos h, h]
        have b2 := lastN_le l m
        generalize hN : lastN l m = N at *
        have eA : againL l a m = if N = 0 then m else if saysB (l.getD (N - 1) noRdg) = true then (l.getD (N - 1) noRdg).at' + a else (l.getD (N - 1) noRdg).at' + (a + 99) / 100 := by unfold againL; rw [hN]
        rw [eA, show ((N : Int) - 1).toNat = N - 1 by omega]
        refine ⟨fun q => ⟨(if_pos (by omega)).symm, rfl⟩, fun q => ?_⟩
        rw [if_neg (by omega)]
        have hx := s2 _ (mem_at (d := noRdg) (show N - 1 < l.length by omega))
        generalize l.getD (N - 1) noRdg = x at *
        refine ⟨by omega, fun q2 => ⟨q2, by omega⟩, fun q2 => ⟨by omega, by omega, ?_, rfl⟩, fun q2 => ⟨by omega, by omega, by omega, by omega, ?_, rfl⟩⟩
        · rw [if_pos]
          unfold saysB; rw [Bool.or_eq_true]; exact q2
        · rw [if_neg]
          unfold saysB; rw [q2.1, q2.2]; simp
  · cases h
attribute [push_cast] ckAgain

def ckIsSch1 : Ck
  | [.str s] => some (s.length ≤ 140737488355328, .bool (schOk s))
  | _ => none
theorem conIsSch1 : Con pg 77 ckIsSch1 := by
  have hct := (ctA_ok conSmall (ctN_ok _))
  intro args q r h hq
  unfold ckIsSch1 at h
  split at h
  · cases h
    rename_i s
    refine w77 (fun _ => false) [] rfl hct rfl rfl ?_
    push_cast (config := { maxSteps := 10000000 })
    refine ⟨hq, fun h => ⟨h, hq⟩, ?_⟩
    rfl
  · cases h
attribute [push_cast] ckIsSch1
theorem conWrittenA : Con pg 82 ckWrite1 := by
  have hct := ctN_ok pg
  intro args q r h hq
  unfold ckWrite1 at h
  split at h
  · cases h
    rename_i sc ho po pa qu hq1 fr hf
    refine w82 (fun _ => false) [] rfl hct rfl rfl ?_
    push_cast (config := { maxSteps := 10000000 })
    obtain ⟨h1, h2, h3, h4, h5, h6⟩ := hq
    simp only at h1 h2 h3 h4 h5 h6
    (repeat' (first | apply And.intro | intro _)) <;> first | assumption | omega | skip
    all_goals subst_vars
    all_goals simp [wrL, behL, wSep, *]
  · cases h
theorem conCheckAdr1 : Con pg 55 ckCheckAdr := by
  have hct := (ctA_ok conIsSch1 (ctA_ok conIsHost2 (ctA_ok conIsPort1 (ctA_ok conIsPath1 (ctA_ok conIsRow1 (ctA_ok conWrittenA (ctN_ok _)))))))
  intro args q r h hq
  unfold ckCheckAdr at h
  split at h
  · cases h
    rename_i sc ho po pa qu hq1 fr hf
    refine w55 (fun _ => false) [] rfl hct rfl rfl ?_
    push_cast (config := { maxSteps := 10000000 })
    obtain ⟨h1, h2, h3, h4, h5, h6⟩ := hq
    simp only at h1 h2 h3 h4 h5 h6
    have ok : adrOk ⟨sc, ho, po, pa, qu, hq1, fr, hf⟩ := ⟨h1, h2, h3, h4, h5, h6⟩
    have syn : synA ⟨sc, ho, po, pa, qu, hq1, fr, hf⟩ = true ↔ ((((((schOk sc = true ∧ hostL ho = true) ∧ (po = [] ∨ ¬ portN po = 0)) ∧ (pa = [] ∨ (pa.getD 0 0).toNat = 47)) ∧ rowP pa = true) ∧ rowR qu = true) ∧ rowR fr = true) := by
      unfold synA
      simp only [Bool.and_eq_true, Bool.or_eq_true, beq_iff_eq, decide_eq_true_eq, ne_eq]
    have kb : ¬ synA ⟨sc, ho, po, pa, qu, hq1, fr, hf⟩ = true → 10 = checkAdrL ⟨sc, ho, po, pa, qu, hq1, fr, hf⟩ := fun h => by
      unfold checkAdrL; rw [if_pos (by simpa using h)]
    have k3 : synA ⟨sc, ho, po, pa, qu, hq1, fr, hf⟩ = true → (¬qu = [] ∧ hq1 = false) ∨ (¬fr = [] ∧ hf = false) → 3 = checkAdrL ⟨sc, ho, po, pa, qu, hq1, fr, hf⟩ := fun h h' => by
      unfold checkAdrL; rw [if_neg (by rw [h]; simp), if_pos h']
    have k2 : synA ⟨sc, ho, po, pa, qu, hq1, fr, hf⟩ = true → ¬ ((¬qu = [] ∧ hq1 = false) ∨ (¬fr = [] ∧ hf = false)) → 2000 < ((wrL ⟨sc, ho, po, pa, qu, hq1, fr, hf⟩).length : Int) → 2 = checkAdrL ⟨sc, ho, po, pa, qu, hq1, fr, hf⟩ := fun h h' h'' => by
      unfold checkAdrL; rw [if_neg (by rw [h]; simp), if_neg h', if_pos (by omega)]
    have k0 : synA ⟨sc, ho, po, pa, qu, hq1, fr, hf⟩ = true → ¬ ((¬qu = [] ∧ hq1 = false) ∨ (¬fr = [] ∧ hf = false)) → ¬ 2000 < ((wrL ⟨sc, ho, po, pa, qu, hq1, fr, hf⟩).length : Int) → 0 = checkAdrL ⟨sc, ho, po, pa, qu, hq1, fr, hf⟩ := fun h h' h'' => by
      unfold checkAdrL; rw [if_neg (by rw [h]; simp), if_neg h', if_neg (by omega)]
    have eP : pa = [] → rowP pa = true := fun e => by rw [e]; rfl
    rw [syn] at kb k3 k2 k0
    clear syn
    generalize checkAdrL ⟨sc, ho, po, pa, qu, hq1, fr, hf⟩ = X at *
    generalize ((wrL ⟨sc, ho, po, pa, qu, hq1, fr, hf⟩).length : Int) = W at *
    generalize (pa.getD 0 0).toNat = A4 at *
    generalize (portN po) = A5 at *
    generalize (hostL ho) = A6 at *
    generalize (schOk sc) = A7 at *
    generalize rowP pa = A1 at *
    generalize rowR qu = A2 at *
    generalize rowR fr = A3 at *
    clear hct
    (repeat' (first | apply And.intro | intro _)) <;> first | assumption | omega | grind
  · cases h

def ckUnhex1 : Ck
  | [.int .u8 c] => some (0 ≤ c ∧ c < 256 ∧ isHex c = true, .int .i64 (hexV c))
  | _ => none
theorem unhex1_key : ∀ n, n < 128 → isHex ((n : Nat) : Int) = true → Lib.indexByte [48, 49, 50, 51, 52, 53, 54, 55, 56, 57, 97, 98, 99, 100, 101, 102] (lowB (UInt8.ofNat n)) = hexV ((n : Nat) : Int) := by decide +kernel
theorem hex_128 {c : Int} (h : isHex c = true) : 48 ≤ c ∧ c < 128 := by
  simp only [isHex, isDig, Bool.or_eq_true, Bool.and_eq_true, decide_eq_true_eq] at h
  omega
theorem conUnhex1 : Con pg 138 ckUnhex1 := by
  have hct := (ctA_ok conSmall (ctA_ok conIndexByte (ctN_ok _)))
  intro args q r h hq
  unfold ckUnhex1 at h
  split at h
  · cases h
    rename_i c
    refine w138 (fun _ => false) [] rfl hct rfl rfl ?_
    push_cast (config := { maxSteps := 10000000 })
    have h1 := hex_128 hq.2.2
    have e : IntKind.i32.wrap c = c := by
      have key : ∀ n : Nat, n < 128 → IntKind.i32.wrap (n : Int) = n := by decide +kernel
      have := key c.toNat (by omega)
      rwa [Int.toNat_of_nonneg (by omega)] at this
    rw [e]
    obtain ⟨n, rfl⟩ : ∃ n : Nat, c = n := ⟨c.toNat, by omega⟩
    have := unhex1_key n (by omega) hq.2.2
    refine ⟨by omega, by simp [lowL], ?_⟩
    rw [Int.toNat_natCast]
    exact this
  · cases h
attribute [push_cast] ckUnhex1
def ckCoded : Ck
  | [.str s] => some (wfL s = true ∧ s.length ≤ 1073741824, .str (normL s))
  | _ => none
theorem conCoded : Con pg 109 ckCoded := by
  have hct := (ctA_ok conUnhex1 (ctA_ok conLetter (ctA_ok conDigit (ctN_ok _))))
  intro args q r h hq
  unfold ckCoded at h
  split at h
  · cases h
    rename_i s
    refine w109 (fun _ => false) [] rfl hct rfl rfl ?_
    push_cast (config := { maxSteps := 10000000 })
    refine LoopW.adj ⟨hct, fol⟩ (by kernel_rfl) [.nv 3 21 1 (byF [])] (fun t : Nat × List UInt8 => [(0, .str s), (3, .vec 21 t.2.length), (4, .int .i64 t.1)]) (fun t => [(21, .vec 1 t.2.length (byF t.2))]) (fun t => t.1 ≤ s.length ∧ t.2 ++ normL (s.drop t.1) = normL s ∧ wfL (s.drop t.1) = true) (fun t => s.length - t.1) (0, []) ?_ fun t ht => ?_
    · push_cast (config := { maxSteps := 10000000 })
      simp [hq.1]
    · obtain ⟨i, l⟩ := t
      push_cast (config := { maxSteps := 10000000 })
      obtain ⟨h1, h2, h3⟩ : i ≤ s.length ∧ l ++ normL (s.drop i) = normL s ∧ wfL (s.drop i) = true := ht
      have hl : l.length ≤ s.length := by
        have k1 := congrArg List.length h2
        have k2 := normL_len s
        simp only [List.length_append] at k1; omega
      refine ⟨fun hi => ⟨hi, fun hc => ⟨hi, by omega, by omega, (i + 1, l ++ [s.getD i 0]), ⟨by simp; omega, ?_, ?_⟩, by simp; omega, by simp, by simp, fun j hj => ?_⟩, fun hc => ?_⟩, fun hn => ?_⟩
      · rw [normL_no hi (fun h => hc (by rw [h.1]; rfl))] at h2
        simpa using h2
      · exact wfL_no hi (fun h => hc (by rw [h]; rfl)) h3
      · exact appF_lit (bs := [s.getD i 0]) rfl hj
      · have hc' : s.getD i 0 = 37 := (u8_eq _ _).2 hc
        obtain ⟨k1, k2, k3, k4⟩ := wfL_hex hi hc' h3
        have hN1 := hexN_lt k2
        have hN2 := hexN_lt k3
        have e := normL_hex k1 hc' k2 k3
        have v1 := hexV_lt k2
        have v2 := hexV_lt k3
        have ev : 16 * hexV ((s.getD (i + 1) 0).toNat : Int) + hexV ((s.getD (i + 2) 0).toNat : Int) = ((16 * hexN (s.getD (i + 1) 0) + hexN (s.getD (i + 2) 0) : Nat) : Int) := by unfold hexN; omega
        rw [ev]
        generalize hv : 16 * hexN (s.getD (i + 1) 0) + hexN (s.getD (i + 2) 0) = v at *
        have hv' : v < 256 := by omega
        rw [show ((v : Nat) : Int) % 256 = (v : Nat) by omega]
        have e1 : (v : Int) / 16 % 256 = ((v / 16 : Nat) : Int) := by omega
        have e2 : (v : Int) % 16 % 256 = ((v % 16 : Nat) : Int) := by omega
        have hle := u8_lt (s.getD (i + 1) 0)
        have hle2 := u8_lt (s.getD (i + 2) 0)
        refine ⟨by omega, by omega, ⟨by omega, k2⟩, by omega, by omega, by omega, ⟨by omega, k3⟩, by omega, fun hf => ⟨by omega, by omega, by omega, (i + 3, l ++ [UInt8.ofNat v]), ⟨by show i + 3 ≤ _; omega, ?_, k4⟩, by show s.length - (i + 3) < _; omega, ⟨by simp, by show (i : Int) + 2 + 1 = ((i + 3 : Nat) : Int); omega⟩, by simp, fun j hj => ?_⟩, fun hf => ⟨by omega, by omega, by omega, by omega, by omega, by omega, by omega, (i + 3, l ++ [37, hexRow.getD (v / 16) 0, hexRow.getD (v % 16) 0]), ⟨by show i + 3 ≤ _; omega, ?_, k4⟩, by show s.length - (i + 3) < _; omega, ⟨by simp, by show (i : Int) + 2 + 1 = ((i + 3 : Nat) : Int); omega⟩, by simp, fun j hj => ?_⟩⟩
        · rw [e, encB, if_pos (by simp only [isFreeI]; grind)] at h2
          simpa using h2
        · refine appF_lit ?_ hj
          simp [ofNat_toNat hv']
        · rw [e, encB, if_neg (by simp only [isFreeI]; grind)] at h2
          simpa using h2
        · refine appF_lit ?_ hj
          have e1 : ((v : Int) / 16 % 256).toNat = v / 16 := by omega
          have e2 : ((v : Int) % 16).toNat = v % 16 := by omega
          simp [hexRow, e1, e2]
      · have : i = s.length := by omega
        subst this
        simpa [normL] using h2
  · cases h
attribute [push_cast] ckCoded
def dotF : List (List UInt8) → List (List UInt8) → List (List UInt8)
  | [], o => o
  | p :: t, o => if p = [46, 46] then dotF t o.dropLast else if p = [46] then dotF t o else dotF t (o ++ [p])
def lastP (P : List (List UInt8)) : List UInt8 := P.getD (P.length - 1) []
theorem dotGo_F : ∀ (t o : List (List UInt8)), t ≠ [] → dotGo t o = dotF t o ++ (if lastP t = [46] ∨ lastP t = [46, 46] then [[]] else [])
  | [p], o, _ => by
    have e : lastP [p] = p := rfl
    rw [dotGo, dotF, e]
    by_cases h1 : p = [46, 46]
    · simp [h1, dotGo, dotF]
    · by_cases h2 : p = [46]
      · simp [h2, dotGo, dotF]
      · simp [h1, h2, dotGo, dotF]
  | p :: q :: t, o, _ => by
    have e : lastP (p :: q :: t) = lastP (q :: t) := by unfold lastP; simp
    rw [dotGo, dotF, e]
    have n : ¬ q :: t = [] := by simp
    rw [if_neg n, if_neg n]
    split
    · exact dotGo_F (q :: t) _ n
    · split <;> exact dotGo_F (q :: t) _ n
theorem dotF_len : ∀ (t o : List (List UInt8)), (dotF t o).length ≤ t.length + o.length
  | [], o => by simp [dotF]
  | p :: t, o => by
    rw [dotF]
    split
    · have := dotF_len t o.dropLast; rw [List.length_dropLast] at this; simp only [List.length_cons]; omega
    · split
      · have := dotF_len t o; simp only [List.length_cons]; omega
      · have := dotF_len t (o ++ [p]); simp only [List.length_append, List.length_cons, List.length_nil] at this ⊢; omega
def ckDots1 : Ck
  | [.str s] => some (s.length ≤ 2000 ∧ (s = [] ∨ s.getD 0 0 = 47), .str (undotL s))
  | _ => none
theorem conDots1 : Con pg 108 ckDots1 := by
  have hct := (ctA_ok conSplit (ctN_ok _))
  intro args q r h hq
  unfold ckDots1 at h
  split at h
  · cases h
    rename_i s
    refine w108 (fun d => decide (d = 20007 ∨ d = 20015)) [] rfl hct rfl rfl ?_
    push_cast (config := { maxSteps := 10000000 })
    refine ⟨fun h => by subst h; rfl, fun h => ?_⟩
    have h1 : 1 ≤ s.length := List.length_pos_iff.2 h
    have h47 := hq.2.resolve_left h
    have eU : undotL s = joinSl (dotGo (splitL (s.drop 1) 47) []) := by unfold undotL; rw [if_neg h]
    have eS : splitL s 47 = [] :: splitL (s.drop 1) 47 := by
      cases s with
      | nil => exact absurd rfl h
      | cons c t =>
        have : c = 47 := by simpa using h47
        subst this
        rw [splitL_eq, splitL_eq, spl, if_pos rfl]; rfl
    have hP0 : (splitL (s.drop 1) 47).length ≤ 2000 := by
      have := splitL_le (s.drop 1) 47
      rw [List.length_drop] at this; omega
    have hPn : splitL (s.drop 1) 47 ≠ [] := by rw [splitL_eq]; exact spl_ne _ _
    have hPp := List.length_pos_iff.2 hPn
    have hPl : ∀ x ∈ splitL (s.drop 1) 47, x.length ≤ 2000 := fun x hx => by
      rw [splitL_eq] at hx
      have := spl_len 47 _ x hx
      rw [List.length_drop] at this; omega
    have hJl := dotGo_len (splitL (s.drop 1) 47) []
    have hJs : (joinSl (splitL (s.drop 1) 47)).length ≤ 2000 := by
      rw [splitL_eq, joinSl_spl, List.length_cons, List.length_drop]; omega
    rw [eU, eS]
    rw [dotGo_F _ _ hPn] at hJl ⊢
    generalize splitL (s.drop 1) 47 = P at *
    refine ⟨by omega, by simp only [List.length_cons]; omega, ?_⟩
    refine LoopW.adj ⟨hct, fol⟩ (by kernel_rfl) [.nv 4 8000 1 (lsF cStr [])] (fun t : Nat × List (List UInt8) => [(3, .sl P.length (lsF cStr P)), (4, .vec 8000 t.2.length), (5, .int .i64 t.1)]) (fun t => [(8000, .vec 1 t.2.length (lsF cStr t.2))]) (fun t => t.1 ≤ P.length ∧ t.2.length ≤ t.1 ∧ dotF (P.drop t.1) t.2 = dotF P []) (fun t => P.length - t.1) (0, []) ?_ fun t ht => ?_
    · push_cast (config := { maxSteps := 10000000 })
      refine ⟨Nat.zero_le _, fun j hj => ?_⟩
      show V.str (([] :: P).getD (j + 1) []) = _
      rw [List.getD_cons_succ]
    · obtain ⟨i, o⟩ := t
      obtain ⟨i1, i2, i3⟩ : i ≤ P.length ∧ o.length ≤ i ∧ dotF (P.drop i) o = dotF P [] := ht
      push_cast (config := { maxSteps := 10000000 })
      refine ⟨fun hlt => ?_, fun hge => ?_⟩
      · rw [dropG (d := []) hlt, dotF] at i3
        refine SeqW.cut ⟨hct, fol⟩ (by kernel_rfl) (by kernel_rfl) [.trim 4] (fun o' : List (List UInt8) => [(3, .sl P.length (lsF cStr P)), (4, .vec 8000 o'.length), (5, .int .i64 i)]) (fun o' => [(8000, .vec 1 o'.length (lsF cStr o'))]) (fun o' => o'.length ≤ i + 1 ∧ dotF (P.drop (i + 1)) o' = dotF P []) ?_ fun o' ho => ?_
        · push_cast (config := { maxSteps := 10000000 })
          have dl : ∀ j, j < o.length - 1 → V.str (o.getD j []) = V.str (o.dropLast.getD j []) := fun j hj => by
            rw [List.getD_eq_getElem?_getD, List.getD_eq_getElem?_getD, List.getElem?_dropLast, if_pos hj]
          refine ⟨hlt, fun h => ⟨by omega, by omega, o.dropLast, ⟨by rw [List.length_dropLast]; omega, by rw [if_pos h] at i3; exact i3⟩, by rw [List.length_dropLast]; omega, by rw [List.length_dropLast]; omega, fun j hj => dl j (by omega)⟩, fun h => ⟨hlt, fun h2 => ⟨hlt, by omega, o ++ [P.getD i []], ⟨by simp; omega, by rw [if_neg h, if_neg h2] at i3; exact i3⟩, by simp, by simp, fun j hj => ?_⟩, fun h2 => ⟨o, ⟨by omega, by rw [if_neg h, if_pos h2] at i3; exact i3⟩, rfl, rfl, fun _ _ => rfl⟩⟩⟩
          exact (LsI.app (c := cStr) (f := lsF cStr o) (g := litF [cStr.enc (P.getD i [])]) (LsI.ls o) (LsI.one (c := cStr) (a := P.getD i []) rfl) rfl).2 j hj
        · push_cast (config := { maxSteps := 10000000 })
          obtain ⟨o1, o2⟩ := ho
          exact ⟨by omega, ((i + 1, o') : Nat × List (List UInt8)), ⟨by show i + 1 ≤ _; omega, o1, o2⟩, by show P.length - (i + 1) < _; omega, ⟨rfl, by show (i : Int) + 1 = ((i + 1 : Nat) : Int); omega⟩, rfl, fun _ _ => rfl⟩
      · rw [List.drop_eq_nil_of_le (by omega), dotF] at i3
        rw [← i3] at hJl ⊢
        clear i3 eU
        refine SeqW.cut ⟨hct, fol⟩ (by kernel_rfl) (by kernel_rfl) [] (fun o' : List (List UInt8) => [(4, .vec 8000 o'.length)]) (fun o' => [(8000, .vec 1 o'.length (lsF cStr o'))]) (fun o' => o' = o ++ (if lastP P = [46] ∨ lastP P = [46, 46] then [[]] else [])) ?_ fun o' ho => ?_
        · push_cast (config := { maxSteps := 10000000 })
          rw [show (↑P.length - 1 : Int).toNat = P.length - 1 by omega, show P.getD (P.length - 1) [] = lastP P from rfl]
          have hF := dotF_len P []
          refine ⟨by omega, by omega, fun h => ⟨by omega, o ++ [[]], by rw [if_pos h], by simp, by simp, fun j hj => ?_⟩, fun h => ⟨o, by rw [if_neg (by rintro (x | x); exact h.1 x; exact h.2 x)]; simp, rfl, rfl, fun _ _ => rfl⟩⟩
          exact (LsI.app (c := cStr) (f := lsF cStr o) (g := litF [cStr.enc []]) (LsI.ls o) (LsI.one (c := cStr) (a := []) rfl) rfl).2 j hj
        · have hol : o'.length ≤ 4001 := by
            rw [ho, List.length_append]; split <;> simp <;> omega
          rw [← ho] at hJl ⊢
          have h00 : (joinSl []).length = 0 := rfl
          clear ho
          push_cast (config := { maxSteps := 10000000 })
          refine LoopW.adj ⟨hct, fol⟩ (by kernel_rfl) [] (fun k : Nat => [(4, .vec 8000 o'.length), (7, .str (joinSl (o'.take k))), (8, .int .i64 k)]) (fun k => [(8000, .vec 1 o'.length (lsF cStr o'))]) (fun k => k ≤ o'.length) (fun k => o'.length - k) 0 ?_ fun k hk => ?_
          · push_cast (config := { maxSteps := 10000000 })
            exact ⟨Nat.zero_le _, rfl⟩
          · push_cast (config := { maxSteps := 10000000 })
            refine ⟨fun hlt => ?_, fun hge => ?_⟩
            · have e1 : o'.take (k + 1) = o'.take k ++ [o'.getD k []] := by
                rw [List.getD_eq_getElem?_getD, List.getElem?_eq_getElem hlt, List.take_succ_eq_append_getElem hlt]; rfl
              have e2 : joinSl (o'.take (k + 1)) = joinSl (o'.take k) ++ 47 :: o'.getD k [] := by rw [e1, joinSl_app, joinSl_one]
              have e3 : (joinSl (o'.take (k + 1))).length ≤ (joinSl o').length := by
                conv => rhs; rw [← List.take_append_drop (k + 1) o', joinSl_app, List.length_append]
                omega
              rw [e2, List.length_append, List.length_cons] at e3
              exact ⟨hlt, hlt, by omega, by omega, by omega, k + 1, by omega, by omega, e2.symm, by omega⟩
            · have : k = o'.length := by omega
              rw [this, List.take_length]
  · cases h
attribute [push_cast] ckDots1

end Go.Abs
