/- what functions of this program compute: contracts, each a function's own -/
import Derived.Test.YtkpecjbbmadlcaaGreatDoorAbsK3
import Derived.Test.YtkpecjbbmadlcaaGreatDoorAbsFacts
import Derived.Test.YtkpecjbbmadlcaaGreatDoorAbsF6
import Derived.Test.YtkpecjbbmadlcaaGreatDoorAbsShelf
import Derived.Lib.SplitLaws
import Derived.Lib.SlTrimSet
import Derived.Lib.Atoi
import Derived.Lib.Itoa
import Derived.Lib.ItoaNum
import Derived.Lib.ItoaLen
import Derived.Lib.Replace
import Derived.Lib.ReplaceLaws
import Derived.Lib.AtoiErrMem
import Derived.Lib.Overlaps
import Derived.Deep.AppendSrc
import Derived.Laws.NewBlocks
import Derived.WalkKit
import Derived.Lib.Walk
import Derived.Lib.AppendStr
import Derived.Lib.AppendZeros
import Derived.Lib.UnsafeStr
import Derived.Lib.Builder
import Derived.Laws.Externs
import Derived.Lib.Repeat
import Derived.Lib.Join
namespace Go.Abs
open Go Go.Proofs
set_option maxHeartbeats 4000000
set_option maxRecDepth 100000
set_option linter.unusedVariables false
set_option linter.unusedSimpArgs false
def agS : List UInt8 := [97, 98, 99, 100, 101, 102, 103, 104, 105, 106, 107, 108, 109, 110, 111, 112, 113, 114, 115, 116, 117, 118, 119, 120, 121, 122, 48, 49, 50, 51, 52, 53, 54, 55, 56, 57, 45, 95]
theorem agS_has (c : UInt8) : agS.contains c = agB c := by
  have key : ∀ n, n < 256 → agS.contains (UInt8.ofNat n) = agB (UInt8.ofNat n) := by decide +kernel
  have := key c.toNat (UInt8.toNat_lt c)
  simpa using this
theorem trim_ag (s : List UInt8) : Lib.trimS s agS = [] ↔ s.all agB = true := by
  rw [trimS_nil]
  have : (fun x => agS.contains x) = agB := funext agS_has
  rw [this]
def ckIsAgent : Ck
  | [.str s] => some (s.length ≤ 140737488355328, .bool (agentL s))
  | _ => none
theorem conIsAgent : Con pg 49 ckIsAgent := by
  have hct := (ctA_ok conTrim (ctN_ok _))
  intro args q r h hq
  unfold ckIsAgent at h
  split at h
  · cases h
    rename_i s
    refine w49 (fun _ => false) [] rfl hct rfl rfl ?_
    push_cast (config := { maxSteps := 10000000 })
    have e := trim_ag s
    unfold agS at e
    refine ⟨fun h => ⟨h, fun h' => ⟨h, h'⟩⟩, fun h => ⟨h, by omega⟩, fun h => ⟨h, fun h' => ⟨h, h'⟩⟩, ?_⟩
    unfold agentL
    rw [Bool.eq_iff_iff]
    simp only [Bool.or_eq_true, Bool.and_eq_true, decide_eq_true_eq, beq_iff_eq, e]
    refine or_congr_right (and_congr_left fun _ => and_congr ?_ ?_) <;> omega
  · cases h
attribute [push_cast] ckIsAgent
theorem conIsAgent4 : Con pg 55 ckIsAgent := by
  have hct := (ctA_ok conWithin (ctN_ok _))
  intro args q r h hq
  unfold ckIsAgent at h
  split at h
  · cases h
    rename_i s
    refine w55 (fun _ => false) [] rfl hct rfl rfl ?_
    push_cast (config := { maxSteps := 10000000 })
    refine ⟨fun h => by subst h; rfl, fun h => ?_⟩
    refine LoopW.adj ⟨hct, fol⟩ (by kernel_rfl) [] (fun i : Nat => [(0, .str s), (8, .int .i64 s.length), (9, .int .i64 i)]) (fun _ => []) (fun i => i ≤ s.length ∧ ∀ j, j < i → agB (s.getD j 0) = true) (fun i => s.length - i) 0 ?_ fun i hi => ?_
    · push_cast (config := { maxSteps := 10000000 })
      exact Nat.zero_le _
    · push_cast (config := { maxSteps := 10000000 })
      obtain ⟨i1, i2⟩ := hi
      have c8 := UInt8.toNat_lt (s.getD i 0)
      have hA : agB (s.getD i 0) = true ↔ (97 ≤ (s.getD i 0).toNat ∧ (s.getD i 0).toNat ≤ 122) ∨ (48 ≤ (s.getD i 0).toNat ∧ (s.getD i 0).toNat ≤ 57) ∨ (s.getD i 0).toNat = 45 ∨ (s.getD i 0).toNat = 95 := by
        unfold agB
        simp only [Bool.or_eq_true, decide_eq_true_eq, or_assoc]
      have gl : agentL s = (decide (1 ≤ s.length) && decide (s.length ≤ 40) && s.all agB) := by
        unfold agentL
        rw [show (s == [42]) = false from beq_eq_false_iff_ne.2 h]; rfl
      refine ⟨fun hl => ⟨hl, fun x => ⟨x, fun y => ⟨x, y⟩⟩, fun x => ?_, fun x => ⟨⟨by omega, by omega⟩, i + 1, ⟨by omega, fun j hj => ?_⟩, by omega, by omega⟩⟩, fun hl => ?_⟩
      · rw [gl, all_no' (d := 0) hl (by cases hx : agB (s.getD i 0) with | false => rfl | true => have := hA.1 hx; omega)]
        simp
      · by_cases e : j = i
        · subst e; exact hA.2 (by omega)
        · exact i2 j (by omega)
      · rw [gl, all_at' (d := 0) fun j hj => i2 j (by omega), Bool.and_true]
        congr 1 <;> exact decide_eq_decide.2 (by omega)
  · cases h
def ckCheckGrp : Ck
  | [x] => some (isC cGrp x ∧ grpOk (cGrp.dec x), .int .i64 (checkGrpL (cGrp.dec x)))
  | _ => none
theorem conCheckGrp : Con pg 27 ckCheckGrp := by
  have hct := (ctA_ok conIsAgent (ctA_ok conPat (ctN_ok _)))
  intro args q r h hq
  unfold ckCheckGrp at h
  split at h
  · cases h
    rename_i x
    refine pcall_args (args' := [cGrp.enc (cGrp.dec x)]) ⟨hq.1, trivial⟩ ?_
    obtain ⟨-, ok⟩ := hq
    generalize cGrp.dec x = g at ok ⊢
    obtain ⟨o1, o2, o3, o4, o5, o6⟩ := ok
    refine w27 (fun _ => false) [] rfl hct rfl rfl ?_
    push_cast (config := { maxSteps := 10000000 })
    refine ⟨fun h => by unfold checkGrpL; rw [if_pos (by omega)], fun h1 => ⟨fun h => by unfold checkGrpL; rw [if_neg (by omega), if_pos (by omega)], fun h2 => ?_⟩⟩
    have hag : ∀ j, j < g.ag.length → (g.ag.getD j []).length ≤ 140737488355328 := fun j hj => o2 _ (by rw [List.getD_eq_getElem?_getD, List.getElem?_eq_getElem hj]; exact List.getElem_mem hj)
    have eG : g.ag.all agentL = false → checkGrpL g = 5 := fun h => by unfold checkGrpL; rw [if_neg (by omega), if_neg (by omega), if_pos h]
    refine LoopW.adj ⟨hct, fol⟩ (by kernel_rfl) [] (fun i : Nat => [(1, .ptr 1 0), (16, .sl g.ag.length (lsF cStr g.ag)), (17, .int .i64 g.ag.length), (18, .int .i64 i)]) (fun _ => [(1, .cells [.sl g.ag.length (lsF cStr g.ag), .sl g.ru.length (lsF cRul g.ru), .int .i64 g.de])]) (fun i => i ≤ g.ag.length ∧ ∀ j, j < i → agentL (g.ag.getD j []) = true) (fun i => g.ag.length - i) 0 ?_ fun i hi => ?_
    · push_cast (config := { maxSteps := 10000000 })
      exact Nat.zero_le _
    · push_cast (config := { maxSteps := 10000000 })
      obtain ⟨i1, i2⟩ := hi
      refine ⟨fun hl => ⟨hl, hag i hl, fun ha => ?_, fun ha => ⟨⟨by omega, by omega⟩, i + 1, ⟨by omega, fun j hj => ?_⟩, by omega, by omega⟩⟩, fun hl => ?_⟩
      · exact (eG (all_no' (d := []) hl ha)).symm
      · by_cases e : j = i
        · subst e; exact ha
        · exact i2 j (by omega)
      have hA : g.ag.all agentL = true := all_at' (d := []) fun j hj => i2 j (by omega)
      have eH : checkGrpL g = if 200 < g.ru.length then 16 else if (g.ru.all fun r => patOk r.pa) = false then 3 else if g.de < -1 ∨ 99999 < g.de then 1 else 0 := by
        unfold checkGrpL; rw [if_neg (by omega), if_neg (by omega), if_neg (by rw [hA]; simp)]
      rw [eH]
      refine ⟨fun h => by rw [if_pos (by omega)], fun h3 => ?_⟩
      rw [if_neg (by omega)]
      refine LoopW.adj ⟨hct, fol⟩ (by kernel_rfl) [] (fun i : Nat => [(1, .ptr 1 0), (31, .sl g.ru.length (lsF cRul g.ru)), (32, .int .i64 g.ru.length), (33, .int .i64 i)]) (fun _ => [(1, .cells [.sl g.ag.length (lsF cStr g.ag), .sl g.ru.length (lsF cRul g.ru), .int .i64 g.de])]) (fun i => i ≤ g.ru.length ∧ ∀ j, j < i → patOk (g.ru.getD j noRul).pa = true) (fun i => g.ru.length - i) 0 ?_ fun i hi => ?_
      · push_cast (config := { maxSteps := 10000000 })
        exact Nat.zero_le _
      · push_cast (config := { maxSteps := 10000000 })
        obtain ⟨j1, j2⟩ := hi
        refine ⟨fun hl => ⟨hl, fun ha => ?_, fun ha => ⟨⟨by omega, by omega⟩, i + 1, ⟨by omega, fun j hj => ?_⟩, by omega, by omega⟩⟩, fun hl => ?_⟩
        · rw [if_pos (all_no' (d := noRul) hl ha)]
        · by_cases e : j = i
          · subst e; exact ha
          · exact j2 j (by omega)
        · rw [if_neg (by rw [all_at' (d := noRul) fun j hj => j2 j (by omega)]; simp)]
          exact ⟨fun x => by rw [if_pos x], fun x => by rw [if_neg (by omega)]⟩
  · cases h
attribute [push_cast] ckCheckGrp
theorem conCheckGrp4 : Con pg 32 ckCheckGrp := by
  have hct := (ctA_ok conIsAgent4 (ctA_ok conPat4 (ctA_ok conWithin (ctN_ok _))))
  intro args q r h hq
  unfold ckCheckGrp at h
  split at h
  · cases h
    rename_i x
    refine pcall_args (args' := [cGrp.enc (cGrp.dec x)]) ⟨hq.1, trivial⟩ ?_
    obtain ⟨-, ok⟩ := hq
    generalize cGrp.dec x = g at ok ⊢
    obtain ⟨o1, o2, o3, o4, o5, o6⟩ := ok
    refine w32 (fun _ => false) [] rfl hct rfl rfl ?_
    push_cast (config := { maxSteps := 10000000 })
    refine ⟨fun h => by unfold checkGrpL; rw [if_pos (by omega)], fun h1 => ⟨fun h => by unfold checkGrpL; rw [if_neg (by omega), if_pos (by omega)], fun h2 => ?_⟩⟩
    have hag : ∀ j, j < g.ag.length → (g.ag.getD j []).length ≤ 140737488355328 := fun j hj => o2 _ (by rw [List.getD_eq_getElem?_getD, List.getElem?_eq_getElem hj]; exact List.getElem_mem hj)
    have eG : g.ag.all agentL = false → checkGrpL g = 5 := fun h => by unfold checkGrpL; rw [if_neg (by omega), if_neg (by omega), if_pos h]
    refine LoopW.adj ⟨hct, fol⟩ (by kernel_rfl) [] (fun i : Nat => [(1, .ptr 1 0), (16, .sl g.ag.length (lsF cStr g.ag)), (17, .int .i64 g.ag.length), (18, .int .i64 i)]) (fun _ => [(1, .cells [.sl g.ag.length (lsF cStr g.ag), .sl g.ru.length (lsF cRul g.ru), .int .i64 g.de])]) (fun i => i ≤ g.ag.length ∧ ∀ j, j < i → agentL (g.ag.getD j []) = true) (fun i => g.ag.length - i) 0 ?_ fun i hi => ?_
    · push_cast (config := { maxSteps := 10000000 })
      exact Nat.zero_le _
    · push_cast (config := { maxSteps := 10000000 })
      obtain ⟨i1, i2⟩ := hi
      refine ⟨fun hl => ⟨hl, hag i hl, fun ha => ?_, fun ha => ⟨⟨by omega, by omega⟩, i + 1, ⟨by omega, fun j hj => ?_⟩, by omega, by omega⟩⟩, fun hl => ?_⟩
      · exact (eG (all_no' (d := []) hl ha)).symm
      · by_cases e : j = i
        · subst e; exact ha
        · exact i2 j (by omega)
      have hA : g.ag.all agentL = true := all_at' (d := []) fun j hj => i2 j (by omega)
      have eH : checkGrpL g = if 200 < g.ru.length then 16 else if (g.ru.all fun r => patOk r.pa) = false then 3 else if g.de < -1 ∨ 99999 < g.de then 1 else 0 := by
        unfold checkGrpL; rw [if_neg (by omega), if_neg (by omega), if_neg (by rw [hA]; simp)]
      rw [eH]
      refine ⟨fun h => by rw [if_pos (by omega)], fun h3 => ?_⟩
      rw [if_neg (by omega)]
      refine LoopW.adj ⟨hct, fol⟩ (by kernel_rfl) [] (fun i : Nat => [(1, .ptr 1 0), (31, .sl g.ru.length (lsF cRul g.ru)), (32, .int .i64 g.ru.length), (33, .int .i64 i)]) (fun _ => [(1, .cells [.sl g.ag.length (lsF cStr g.ag), .sl g.ru.length (lsF cRul g.ru), .int .i64 g.de])]) (fun i => i ≤ g.ru.length ∧ ∀ j, j < i → patOk (g.ru.getD j noRul).pa = true) (fun i => g.ru.length - i) 0 ?_ fun i hi => ?_
      · push_cast (config := { maxSteps := 10000000 })
        exact Nat.zero_le _
      · push_cast (config := { maxSteps := 10000000 })
        obtain ⟨j1, j2⟩ := hi
        refine ⟨fun hl => ⟨hl, fun ha => ?_, fun ha => ⟨⟨by omega, by omega⟩, i + 1, ⟨by omega, fun j hj => ?_⟩, by omega, by omega⟩⟩, fun hl => ?_⟩
        · rw [if_pos (all_no' (d := noRul) hl ha)]
        · by_cases e : j = i
          · subst e; exact ha
          · exact j2 j (by omega)
        · rw [if_neg (by rw [all_at' (d := noRul) fun j hj => j2 j (by omega)]; simp)]
          exact ⟨fun x => by rw [if_pos (by omega)], fun x => by rw [if_neg (by omega)]⟩
  · cases h
def ckIsAdr4 : Ck
  | [.str s] => some (True, .bool (adrB s))
  | _ => none
theorem conIsAdr4 : Con pg 33 ckIsAdr4 := by
  have hct := (ctA_ok conReadA2 (ctN_ok _))
  intro args q r h hq
  unfold ckIsAdr4 at h
  split at h
  · cases h
    rename_i s
    refine w33 (fun _ => false) [] rfl hct rfl rfl ?_
    push_cast (config := { maxSteps := 10000000 })
    rfl
  · cases h
attribute [push_cast] ckIsAdr4
def ckCheckRob : Ck
  | [x] => some (isC cRob x ∧ robOk (cRob.dec x), .int .i64 (checkRobL (cRob.dec x)))
  | _ => none
theorem conCheckRob : Con pg 11 ckCheckRob := by
  have hct := (ctA_ok conCheckGrp (ctA_ok conReadA (ctN_ok _)))
  intro args q r h hq
  unfold ckCheckRob at h
  split at h
  · cases h
    rename_i x
    refine pcall_args (args' := [cRob.enc (cRob.dec x)]) ⟨hq.1, trivial⟩ ?_
    obtain ⟨-, ok⟩ := hq
    generalize cRob.dec x = r at ok ⊢
    obtain ⟨o1, o2, o3, o4⟩ := ok
    refine w11 (fun _ => false) [] rfl hct rfl rfl ?_
    push_cast (config := { maxSteps := 10000000 })
    refine ⟨fun h => by unfold checkRobL; rw [if_pos (by omega)], fun h1 => ?_⟩
    have hgr : ∀ j, j < r.gr.length → grpOk (r.gr.getD j noGrp) := fun j hj => o2 _ (by rw [List.getD_eq_getElem?_getD, List.getElem?_eq_getElem hj]; exact List.getElem_mem hj)
    have hma : ∀ j, j < r.ma.length → (r.ma.getD j []).length ≤ 140737488355328 := fun j hj => o4 _ (by rw [List.getD_eq_getElem?_getD, List.getElem?_eq_getElem hj]; exact List.getElem_mem hj)
    refine LoopW.adj ⟨hct, fol⟩ (by kernel_rfl) [] (fun i : Nat => [(1, .ptr 1 0), (16, .sl r.gr.length (lsF cGrp r.gr)), (17, .int .i64 r.gr.length), (18, .int .i64 i)]) (fun _ => [(1, .cells [.sl r.gr.length (lsF cGrp r.gr), .sl r.ma.length (lsF cStr r.ma)])]) (fun i => i ≤ r.gr.length ∧ grpsE (r.gr.drop i) = grpsE r.gr) (fun i => r.gr.length - i) 0 ?_ fun i hi => ?_
    · push_cast (config := { maxSteps := 10000000 })
      exact Nat.zero_le _
    · push_cast (config := { maxSteps := 10000000 })
      obtain ⟨i1, i2⟩ := hi
      have eR : checkRobL r = if grpsE r.gr = 0 then (if 100 < r.ma.length then 16 else if r.ma.all adrB = true then 0 else 3) else grpsE r.gr := by unfold checkRobL; rw [if_neg (by omega)]
      refine ⟨fun hl => ?_, fun hl => ?_⟩
      · rw [dropG (d := noGrp) hl, grpsE] at i2
        refine ⟨hl, hgr i hl, fun hc => ?_, fun hc => ⟨⟨by omega, by omega⟩, i + 1, ⟨by omega, ?_⟩, by omega, by omega⟩⟩
        · rw [if_neg hc] at i2
          rw [eR, ← i2, if_neg hc]
        · rw [if_pos hc] at i2; exact i2
      rw [List.drop_eq_nil_of_le (by omega), grpsE] at i2
      rw [← i2, if_pos rfl] at eR
      rw [eR]
      refine ⟨fun h => by rw [if_pos (by omega)], fun h2 => ?_⟩
      rw [if_neg (by omega)]
      refine LoopW.adj ⟨hct, fol⟩ (by kernel_rfl) [] (fun i : Nat => [(33, .sl r.ma.length (lsF cStr r.ma)), (34, .int .i64 r.ma.length), (35, .int .i64 i)]) (fun _ => []) (fun i => i ≤ r.ma.length ∧ ∀ j, j < i → adrB (r.ma.getD j []) = true) (fun i => r.ma.length - i) 0 ?_ fun i hi => ?_
      · push_cast (config := { maxSteps := 10000000 })
        exact Nat.zero_le _
      · push_cast (config := { maxSteps := 10000000 })
        obtain ⟨j1, j2⟩ := hi
        refine ⟨fun hl => ⟨hl, fun hc => ?_, fun hc => ⟨⟨by omega, by omega⟩, i + 1, ⟨by omega, fun j hj => ?_⟩, by omega, by omega⟩⟩, fun hl => by rw [if_pos (all_at' (d := []) fun j hj => j2 j (by omega))]⟩
        · rw [if_neg (by rw [all_no' (d := []) hl (show adrB (r.ma.getD i []) = false from decide_eq_false hc)]; simp)]
        · by_cases e : j = i
          · subst e; exact decide_eq_true hc
          · exact j2 j (by omega)
  · cases h
attribute [push_cast] ckCheckRob
theorem conCheckRob4 : Con pg 13 ckCheckRob := by
  have hct := (ctA_ok conCheckGrp4 (ctA_ok conIsAdr4 (ctN_ok _)))
  intro args q r h hq
  unfold ckCheckRob at h
  split at h
  · cases h
    rename_i x
    refine pcall_args (args' := [cRob.enc (cRob.dec x)]) ⟨hq.1, trivial⟩ ?_
    obtain ⟨-, ok⟩ := hq
    generalize cRob.dec x = r at ok ⊢
    obtain ⟨o1, o2, o3, o4⟩ := ok
    refine w13 (fun _ => false) [] rfl hct rfl rfl ?_
    push_cast (config := { maxSteps := 10000000 })
    refine ⟨fun h => by unfold checkRobL; rw [if_pos (by omega)], fun h1 => ?_⟩
    have hgr : ∀ j, j < r.gr.length → grpOk (r.gr.getD j noGrp) := fun j hj => o2 _ (by rw [List.getD_eq_getElem?_getD, List.getElem?_eq_getElem hj]; exact List.getElem_mem hj)
    have hma : ∀ j, j < r.ma.length → (r.ma.getD j []).length ≤ 140737488355328 := fun j hj => o4 _ (by rw [List.getD_eq_getElem?_getD, List.getElem?_eq_getElem hj]; exact List.getElem_mem hj)
    refine LoopW.adj ⟨hct, fol⟩ (by kernel_rfl) [] (fun i : Nat => [(1, .ptr 1 0), (13, .sl r.gr.length (lsF cGrp r.gr)), (14, .int .i64 r.gr.length), (15, .int .i64 i)]) (fun _ => [(1, .cells [.sl r.gr.length (lsF cGrp r.gr), .sl r.ma.length (lsF cStr r.ma)])]) (fun i => i ≤ r.gr.length ∧ grpsE (r.gr.drop i) = grpsE r.gr) (fun i => r.gr.length - i) 0 ?_ fun i hi => ?_
    · push_cast (config := { maxSteps := 10000000 })
      exact Nat.zero_le _
    · push_cast (config := { maxSteps := 10000000 })
      obtain ⟨i1, i2⟩ := hi
      have eR : checkRobL r = if grpsE r.gr = 0 then (if 100 < r.ma.length then 16 else if r.ma.all adrB = true then 0 else 3) else grpsE r.gr := by unfold checkRobL; rw [if_neg (by omega)]
      refine ⟨fun hl => ?_, fun hl => ?_⟩
      · rw [dropG (d := noGrp) hl, grpsE] at i2
        refine ⟨hl, hgr i hl, fun hc => ?_, fun hc => ⟨⟨by omega, by omega⟩, i + 1, ⟨by omega, ?_⟩, by omega, by omega⟩⟩
        · rw [if_neg hc] at i2
          rw [eR, ← i2, if_neg hc]
        · rw [if_pos hc] at i2; exact i2
      rw [List.drop_eq_nil_of_le (by omega), grpsE] at i2
      rw [← i2, if_pos rfl] at eR
      rw [eR]
      refine ⟨fun h => by rw [if_pos (by omega)], fun h2 => ?_⟩
      rw [if_neg (by omega)]
      refine LoopW.adj ⟨hct, fol⟩ (by kernel_rfl) [] (fun i : Nat => [(30, .sl r.ma.length (lsF cStr r.ma)), (31, .int .i64 r.ma.length), (32, .int .i64 i)]) (fun _ => []) (fun i => i ≤ r.ma.length ∧ ∀ j, j < i → adrB (r.ma.getD j []) = true) (fun i => r.ma.length - i) 0 ?_ fun i hi => ?_
      · push_cast (config := { maxSteps := 10000000 })
        exact Nat.zero_le _
      · push_cast (config := { maxSteps := 10000000 })
        obtain ⟨j1, j2⟩ := hi
        refine ⟨fun hl => ⟨hl, fun hc => ?_, fun hc => ⟨⟨by omega, by omega⟩, i + 1, ⟨by omega, fun j hj => ?_⟩, by omega, by omega⟩⟩, fun hl => by rw [if_pos (all_at' (d := []) fun j hj => j2 j (by omega))]⟩
        · rw [if_neg (by rw [all_no' (d := []) hl hc]; simp)]
        · by_cases e : j = i
          · subst e; exact hc
          · exact j2 j (by omega)
  · cases h

@[push_cast] theorem vle_fnT (f : Fn) (a b : List V) : vle (.fn f a b) (.fn f a b) = True := eq_true rfl
/- the closure: a line is put to the builder -/
def ckTlK : List V → List Blk → Option (Prop × V × List Blk)
  | [.str w, .str v, .ptr 5 0], [.tc T [p, .vec j n], .tb e q] => some (T = 40 ∧ e = 5 ∧ j = 4005 ∧ n = q.length ∧ (p = zB ∨ p = .ptr 5 0) ∧ q.length + (lnT w v).length ≤ 70368744177664, .tup [], [.tc 40 [.ptr 5 0, .vec 4005 (q ++ lnT w v).length], .tb 5 (q ++ lnT w v)])
  | _, _ => none
def ckTl : Cf := ⟨fun | [_, _, .ptr 5 _] => [5, 4005] | _ => [], ckTlK⟩
theorem conTl : FCon pg 14 ckTl := by
  have hct := (ctF_ok conWS (ctN_ok _))
  intro args bs q r bs' h hq
  replace h : ckTlK args bs = some (q, r, bs') := h
  unfold ckTlK at h
  split at h
  · cases h
    rename_i w v T p j n e q
    refine ⟨rfl, by first | exact Nat.le_refl _ | exact Nat.zero_le _, ?_⟩
    obtain ⟨rfl, rfl, rfl, rfl, hp, hlen⟩ := hq
    show FCall pg 14 [.str w, .str v, .ptr 9005 0] [(9005, .tc 40 [V.shift p, .vec 13005 q.length]), (13005, .tb 5 q)] (.tup []) [(9005, .tc 40 [.ptr 9005 0, .vec 13005 (q ++ lnT w v).length]), (13005, .tb 5 (q ++ lnT w v))]
    have hp2 : V.shift p = zB ∨ V.shift p = .ptr 9005 0 := by
      rcases hp with rfl | rfl
      · exact .inl rfl
      · exact .inr rfl
    generalize V.shift p = p' at hp2 ⊢
    rw [lnT_len] at hlen
    refine fw14 (fun _ => false) [] rfl hct rfl (by simp) (by simp [hlIn, idsIn, Blk.menIn, V.menInL, V.menIn, V.flat, byF, lsF]) (by simp [V.menIn, V.menInL, idsIn]) ?_
    push_cast (config := { maxSteps := 10000000 })
    refine ⟨by omega, by omega, by omega, ⟨hp2, by simp, by omega⟩, by rw [lnT_len]; omega, rfl⟩
  · cases h
attribute [push_cast] ckTlK
@[push_cast] theorem tl_ids (a b : V) (o : Nat) : ckTl.ids [a, b, .ptr 5 o] = [5, 4005] := rfl
@[push_cast] theorem tl_k (T e : TypeId) (p : V) (j n : Nat) (w v q : List UInt8) : ckTl.k [.str w, .str v, .ptr 5 0] [.tc T [p, .vec j n], .tb e q] = some (T = 40 ∧ e = 5 ∧ j = 4005 ∧ n = q.length ∧ (p = zB ∨ p = .ptr 5 0) ∧ q.length + (lnT w v).length ≤ 70368744177664, .tup [], [.tc 40 [.ptr 5 0, .vec 4005 (q ++ lnT w v).length], .tb 5 (q ++ lnT w v)]) := rfl
/-- the builder's own address -/
def pT (q : List UInt8) : V := if q = [] then zB else .ptr 5 0
@[push_cast] theorem pT_nil : pT [] = zB := rfl
theorem pT_or (q : List UInt8) : pT q = zB ∨ pT q = .ptr 5 0 := by
  unfold pT
  split
  · exact .inl rfl
  · exact .inr rfl
@[push_cast] theorem vle1_zB : vle1 zB zB = True := eq_true rfl
theorem vle1_pT' (q : List UInt8) : vle1 (pT q) (pT q) := by
  rcases pT_or q with h | h <;> rw [h] <;> exact rfl
@[push_cast] theorem vle1_pT (q : List UInt8) : vle1 (pT q) (pT q) = True := eq_true (vle1_pT' q)
@[push_cast] theorem pT_orT (q : List UInt8) : (pT q = zB ∨ pT q = .ptr 5 0) = True := eq_true (pT_or q)
theorem kill_pT {d : Nat} (h : d ≠ 5) (q : List UInt8) : V.kill d (pT q) = pT q := by
  have e : (5 == d) = false := by simpa using Ne.symm h
  rcases pT_or q with h | h <;> rw [h]
  · rfl
  · simp [V.kill, e]
@[push_cast] theorem kill_pT8 (q : List UInt8) : V.kill 8 (pT q) = pT q := kill_pT (by decide) q
@[push_cast] theorem kill_pT12 (q : List UInt8) : V.kill 12 (pT q) = pT q := kill_pT (by decide) q
theorem pT_ln (q w v : List UInt8) : pT (q ++ lnT w v) = .ptr 5 0 := by
  unfold pT lnT
  rw [if_neg (by simp)]
theorem vle1_ln {q a w v : List UInt8} (h : q ++ lnT w v = a) : vle1 (.ptr 5 0) (pT a) := by
  rw [← h, pT_ln]; exact rfl
def ckText : Ck
  | [x] => some (isC cRob x ∧ robOk (cRob.dec x), .tup [.str (textRob (cRob.dec x)).1, .int .i64 (textRob (cRob.dec x)).2])
  | _ => none
theorem conText : Con pg 6 ckText := by
  have hct := (ctA_ok conCheckRob (ctF_ok conTl (ctA_ok conItoa (ctA_ok conContains (ctF_ok conBL (ctF_ok conBS (ctN_ok _)))))))
  intro args q r h hq
  unfold ckText at h
  split at h
  · cases h
    rename_i x
    refine pcall_args (args' := [cRob.enc (cRob.dec x)]) ⟨hq.1, trivial⟩ ?_
    obtain ⟨-, ok⟩ := hq
    generalize cRob.dec x = r at ok ⊢
    refine w6 (fun d => decide (d = 30005 ∨ d = 20006 ∨ d = 20018 ∨ d = 20027)) [] rfl hct rfl rfl ?_
    push_cast (config := { maxSteps := 10000000 })
    refine ⟨ok, fun h => ?_, fun hck => ?_⟩
    · unfold textRob
      rw [if_neg h]
      exact ⟨rfl, rfl⟩
    obtain ⟨k1, k2, k3, k4⟩ := rob_ok hck
    have hT : textRob r = if 100000 < (robT r).length then ([], 2) else if shpM r.ma = true then ([], 3) else (robT r, 0) := by unfold textRob; rw [if_pos hck]
    generalize textRob r = R at hT ⊢
    refine ⟨of_eq_true infoBld, ?_⟩
    refine SeqW.cut ⟨hct, fol⟩ (by kernel_rfl) (by kernel_rfl) [.nvb 5 1 4005 5] (fun _ : Unit => [(1, .ptr 1 0), (5, .ptr 5 0), (6, .fn (.func 14) [] [.ptr 5 0])]) (fun _ => [(1, .cells [.sl r.gr.length (lsF cGrp r.gr), .sl r.ma.length (lsF cStr r.ma)]), (5, .tc 40 [pT [], .vec 4005 0]), (4005, .tb 5 [])]) (fun _ => True) ?_ fun _ _ => ?_
    · push_cast (config := { maxSteps := 10000000 })
      exact ⟨(), rfl⟩
    push_cast (config := { maxSteps := 10000000 })
    refine SeqW.cut ⟨hct, fol⟩ (by kernel_rfl) (by kernel_rfl) [] (fun _ : Unit => [(1, .ptr 1 0), (5, .ptr 5 0), (6, .fn (.func 14) [] [.ptr 5 0])]) (fun _ => [(1, .cells [.sl r.gr.length (lsF cGrp r.gr), .sl r.ma.length (lsF cStr r.ma)]), (5, .tc 40 [pT (grpsT r.gr), .vec 4005 (grpsT r.gr).length]), (4005, .tb 5 (grpsT r.gr))]) (fun _ => True) ?_ fun _ _ => ?_
    · push_cast (config := { maxSteps := 10000000 })
      refine LoopW.adj ⟨hct, fol⟩ (by kernel_rfl) [] (fun i : Nat => [(1, .ptr 1 0), (5, .ptr 5 0), (6, .fn (.func 14) [] [.ptr 5 0]), (24, .sl r.gr.length (lsF cGrp r.gr)), (25, .int .i64 r.gr.length), (26, .int .i64 i)]) (fun i => [(1, .cells [.sl r.gr.length (lsF cGrp r.gr), .sl r.ma.length (lsF cStr r.ma)]), (5, .tc 40 [pT (grpsT (r.gr.take i)), .vec 4005 (grpsT (r.gr.take i)).length]), (4005, .tb 5 (grpsT (r.gr.take i)))]) (fun i => i ≤ r.gr.length) (fun i => r.gr.length - i) 0 ?_ fun i hi => ?_
      · have e0 : grpsT (r.gr.take 0) = [] := rfl
        rw [e0]
        push_cast (config := { maxSteps := 10000000 })
        exact Nat.zero_le _
      · have hi : i ≤ r.gr.length := hi
        have hst : i < r.gr.length → grpsT (r.gr.take (i + 1)) = grpsT (r.gr.take i) ++ grpT (r.gr.getD i noGrp) := flat_take grpT
        have hend : ¬ i < r.gr.length → grpsT (r.gr.take i) = grpsT r.gr := fun h => by rw [List.take_of_length_le (by omega)]
        have hz := grps_sz k2 k1 i
        have hz2 := grps_sz k2 k1 (i + 1)
        obtain ⟨q2, hq2⟩ : ∃ q2, q2 = grpsT (r.gr.take (i + 1)) := ⟨_, rfl⟩
        rw [← hq2] at hst hz2
        generalize grpsT (r.gr.take i) = q at *
        push_cast (config := { maxSteps := 10000000 })
        refine ⟨fun hlt => ⟨hlt, ?_⟩, fun hge => ?_⟩
        · have hgc := k2 (r.gr.getD i noGrp) (mem_at hlt)
          have hst := hst hlt
          generalize r.gr.getD i noGrp = g at *
          obtain ⟨z1, z2, z3, z4⟩ := grp_sz hgc
          obtain ⟨c1, c2, c3, c4, c5, c6, c7⟩ := grp_ok hgc
          refine LoopW.adj ⟨hct, fol⟩ (by kernel_rfl) [] (fun j : Nat => [(1, .ptr 1 0), (5, .ptr 5 0), (6, .fn (.func 14) [] [.ptr 5 0]), (8, .ptr 8 0), (24, .sl r.gr.length (lsF cGrp r.gr)), (25, .int .i64 r.gr.length), (26, .int .i64 i), (31, .sl g.ag.length (lsF cStr g.ag)), (32, .int .i64 g.ag.length), (33, .int .i64 j)]) (fun j => [(1, .cells [.sl r.gr.length (lsF cGrp r.gr), .sl r.ma.length (lsF cStr r.ma)]), (5, .tc 40 [pT (q ++ agsT (g.ag.take j)), .vec 4005 (q ++ agsT (g.ag.take j)).length]), (4005, .tb 5 (q ++ agsT (g.ag.take j))), (8, .cells [.sl g.ag.length (lsF cStr g.ag), .sl g.ru.length (lsF cRul g.ru), .int .i64 g.de])]) (fun j => j ≤ g.ag.length) (fun j => g.ag.length - j) 0 ?_ fun j hj => ?_
          · have e0 : agsT (g.ag.take 0) = [] := rfl
            rw [e0, List.append_nil]
            push_cast (config := { maxSteps := 10000000 })
            exact Nat.zero_le _
          · have hj : j ≤ g.ag.length := hj
            have hst2 : j < g.ag.length → agsT (g.ag.take (j + 1)) = agsT (g.ag.take j) ++ lnT uaW (g.ag.getD j []) := flat_take (lnT uaW)
            have hend2 : ¬ j < g.ag.length → agsT (g.ag.take j) = agsT g.ag := fun h => by rw [List.take_of_length_le (by omega)]
            have y1 := z1 j
            have y2 := z1 (j + 1)
            obtain ⟨u2, hu2⟩ : ∃ u2, u2 = agsT (g.ag.take (j + 1)) := ⟨_, rfl⟩
            rw [← hu2] at hst2 y2
            obtain ⟨u, hu⟩ : ∃ u, u = agsT (g.ag.take j) := ⟨_, rfl⟩
            rw [← hu] at hst2 hend2 y1 ⊢
            push_cast (config := { maxSteps := 10000000 })
            refine ⟨fun hl => ⟨hl, ?_⟩, fun hl => ?_⟩
            · have hst2 := hst2 hl
              have y3 : u2.length = u.length + (lnT uaW (g.ag.getD j [])).length := by rw [hst2, List.length_append]
              have e1 : q ++ u ++ lnT uaW (g.ag.getD j []) = q ++ u2 := by rw [hst2, List.append_assoc]
              have e2 : q.length + u.length + (lnT uaW (g.ag.getD j [])).length = q.length + u2.length := by omega
              refine ⟨?_, ⟨by omega, by omega⟩, j + 1, by omega, by omega, by omega, ⟨vle1_ln (hu2 ▸ e1), hu2 ▸ e2⟩, hu2 ▸ e1⟩
              show q.length + u.length + (lnT uaW (g.ag.getD j [])).length ≤ _
              omega
            · rw [hend2 hl] at y1 ⊢
              refine SeqW.cut ⟨hct, fol⟩ (by kernel_rfl) (by kernel_rfl) [] (fun _ : Unit => [(1, .ptr 1 0), (5, .ptr 5 0), (6, .fn (.func 14) [] [.ptr 5 0]), (8, .ptr 8 0), (24, .sl r.gr.length (lsF cGrp r.gr)), (25, .int .i64 r.gr.length), (26, .int .i64 i)]) (fun _ => [(1, .cells [.sl r.gr.length (lsF cGrp r.gr), .sl r.ma.length (lsF cStr r.ma)]), (5, .tc 40 [pT (q ++ agsT g.ag ++ delT g), .vec 4005 (q ++ agsT g.ag ++ delT g).length]), (4005, .tb 5 (q ++ agsT g.ag ++ delT g)), (8, .cells [.sl g.ag.length (lsF cStr g.ag), .sl g.ru.length (lsF cRul g.ru), .int .i64 g.de])]) (fun _ => True) ?_ fun _ _ => ?_
              · obtain ⟨dl, hdl⟩ : ∃ dl, dl = delT g := ⟨_, rfl⟩
                rw [← hdl] at z2 ⊢
                unfold delT at hdl
                obtain ⟨q3, hq3⟩ : ∃ q3, q3 = q ++ agsT g.ag := ⟨_, rfl⟩
                have hl3 : q3.length = q.length + (agsT g.ag).length := by rw [hq3, List.length_append]
                rw [← hq3]
                push_cast (config := { maxSteps := 10000000 })
                refine ⟨fun h => ?_, fun h => ⟨fun h2 => ?_, fun h2 => ?_⟩⟩
                · rw [if_pos h] at hdl
                  subst hdl
                  refine ⟨⟨by omega, by omega⟩, ⟨hl3.symm, ?_⟩, (), ⟨vle1_ln rfl, rfl⟩, rfl⟩
                  show q3.length + (lnT crawlW (Lib.itoa g.de)).length ≤ _
                  omega
                · rw [if_neg h, if_pos (by omega)] at hdl
                  subst hdl
                  refine ⟨⟨hl3.symm, ?_⟩, (), ⟨vle1_ln rfl, rfl⟩, rfl⟩
                  show q3.length + (lnT crawlW [45]).length ≤ _
                  omega
                · rw [if_neg h, if_neg (by omega)] at hdl
                  subst hdl
                  exact ⟨(), ⟨by rw [List.append_nil]; exact vle1_pT' q3, hl3.symm⟩, by rw [List.append_nil]⟩
              · obtain ⟨q3, hq3⟩ : ∃ q3, q3 = q ++ agsT g.ag ++ delT g := ⟨_, rfl⟩
                have hl3 : q3.length = q.length + (agsT g.ag).length + (delT g).length := by rw [hq3, List.length_append, List.length_append]
                have hfin : q3 ++ rulsT g.ru = q2 := by rw [hst, hq3]; unfold grpT; simp only [List.append_assoc]
                rw [← hq3]
                push_cast (config := { maxSteps := 10000000 })
                refine LoopW.adj ⟨hct, fol⟩ (by kernel_rfl) [] (fun j : Nat => [(1, .ptr 1 0), (5, .ptr 5 0), (6, .fn (.func 14) [] [.ptr 5 0]), (24, .sl r.gr.length (lsF cGrp r.gr)), (25, .int .i64 r.gr.length), (26, .int .i64 i), (56, .sl g.ru.length (lsF cRul g.ru)), (57, .int .i64 g.ru.length), (58, .int .i64 j)]) (fun j => [(1, .cells [.sl r.gr.length (lsF cGrp r.gr), .sl r.ma.length (lsF cStr r.ma)]), (5, .tc 40 [pT (q3 ++ rulsT (g.ru.take j)), .vec 4005 (q3 ++ rulsT (g.ru.take j)).length]), (4005, .tb 5 (q3 ++ rulsT (g.ru.take j)))]) (fun j => j ≤ g.ru.length) (fun j => g.ru.length - j) 0 ?_ fun j hj => ?_
                · have e0 : rulsT (g.ru.take 0) = [] := rfl
                  rw [e0, List.append_nil]
                  push_cast (config := { maxSteps := 10000000 })
                  exact Nat.zero_le _
                · have hj : j ≤ g.ru.length := hj
                  have hst2 : j < g.ru.length → rulsT (g.ru.take (j + 1)) = rulsT (g.ru.take j) ++ rulT (g.ru.getD j noRul) := flat_take rulT
                  have hend2 : ¬ j < g.ru.length → rulsT (g.ru.take j) = rulsT g.ru := fun h => by rw [List.take_of_length_le (by omega)]
                  have y1 := z3 j
                  have y2 := z3 (j + 1)
                  obtain ⟨u2, hu2⟩ : ∃ u2, u2 = rulsT (g.ru.take (j + 1)) := ⟨_, rfl⟩
                  rw [← hu2] at hst2 y2
                  obtain ⟨u, hu⟩ : ∃ u, u = rulsT (g.ru.take j) := ⟨_, rfl⟩
                  rw [← hu] at hst2 hend2 y1 ⊢
                  push_cast (config := { maxSteps := 10000000 })
                  refine ⟨fun hl => ⟨hl, fun ha => ?_, fun ha => ?_⟩, fun hl => ?_⟩
                  · have e0 : rulT (g.ru.getD j noRul) = lnT allowW (g.ru.getD j noRul).pa := by unfold rulT; rw [if_pos ha]
                    have s2 := hst2 hl
                    rw [e0] at s2
                    have e1 : q3 ++ u ++ lnT allowW (g.ru.getD j noRul).pa = q3 ++ u2 := by rw [s2, List.append_assoc]
                    have e2 : q3.length + u.length + (lnT allowW (g.ru.getD j noRul).pa).length = q3.length + u2.length := by rw [s2, List.length_append]; omega
                    refine ⟨?_, ⟨by omega, by omega⟩, j + 1, by omega, by omega, by omega, ⟨vle1_ln (hu2 ▸ e1), hu2 ▸ e2⟩, hu2 ▸ e1⟩
                    show q3.length + u.length + (lnT allowW (g.ru.getD j noRul).pa).length ≤ _
                    omega
                  · have e0 : rulT (g.ru.getD j noRul) = lnT disW (g.ru.getD j noRul).pa := by unfold rulT; rw [if_neg (by rw [ha]; simp)]
                    have s2 := hst2 hl
                    rw [e0] at s2
                    have e1 : q3 ++ u ++ lnT disW (g.ru.getD j noRul).pa = q3 ++ u2 := by rw [s2, List.append_assoc]
                    have e2 : q3.length + u.length + (lnT disW (g.ru.getD j noRul).pa).length = q3.length + u2.length := by rw [s2, List.length_append]; omega
                    refine ⟨?_, ⟨by omega, by omega⟩, j + 1, by omega, by omega, by omega, ⟨vle1_ln (hu2 ▸ e1), hu2 ▸ e2⟩, hu2 ▸ e1⟩
                    show q3.length + u.length + (lnT disW (g.ru.getD j noRul).pa).length ≤ _
                    omega
                  · have e3 : q3 ++ u = q2 := by rw [hend2 hl]; exact hfin
                    have e4 : q3.length + u.length = q2.length := by rw [← e3, List.length_append]
                    refine ⟨⟨by omega, by omega⟩, i + 1, by omega, by omega, by omega, ⟨?_, hq2 ▸ e4⟩, hq2 ▸ e3⟩
                    rw [e3, ← hq2]
                    exact vle1_pT' q2
        · rw [hend hge]
          exact ⟨(), ⟨vle1_pT' _, rfl⟩, rfl⟩
    have hz := grps_sz k2 k1 r.gr.length
    rw [List.take_length] at hz
    have hrT : robT r = grpsT r.gr ++ mapsT r.ma := rfl
    have hrl : (robT r).length = (grpsT r.gr).length + (mapsT r.ma).length := by rw [hrT, List.length_append]
    generalize grpsT r.gr = q at *
    push_cast (config := { maxSteps := 10000000 })
    refine LoopW.adj ⟨hct, fol⟩ (by kernel_rfl) [] (fun j : Nat => [(5, .ptr 5 0), (6, .fn (.func 14) [] [.ptr 5 0]), (14, .int .i64 (if shpM (r.ma.take j) = true then 3 else 0)), (72, .sl r.ma.length (lsF cStr r.ma)), (73, .int .i64 r.ma.length), (74, .int .i64 j)]) (fun j => [(5, .tc 40 [pT (q ++ mapsT (r.ma.take j)), .vec 4005 (q ++ mapsT (r.ma.take j)).length]), (4005, .tb 5 (q ++ mapsT (r.ma.take j)))]) (fun j => j ≤ r.ma.length) (fun j => r.ma.length - j) 0 ?_ fun j hj => ?_
    · have e0 : mapsT (r.ma.take 0) = [] := rfl
      have e1 : (if shpM (r.ma.take 0) = true then 3 else 0 : Int) = 0 := rfl
      rw [e0, e1, List.append_nil]
      push_cast (config := { maxSteps := 10000000 })
      exact Nat.zero_le _
    · have hj : j ≤ r.ma.length := hj
      have hst2 : j < r.ma.length → mapsT (r.ma.take (j + 1)) = mapsT (r.ma.take j) ++ lnT siteW (r.ma.getD j []) := flat_take (lnT siteW)
      have hend2 : ¬ j < r.ma.length → mapsT (r.ma.take j) = mapsT r.ma ∧ shpM (r.ma.take j) = shpM r.ma := fun h => by rw [List.take_of_length_le (by omega)]; exact ⟨rfl, rfl⟩
      have hsh : j < r.ma.length → shpM (r.ma.take (j + 1)) = (shpM (r.ma.take j) || Lib.contains (r.ma.getD j []) [35]) := fun h => by
        unfold shpM
        rw [takeG (d := []) h, List.any_append, List.any_cons, List.any_nil, Bool.or_false]
      have hml : j < r.ma.length → (r.ma.getD j []).length ≤ 2000 := fun h => adrB_len (k4 _ (mem_at h))
      have y1 := maps_sz k4 k3 j
      have y2 := maps_sz k4 k3 (j + 1)
      obtain ⟨u2, hu2⟩ : ∃ u2, u2 = mapsT (r.ma.take (j + 1)) := ⟨_, rfl⟩
      rw [← hu2] at hst2 y2
      obtain ⟨u, hu⟩ : ∃ u, u = mapsT (r.ma.take j) := ⟨_, rfl⟩
      rw [← hu] at hst2 hend2 y1 ⊢
      obtain ⟨b, hb⟩ : ∃ b, b = shpM (r.ma.take j) := ⟨_, rfl⟩
      rw [← hb] at hsh hend2 ⊢
      push_cast (config := { maxSteps := 10000000 })
      refine ⟨fun hl => ⟨hl, by have := hml hl; omega, fun hc => ?_, fun hc => ?_⟩, fun hl => ?_⟩
      · have s2 := hst2 hl
        have e1 : q ++ u ++ lnT siteW (r.ma.getD j []) = q ++ u2 := by rw [s2, List.append_assoc]
        have e2 : q.length + u.length + (lnT siteW (r.ma.getD j [])).length = q.length + u2.length := by rw [s2, List.length_append]; omega
        refine ⟨?_, ⟨by omega, by omega⟩, j + 1, by omega, by omega, ⟨?_, by omega⟩, ⟨vle1_ln (hu2 ▸ e1), hu2 ▸ e2⟩, hu2 ▸ e1⟩
        · show q.length + u.length + (lnT siteW (r.ma.getD j [])).length ≤ _
          omega
        · rw [hsh hl, hc, Bool.or_true]; rfl
      · have s2 := hst2 hl
        have e1 : q ++ u ++ lnT siteW (r.ma.getD j []) = q ++ u2 := by rw [s2, List.append_assoc]
        have e2 : q.length + u.length + (lnT siteW (r.ma.getD j [])).length = q.length + u2.length := by rw [s2, List.length_append]; omega
        refine ⟨?_, ⟨by omega, by omega⟩, j + 1, by omega, by omega, ⟨?_, by omega⟩, ⟨vle1_ln (hu2 ▸ e1), hu2 ▸ e2⟩, hu2 ▸ e1⟩
        · show q.length + u.length + (lnT siteW (r.ma.getD j [])).length ≤ _
          omega
        · rw [hsh hl, hc, Bool.or_false]
      · obtain ⟨e1, e2⟩ := hend2 hl
        rw [e1] at y1 ⊢
        rw [← e2] at hT
        refine ⟨fun h => ?_, fun h => ⟨fun h2 => ?_, fun h2 => ⟨by omega, ?_⟩⟩⟩
        · rw [hT, if_pos (by omega)]; exact ⟨rfl, rfl⟩
        · have hbt : b = true := Classical.byContradiction fun x => h2 (by rw [if_neg x])
          rw [hT, if_neg (by omega), if_pos hbt, hbt]; exact ⟨rfl, rfl⟩
        · have hbf : ¬ b = true := fun x => by rw [if_pos x] at h2; cases h2
          rw [hT, if_neg (by omega), if_neg hbf]; exact ⟨hrT.symm, rfl⟩
  · cases h
attribute [push_cast] ckText

def ckGroup (x : RdS) (A R : Nat) : Cf := ⟨fun | [.ptr 25004 _] => [25004, 25002, 25003, A, R] | _ => [], fun args bs => match args with
  | [.ptr 25004 0] => some (bs = rdB x A R 25002 25003 ∧ x.op = true ∧ x.cl.length ≤ 2000000, .eptr 25002 (gN x) 3 x.cl.length 0, rdB x A R 25002 25003)
  | _ => none⟩
theorem conGroup (x : RdS) (A R : Nat) (hAR : (A = 25000 ∧ R = 25001) ∨ (A = 8990 ∧ R = 8991)) : FCon pg 77 (ckGroup x A R) := by
  have hct := ctN_ok pg
  intro args bs q r bs' h hq
  simp only [ckGroup] at h
  split at h
  · cases h
    obtain ⟨rfl, hop, hcl⟩ := hq
    refine ⟨rfl, Nat.le_refl _, ?_⟩
    show FCall pg _ [.ptr 34004 0] (rdH x A R 25002 25003 25004).shift (.eptr 34002 (gN x) 3 x.cl.length 0) (rdH x A R 25002 25003 25004).shift
    rw [rdH_sh]
    refine fw77 (fun _ => false) [] rfl hct rfl (by simp [rdH]) (rdH_hl (by simp [idsIn, rdH]) (by simp [idsIn, rdH]) (by simp [idsIn, rdH]) (by simp [idsIn, rdH]) (by simp [idsIn, rdH])) (by simp [idsIn, rdH, V.menIn]) ?_
    unfold rdH
    have hg := gN_op hop
    rcases hAR with ⟨rfl, rfl⟩ | ⟨rfl, rfl⟩
    · push_cast (config := { maxSteps := 10000000 })
      rw [hg, show (((x.cl.length + 1 : Nat) : Int) - 1).toNat = x.cl.length by omega]
      refine ⟨by omega, by omega, ?_⟩
      exact rfl
    · push_cast (config := { maxSteps := 10000000 })
      rw [hg, show (((x.cl.length + 1 : Nat) : Int) - 1).toNat = x.cl.length by omega]
      refine ⟨by omega, by omega, ?_⟩
      exact rfl
  · cases h
@[push_cast] theorem group_ids (x : RdS) (A R o : Nat) : (ckGroup x A R).ids [.ptr 25004 o] = [25004, 25002, 25003, A, R] := rfl
@[push_cast] theorem group_k (x : RdS) (A R : Nat) (bs : List Blk) : (ckGroup x A R).k [.ptr 25004 0] bs = some (bs = rdB x A R 25002 25003 ∧ x.op = true ∧ x.cl.length ≤ 2000000, .eptr 25002 (gN x) 3 x.cl.length 0, rdB x A R 25002 25003) := rfl

theorem open_op (x : RdS) : (rdOpen x).op = true ∧ (rdOpen x).la = true := by
  unfold rdOpen
  split
  · rename_i h; exact h
  · exact ⟨rfl, rfl⟩
/-- the reader's blocks when a group is open, its marks not yet set -/
def rdHo (z : RdS) (o l : Bool) : HL := [(25004, .cells [.vec 25002 (gN z), .vec 25003 z.ma.length, .bool o, .bool l]), (25002, .vec 3 (gN z) (gF 8990 8991 z)), (25003, .vec 1 z.ma.length (lsF cStr z.ma)), (8990, .vec 1 z.ag.length (lsF cStr z.ag)), (8991, .vec 2 z.ru.length (lsF cRul z.ru))]
theorem gF_set {A R : Nat} {z y : RdS} {i : Nat} (hi : i < gN z) (hop : z.op = true) (h1 : y.cl = z.cl) {a r : Nat} {d : Int} (h2 : opG A R a r d = opG A R y.ag.length y.ru.length y.de) (_h3 : True = True) : setF (gF A R z) z.cl.length (V.agg [V.vec A a, V.vec R r, V.int IntKind.i64 d]) i = gF A R y i := by
  rw [gN_op hop] at hi
  by_cases h : i < z.cl.length
  · have e : setF (gF A R z) z.cl.length (V.agg [V.vec A a, V.vec R r, V.int IntKind.i64 d]) i = gF A R z i := by
      unfold setF
      rw [decide_eq_false (by omega)]; rfl
    rw [e, gF_lo h, gF_lo (by rw [h1]; exact h), h1]
  · obtain rfl : i = z.cl.length := by omega
    have e : setF (gF A R z) z.cl.length (V.agg [V.vec A a, V.vec R r, V.int IntKind.i64 d]) z.cl.length = opG A R a r d := by
      unfold setF
      rw [decide_eq_true rfl]; rfl
    rw [e, gF_hi (by rw [h1]; exact h), h2]
theorem app_str {D : List (List UInt8)} {x : List UInt8} {j : Nat} (h : j < D.length + 1) : appF D.length (lsF cStr D) (litF [V.str x]) j = V.str ((D ++ [x]).getD j []) := by
  unfold appF
  by_cases e : j < D.length
  · rw [decide_eq_true e, List.getD_eq_getElem?_getD, List.getElem?_append_left e, ← List.getD_eq_getElem?_getD]; rfl
  · obtain rfl : j = D.length := by omega
    rw [decide_eq_false e, Nat.sub_self, List.getD_eq_getElem?_getD, List.getElem?_append_right (Nat.le_refl _), Nat.sub_self]; rfl
/-- the groups' row, frozen, with a new group -/
def fzF (x : RdS) : Nat → V := fun i => frzV 25001 2 x.ru.length (fun i => V.agg [V.bool (x.ru.getD i noRul).al, V.str (x.ru.getD i noRul).pa]) (frzV 25000 1 x.ag.length (lsF cStr x.ag) (appF (gN x) (gF 25000 25001 x) (litF [V.agg [V.nilsl, V.nilsl, V.int IntKind.i64 (-1)]]) i))
theorem fz_new (x : RdS) : fzF x (gN x) = V.agg [V.nilsl, V.nilsl, V.int IntKind.i64 (-1)] := by
  unfold fzF appF
  rw [decide_eq_false (Nat.lt_irrefl _), Nat.sub_self]
  rfl
theorem fz_old (x : RdS) {i : Nat} (h : i < gN x) : fzF x i = lsF cGrp (rdG x) i := by
  unfold fzF appF
  rw [decide_eq_true h, cond_true]
  by_cases h1 : i < x.cl.length
  · rw [gF_lo h1]
    have e : (rdG x).getD i noGrp = x.cl.getD i noGrp := by
      unfold rdG
      split
      · rw [List.getD_eq_getElem?_getD, List.getElem?_append_left h1, List.getD_eq_getElem?_getD]
      · rfl
    show _ = cGrp.enc ((rdG x).getD i noGrp)
    rw [e]
    rfl
  · rw [gF_hi h1]
    cases hop : x.op with
    | false =>
      unfold gN at h
      rw [hop] at h
      simp at h
      omega
    | true =>
      rw [gN_op hop] at h
      obtain rfl : i = x.cl.length := by omega
      have e : (rdG x).getD x.cl.length noGrp = ⟨x.ag, x.ru, x.de⟩ := by
        unfold rdG
        rw [if_pos hop, List.getD_eq_getElem?_getD, List.getElem?_append_right (Nat.le_refl _), Nat.sub_self]; rfl
      show _ = cGrp.enc ((rdG x).getD x.cl.length noGrp)
      rw [e]
      unfold opG
      push_cast (config := { maxSteps := 10000000 })
      rfl
theorem nv_at (x : RdS) {i : Nat} (h : i < gN x + 1) : nveF (gN x) 1 8991 (nveF (gN x) 0 8990 (fzF x)) i = gF 8990 8991 ⟨rdG x, true, true, [], [], -1, x.ma⟩ i := by
  by_cases h1 : i < gN x
  · have hb : Nat.beq i (gN x) = false := by
      cases hb : Nat.beq i (gN x) with
      | false => rfl
      | true => have := Nat.eq_of_beq_eq_true hb; omega
    unfold nveF
    rw [hb, cond_false, cond_false, fz_old x h1, gF_lo (by show i < (rdG x).length; rw [rdG_len]; exact h1)]
    rfl
  · obtain rfl : i = gN x := by omega
    have hb : Nat.beq (gN x) (gN x) = true := by simp
    unfold nveF
    rw [hb, cond_true, cond_true, fz_new x, gF_hi (by show ¬ gN x < (rdG x).length; rw [rdG_len]; exact Nat.lt_irrefl _)]
    rfl
theorem mAgent {x : RdS} {v : List UInt8} (hx : RdOk x 1000000) (hv : v.length ≤ 1000000) : MCall pg 45 [.ptr 25004 0, .str v] (rdH x 25000 25001 25002 25003 25004) (.tup []) (rdH (rdAgent v x) 8990 8991 25002 25003 25004) := by
  obtain ⟨z, hz⟩ : ∃ z, z = rdOpen x := ⟨_, rfl⟩
  obtain ⟨z1, z2⟩ := open_op x
  have zok : RdOk (rdOpen x) 1000001 := open_ok hx
  rw [← hz] at z1 z2 zok
  have hgr := conGroup z 8990 8991 (.inr ⟨rfl, rfl⟩)
  have hct : CtOk pg _ := ctA_ok conSmallA (ctA_ok conIsAgent (ctF_ok hgr (ctN_ok pg)))
  refine mw45 (fun d => decide (d = 20002)) [] rfl hct rfl (by simp [rdH]) (rdH_hl (by simp [idsIn, rdH, nwB]) (by simp [idsIn, rdH, nwB]) (by simp [idsIn, rdH, nwB]) (by simp [idsIn, rdH, nwB]) (by simp [idsIn, rdH, nwB])) rfl ?_
  have hA : rdAgent v x = if agentL (lowL v) = true then { z with ag := z.ag ++ [lowL v] } else z := by rw [hz]; rfl
  generalize rdAgent v x = y at hA ⊢
  by_cases hc : x.op = true ∧ x.la = true
  · have hzx : z = x := by rw [hz]; unfold rdOpen; rw [if_pos hc]
    subst hzx
    unfold rdH
    push_cast (config := { maxSteps := 10000000 })
    refine SeqW.cut ⟨hct, fol⟩ (by kernel_rfl) (by kernel_rfl) [.ren 25000 8990, .ren 25001 8991] (fun _ : Unit => [(0, .ptr 25004 0), (1, .str v)]) (fun _ => rdHo z true true) (fun _ => True) ?_ fun _ _ => ?_
    · unfold rdHo
      rw [z1, z2]
      push_cast (config := { maxSteps := 10000000 })
      exact ⟨(), fun i _ => gF_ren z i⟩
    · unfold rdHo
      push_cast (config := { maxSteps := 10000000 })
      have hg := gN_op z1
      refine ⟨by omega, by rw [lowL_len]; omega, fun ha => ⟨⟨by rw [z1, z2], z1, by have := zok.cl; omega⟩, ⟨z1, by have := zok.cl; omega⟩, by omega, ⟨by have := zok.ag; omega, by have := zok.ag; omega⟩, by omega, ?_⟩, fun ha => ?_⟩
      · rw [if_pos ha] at hA
        subst hA
        exact ⟨⟨rfl, rfl, rfl, rfl⟩, ⟨rfl, fun i hi => gF_set (y := { z with ag := z.ag ++ [lowL v] }) hi z1 rfl (by show opG _ _ _ _ _ = opG _ _ (z.ag ++ [lowL v]).length _ _; rw [List.length_append, List.length_singleton]) rfl⟩, ⟨rfl, fun _ _ => rfl⟩, ⟨by simp, fun j hj => app_str hj⟩, rfl, fun _ _ => rfl⟩
      · rw [if_neg (by rw [ha]; simp)] at hA
        subst hA
        exact ⟨⟨rfl, rfl, z1.symm, z2.symm⟩, ⟨rfl, fun _ _ => rfl⟩, ⟨rfl, fun _ _ => rfl⟩, ⟨rfl, fun _ _ => rfl⟩, rfl, fun _ _ => rfl⟩
  · have hzx : z = ⟨rdG x, true, true, [], [], -1, x.ma⟩ := by rw [hz]; unfold rdOpen; rw [if_neg hc]
    have hN : (rdG x).length = gN x := rdG_len x
    have hzN : gN z = gN x + 1 := by rw [gN_op z1, hzx]; show (rdG x).length + 1 = _; rw [hN]
    unfold rdH
    push_cast (config := { maxSteps := 10000000 })
    refine SeqW.cut ⟨hct, fol⟩ (by kernel_rfl) (by kernel_rfl) [.frz 25000, .frz 25001, .nve 25002 (gN x) 0 8990 1 (lsF cStr []), .nve 25002 (gN x) 1 8991 2 (lsF cRul [])] (fun _ : Unit => [(0, .ptr 25004 0), (1, .str v)]) (fun _ => rdHo z x.op x.la) (fun _ => True) ?_ fun _ _ => ?_
    · unfold rdHo
      push_cast (config := { maxSteps := 10000000 })
      refine ⟨fun _ => ⟨⟨by have := hx.cl; unfold gN; cases x.op <;> simp <;> omega, by have := hx.cl; unfold gN; cases x.op <;> simp <;> omega⟩, (), ⟨Nat.lt_succ_self _, ?_⟩, ⟨Nat.lt_succ_self _, ?_⟩, ⟨hzN.symm, by rw [hzx]⟩, ⟨hzN.symm, fun i hi => ?_⟩, ⟨by rw [hzx], fun i _ => by rw [hzx]⟩, by rw [hzx]; rfl, by rw [hzx]; rfl⟩, fun h => absurd h hc⟩
      · have := fz_new x
        unfold fzF at this
        rw [this]; rfl
      · have := fz_new x
        unfold fzF at this
        unfold nveF
        simp only [this]
        rw [show Nat.beq (gN x) (gN x) = true from by simp]
        rfl
      · have := nv_at x hi
        unfold fzF at this
        rw [hzx]
        exact this
    · unfold rdHo
      push_cast (config := { maxSteps := 10000000 })
      have hg := gN_op z1
      refine ⟨by omega, by rw [lowL_len]; omega, fun ha => ⟨⟨by rw [z1, z2], z1, by have := zok.cl; omega⟩, ⟨z1, by have := zok.cl; omega⟩, by omega, ⟨by have := zok.ag; omega, by have := zok.ag; omega⟩, by omega, ?_⟩, fun ha => ?_⟩
      · rw [if_pos ha] at hA
        subst hA
        exact ⟨⟨rfl, rfl, rfl, rfl⟩, ⟨rfl, fun i hi => gF_set (y := { z with ag := z.ag ++ [lowL v] }) hi z1 rfl (by show opG _ _ _ _ _ = opG _ _ (z.ag ++ [lowL v]).length _ _; rw [List.length_append, List.length_singleton]) rfl⟩, ⟨rfl, fun _ _ => rfl⟩, ⟨by simp, fun j hj => app_str hj⟩, rfl, fun _ _ => rfl⟩
      · rw [if_neg (by rw [ha]; simp)] at hA
        subst hA
        exact ⟨⟨rfl, rfl, z1.symm, z2.symm⟩, ⟨rfl, fun _ _ => rfl⟩, ⟨rfl, fun _ _ => rfl⟩, ⟨rfl, fun _ _ => rfl⟩, rfl, fun _ _ => rfl⟩

def ckRule (x : RdS) : Cf := ⟨fun | .ptr 16004 _ :: _ => [16004, 16002, 16003, 16000, 16001] | _ => [], fun args bs => match args with
  | [.ptr 16004 0, .str w, .str v] => some (bs = rdB x 16000 16001 16002 16003 ∧ RdOk x 1000000 ∧ v.length ≤ 1000000, .tup [], rdB (rdRule w v x) 16000 16001 16002 16003)
  | _ => none⟩
theorem app_rul {D : List Rul} {x : Rul} {j : Nat} (h : j < D.length + 1) : appF D.length (lsF cRul D) (litF [V.agg [V.bool x.al, V.str x.pa]]) j = V.agg [V.bool ((D ++ [x]).getD j noRul).al, V.str ((D ++ [x]).getD j noRul).pa] := by
  unfold appF
  by_cases e : j < D.length
  · have e2 : (D ++ [x]).getD j noRul = D.getD j noRul := by rw [List.getD_eq_getElem?_getD, List.getElem?_append_left e, ← List.getD_eq_getElem?_getD]
    rw [decide_eq_true e, e2]; rfl
  · obtain rfl : j = D.length := by omega
    have e2 : (D ++ [x]).getD D.length noRul = x := by rw [List.getD_eq_getElem?_getD, List.getElem?_append_right (Nat.le_refl _), Nat.sub_self]; rfl
    rw [decide_eq_false e, Nat.sub_self, e2]; rfl
theorem conRule (x : RdS) : FCon pg 46 (ckRule x) := by
  have hgr := conGroup { x with la := false } 25000 25001 (.inl ⟨rfl, rfl⟩)
  obtain ⟨y, hy⟩ : ∃ y : RdS, y = { x with la := false } := ⟨_, rfl⟩
  rw [← hy] at hgr
  have hct : CtOk pg _ := ctA_ok conTrim (ctA_ok conAtoi (ctA_ok conPat (ctF_ok hgr (ctN_ok pg))))
  intro args bs q r bs' h hq
  simp only [ckRule] at h
  split at h
  · cases h
    rename_i w v
    obtain ⟨rfl, hx, hv⟩ := hq
    refine ⟨rfl, Nat.le_refl _, ?_⟩
    show FCall pg _ [.ptr 25004 0, .str w, .str v] (rdH x 16000 16001 16002 16003 16004).shift (.tup []) (rdH (rdRule w v x) 16000 16001 16002 16003 16004).shift
    rw [rdH_sh, rdH_sh]
    refine fw46 (fun _ => false) [] rfl hct rfl (by simp [rdH]) (rdH_hl (by simp [idsIn, rdH]) (by simp [idsIn, rdH]) (by simp [idsIn, rdH]) (by simp [idsIn, rdH]) (by simp [idsIn, rdH])) rfl ?_
    have hR : rdRule w v x = if x.op = false then x
      else if w = crawlW then (if ((1 ≤ v.length ∧ v.length ≤ 5) ∧ v.all isDg = true) ∧ x.de < 0 then { x with la := false, de := (natOf v : Int) } else { x with la := false })
      else if patOk v = true then { x with la := false, ru := x.ru ++ [⟨decide (w = allowW), v⟩] } else { x with la := false } := rfl
    generalize rdRule w v x = z at hR ⊢
    unfold rdH
    push_cast (config := { maxSteps := 10000000 })
    have e1 : ([48, 49, 50, 51, 52, 53, 54, 55, 56, 57] : List UInt8) = digs := rfl
    have e2 : ([99, 114, 97, 119, 108, 45, 100, 101, 108, 97, 121] : List UInt8) = crawlW := rfl
    have e3 : ([97, 108, 108, 111, 119] : List UInt8) = allowW := rfl
    rw [e1, e2, e3, trim_dig]
    have hcl := hx.cl
    have hru := hx.ru
    refine ⟨fun h0 => ?_, fun h1 => ?_⟩
    · rw [if_pos h0] at hR
      subst hR
      exact ⟨⟨rfl, rfl, rfl, rfl⟩, ⟨rfl, fun _ _ => rfl⟩, ⟨rfl, fun _ _ => rfl⟩, ⟨rfl, fun _ _ => rfl⟩, rfl, fun _ _ => rfl⟩
    · rw [if_neg (by rw [h1]; simp)] at hR
      have y1 : y.op = true := by rw [hy]; exact h1
      have yd : y.de = x.de := by rw [hy]
      have hg := gN_op y1
      have hlt : y.cl.length < gN y := by omega
      have ycl : y.cl.length ≤ 1000000 := by rw [hy]; exact hcl
      have yru : y.ru.length ≤ 1000000 := by rw [hy]; exact hru
      have same : z = y → (gN y = gN z ∧ y.ma.length = z.ma.length ∧ y.op = z.op ∧ y.la = z.la) ∧ (gN y = gN z ∧ ∀ (i : Nat), i < gN y → gF 25000 25001 y i = gF 25000 25001 z i) ∧ (y.ma.length = z.ma.length ∧ ∀ (i : Nat), i < y.ma.length → V.str (y.ma.getD i []) = V.str (z.ma.getD i [])) ∧ (y.ag.length = z.ag.length ∧ ∀ (i : Nat), i < y.ag.length → V.str (y.ag.getD i []) = V.str (z.ag.getD i [])) ∧ y.ru.length = z.ru.length ∧ ∀ (i : Nat), i < y.ru.length → V.agg [V.bool (y.ru.getD i noRul).al, V.str (y.ru.getD i noRul).pa] = V.agg [V.bool (z.ru.getD i noRul).al, V.str (z.ru.getD i noRul).pa] := fun e => by
        subst e
        exact ⟨⟨rfl, rfl, rfl, rfl⟩, ⟨rfl, fun _ _ => rfl⟩, ⟨rfl, fun _ _ => rfl⟩, ⟨rfl, fun _ _ => rfl⟩, rfl, fun _ _ => rfl⟩
      refine ⟨⟨by rw [hy]; rfl, y1, by omega⟩, fun hw => ⟨fun h => ⟨h, by omega⟩, fun h => ⟨h, hlt⟩, fun h => ?_, fun h => ?_⟩, fun hw => ⟨fun hp => ?_, fun hp => ?_⟩⟩
      · have hz : z = { y with de := (natOf v : Int) } := by
          rw [hR, if_pos hw, if_pos ⟨⟨⟨by omega, by omega⟩, h.1.2⟩, by rw [← yd]; exact h.2⟩, hy]
        refine ⟨⟨by omega, by omega, h.1.2⟩, hlt, ?_⟩
        rw [hz]
        exact ⟨⟨rfl, rfl, rfl, rfl⟩, ⟨rfl, fun i hi => gF_set (y := { y with de := (natOf v : Int) }) hi y1 rfl rfl rfl⟩, ⟨rfl, fun _ _ => rfl⟩, ⟨rfl, fun _ _ => rfl⟩, rfl, fun _ _ => rfl⟩
      · refine same ?_
        rw [hR, if_pos hw, if_neg (fun g => h ⟨⟨by omega, by omega⟩, g.1.2⟩ (by rw [yd]; exact g.2)), hy]
      · have hz : z = { y with ru := y.ru ++ [⟨decide (w = allowW), v⟩] } := by
          rw [hR, if_neg hw, if_pos hp, hy]
        refine ⟨hlt, ⟨by omega, by omega⟩, hlt, ?_⟩
        rw [hz]
        refine ⟨⟨rfl, rfl, rfl, rfl⟩, ⟨rfl, fun i hi => gF_set (y := { y with ru := y.ru ++ [⟨decide (w = allowW), v⟩] }) hi y1 rfl (by show opG _ _ _ _ _ = opG _ _ _ (y.ru ++ [_]).length _; rw [List.length_append, List.length_singleton]) rfl⟩, ⟨rfl, fun _ _ => rfl⟩, ⟨rfl, fun _ _ => rfl⟩, by simp, fun j hj => ?_⟩
        have ew : (w == allowW) = decide (w = allowW) := by
          rw [Bool.eq_iff_iff, beq_iff_eq, decide_eq_true_eq]
        rw [ew]
        exact app_rul (x := ⟨decide (w = allowW), v⟩) hj
      · refine same ?_
        rw [hR, if_neg hw, if_neg (by rw [hp]; simp), hy]
  · cases h
@[push_cast] theorem rule_ids (x : RdS) (o : Nat) (l : List V) : (ckRule x).ids (.ptr 16004 o :: l) = [16004, 16002, 16003, 16000, 16001] := rfl
@[push_cast] theorem rule_k (x : RdS) (w v : List UInt8) (bs : List Blk) : (ckRule x).k [.ptr 16004 0, .str w, .str v] bs = some (bs = rdB x 16000 16001 16002 16003 ∧ RdOk x 1000000 ∧ v.length ≤ 1000000, .tup [], rdB (rdRule w v x) 16000 16001 16002 16003) := rfl

/- slices of strings, as the library's functions are handed them -/
theorem inv_strs {S : Sv} {L : List (List UInt8)} {v : Value} (h : S.rep (.sl L.length (lsF cStr L)) v) :
    ∃ a c, v = .slice a L.length c ∧ L.length ≤ c ∧ (L.length = 0 ∨ ∃ b o, a = some ⟨b, o, none⟩ ∧ ∀ i, i < L.length → S.w.cell? ⟨b, o + i, none⟩ = some (.string ⟨(L.getD i []).toArray⟩)) := by
  have h' := inv_sl h
  generalize hn : L.length = n at h'
  cases h' with
  | sl0 f a c => exact ⟨a, c, rfl, Nat.zero_le _, .inl rfl⟩
  | sl n f B off c sz u hb hc hz hf hcell hone hrep =>
    refine ⟨_, c, rfl, hc, ?_⟩
    by_cases h0 : n = 0
    · exact .inl h0
    refine .inr ⟨B, off, rfl, fun i hi => ?_⟩
    have hsz : sz = 1 := by have := hf i hi; exact this.symm
    subst hsz
    have h1 := hcell i 0 hi (by omega)
    have h2 := hrep i 0 hi (by omega)
    have h3 : u i 0 = .string ⟨(L.getD i []).toArray⟩ := by
      have h4 : S.rep (.str (L.getD i [])) (u i 0) := .pure h2
      exact inv_str h4
    rw [h3, Nat.mul_one, Nat.add_zero] at h1
    exact h1
def ckJoin : Ck
  | [.sl n f, .str c] => some (isLs cStr n f ∧ n ≤ 140737488355328 ∧ (Lib.join (lsOf cStr n f) c).length ≤ 140737488355328, .str (Lib.join (lsOf cStr n f) c))
  | _ => none
attribute [push_cast] ckJoin
theorem join_sl : ∀ {L : List (List UInt8)}, L ≠ [] → 47 :: Lib.join L [47] = joinSl L
  | [a], _ => by simp [Lib.join, joinSl, List.intercalate]
  | a :: b :: r, _ => by
    have ih := join_sl (L := b :: r) (by simp)
    have e : Lib.join (a :: b :: r) [47] = a ++ (47 :: Lib.join (b :: r) [47]) := by
      simp [Lib.join, List.intercalate, List.intersperse]
    rw [e, ih]
    simp [joinSl]
def ckTrimLeft : Ck
  | [.str s, .str c] => some (c.length < 4294967281 ∧ asciiC c = true, .str (Lib.trimLeftS s c))
  | _ => none
theorem conTrimLeft : Con pg 44 ckTrimLeft := by
  intro args q r h hq
  unfold ckTrimLeft at h
  split at h
  · cases h
    rename_i s c
    refine pcall_shelf (by kernel_rfl) rfl fun w hw => (Tryz.strings_TrimLeftL ⟨s.toArray⟩ ⟨c.toArray⟩ w ?_ ?_).mono fun e w' h => ?_
    · show c.toArray.size < _
      have := hq.1
      simp; omega
    · exact asciiC_at hq.2
    · exact shelf_str h.1 (grow_below h.2)
  · cases h
attribute [push_cast] ckTrimLeft
theorem trimLeft_z (s : List UInt8) : Lib.trimLeftS s [48] = trimZ s := by
  unfold Lib.trimLeftS trimZ
  congr 1
  funext c
  rw [Bool.eq_iff_iff]
  simp

end Go.Abs
