/- what functions of this program compute: contracts, each a function's own -/
import Derived.Test.YtkpecjbbmadlcaaGreatDoorAbsK3
import Derived.Test.YtkpecjbbmadlcaaGreatDoorAbsFacts
import Derived.Test.YtkpecjbbmadlcaaGreatDoorAbsF6
import Derived.Test.YtkpecjbbmadlcaaGreatDoorAbsShelf
import Derived.Lib.SplitLaws
import Derived.Lib.SlTrimSet
import Derived.Lib.Atoi
import Derived.Lib.Itoa
import Derived.Lib.ItoaNum
import Derived.Lib.ItoaLen
import Derived.Lib.Replace
import Derived.Lib.ReplaceLaws
import Derived.Lib.AtoiErrMem
import Derived.Lib.Overlaps
import Derived.Deep.AppendSrc
import Derived.Laws.NewBlocks
import Derived.WalkKit
import Derived.Lib.Walk
import Derived.Lib.AppendStr
import Derived.Lib.AppendZeros
import Derived.Lib.UnsafeStr
import Derived.Lib.Builder
import Derived.Laws.Externs
import Derived.Lib.Repeat
import Derived.Lib.Join
namespace Go.Abs
open Go Go.Proofs
set_option maxHeartbeats 4000000
set_option maxRecDepth 100000
set_option linter.unusedVariables false
set_option linter.unusedSimpArgs false
def agS : List UInt8 := [97, 98, 99, 100, 101, 102, 103, 104, 105, 106, 107, 108, 109, 110, 111, 112, 113, 114, 115, 116, 117, 118, 119, 120, 121, 122, 48, 49, 50, 51, 52, 53, 54, 55, 56, 57, 45, 95]
theorem agS_has (c : UInt8) : agS.contains c = agB c := by
  have key : ∀ n, n < 256 → agS.contains (UInt8.ofNat n) = agB (UInt8.ofNat n) := by decide +kernel
  have := key c.toNat (UInt8.toNat_lt c)
  simpa using this
theorem trim_ag (s : List UInt8) : Lib.trimS s agS = [] ↔ s.all agB = true := by
  rw [trimS_nil]
  have : (fun x => agS.contains x) = agB := funext agS_has
  rw [this]
def ckIsAgent : Ck
  | [.str s] => some (s.length ≤ 140737488355328, .bool (agentL s))
  | _ => none
theorem conIsAgent : Con pg 49 ckIsAgent := by
  have hct := (ctA_ok conTrim (ctN_ok _))
  intro args q r h hq
  unfold ckIsAgent at h
  split at h
  · cases h
    rename_i s
    refine w49 (fun _ => false) [] rfl hct rfl rfl ?_
    push_cast (config := { maxSteps := 10000000 })
    have e := trim_ag s
    unfold agS at e
    refine ⟨fun h => ⟨h, fun h' => ⟨h, h'⟩⟩, fun h => ⟨h, by omega⟩, fun h => ⟨h, fun h' => ⟨h, h'⟩⟩, ?_⟩
    unfold agentL
    rw [Bool.eq_iff_iff]
    simp only [Bool.or_eq_true, Bool.and_eq_true, decide_eq_true_eq, beq_iff_eq, e]
    refine or_congr_right (and_congr_left fun _ => and_congr ?_ ?_) <;> omega
  · cases h
attribute [push_cast] ckIsAgent
theorem conIsAgent4 : Con pg 55 ckIsAgent := by
  have hct := (ctA_ok conWithin (ctN_ok _))
  intro args q r h hq
  unfold ckIsAgent at h
  split at h
  · cases h
    rename_i s
    refine w55 (fun _ => false) [] rfl hct rfl rfl ?_
    push_cast (config := { maxSteps := 10000000 })
    refine ⟨fun h => by subst h; rfl, fun h => ?_⟩
    refine LoopW.adj ⟨hct, fol⟩ (by kernel_rfl) [] (fun i : Nat => [(0, .str s), (8, .int .i64 s.length), (9, .int .i64 i)]) (fun _ => []) (fun i => i ≤ s.length ∧ ∀ j, j < i → agB (s.getD j 0) = true) (fun i => s.length - i) 0 ?_ fun i hi => ?_
    · push_cast (config := { maxSteps := 10000000 })
      exact Nat.zero_le _
    · push_cast (config := { maxSteps := 10000000 })
      obtain ⟨i1, i2⟩ := hi
      have c8 := UInt8.toNat_lt (s.getD i 0)
      have hA : agB (s.getD i 0) = true ↔ (97 ≤ (s.getD i 0).toNat ∧ (s.getD i 0).toNat ≤ 122) ∨ (48 ≤ (s.getD i 0).toNat ∧ (s.getD i 0).toNat ≤ 57) ∨ (s.getD i 0).toNat = 45 ∨ (s.getD i 0).toNat = 95 := by
        unfold agB
        simp only [Bool.or_eq_true, decide_eq_true_eq, or_assoc]
      have gl : agentL s = (decide (1 ≤ s.length) && decide (s.length ≤ 40) && s.all agB) := by
        unfold agentL
        rw [show (s == [42]) = false from beq_eq_false_iff_ne.2 h]; rfl
      refine ⟨fun hl => ⟨hl, fun x => ⟨x, fun y => ⟨x, y⟩⟩, fun x => ?_, fun x => ⟨⟨by omega, by omega⟩, i + 1, ⟨by omega, fun j hj => ?_⟩, by omega, by omega⟩⟩, fun hl => ?_⟩
      · rw [gl, all_no' (d := 0) hl (by cases hx : agB (s.getD i 0) with | false => rfl | true => have := hA.1 hx; omega)]
        simp
      · by_cases e : j = i
        · subst e; exact hA.2 (by omega)
        · exact i2 j (by omega)
      · rw [gl, all_at' (d := 0) fun j hj => i2 j (by omega), Bool.and_true]
        congr 1 <;> exact decide_eq_decide.2 (by omega)
  · cases h
def ckCheckGrp : Ck
  | [x] => some (isC cGrp x ∧ grpOk (cGrp.dec x), .int .i64 (checkGrpL (cGrp.dec x)))
  | _ => none
theorem conCheckGrp : Con pg 27 ckCheckGrp := by
  have hct := (ctA_ok conIsAgent (ctA_ok conPat (ctN_ok _)))
  intro args q r h hq
  unfold ckCheckGrp at h
  split at h
  · cases h
    rename_i x
    refine pcall_args (args' := [cGrp.enc (cGrp.dec x)]) ⟨hq.1, trivial⟩ ?_
    obtain ⟨-, ok⟩ := hq
    generalize cGrp.dec x = g at ok ⊢
    obtain ⟨o1, o2, o3, o4, o5, o6⟩ := ok
    refine w27 (fun _ => false) [] rfl hct rfl rfl ?_
    push_cast (config := { maxSteps := 10000000 })
    refine ⟨fun h => by unfold checkGrpL; rw [if_pos (by omega)], fun h1 => ⟨fun h => by unfold checkGrpL; rw [if_neg (by omega), if_pos (by omega)], fun h2 => ?_⟩⟩
    have hag : ∀ j, j < g.ag.length → (g.ag.getD j []).length ≤ 140737488355328 := fun j hj => o2 _ (by rw [List.getD_eq_getElem?_getD, List.getElem?_eq_getElem hj]; exact List.getElem_mem hj)
    have eG : g.ag.all agentL = false → checkGrpL g = 5 := fun h => by unfold checkGrpL; rw [if_neg (by omega), if_neg (by omega), if_pos h]
    refine LoopW.adj ⟨hct, fol⟩ (by kernel_rfl) [] (fun i : Nat => [(1, .ptr 1 0), (16, .sl g.ag.length (lsF cStr g.ag)), (17, .int .i64 g.ag.length), (18, .int .i64 i)]) (fun _ => [(1, .cells [.sl g.ag.length (lsF cStr g.ag), .sl g.ru.length (lsF cRul g.ru), .int .i64 g.de])]) (fun i => i ≤ g.ag.length ∧ ∀ j, j < i → agentL (g.ag.getD j []) = true) (fun i => g.ag.length - i) 0 ?_ fun i hi => ?_
    · push_cast (config := { maxSteps := 10000000 })
      exact Nat.zero_le _
    · push_cast (config := { maxSteps := 10000000 })
      obtain ⟨i1, i2⟩ := hi
      refine ⟨fun hl => ⟨hl, hag i hl, fun ha => ?_, fun ha => ⟨⟨by omega, by omega⟩, i + 1, ⟨by omega, fun j hj => ?_⟩, by omega, by omega⟩⟩, fun hl => ?_⟩
      · exact (eG (all_no' (d := []) hl ha)).symm
      · by_cases e : j = i
        · subst e; exact ha
        · exact i2 j (by omega)
      have hA : g.ag.all agentL = true := all_at' (d := []) fun j hj => i2 j (by omega)
      have eH : checkGrpL g = if 200 < g.ru.length then 16 else if (g.ru.all fun r => patOk r.pa) = false then 3 else if g.de < -1 ∨ 99999 < g.de then 1 else 0 := by
        unfold checkGrpL; rw [if_neg (by omega), if_neg (by omega), if_neg (by rw [hA]; simp)]
      rw [eH]
      refine ⟨fun h => by rw [if_pos (by omega)], fun h3 => ?_⟩
      rw [if_neg (by omega)]
      refine LoopW.adj ⟨hct, fol⟩ (by kernel_rfl) [] (fun i : Nat => [(1, .ptr 1 0), (31, .sl g.ru.length (lsF cRul g.ru)), (32, .int .i64 g.ru.length), (33, .int .i64 i)]) (fun _ => [(1, .cells [.sl g.ag.length (lsF cStr g.ag), .sl g.ru.length (lsF cRul g.ru), .int .i64 g.de])]) (fun i => i ≤ g.ru.length ∧ ∀ j, j < i → patOk (g.ru.getD j noRul).pa = true) (fun i => g.ru.length - i) 0 ?_ fun i hi => ?_
      · push_cast (config := { maxSteps := 10000000 })
        exact Nat.zero_le _
      · push_cast (config := { maxSteps := 10000000 })
        obtain ⟨j1, j2⟩ := hi
        refine ⟨fun hl => ⟨hl, fun ha => ?_, fun ha => ⟨⟨by omega, by omega⟩, i + 1, ⟨by omega, fun j hj => ?_⟩, by omega, by omega⟩⟩, fun hl => ?_⟩
        · rw [if_pos (all_no' (d := noRul) hl ha)]
        · by_cases e : j = i
          · subst e; exact ha
          · exact j2 j (by omega)
        · rw [if_neg (by rw [all_at' (d := noRul) fun j hj => j2 j (by omega)]; simp)]
          exact ⟨fun x => by rw [if_pos x], fun x => by rw [if_neg (by omega)]⟩
  · cases h
attribute [push_cast] ckCheckGrp
theorem conCheckGrp4 : Con pg 32 ckCheckGrp := by
  have hct := (ctA_ok conIsAgent4 (ctA_ok conPat4 (ctA_ok conWithin (ctN_ok _))))
  intro args q r h hq
  unfold ckCheckGrp at h
  split at h
  · cases h
    rename_i x
    refine pcall_args (args' := [cGrp.enc (cGrp.dec x)]) ⟨hq.1, trivial⟩ ?_
    obtain ⟨-, ok⟩ := hq
    generalize cGrp.dec x = g at ok ⊢
    obtain ⟨o1, o2, o3, o4, o5, o6⟩ := ok
    refine w32 (fun _ => false) [] rfl hct rfl rfl ?_
    push_cast (config := { maxSteps := 10000000 })
    refine ⟨fun h => by unfold checkGrpL; rw [if_pos (by omega)], fun h1 => ⟨fun h => by unfold checkGrpL; rw [if_neg (by omega), if_pos (by omega)], fun h2 => ?_⟩⟩
    have hag : ∀ j, j < g.ag.length → (g.ag.getD j []).length ≤ 140737488355328 := fun j hj => o2 _ (by rw [List.getD_eq_getElem?_getD, List.getElem?_eq_getElem hj]; exact List.getElem_mem hj)
    have eG : g.ag.all agentL = false → checkGrpL g = 5 := fun h => by unfold checkGrpL; rw [if_neg (by omega), if_neg (by omega), if_pos h]
    refine LoopW.adj ⟨hct, fol⟩ (by kernel_rfl) [] (fun i : Nat => [(1, .ptr 1 0), (16, .sl g.ag.length (lsF cStr g.ag)), (17, .int .i64 g.ag.length), (18, .int .i64 i)]) (fun _ => [(1, .cells [.sl g.ag.length (lsF cStr g.ag), .sl g.ru.length (lsF cRul g.ru), .int .i64 g.de])]) (fun i => i ≤ g.ag.length ∧ ∀ j, j < i → agentL (g.ag.getD j []) = true) (fun i => g.ag.length - i) 0 ?_ fun i hi => ?_
    · push_cast (config := { maxSteps := 10000000 })
      exact Nat.zero_le _
    · push_cast (config := { maxSteps := 10000000 })
      obtain ⟨i1, i2⟩ := hi
      refine ⟨fun hl => ⟨hl, hag i hl, fun ha => ?_, fun ha => ⟨⟨by omega, by omega⟩, i + 1, ⟨by omega, fun j hj => ?_⟩, by omega, by omega⟩⟩, fun hl => ?_⟩
      · exact (eG (all_no' (d := []) hl ha)).symm
      · by_cases e : j = i
        · subst e; exact ha
        · exact i2 j (by omega)
      have hA : g.ag.all agentL = true := all_at' (d := []) fun j hj => i2 j (by omega)
      have eH : checkGrpL g = if 200 < g.ru.length then 16 else if (g.ru.all fun r => patOk r.pa) = false then 3 else if g.de < -1 ∨ 99999 < g.de then 1 else 0 := by
        unfold checkGrpL; rw [if_neg (by omega), if_neg (by omega), if_neg (by rw [hA]; simp)]
      rw [eH]
      refine ⟨fun h => by rw [if_pos (by omega)], fun h3 => ?_⟩
      rw [if_neg (by omega)]
      refine LoopW.adj ⟨hct, fol⟩ (by kernel_rfl) [] (fun i : Nat => [(1, .ptr 1 0), (31, .sl g.ru.length (lsF cRul g.ru)), (32, .int .i64 g.ru.length), (33, .int .i64 i)]) (fun _ => [(1, .cells [.sl g.ag.length (lsF cStr g.ag), .sl g.ru.length (lsF cRul g.ru), .int .i64 g.de])]) (fun i => i ≤ g.ru.length ∧ ∀ j, j < i → patOk (g.ru.getD j noRul).pa = true) (fun i => g.ru.length - i) 0 ?_ fun i hi => ?_
      · push_cast (config := { maxSteps := 10000000 })
        exact Nat.zero_le _
      · push_cast (config := { maxSteps := 10000000 })
        obtain ⟨j1, j2⟩ := hi
        refine ⟨fun hl => ⟨hl, fun ha => ?_, fun ha => ⟨⟨by omega, by omega⟩, i + 1, ⟨by omega, fun j hj => ?_⟩, by omega, by omega⟩⟩, fun hl => ?_⟩
        · rw [if_pos (all_no' (d := noRul) hl ha)]
        · by_cases e : j = i
          · subst e; exact ha
          · exact j2 j (by omega)
        · rw [if_neg (by rw [all_at' (d := noRul) fun j hj => j2 j (by omega)]; simp)]
          exact ⟨fun x => by rw [if_pos (by omega)], fun x => by rw [if_neg (by omega)]⟩
  · cases h
def ckIsAdr4 : Ck
  | [.str s] => some (True, .bool (adrB s))
  | _ => none
theorem conIsAdr4 : Con pg 33 ckIsAdr4 := by
  have hct := (ctA_ok conReadA2 (ctN_ok _))
  intro args q r h hq
  unfold ckIsAdr4 at h
  split at h
  · cases h
    rename_i s
    refine w33 (fun _ => false) [] rfl hct rfl rfl ?_
    push_cast (config := { maxSteps := 10000000 })
    rfl
  · cases h
attribute [push_cast] ckIsAdr4
def ckCheckRob : Ck
  | [x] => some (isC cRob x ∧ robOk (cRob.dec x), .int .i64 (checkRobL (cRob.dec x)))
  | _ => none
theorem conCheckRob : Con pg 11 ckCheckRob := by
  have hct := (ctA_ok conCheckGrp (ctA_ok conReadA (ctN_ok _)))
  intro args q r h hq
  unfold ckCheckRob at h
  split at h
  · cases h
    rename_i x
    refine pcall_args (args' := [cRob.enc (cRob.dec x)]) ⟨hq.1, trivial⟩ ?_
    obtain ⟨-, ok⟩ := hq
    generalize cRob.dec x = r at ok ⊢
    obtain ⟨o1, o2, o3, o4⟩ := ok
    refine w11 (fun _ => false) [] rfl hct rfl rfl ?_
    push_cast (config := { maxSteps := 10000000 })
    refine ⟨fun h => by unfold checkRobL; rw [if_pos (by omega)], fun h1 => ?_⟩
    have hgr : ∀ j, j < r.gr.length → grpOk (r.gr.getD j noGrp) := fun j hj => o2 _ (by rw [List.getD_eq_getElem?_getD, List.getElem?_eq_getElem hj]; exact List.getElem_mem hj)
    have hma : ∀ j, j < r.ma.length → (r.ma.getD j []).length ≤ 140737488355328 := fun j hj => o4 _ (by rw [List.getD_eq_getElem?_getD, List.getElem?_eq_getElem hj]; exact List.getElem_mem hj)
    refine LoopW.adj ⟨hct, fol⟩ (by kernel_rfl) [] (fun i : Nat => [(1, .ptr 1 0), (16, .sl r.gr.length (lsF cGrp r.gr)), (17, .int .i64 r.gr.length), (18, .int .i64 i)]) (fun _ => [(1, .cells [.sl r.gr.length (lsF cGrp r.gr), .sl r.ma.length (lsF cStr r.ma)])]) (fun i => i ≤ r.gr.length ∧ grpsE (r.gr.drop i) = grpsE r.gr) (fun i => r.gr.length - i) 0 ?_ fun i hi => ?_
    · push_cast (config := { maxSteps := 10000000 })
      exact Nat.zero_le _
    · push_cast (config := { maxSteps := 10000000 })
      obtain ⟨i1, i2⟩ := hi
      have eR : checkRobL r = if grpsE r.gr = 0 then (if 100 < r.ma.length then 16 else if r.ma.all adrB = true then 0 else 3) else grpsE r.gr := by unfold checkRobL; rw [if_neg (by omega)]
      refine ⟨fun hl => ?_, fun hl => ?_⟩
      · rw [dropG (d := noGrp) hl, grpsE] at i2
        refine ⟨hl, hgr i hl, fun hc => ?_, fun hc => ⟨⟨by omega, by omega⟩, i + 1, ⟨by omega, ?_⟩, by omega, by omega⟩⟩
        · rw [if_neg hc] at i2
          rw [eR, ← i2, if_neg hc]
        · rw [if_pos hc] at i2; exact i2
      rw [List.drop_eq_nil_of_le (by omega), grpsE] at i2
      rw [← i2, if_pos rfl] at eR
      rw [eR]
      refine ⟨fun h => by rw [if_pos (by omega)], fun h2 => ?_⟩
      rw [if_neg (by omega)]
      refine LoopW.adj ⟨hct, fol⟩ (by kernel_rfl) [] (fun i : Nat => [(33, .sl r.ma.length (lsF cStr r.ma)), (34, .int .i64 r.ma.length), (35, .int .i64 i)]) (fun _ => []) (fun i => i ≤ r.ma.length ∧ ∀ j, j < i → adrB (r.ma.getD j []) = true) (fun i => r.ma.length - i) 0 ?_ fun i hi => ?_
      · push_cast (config := { maxSteps := 10000000 })
        exact Nat.zero_le _
      · push_cast (config := { maxSteps := 10000000 })
        obtain ⟨j1, j2⟩ := hi
        refine ⟨fun hl => ⟨hl, fun hc => ?_, fun hc => ⟨⟨by omega, by omega⟩, i + 1, ⟨by omega, fun j hj => ?_⟩, by omega, by omega⟩⟩, fun hl => by rw [if_pos (all_at' (d := []) fun j hj => j2 j (by omega))]⟩
        · rw [if_neg (by rw [all_no' (d := []) hl (show adrB (r.ma.getD i []) = false from decide_eq_false hc)]; simp)]
        · by_cases e : j = i
          · subst e; exact decide_eq_true hc
          · exact j2 j (by omega)
  · cases h
attribute [push_cast] ckCheckRob
theorem conCheckRob4 : Con pg 13 ckCheckRob := by
  have hct := (ctA_ok conCheckGrp4 (ctA_ok conIsAdr4 (ctN_ok _)))
  intro args q r h hq
  unfold ckCheckRob at h
  split at h
  · cases h
    rename_i x
    refine pcall_args (args' := [cRob.enc (cRob.dec x)]) ⟨hq.1, trivial⟩ ?_
    obtain ⟨-, ok⟩ := hq
    generalize cRob.dec x = r at ok ⊢
    obtain ⟨o1, o2, o3, o4⟩ := ok
    refine w13 (fun _ => false) [] rfl hct rfl rfl ?_
    push_cast (config := { maxSteps := 10000000 })
    refine ⟨fun h => by unfold checkRobL; rw [if_pos (by omega)], fun h1 => ?_⟩
    have hgr : ∀ j, j < r.gr.length → grpOk (r.gr.getD j noGrp) := fun j hj => o2 _ (by rw [List.getD_eq_getElem?_getD, List.getElem?_eq_getElem hj]; exact List.getElem_mem hj)
    have hma : ∀ j, j < r.ma.length → (r.ma.getD j []).length ≤ 140737488355328 := fun j hj => o4 _ (by rw [List.getD_eq_getElem?_getD, List.getElem?_eq_getElem hj]; exact List.getElem_mem hj)
    refine LoopW.adj ⟨hct, fol⟩ (by kernel_rfl) [] (fun i : Nat => [(1, .ptr 1 0), (13, .sl r.gr.length (lsF cGrp r.gr)), (14, .int .i64 r.gr.length), (15, .int .i64 i)]) (fun _ => [(1, .cells [.sl r.gr.length (lsF cGrp r.gr), .sl r.ma.length (lsF cStr r.ma)])]) (fun i => i ≤ r.gr.length ∧ grpsE (r.gr.drop i) = grpsE r.gr) (fun i => r.gr.length - i) 0 ?_ fun i hi => ?_
    · push_cast (config := { maxSteps := 10000000 })
      exact Nat.zero_le _
    · push_cast (config := { maxSteps := 10000000 })
      obtain ⟨i1, i2⟩ := hi
      have eR : checkRobL r = if grpsE r.gr = 0 then (if 100 < r.ma.length then 16 else if r.ma.all adrB = true then 0 else 3) else grpsE r.gr := by unfold checkRobL; rw [if_neg (by omega)]
      refine ⟨fun hl => ?_, fun hl => ?_⟩
      · rw [dropG (d := noGrp) hl, grpsE] at i2
        refine ⟨hl, hgr i hl, fun hc => ?_, fun hc => ⟨⟨by omega, by omega⟩, i + 1, ⟨by omega, ?_⟩, by omega, by omega⟩⟩
        · rw [if_neg hc] at i2
          rw [eR, ← i2, if_neg hc]
        · rw [if_pos hc] at i2; exact i2
      rw [List.drop_eq_nil_of_le (by omega), grpsE] at i2
      rw [← i2, if_pos rfl] at eR
      rw [eR]
      refine ⟨fun h => by rw [if_pos (by omega)], fun h2 => ?_⟩
      rw [if_neg (by omega)]
      refine LoopW.adj ⟨hct, fol⟩ (by kernel_rfl) [] (fun i : Nat => [(30, .sl r.ma.length (lsF cStr r.ma)), (31, .int .i64 r.ma.length), (32, .int .i64 i)]) (fun _ => []) (fun i => i ≤ r.ma.length ∧ ∀ j, j < i → adrB (r.ma.getD j []) = true) (fun i => r.ma.length - i) 0 ?_ fun i hi => ?_
      · push_cast (config := { maxSteps := 10000000 })
        exact Nat.zero_le _
      · push_cast (config := { maxSteps := 10000000 })
        obtain ⟨j1, j2⟩ := hi
        refine ⟨fun hl => ⟨hl, fun hc => ?_, fun hc => ⟨⟨by omega, by omega⟩, i + 1, ⟨by omega, fun j hj => ?_⟩, by omega, by omega⟩⟩, fun hl => by rw [if_pos (all_at' (d := []) fun j hj => j2 j (by omega))]⟩
        · rw [if_neg (by rw [all_no' (d := []) hl hc]; simp)]
        · by_cases e : j = i
          · subst e; exact hc
          · exact j2 j (by omega)
  · cases h

@[push_cast] theorem vle_fnT (f : Fn) (a b : List V) : vle (.fn f a b) (.fn f a b) = True := eq_true rfl
/- the closure: a line is put to the builder -/
def ckTlK : List V → List Blk → Option (Prop × V × List Blk)
  | [.str w, .str v, .ptr 5 0], [.tc T [p, .vec j n], .tb e q] => some (T = 40 ∧ e = 5 ∧ j = 4005 ∧ n = q.length ∧ (p = zB ∨ p = .ptr 5 0) ∧ q.length + (lnT w v).length ≤ 70368744177664, .tup [], [.tc 40 [.ptr 5 0, .vec 4005 (q ++ lnT w v).length], .tb 5 (q ++ lnT w v)])
  | _, _ => none
def ckTl : Cf := ⟨fun | [_, _, .ptr 5 _] => [5, 4005] | _ => [], ckTlK⟩
theorem conTl : FCon pg 14 ckTl := by
  have hct := (ctF_ok conWS (ctN_ok _))
  intro args bs q r bs' h hq
  replace h : ckTlK args bs = some (q, r, bs') := h
  unfold ckTlK at h
  split at h
  · cases h
    rename_i w v T p j n e q
    refine ⟨rfl, by first | exact Nat.le_refl _ | exact Nat.zero_le _, ?_⟩
    obtain ⟨rfl, rfl, rfl, rfl, hp, hlen⟩ := hq
    show FCall pg 14 [.str w, .str v, .ptr 9005 0] [(9005, .tc 40 [V.shift p, .vec 13005 q.length]), (13005, .tb 5 q)] (.tup []) [(9005, .tc 40 [.ptr 9005 0, .vec 13005 (q ++ lnT w v).length]), (13005, .tb 5 (q ++ lnT w v))]
    have hp2 : V.shift p = zB ∨ V.shift p = .ptr 9005 0 := by
      rcases hp with rfl | rfl
      · exact .inl rfl
      · exact .inr rfl
    generalize V.shift p = p' at hp2 ⊢
    rw [lnT_len] at hlen
    refine fw14 (fun _ => false) [] rfl hct rfl (by simp) (by simp [hlIn, idsIn, Blk.menIn, V.menInL, V.menIn, V.flat, byF, lsF]) (by simp [V.menIn, V.menInL, idsIn]) ?_
    push_cast (config := { maxSteps := 10000000 })
    refine ⟨by omega, by omega, by omega, ⟨hp2, by simp, by omega⟩, by rw [lnT_len]; omega, rfl⟩
  · cases h
attribute [push_cast] ckTlK
@[push_cast] theorem tl_ids (a b : V) (o : Nat) : ckTl.ids [a, b, .ptr 5 o] = [5, 4005] := rfl
@[push_cast] theorem tl_k (T e : TypeId) (p : V) (j n : Nat) (w v q : List UInt8) : ckTl.k [.str w, .str v, .ptr 5 0] [.tc T [p, .vec j n], .tb e q] = some (T = 40 ∧ e = 5 ∧ j = 4005 ∧ n = q.length ∧ (p = zB ∨ p = .ptr 5 0) ∧ q.length + (lnT w v).length ≤ 70368744177664, .tup [], [.tc 40 [.ptr 5 0, .vec 4005 (q ++ lnT w v).length], .tb 5 (q ++ lnT w v)]) := rfl
/-- the builder's own address -/
def pT (q : List UInt8) : V := if q = [] then zB else .ptr 5 0
@[push_cast] theorem pT_nil : pT [] = zB := rfl
theorem pT_or (q : List UInt8) : pT q = zB ∨ pT q = .ptr 5 0 := by
  unfold pT
  split
  · exact .inl rfl
  · exact .inr rfl
@[push_cast] theorem vle1_zB : vle1 zB zB = True := eq_true rfl
theorem vle1_pT' (q : List UInt8) : vle1 (pT q) (pT q) := by
  rcases pT_or q with h | h <;> rw [h] <;> exact rfl
@[push_cast] theorem vle1_pT (q : List UInt8) : vle1 (pT q) (pT q) = True := eq_true (vle1_pT' q)
@[push_cast] theorem pT_orT (q : List UInt8) : (pT q = zB ∨ pT q = .ptr 5 0) = True := eq_true (pT_or q)
theorem kill_pT {d : Nat} (h : d ≠ 5) (q : List UInt8) : V.kill d (pT q) = pT q := by
  have e : (5 == d) = false := by simpa using Ne.symm h
  rcases pT_or q with h | h <;> rw [h]
  · rfl
  · simp [V.kill, e]
@[push_cast] theorem kill_pT8 (q : List UInt8) : V.kill 8 (pT q) = pT q := kill_pT (by decide) q
@[push_cast] theorem kill_pT12 (q : List UInt8) : V.kill 12 (pT q) = pT q := kill_pT (by decide) q
theorem pT_ln (q w v : List UInt8) : pT (q ++ lnT w v) = .ptr 5 0 := by
  unfold pT lnT
  rw [if_neg (by simp)]
theorem vle1_ln {q a w v : List UInt8} (h : q ++ lnT w v = a) : vle1 (.ptr 5 0) (pT a) := by
  rw [← h, pT_ln]; exact rfl
def ckText : Ck
  | [x] => some (isC cRob x ∧ robOk (cRob.dec x), .tup [.str (textRob (cRob.dec x)).1, .int .i64 (textRob (cRob.dec x)).2])
  | _ => none
theorem conText : Con pg 6 ckText := by
  have hct := (ctA_ok conCheckRob (ctF_ok conTl (ctA_ok conItoa (ctA_ok conContains (ctF_ok conBL (ctF_ok conBS (ctN_ok _)))))))
  intro args q r h hq
  unfold ckText at h
  split at h
  · cases h
    rename_i x
    refine pcall_args (args' := [cRob.enc (cRob.dec x)]) ⟨hq.1, trivial⟩ ?_
    obtain ⟨-, ok⟩ := hq
    generalize cRob.dec x = r at ok ⊢
    refine w6 (fun d => decide (d = 30005 ∨ d = 20006 ∨ d = 20018 ∨ d = 20027)) [] rfl hct rfl rfl ?_
    push_cast (config := { maxSteps := 10000000 })
    refine ⟨ok, fun h => ?_, fun hck => ?_⟩
    · unfold textRob
      rw [if_neg h]
      exact ⟨rfl, rfl⟩
    obtain ⟨k1, k2, k3, k4⟩ := rob_ok hck
    have hT : textRob r = if 100000 < (robT r).length then ([], 2) else if shpM r.ma = true then ([], 3) else (robT r, 0) := by unfold textRob; rw [if_pos hck]
    generalize textRob r = R at hT ⊢
    refine ⟨of_eq_true infoBld, ?_⟩
    refine SeqW.cut ⟨hct, fol⟩ (by kernel_rfl) (by kernel_rfl) [.nvb 5 1 4005 5] (fun _ : Unit => [(1, .ptr 1 0), (5, .ptr 5 0), (6, .fn (.func 14) [] [.ptr 5 0])]) (fun _ => [(1, .cells [.sl r.gr.length (lsF cGrp r.gr), .sl r.ma.length (lsF cStr r.ma)]), (5, .tc 40 [pT [], .vec 4005 0]), (4005, .tb 5 [])]) (fun _ => True) ?_ fun _ _ => ?_
    · push_cast (config := { maxSteps := 10000000 })
      exact ⟨(), rfl⟩
    push_cast (config := { maxSteps := 10000000 })
    refine SeqW.cut ⟨hct, fol⟩ (by kernel_rfl) (by kernel_rfl) [] (fun _ : Unit => [(1, .ptr 1 0), (5, .ptr 5 0), (6, .fn (.func 14) [] [.ptr 5 0])]) (fun _ => [(1, .cells [.sl r.gr.length (lsF cGrp r.gr), .sl r.ma.length (lsF cStr r.ma)]), (5, .tc 40 [pT (grpsT r.gr), .vec 4005 (grpsT r.gr).length]), (4005, .tb 5 (grpsT r.gr))]) (fun _ => True) ?_ fun _ _ => ?_
    · push_cast (config := { maxSteps := 10000000 })
      refine LoopW.adj ⟨hct, fol⟩ (by kernel_rfl) [] (fun i : Nat => [(1, .ptr 1 0), (5, .ptr 5 0), (6, .fn (.func 14) [] [.ptr 5 0]), (24, .sl r.gr.length (lsF cGrp r.gr)), (25, .int .i64 r.gr.length), (26, .int .i64 i)]) (fun i => [(1, .cells [.sl r.gr.length (lsF cGrp r.gr), .sl r.ma.length (lsF cStr r.ma)]), (5, .tc 40 [pT (grpsT (r.gr.take i)), .vec 4005 (grpsT (r.gr.take i)).length]), (4005, .tb 5 (grpsT (r.gr.take i)))]) (fun i => i ≤ r.gr.length) (fun i => r.gr.length - i) 0 ?_ fun i hi => ?_
      · have e0 : grpsT (r.gr.take 0) = [] := rfl
        rw [e0]
        push_cast (config := { maxSteps := 10000000 })
        exact Nat.zero_le _
      · have hi : i ≤ r.gr.length := hi
        have hst : i < r.gr.length → grpsT (r.gr.take (i + 1)) = grpsT (r.gr.take i) ++ grpT (r.gr.getD i noGrp) := flat_take grpT
        have hend : ¬ i < r.gr.length → grpsT (r.gr.take i) = grpsT r.gr := fun h => by rw [List.take_of_length_le (by omega)]
        have hz := grps_sz k2 k1 i
        have hz2 := grps_sz k2 k1 (i + 1)
        obtain ⟨q2, hq2⟩ : ∃ q2, q2 = grpsT (r.gr.take (i + 1)) := ⟨_, rfl⟩
        rw [← hq2] at hst hz2
        generalize grpsT (r.gr.take i) = q at *
        push_cast (config := { maxSteps := 10000000 })
        refine ⟨fun hlt => ⟨hlt, ?_⟩, fun hge => ?_⟩
        · have hgc := k2 (r.gr.getD i noGrp) (mem_at hlt)
          have hst := hst hlt
          generalize r.gr.getD i noGrp = g at *
          obtain ⟨z1, z2, z3, z4⟩ := grp_sz hgc
          obtain ⟨c1, c2, c3, c4, c5, c6, c7⟩ := grp_ok hgc
          refine LoopW.adj ⟨hct, fol⟩ (by kernel_rfl) [] (fun j : Nat => [(1, .ptr 1 0), (5, .ptr 5 0), (6, .fn (.func 14) [] [.ptr 5 0]), (8, .ptr 8 0), (24, .sl r.gr.length (lsF cGrp r.gr)), (25, .int .i64 r.gr.length), (26, .int .i64 i), (31, .sl g.ag.length (lsF cStr g.ag)), (32, .int .i64 g.ag.length), (33, .int .i64 j)]) (fun j => [(1, .cells [.sl r.gr.length (lsF cGrp r.gr), .sl r.ma.length (lsF cStr r.ma)]), (5, .tc 40 [pT (q ++ agsT (g.ag.take j)), .vec 4005 (q ++ agsT (g.ag.take j)).length]), (4005, .tb 5 (q ++ agsT (g.ag.take j))), (8, .cells [.sl g.ag.length (lsF cStr g.ag), .sl g.ru.length (lsF cRul g.ru), .int .i64 g.de])]) (fun j => j ≤ g.ag.length) (fun j => g.ag.length - j) 0 ?_ fun j hj => ?_
          · have e0 : agsT (g.ag.take 0) = [] := rfl
            rw [e0, List.append_nil]
            push_cast (config := { maxSteps := 10000000 })
            exact Nat.zero_le _
          · have hj : j ≤ g.ag.length := hj
            have hst2 : j < g.ag.length → agsT (g.ag.take (j + 1)) = agsT (g.ag.take j) ++ lnT uaW (g.ag.getD j []) := flat_take (lnT uaW)
            have hend2 : ¬ j < g.ag.length → agsT (g.ag.take j) = agsT g.ag := fun h => by rw [List.take_of_length_le (by omega)]
            have y1 := z1 j
            have y2 := z1 (j + 1)
            obtain ⟨u2, hu2⟩ : ∃ u2, u2 = agsT (g.ag.take (j + 1)) := ⟨_, rfl⟩
            rw [← hu2] at hst2 y2
            obtain ⟨u, hu⟩ : ∃ u, u = agsT (g.ag.take j) := ⟨_, rfl⟩
            rw [← hu] at hst2 hend2 y1 ⊢
            push_cast (config := { maxSteps := 10000000 })
            refine ⟨fun hl => ⟨hl, ?_⟩, fun hl => ?_⟩
            · have hst2 := hst2 hl
              have y3 : u2.length = u.length + (lnT uaW (g.ag.getD j [])).length := by rw [hst2, List.length_append]
              have e1 : q ++ u ++ lnT uaW (g.ag.getD j []) = q ++ u2 := by rw [hst2, List.append_assoc]
              have e2 : q.length + u.length + (lnT uaW (g.ag.getD j [])).length = q.length + u2.length := by omega
              refine ⟨?_, ⟨by omega, by omega⟩, j + 1, by omega, by omega, by omega, ⟨vle1_ln (hu2 ▸ e1), hu2 ▸ e2⟩, hu2 ▸ e1⟩
              show q.length + u.length + (lnT uaW (g.ag.getD j [])).length ≤ _
              omega
            · rw [hend2 hl] at y1 ⊢
              refine SeqW.cut ⟨hct, fol⟩ (by kernel_rfl) (by kernel_rfl) [] (fun _ : Unit => [(1, .ptr 1 0), (5, .ptr 5 0), (6, .fn (.func 14) [] [.ptr 5 0]), (8, .ptr 8 0), (24, .sl r.gr.length (lsF cGrp r.gr)), (25, .int .i64 r.gr.length), (26, .int .i64 i)]) (fun _ => [(1, .cells [.sl r.gr.length (lsF cGrp r.gr), .sl r.ma.length (lsF cStr r.ma)]), (5, .tc 40 [pT (q ++ agsT g.ag ++ delT g), .vec 4005 (q ++ agsT g.ag ++ delT g).length]), (4005, .tb 5 (q ++ agsT g.ag ++ delT g)), (8, .cells [.sl g.ag.length (lsF cStr g.ag), .sl g.ru.length (lsF cRul g.ru), .int .i64 g.de])]) (fun _ => True) ?_ fun _ _ => ?_
              · obtain ⟨dl, hdl⟩ : ∃ dl, dl = delT g := ⟨_, rfl⟩
                rw [← hdl] at z2 ⊢
                unfold delT at hdl
                obtain ⟨q3, hq3⟩ : ∃ q3, q3 = q ++ agsT g.ag := ⟨_, rfl⟩
                have hl3 : q3.length = q.length + (agsT g.ag).length := by rw [hq3, List.length_append]
                rw [← hq3]
                push_cast (config := { maxSteps := 10000000 })
                refine ⟨fun h => ?_, fun h => ⟨fun h2 => ?_, fun h2 => ?_⟩⟩
                · rw [if_pos h] at hdl
                  subst hdl
                  refine ⟨⟨by omega, by omega⟩, ⟨hl3.symm, ?_⟩, (), ⟨vle1_ln rfl, rfl⟩, rfl⟩
                  show q3.length + (lnT crawlW (Lib.itoa g.de)).length ≤ _
                  omega
                · rw [if_neg h, if_pos (by omega)] at hdl
                  subst hdl
                  refine ⟨⟨hl3.symm, ?_⟩, (), ⟨vle1_ln rfl, rfl⟩, rfl⟩
                  show q3.length + (lnT crawlW [45]).length ≤ _
                  omega
                · rw [if_neg h, if_neg (by omega)] at hdl
                  subst hdl
                  exact ⟨(), ⟨by rw [List.append_nil]; exact vle1_pT' q3, hl3.symm⟩, by rw [List.append_nil]⟩
              · obtain ⟨q3, hq3⟩ : ∃ q3, q3 = q ++ agsT g.ag ++ delT g := ⟨_, rfl⟩
                have hl3 : q3.length = q.length + (agsT g.ag).length + (delT g).length := by rw [hq3, List.length_append, List.length_append]
                have hfin : q3 ++ rulsT g.ru = q2 := by rw [hst, hq3]; unfold grpT; simp only [List.append_assoc]
                rw [← hq3]
                push_cast (config := { maxSteps := 10000000 })
                refine LoopW.adj ⟨hct, fol⟩ (by kernel_rfl) [] (fun j : Nat => [(1, .ptr 1 0), (5, .ptr 5 0), (6, .fn (.func 14) [] [.ptr 5 0]), (24, .sl r.gr.length (lsF cGrp r.gr)), (25, .int .i64 r.gr.length), (26, .int .i64 i), (56, .sl g.ru.length (lsF cRul g.ru)), (57, .int .i64 g.ru.length), (58, .int .i64 j)]) (fun j => [(1, .cells [.sl r.gr.length (lsF cGrp r.gr), .sl r.ma.length (lsF cStr r.ma)]), (5, .tc 40 [pT (q3 ++ rulsT (g.ru.take j)), .vec 4005 (q3 ++ rulsT (g.ru.take j)).length]), (4005, .tb 5 (q3 ++ rulsT (g.ru.take j)))]) (fun j => j ≤ g.ru.length) (fun j => g.ru.length - j) 0 ?_ fun j hj => ?_
                · have e0 : rulsT (g.ru.take 0) = [] := rfl
                  rw [e0, List.append_nil]
                  push_cast (config := { maxSteps := 10000000 })
                  exact Nat.zero_le _
                · have hj : j ≤ g.ru.length := hj
                  have hst2 : j < g.ru.length → rulsT (g.ru.take (j + 1)) = rulsT (g.ru.take j) ++ rulT (g.ru.getD j noRul) := flat_take rulT
                  have hend2 : ¬ j < g.ru.length → rulsT (g.ru.take j) = rulsT g.ru := fun h => by rw [List.take_of_length_le (by omega)]
                  have y1 := z3 j
                  have y2 := z3 (j + 1)
                  obtain ⟨u2, hu2⟩ : ∃ u2, u2 = rulsT (g.ru.take (j + 1)) := ⟨_, rfl⟩
                  rw [← hu2] at hst2 y2
                  obtain ⟨u, hu⟩ : ∃ u, u = rulsT (g.ru.take j) := ⟨_, rfl⟩
                  rw [← hu] at hst2 hend2 y1 ⊢
                  push_cast (config := { maxSteps := 10000000 })
                  refine ⟨fun hl => ⟨hl, fun ha => ?_, fun ha => ?_⟩, fun hl => ?_⟩
                  · have e0 : rulT (g.ru.getD j noRul) = lnT allowW (g.ru.getD j noRul).pa := by unfold rulT; rw [if_pos ha]
                    have s2 := hst2 hl
                    rw [e0] at s2
                    have e1 : q3 ++ u ++ lnT allowW (g.ru.getD j noRul).pa = q3 ++ u2 := by rw [s2, List.append_assoc]
                    have e2 : q3.length + u.length + (lnT allowW (g.ru.getD j noRul).pa).length = q3.length + u2.length := by rw [s2, List.length_append]; omega
                    refine ⟨?_, ⟨by omega, by omega⟩, j + 1, by omega, by omega, by omega, ⟨vle1_ln (hu2 ▸ e1), hu2 ▸ e2⟩, hu2 ▸ e1⟩
                    show q3.length + u.length + (lnT allowW (g.ru.getD j noRul).pa).length ≤ _
                    omega
                  · have e0 : rulT (g.ru.getD j noRul) = lnT disW (g.ru.getD j noRul).pa := by unfold rulT; rw [if_neg (by rw [ha]; simp)]
                    have s2 := hst2 hl
                    rw [e0] at s2
                    have e1 : q3 ++ u ++ lnT disW (g.ru.getD j noRul).pa = q3 ++ u2 := by rw [s2, List.append_assoc]
                    have e2 : q3.length + u.length + (lnT disW (g.ru.getD j noRul).pa).length = q3.length + u2.length := by rw [s2, List.length_append]; omega
                    refine ⟨?_, ⟨by omega, by omega⟩, j + 1, by omega, by omega, by omega, ⟨vle1_ln (hu2 ▸ e1), hu2 ▸ e2⟩, hu2 ▸ e1⟩
                    show q3.length + u.length + (lnT disW (g.ru.getD j noRul).pa).length ≤ _
                    omega
                  · have e3 : q3 ++ u = q2 := by rw [hend2 hl]; exact hfin
                    have e4 : q3.length + u.length = q2.length := by rw [← e3, List.length_append]
                    refine ⟨⟨by omega, by omega⟩, i + 1, by omega, by omega, by omega, ⟨?_, hq2 ▸ e4⟩, hq2 ▸ e3⟩
                    rw [e3, ← hq2]
                    exact vle1_pT' q2
        · rw [hend hge]
          exact ⟨(), ⟨vle1_pT' _, rfl⟩, rfl⟩
    have hz := grps_sz k2 k1 r.gr.length
    rw [List.take_length] at hz
    have hrT : robT r = grpsT r.gr ++ mapsT r.ma := rfl
    have hrl : (robT r).length = (grpsT r.gr).length + (mapsT r.ma).length := by rw [hrT, List.length_append]
    generalize grpsT r.gr = q at *
    push_cast (config := { maxSteps := 10000000 })
    refine LoopW.adj ⟨hct, fol⟩ (by kernel_rfl) [] (fun j : Nat => [(5, .ptr 5 0), (6, .fn (.func 14) [] [.ptr 5 0]), (14, .int .i64 (if shpM (r.ma.take j) = true then 3 else 0)), (72, .sl r.ma.length (lsF cStr r.ma)), (73, .int .i64 r.ma.length), (74, .int .i64 j)]) (fun j => [(5, .tc 40 [pT (q ++ mapsT (r.ma.take j)), .vec 4005 (q ++ mapsT (r.ma.take j)).length]), (4005, .tb 5 (q ++ mapsT (r.ma.take j)))]) (fun j => j ≤ r.ma.length) (fun j => r.ma.length - j) 0 ?_ fun j hj => ?_
    · have e0 : mapsT (r.ma.take 0) = [] := rfl
      have e1 : (if shpM (r.ma.take 0) = true then 3 else 0 : Int) = 0 := rfl
      rw [e0, e1, List.append_nil]
      push_cast (config := { maxSteps := 10000000 })
      exact Nat.zero_le _
    · have hj : j ≤ r.ma.length := hj
      have hst2 : j < r.ma.length → mapsT (r.ma.take (j + 1)) = mapsT (r.ma.take j) ++ lnT siteW (r.ma.getD j []) := flat_take (lnT siteW)
      have hend2 : ¬ j < r.ma.length → mapsT (r.ma.take j) = mapsT r.ma ∧ shpM (r.ma.take j) = shpM r.ma := fun h => by rw [List.take_of_length_le (by omega)]; exact ⟨rfl, rfl⟩
      have hsh : j < r.ma.length → shpM (r.ma.take (j + 1)) = (shpM (r.ma.take j) || Lib.contains (r.ma.getD j []) [35]) := fun h => by
        unfold shpM
        rw [takeG (d := []) h, List.any_append, List.any_cons, List.any_nil, Bool.or_false]
      have hml : j < r.ma.length → (r.ma.getD j []).length ≤ 2000 := fun h => adrB_len (k4 _ (mem_at h))
      have y1 := maps_sz k4 k3 j
      have y2 := maps_sz k4 k3 (j + 1)
      obtain ⟨u2, hu2⟩ : ∃ u2, u2 = mapsT (r.ma.take (j + 1)) := ⟨_, rfl⟩
      rw [← hu2] at hst2 y2
      obtain ⟨u, hu⟩ : ∃ u, u = mapsT (r.ma.take j) := ⟨_, rfl⟩
      rw [← hu] at hst2 hend2 y1 ⊢
      obtain ⟨b, hb⟩ : ∃ b, b = shpM (r.ma.take j) := ⟨_, rfl⟩
      rw [← hb] at hsh hend2 ⊢
      push_cast (config := { maxSteps := 10000000 })
      refine ⟨fun hl => ⟨hl, by have := hml hl; omega, fun hc => ?_, fun hc => ?_⟩, fun hl => ?_⟩
      · have s2 := hst2 hl
        have e1 : q ++ u ++ lnT siteW (r.ma.getD j []) = q ++ u2 := by rw [s2, List.append_assoc]
        have e2 : q.length + u.length + (lnT siteW (r.ma.getD j [])).length = q.length + u2.length := by rw [s2, List.length_append]; omega
        refine ⟨?_, ⟨by omega, by omega⟩, j + 1, by omega, by omega, ⟨?_, by omega⟩, ⟨vle1_ln (hu2 ▸ e1), hu2 ▸ e2⟩, hu2 ▸ e1⟩
        · show q.length + u.length + (lnT siteW (r.ma.getD j [])).length ≤ _
          omega
        · rw [hsh hl, hc, Bool.or_true]; rfl
      · have s2 := hst2 hl
        have e1 : q ++ u ++ lnT siteW (r.ma.getD j []) = q ++ u2 := by rw [s2, List.append_assoc]
        have e2 : q.length + u.length + (lnT siteW (r.ma.getD j [])).length = q.length + u2.length := by rw [s2, List.length_append]; omega
        refine ⟨?_, ⟨by omega, by omega⟩, j + 1, by omega, by omega, ⟨?_, by omega⟩, ⟨vle1_ln (hu2 ▸ e1), hu2 ▸ e2⟩, hu2 ▸ e1⟩
        · show q.length + u.length + (lnT siteW (r.ma.getD j [])).length ≤ _
          omega
        · rw [hsh hl, hc, Bool.or_false]
      · obtain ⟨e1, e2⟩ := hend2 hl
        rw [e1] at y1 ⊢
        rw [← e2] at hT
        refine ⟨fun h => ?_, fun h => ⟨fun h2 => ?_, fun h2 => ⟨by omega, ?_⟩⟩⟩
        · rw [hT, if_pos (by omega)]; exact ⟨rfl, rfl⟩
        · have hbt : b = true := Classical.byContradiction fun x => h2 (by rw [if_neg x])
          rw [hT, if_neg (by omega), if_pos hbt, hbt]; exact ⟨rfl, rfl⟩
        · have hbf : ¬ b = true := fun x => by rw [if_pos x] at h2; cases h2
          rw [hT, if_neg (by omega), if_neg hbf]; exact ⟨hrT.symm, rfl⟩
  · cases h
attribute [push_cast] ckText

theorem conText4 : Con pg 7 ckText := by
  have hct := (ctA_ok conCheckRob4 (ctA_ok conItoa (ctA_ok conContains (ctN_ok _))))
  intro args q r h hq
  unfold ckText at h
  split at h
  · cases h
    rename_i x
    refine pcall_args (args' := [cRob.enc (cRob.dec x)]) ⟨hq.1, trivial⟩ ?_
    obtain ⟨-, ok⟩ := hq
    generalize cRob.dec x = r at ok ⊢
    refine w7 (fun d => decide (d = 20017 ∨ d = 20025 ∨ d = 20032)) [] rfl hct rfl rfl ?_
    push_cast (config := { maxSteps := 10000000 })
    refine ⟨ok, fun h => ?_, fun hck => ?_⟩
    · unfold textRob
      rw [if_neg h]
      exact ⟨rfl, rfl⟩
    obtain ⟨k1, k2, k3, k4⟩ := rob_ok hck
    have hT : textRob r = if 100000 < (robT r).length then ([], 2) else if shpM r.ma = true then ([], 3) else (robT r, 0) := by unfold textRob; rw [if_pos hck]
    generalize textRob r = R at hT ⊢
    refine SeqW.cut ⟨hct, fol⟩ (by kernel_rfl) (by kernel_rfl) [] (fun _ : Unit => [(1, .ptr 1 0), (5, .str (grpsT r.gr))]) (fun _ => [(1, .cells [.sl r.gr.length (lsF cGrp r.gr), .sl r.ma.length (lsF cStr r.ma)])]) (fun _ => True) ?_ fun _ _ => ?_
    · push_cast (config := { maxSteps := 10000000 })
      refine LoopW.adj ⟨hct, fol⟩ (by kernel_rfl) [] (fun i : Nat => [(1, .ptr 1 0), (5, .str (grpsT (r.gr.take i))), (21, .sl r.gr.length (lsF cGrp r.gr)), (22, .int .i64 r.gr.length), (23, .int .i64 i)]) (fun i => [(1, .cells [.sl r.gr.length (lsF cGrp r.gr), .sl r.ma.length (lsF cStr r.ma)])]) (fun i => i ≤ r.gr.length) (fun i => r.gr.length - i) 0 ?_ fun i hi => ?_
      · have e0 : grpsT (r.gr.take 0) = [] := rfl
        rw [e0]
        push_cast (config := { maxSteps := 10000000 })
        exact Nat.zero_le _
      · have hi : i ≤ r.gr.length := hi
        have hst : i < r.gr.length → grpsT (r.gr.take (i + 1)) = grpsT (r.gr.take i) ++ grpT (r.gr.getD i noGrp) := flat_take grpT
        have hend : ¬ i < r.gr.length → grpsT (r.gr.take i) = grpsT r.gr := fun h => by rw [List.take_of_length_le (by omega)]
        have hz := grps_sz k2 k1 i
        have hz2 := grps_sz k2 k1 (i + 1)
        obtain ⟨q2, hq2⟩ : ∃ q2, q2 = grpsT (r.gr.take (i + 1)) := ⟨_, rfl⟩
        rw [← hq2] at hst hz2
        generalize grpsT (r.gr.take i) = q at *
        push_cast (config := { maxSteps := 10000000 })
        refine ⟨fun hlt => ⟨hlt, ?_⟩, fun hge => ?_⟩
        · have hgc := k2 (r.gr.getD i noGrp) (mem_at hlt)
          have hst := hst hlt
          generalize r.gr.getD i noGrp = g at *
          obtain ⟨z1, z2, z3, z4⟩ := grp_sz hgc
          obtain ⟨c1, c2, c3, c4, c5, c6, c7⟩ := grp_ok hgc
          refine LoopW.adj ⟨hct, fol⟩ (by kernel_rfl) [] (fun j : Nat => [(1, .ptr 1 0), (5, .str (q ++ agsT (g.ag.take j))), (7, .ptr 7 0), (21, .sl r.gr.length (lsF cGrp r.gr)), (22, .int .i64 r.gr.length), (23, .int .i64 i), (28, .sl g.ag.length (lsF cStr g.ag)), (29, .int .i64 g.ag.length), (30, .int .i64 j)]) (fun j => [(1, .cells [.sl r.gr.length (lsF cGrp r.gr), .sl r.ma.length (lsF cStr r.ma)]), (7, .cells [.sl g.ag.length (lsF cStr g.ag), .sl g.ru.length (lsF cRul g.ru), .int .i64 g.de])]) (fun j => j ≤ g.ag.length) (fun j => g.ag.length - j) 0 ?_ fun j hj => ?_
          · have e0 : agsT (g.ag.take 0) = [] := rfl
            rw [e0, List.append_nil]
            push_cast (config := { maxSteps := 10000000 })
            exact Nat.zero_le _
          · have hj : j ≤ g.ag.length := hj
            have hst2 : j < g.ag.length → agsT (g.ag.take (j + 1)) = agsT (g.ag.take j) ++ lnT uaW (g.ag.getD j []) := flat_take (lnT uaW)
            have hend2 : ¬ j < g.ag.length → agsT (g.ag.take j) = agsT g.ag := fun h => by rw [List.take_of_length_le (by omega)]
            have y1 := z1 j
            have y2 := z1 (j + 1)
            obtain ⟨u2, hu2⟩ : ∃ u2, u2 = agsT (g.ag.take (j + 1)) := ⟨_, rfl⟩
            rw [← hu2] at hst2 y2
            obtain ⟨u, hu⟩ : ∃ u, u = agsT (g.ag.take j) := ⟨_, rfl⟩
            rw [← hu] at hst2 hend2 y1 ⊢
            push_cast (config := { maxSteps := 10000000 })
            refine ⟨fun hl => ⟨hl, ?_⟩, fun hl => ?_⟩
            · have hst2 := hst2 hl
              have e1 : q ++ u ++ lnT uaW (g.ag.getD j []) = q ++ agsT (g.ag.take (j + 1)) := by rw [← hu2, hst2, List.append_assoc]
              have e2 : u2.length = u.length + (lnT uaW (g.ag.getD j [])).length := by rw [hst2, List.length_append]
              rw [lnT_len] at e2
              exact ⟨by omega, by omega, by omega, ⟨by omega, by omega⟩, j + 1, by omega, by omega, e1, by omega⟩
            · rw [hend2 hl] at y1 ⊢
              refine SeqW.cut ⟨hct, fol⟩ (by kernel_rfl) (by kernel_rfl) [] (fun _ : Unit => [(1, .ptr 1 0), (5, .str (q ++ agsT g.ag ++ delT g)), (7, .ptr 7 0), (21, .sl r.gr.length (lsF cGrp r.gr)), (22, .int .i64 r.gr.length), (23, .int .i64 i)]) (fun _ => [(1, .cells [.sl r.gr.length (lsF cGrp r.gr), .sl r.ma.length (lsF cStr r.ma)]), (7, .cells [.sl g.ag.length (lsF cStr g.ag), .sl g.ru.length (lsF cRul g.ru), .int .i64 g.de])]) (fun _ => True) ?_ fun _ _ => ?_
              · obtain ⟨dl, hdl⟩ : ∃ dl, dl = delT g := ⟨_, rfl⟩
                rw [← hdl] at z2 ⊢
                unfold delT at hdl
                obtain ⟨q3, hq3⟩ : ∃ q3, q3 = q ++ agsT g.ag := ⟨_, rfl⟩
                have hl3 : q3.length = q.length + (agsT g.ag).length := by rw [hq3, List.length_append]
                rw [← hq3]
                push_cast (config := { maxSteps := 10000000 })
                refine ⟨fun h => ?_, fun h => ⟨fun h2 => ?_, fun h2 => ?_⟩⟩
                · rw [if_pos h] at hdl
                  have e2 : dl.length = (lnT crawlW (Lib.itoa g.de)).length := by rw [hdl]
                  rw [lnT_len] at e2
                  have e1 : q3 ++ lnT crawlW (Lib.itoa g.de) = q3 ++ dl := by rw [hdl]
                  exact ⟨⟨by omega, by omega⟩, by omega, by omega, by omega, (), e1⟩
                · rw [if_neg h, if_pos (by omega)] at hdl
                  have e1 : q3 ++ lnT crawlW [45] = q3 ++ dl := by rw [hdl]
                  exact ⟨by omega, (), e1⟩
                · rw [if_neg h, if_neg (by omega)] at hdl
                  exact ⟨(), by rw [hdl, List.append_nil]⟩
              · obtain ⟨q3, hq3⟩ : ∃ q3, q3 = q ++ agsT g.ag ++ delT g := ⟨_, rfl⟩
                have hl3 : q3.length = q.length + (agsT g.ag).length + (delT g).length := by rw [hq3, List.length_append, List.length_append]
                have hfin : q3 ++ rulsT g.ru = q2 := by rw [hst, hq3]; unfold grpT; simp only [List.append_assoc]
                rw [← hq3]
                push_cast (config := { maxSteps := 10000000 })
                refine LoopW.adj ⟨hct, fol⟩ (by kernel_rfl) [] (fun j : Nat => [(1, .ptr 1 0), (5, .str (q3 ++ rulsT (g.ru.take j))), (21, .sl r.gr.length (lsF cGrp r.gr)), (22, .int .i64 r.gr.length), (23, .int .i64 i), (59, .sl g.ru.length (lsF cRul g.ru)), (60, .int .i64 g.ru.length), (61, .int .i64 j)]) (fun j => [(1, .cells [.sl r.gr.length (lsF cGrp r.gr), .sl r.ma.length (lsF cStr r.ma)])]) (fun j => j ≤ g.ru.length) (fun j => g.ru.length - j) 0 ?_ fun j hj => ?_
                · have e0 : rulsT (g.ru.take 0) = [] := rfl
                  rw [e0, List.append_nil]
                  push_cast (config := { maxSteps := 10000000 })
                  exact Nat.zero_le _
                · have hj : j ≤ g.ru.length := hj
                  have hst2 : j < g.ru.length → rulsT (g.ru.take (j + 1)) = rulsT (g.ru.take j) ++ rulT (g.ru.getD j noRul) := flat_take rulT
                  have hend2 : ¬ j < g.ru.length → rulsT (g.ru.take j) = rulsT g.ru := fun h => by rw [List.take_of_length_le (by omega)]
                  have y1 := z3 j
                  have y2 := z3 (j + 1)
                  obtain ⟨u2, hu2⟩ : ∃ u2, u2 = rulsT (g.ru.take (j + 1)) := ⟨_, rfl⟩
                  rw [← hu2] at hst2 y2
                  obtain ⟨u, hu⟩ : ∃ u, u = rulsT (g.ru.take j) := ⟨_, rfl⟩
                  rw [← hu] at hst2 hend2 y1 ⊢
                  push_cast (config := { maxSteps := 10000000 })
                  refine ⟨fun hl => ⟨hl, fun ha => ?_, fun ha => ?_⟩, fun hl => ?_⟩
                  · have e0 : rulT (g.ru.getD j noRul) = lnT allowW (g.ru.getD j noRul).pa := by unfold rulT; rw [if_pos ha]
                    have s2 := hst2 hl
                    rw [e0] at s2
                    have e1 : q3 ++ u ++ lnT allowW (g.ru.getD j noRul).pa = q3 ++ rulsT (g.ru.take (j + 1)) := by rw [← hu2, s2, List.append_assoc]
                    have e2 : u2.length = u.length + (lnT allowW (g.ru.getD j noRul).pa).length := by rw [s2, List.length_append]
                    rw [lnT_len] at e2
                    exact ⟨by omega, by omega, by omega, ⟨by omega, by omega⟩, j + 1, by omega, by omega, e1, by omega⟩
                  · have e0 : rulT (g.ru.getD j noRul) = lnT disW (g.ru.getD j noRul).pa := by unfold rulT; rw [if_neg (by rw [ha]; simp)]
                    have s2 := hst2 hl
                    rw [e0] at s2
                    have e1 : q3 ++ u ++ lnT disW (g.ru.getD j noRul).pa = q3 ++ rulsT (g.ru.take (j + 1)) := by rw [← hu2, s2, List.append_assoc]
                    have e2 : u2.length = u.length + (lnT disW (g.ru.getD j noRul).pa).length := by rw [s2, List.length_append]
                    rw [lnT_len] at e2
                    exact ⟨by omega, by omega, by omega, ⟨by omega, by omega⟩, j + 1, by omega, by omega, e1, by omega⟩
                  · have e3 : q3 ++ u = grpsT (r.gr.take (i + 1)) := by rw [← hq2, hend2 hl]; exact hfin
                    exact ⟨⟨by omega, by omega⟩, i + 1, by omega, by omega, e3, by omega⟩
        · rw [hend hge]
          exact ⟨(), rfl⟩
    have hz := grps_sz k2 k1 r.gr.length
    rw [List.take_length] at hz
    have hrT : robT r = grpsT r.gr ++ mapsT r.ma := rfl
    have hrl : (robT r).length = (grpsT r.gr).length + (mapsT r.ma).length := by rw [hrT, List.length_append]
    generalize grpsT r.gr = q at *
    push_cast (config := { maxSteps := 10000000 })
    refine SeqW.cut ⟨hct, fol⟩ (by kernel_rfl) (by kernel_rfl) [] (fun _ : Unit => [(5, .str (q ++ mapsT r.ma)), (12, .bool (shpM r.ma))]) (fun _ => []) (fun _ => True) ?_ fun _ _ => ?_
    · push_cast (config := { maxSteps := 10000000 })
      refine LoopW.adj ⟨hct, fol⟩ (by kernel_rfl) [] (fun j : Nat => [(5, .str (q ++ mapsT (r.ma.take j))), (12, .bool (shpM (r.ma.take j))), (82, .sl r.ma.length (lsF cStr r.ma)), (83, .int .i64 r.ma.length), (84, .int .i64 j)]) (fun _ => []) (fun j => j ≤ r.ma.length) (fun j => r.ma.length - j) 0 ?_ fun j hj => ?_
      · have e0 : mapsT (r.ma.take 0) = [] := rfl
        have e1 : shpM (r.ma.take 0) = false := rfl
        rw [e0, e1, List.append_nil]
        push_cast (config := { maxSteps := 10000000 })
        exact Nat.zero_le _
      · have hj : j ≤ r.ma.length := hj
        have hst2 : j < r.ma.length → mapsT (r.ma.take (j + 1)) = mapsT (r.ma.take j) ++ lnT siteW (r.ma.getD j []) := flat_take (lnT siteW)
        have hend2 : ¬ j < r.ma.length → mapsT (r.ma.take j) = mapsT r.ma ∧ shpM (r.ma.take j) = shpM r.ma := fun h => by rw [List.take_of_length_le (by omega)]; exact ⟨rfl, rfl⟩
        have hsh : j < r.ma.length → shpM (r.ma.take (j + 1)) = (shpM (r.ma.take j) || Lib.contains (r.ma.getD j []) [35]) := fun h => by
          unfold shpM
          rw [takeG (d := []) h, List.any_append, List.any_cons, List.any_nil, Bool.or_false]
        have hml : j < r.ma.length → (r.ma.getD j []).length ≤ 2000 := fun h => adrB_len (k4 _ (mem_at h))
        have y1 := maps_sz k4 k3 j
        obtain ⟨u, hu⟩ : ∃ u, u = mapsT (r.ma.take j) := ⟨_, rfl⟩
        rw [← hu] at hst2 hend2 y1 ⊢
        obtain ⟨b, hb⟩ : ∃ b, b = shpM (r.ma.take j) := ⟨_, rfl⟩
        rw [← hb] at hsh hend2 ⊢
        push_cast (config := { maxSteps := 10000000 })
        refine ⟨fun hl => ?_, fun hl => ?_⟩
        · have h0 := hml hl
          have e1 : q ++ u ++ lnT siteW (r.ma.getD j []) = q ++ mapsT (r.ma.take (j + 1)) := by rw [hst2 hl, List.append_assoc]
          exact ⟨hl, by omega, by omega, by omega, fun h => ⟨h, by omega⟩, ⟨by omega, by omega⟩, j + 1, by omega, by omega, e1, (hsh hl).symm, by omega⟩
        · obtain ⟨e1, e2⟩ := hend2 hl
          exact ⟨(), by rw [e1], e2⟩
    obtain ⟨b, hb⟩ : ∃ b, b = shpM r.ma := ⟨_, rfl⟩
    rw [← hb] at hT ⊢
    push_cast (config := { maxSteps := 10000000 })
    refine ⟨fun h => ?_, fun h => ⟨fun h2 => ?_, fun h2 => ?_⟩⟩
    · rw [hT, if_pos (by omega)]; exact ⟨rfl, rfl⟩
    · rw [hT, if_neg (by omega), if_pos h2]; exact ⟨rfl, rfl⟩
    · rw [hT, if_neg (by omega), if_neg (by rw [h2]; simp)]; exact ⟨hrT.symm, rfl⟩
  · cases h
attribute [push_cast] ckText

def ckGroup (x : RdS) (A R : Nat) : Cf := ⟨fun | [.ptr 25004 _] => [25004, 25002, 25003, A, R] | _ => [], fun args bs => match args with
  | [.ptr 25004 0] => some (bs = rdB x A R 25002 25003 ∧ x.op = true ∧ x.cl.length ≤ 2000000, .eptr 25002 (gN x) 3 x.cl.length 0, rdB x A R 25002 25003)
  | _ => none⟩
theorem conGroup (x : RdS) (A R : Nat) (hAR : (A = 25000 ∧ R = 25001) ∨ (A = 8990 ∧ R = 8991)) : FCon pg 77 (ckGroup x A R) := by
  have hct := ctN_ok pg
  intro args bs q r bs' h hq
  simp only [ckGroup] at h
  split at h
  · cases h
    obtain ⟨rfl, hop, hcl⟩ := hq
    refine ⟨rfl, Nat.le_refl _, ?_⟩
    show FCall pg _ [.ptr 34004 0] (rdH x A R 25002 25003 25004).shift (.eptr 34002 (gN x) 3 x.cl.length 0) (rdH x A R 25002 25003 25004).shift
    rw [rdH_sh]
    refine fw77 (fun _ => false) [] rfl hct rfl (by simp [rdH]) (rdH_hl (by simp [idsIn, rdH]) (by simp [idsIn, rdH]) (by simp [idsIn, rdH]) (by simp [idsIn, rdH]) (by simp [idsIn, rdH])) (by simp [idsIn, rdH, V.menIn]) ?_
    unfold rdH
    have hg := gN_op hop
    rcases hAR with ⟨rfl, rfl⟩ | ⟨rfl, rfl⟩
    · push_cast (config := { maxSteps := 10000000 })
      rw [hg, show (((x.cl.length + 1 : Nat) : Int) - 1).toNat = x.cl.length by omega]
      refine ⟨by omega, by omega, ?_⟩
      exact rfl
    · push_cast (config := { maxSteps := 10000000 })
      rw [hg, show (((x.cl.length + 1 : Nat) : Int) - 1).toNat = x.cl.length by omega]
      refine ⟨by omega, by omega, ?_⟩
      exact rfl
  · cases h
@[push_cast] theorem group_ids (x : RdS) (A R o : Nat) : (ckGroup x A R).ids [.ptr 25004 o] = [25004, 25002, 25003, A, R] := rfl
@[push_cast] theorem group_k (x : RdS) (A R : Nat) (bs : List Blk) : (ckGroup x A R).k [.ptr 25004 0] bs = some (bs = rdB x A R 25002 25003 ∧ x.op = true ∧ x.cl.length ≤ 2000000, .eptr 25002 (gN x) 3 x.cl.length 0, rdB x A R 25002 25003) := rfl

end Go.Abs
