/- what functions of this program compute: contracts, each a function's own -/
import Derived.Test.YtggipkjoemdbkaaGreatDoorAbsK2
import Derived.Test.YtggipkjoemdbkaaGreatDoorAbsFacts
import Derived.Test.YtggipkjoemdbkaaGreatDoorAbsF4
import Derived.Test.YtggipkjoemdbkaaGreatDoorAbsShelf
import Derived.Lib.SplitLaws
import Derived.Lib.SlTrimSet
import Derived.Lib.Atoi
import Derived.Lib.Itoa
import Derived.Lib.ItoaNum
import Derived.Lib.AtoiErrMem
namespace Go.Abs
open Go Go.Proofs
set_option maxHeartbeats 4000000
set_option maxRecDepth 100000
set_option linter.unusedVariables false
set_option linter.unusedSimpArgs false
def agS : List UInt8 := [97, 98, 99, 100, 101, 102, 103, 104, 105, 106, 107, 108, 109, 110, 111, 112, 113, 114, 115, 116, 117, 118, 119, 120, 121, 122, 48, 49, 50, 51, 52, 53, 54, 55, 56, 57, 45, 95]
theorem agS_has (c : UInt8) : agS.contains c = agB c := by
  have key : ∀ n, n < 256 → agS.contains (UInt8.ofNat n) = agB (UInt8.ofNat n) := by decide +kernel
  have := key c.toNat (UInt8.toNat_lt c)
  simpa using this
theorem trim_ag (s : List UInt8) : Lib.trimS s agS = [] ↔ s.all agB = true := by
  rw [trimS_nil]
  have : (fun x => agS.contains x) = agB := funext agS_has
  rw [this]
def ckIsAgent : Ck
  | [.str s] => some (s.length ≤ 140737488355328, .bool (agentL s))
  | _ => none
theorem conIsAgent : Con pg 65 ckIsAgent := by
  have hct := (ctA_ok conTrim (ctN_ok _))
  intro args q r h hq
  unfold ckIsAgent at h
  split at h
  · cases h
    rename_i s
    refine w65 (fun _ => false) [] rfl hct rfl rfl ?_
    push_cast (config := { maxSteps := 10000000 })
    have e := trim_ag s
    unfold agS at e
    refine ⟨fun h => ⟨h, fun h' => ⟨h, h'⟩⟩, fun h => ⟨h, by omega⟩, fun h => ⟨h, fun h' => ⟨h, h'⟩⟩, ?_⟩
    unfold agentL
    rw [Bool.eq_iff_iff]
    simp only [Bool.or_eq_true, Bool.and_eq_true, decide_eq_true_eq, beq_iff_eq, e]
    refine or_congr_right (and_congr_left fun _ => and_congr ?_ ?_) <;> omega
  · cases h
attribute [push_cast] ckIsAgent
theorem conIsAgent4 : Con pg 67 ckIsAgent := by
  have hct := (ctA_ok conWithin (ctN_ok _))
  intro args q r h hq
  unfold ckIsAgent at h
  split at h
  · cases h
    rename_i s
    refine w67 (fun _ => false) [] rfl hct rfl rfl ?_
    push_cast (config := { maxSteps := 10000000 })
    refine ⟨fun h => by subst h; rfl, fun h => ?_⟩
    refine LoopW.adj ⟨hct, fol⟩ (by kernel_rfl) [] (fun i : Nat => [(0, .str s), (8, .int .i64 s.length), (9, .int .i64 i)]) (fun _ => []) (fun i => i ≤ s.length ∧ ∀ j, j < i → agB (s.getD j 0) = true) (fun i => s.length - i) 0 ?_ fun i hi => ?_
    · push_cast (config := { maxSteps := 10000000 })
      exact Nat.zero_le _
    · push_cast (config := { maxSteps := 10000000 })
      obtain ⟨i1, i2⟩ := hi
      have c8 := UInt8.toNat_lt (s.getD i 0)
      have hA : agB (s.getD i 0) = true ↔ (97 ≤ (s.getD i 0).toNat ∧ (s.getD i 0).toNat ≤ 122) ∨ (48 ≤ (s.getD i 0).toNat ∧ (s.getD i 0).toNat ≤ 57) ∨ (s.getD i 0).toNat = 45 ∨ (s.getD i 0).toNat = 95 := by
        unfold agB
        simp only [Bool.or_eq_true, decide_eq_true_eq, or_assoc]
      have gl : agentL s = (decide (1 ≤ s.length) && decide (s.length ≤ 40) && s.all agB) := by
        unfold agentL
        rw [show (s == [42]) = false from beq_eq_false_iff_ne.2 h]; rfl
      refine ⟨fun hl => ⟨hl, fun x => ⟨x, fun y => ⟨x, y⟩⟩, fun x => ?_, fun x => ⟨⟨by omega, by omega⟩, i + 1, ⟨by omega, fun j hj => ?_⟩, by omega, by omega⟩⟩, fun hl => ?_⟩
      · rw [gl, all_no' (d := 0) hl (by cases hx : agB (s.getD i 0) with | false => rfl | true => have := hA.1 hx; omega)]
        simp
      · by_cases e : j = i
        · subst e; exact hA.2 (by omega)
        · exact i2 j (by omega)
      · rw [gl, all_at' (d := 0) fun j hj => i2 j (by omega), Bool.and_true]
        congr 1 <;> exact decide_eq_decide.2 (by omega)
  · cases h
def ckCheckGrp : Ck
  | [x] => some (isC cGrp x ∧ grpOk (cGrp.dec x), .int .i64 (checkGrpL (cGrp.dec x)))
  | _ => none
theorem conCheckGrp : Con pg 59 ckCheckGrp := by
  have hct := (ctA_ok conIsAgent (ctA_ok conPat (ctN_ok _)))
  intro args q r h hq
  unfold ckCheckGrp at h
  split at h
  · cases h
    rename_i x
    refine pcall_args (args' := [cGrp.enc (cGrp.dec x)]) ⟨hq.1, trivial⟩ ?_
    obtain ⟨-, ok⟩ := hq
    generalize cGrp.dec x = g at ok ⊢
    obtain ⟨o1, o2, o3, o4, o5, o6⟩ := ok
    refine w59 (fun _ => false) [] rfl hct rfl rfl ?_
    push_cast (config := { maxSteps := 10000000 })
    refine ⟨fun h => by unfold checkGrpL; rw [if_pos (by omega)], fun h1 => ⟨fun h => by unfold checkGrpL; rw [if_neg (by omega), if_pos (by omega)], fun h2 => ?_⟩⟩
    have hag : ∀ j, j < g.ag.length → (g.ag.getD j []).length ≤ 140737488355328 := fun j hj => o2 _ (by rw [List.getD_eq_getElem?_getD, List.getElem?_eq_getElem hj]; exact List.getElem_mem hj)
    have eG : g.ag.all agentL = false → checkGrpL g = 5 := fun h => by unfold checkGrpL; rw [if_neg (by omega), if_neg (by omega), if_pos h]
    refine LoopW.adj ⟨hct, fol⟩ (by kernel_rfl) [] (fun i : Nat => [(1, .ptr 1 0), (16, .sl g.ag.length (lsF cStr g.ag)), (17, .int .i64 g.ag.length), (18, .int .i64 i)]) (fun _ => [(1, .cells [.sl g.ag.length (lsF cStr g.ag), .sl g.ru.length (lsF cRul g.ru), .int .i64 g.de])]) (fun i => i ≤ g.ag.length ∧ ∀ j, j < i → agentL (g.ag.getD j []) = true) (fun i => g.ag.length - i) 0 ?_ fun i hi => ?_
    · push_cast (config := { maxSteps := 10000000 })
      exact Nat.zero_le _
    · push_cast (config := { maxSteps := 10000000 })
      obtain ⟨i1, i2⟩ := hi
      refine ⟨fun hl => ⟨hl, hag i hl, fun ha => ?_, fun ha => ⟨⟨by omega, by omega⟩, i + 1, ⟨by omega, fun j hj => ?_⟩, by omega, by omega⟩⟩, fun hl => ?_⟩
      · exact (eG (all_no' (d := []) hl ha)).symm
      · by_cases e : j = i
        · subst e; exact ha
        · exact i2 j (by omega)
      have hA : g.ag.all agentL = true := all_at' (d := []) fun j hj => i2 j (by omega)
      have eH : checkGrpL g = if 200 < g.ru.length then 16 else if (g.ru.all fun r => patOk r.pa) = false then 3 else if g.de < -1 ∨ 99999 < g.de then 1 else 0 := by
        unfold checkGrpL; rw [if_neg (by omega), if_neg (by omega), if_neg (by rw [hA]; simp)]
      rw [eH]
      refine ⟨fun h => by rw [if_pos (by omega)], fun h3 => ?_⟩
      rw [if_neg (by omega)]
      refine LoopW.adj ⟨hct, fol⟩ (by kernel_rfl) [] (fun i : Nat => [(1, .ptr 1 0), (31, .sl g.ru.length (lsF cRul g.ru)), (32, .int .i64 g.ru.length), (33, .int .i64 i)]) (fun _ => [(1, .cells [.sl g.ag.length (lsF cStr g.ag), .sl g.ru.length (lsF cRul g.ru), .int .i64 g.de])]) (fun i => i ≤ g.ru.length ∧ ∀ j, j < i → patOk (g.ru.getD j noRul).pa = true) (fun i => g.ru.length - i) 0 ?_ fun i hi => ?_
      · push_cast (config := { maxSteps := 10000000 })
        exact Nat.zero_le _
      · push_cast (config := { maxSteps := 10000000 })
        obtain ⟨j1, j2⟩ := hi
        refine ⟨fun hl => ⟨hl, fun ha => ?_, fun ha => ⟨⟨by omega, by omega⟩, i + 1, ⟨by omega, fun j hj => ?_⟩, by omega, by omega⟩⟩, fun hl => ?_⟩
        · rw [if_pos (all_no' (d := noRul) hl ha)]
        · by_cases e : j = i
          · subst e; exact ha
          · exact j2 j (by omega)
        · rw [if_neg (by rw [all_at' (d := noRul) fun j hj => j2 j (by omega)]; simp)]
          exact ⟨fun x => by rw [if_pos x], fun x => by rw [if_neg (by omega)]⟩
  · cases h
attribute [push_cast] ckCheckGrp
theorem conCheckGrp4 : Con pg 61 ckCheckGrp := by
  have hct := (ctA_ok conIsAgent4 (ctA_ok conPat4 (ctA_ok conWithin (ctN_ok _))))
  intro args q r h hq
  unfold ckCheckGrp at h
  split at h
  · cases h
    rename_i x
    refine pcall_args (args' := [cGrp.enc (cGrp.dec x)]) ⟨hq.1, trivial⟩ ?_
    obtain ⟨-, ok⟩ := hq
    generalize cGrp.dec x = g at ok ⊢
    obtain ⟨o1, o2, o3, o4, o5, o6⟩ := ok
    refine w61 (fun _ => false) [] rfl hct rfl rfl ?_
    push_cast (config := { maxSteps := 10000000 })
    refine ⟨fun h => by unfold checkGrpL; rw [if_pos (by omega)], fun h1 => ⟨fun h => by unfold checkGrpL; rw [if_neg (by omega), if_pos (by omega)], fun h2 => ?_⟩⟩
    have hag : ∀ j, j < g.ag.length → (g.ag.getD j []).length ≤ 140737488355328 := fun j hj => o2 _ (by rw [List.getD_eq_getElem?_getD, List.getElem?_eq_getElem hj]; exact List.getElem_mem hj)
    have eG : g.ag.all agentL = false → checkGrpL g = 5 := fun h => by unfold checkGrpL; rw [if_neg (by omega), if_neg (by omega), if_pos h]
    refine LoopW.adj ⟨hct, fol⟩ (by kernel_rfl) [] (fun i : Nat => [(1, .ptr 1 0), (16, .sl g.ag.length (lsF cStr g.ag)), (17, .int .i64 g.ag.length), (18, .int .i64 i)]) (fun _ => [(1, .cells [.sl g.ag.length (lsF cStr g.ag), .sl g.ru.length (lsF cRul g.ru), .int .i64 g.de])]) (fun i => i ≤ g.ag.length ∧ ∀ j, j < i → agentL (g.ag.getD j []) = true) (fun i => g.ag.length - i) 0 ?_ fun i hi => ?_
    · push_cast (config := { maxSteps := 10000000 })
      exact Nat.zero_le _
    · push_cast (config := { maxSteps := 10000000 })
      obtain ⟨i1, i2⟩ := hi
      refine ⟨fun hl => ⟨hl, hag i hl, fun ha => ?_, fun ha => ⟨⟨by omega, by omega⟩, i + 1, ⟨by omega, fun j hj => ?_⟩, by omega, by omega⟩⟩, fun hl => ?_⟩
      · exact (eG (all_no' (d := []) hl ha)).symm
      · by_cases e : j = i
        · subst e; exact ha
        · exact i2 j (by omega)
      have hA : g.ag.all agentL = true := all_at' (d := []) fun j hj => i2 j (by omega)
      have eH : checkGrpL g = if 200 < g.ru.length then 16 else if (g.ru.all fun r => patOk r.pa) = false then 3 else if g.de < -1 ∨ 99999 < g.de then 1 else 0 := by
        unfold checkGrpL; rw [if_neg (by omega), if_neg (by omega), if_neg (by rw [hA]; simp)]
      rw [eH]
      refine ⟨fun h => by rw [if_pos (by omega)], fun h3 => ?_⟩
      rw [if_neg (by omega)]
      refine LoopW.adj ⟨hct, fol⟩ (by kernel_rfl) [] (fun i : Nat => [(1, .ptr 1 0), (31, .sl g.ru.length (lsF cRul g.ru)), (32, .int .i64 g.ru.length), (33, .int .i64 i)]) (fun _ => [(1, .cells [.sl g.ag.length (lsF cStr g.ag), .sl g.ru.length (lsF cRul g.ru), .int .i64 g.de])]) (fun i => i ≤ g.ru.length ∧ ∀ j, j < i → patOk (g.ru.getD j noRul).pa = true) (fun i => g.ru.length - i) 0 ?_ fun i hi => ?_
      · push_cast (config := { maxSteps := 10000000 })
        exact Nat.zero_le _
      · push_cast (config := { maxSteps := 10000000 })
        obtain ⟨j1, j2⟩ := hi
        refine ⟨fun hl => ⟨hl, fun ha => ?_, fun ha => ⟨⟨by omega, by omega⟩, i + 1, ⟨by omega, fun j hj => ?_⟩, by omega, by omega⟩⟩, fun hl => ?_⟩
        · rw [if_pos (all_no' (d := noRul) hl ha)]
        · by_cases e : j = i
          · subst e; exact ha
          · exact j2 j (by omega)
        · rw [if_neg (by rw [all_at' (d := noRul) fun j hj => j2 j (by omega)]; simp)]
          exact ⟨fun x => by rw [if_pos (by omega)], fun x => by rw [if_neg (by omega)]⟩
  · cases h
def ckIsAdr4 : Ck
  | [.str s] => some (True, .bool (adrB s))
  | _ => none
theorem conIsAdr4 : Con pg 62 ckIsAdr4 := by
  have hct := (ctA_ok conReadA2 (ctN_ok _))
  intro args q r h hq
  unfold ckIsAdr4 at h
  split at h
  · cases h
    rename_i s
    refine w62 (fun _ => false) [] rfl hct rfl rfl ?_
    push_cast (config := { maxSteps := 10000000 })
    rfl
  · cases h
attribute [push_cast] ckIsAdr4
def ckCheckRob : Ck
  | [x] => some (isC cRob x ∧ robOk (cRob.dec x), .int .i64 (checkRobL (cRob.dec x)))
  | _ => none
theorem conCheckRob : Con pg 35 ckCheckRob := by
  have hct := (ctA_ok conCheckGrp (ctA_ok conReadA (ctN_ok _)))
  intro args q r h hq
  unfold ckCheckRob at h
  split at h
  · cases h
    rename_i x
    refine pcall_args (args' := [cRob.enc (cRob.dec x)]) ⟨hq.1, trivial⟩ ?_
    obtain ⟨-, ok⟩ := hq
    generalize cRob.dec x = r at ok ⊢
    obtain ⟨o1, o2, o3, o4⟩ := ok
    refine w35 (fun _ => false) [] rfl hct rfl rfl ?_
    push_cast (config := { maxSteps := 10000000 })
    refine ⟨fun h => by unfold checkRobL; rw [if_pos (by omega)], fun h1 => ?_⟩
    have hgr : ∀ j, j < r.gr.length → grpOk (r.gr.getD j noGrp) := fun j hj => o2 _ (by rw [List.getD_eq_getElem?_getD, List.getElem?_eq_getElem hj]; exact List.getElem_mem hj)
    have hma : ∀ j, j < r.ma.length → (r.ma.getD j []).length ≤ 140737488355328 := fun j hj => o4 _ (by rw [List.getD_eq_getElem?_getD, List.getElem?_eq_getElem hj]; exact List.getElem_mem hj)
    refine LoopW.adj ⟨hct, fol⟩ (by kernel_rfl) [] (fun i : Nat => [(1, .ptr 1 0), (16, .sl r.gr.length (lsF cGrp r.gr)), (17, .int .i64 r.gr.length), (18, .int .i64 i)]) (fun _ => [(1, .cells [.sl r.gr.length (lsF cGrp r.gr), .sl r.ma.length (lsF cStr r.ma)])]) (fun i => i ≤ r.gr.length ∧ grpsE (r.gr.drop i) = grpsE r.gr) (fun i => r.gr.length - i) 0 ?_ fun i hi => ?_
    · push_cast (config := { maxSteps := 10000000 })
      exact Nat.zero_le _
    · push_cast (config := { maxSteps := 10000000 })
      obtain ⟨i1, i2⟩ := hi
      have eR : checkRobL r = if grpsE r.gr = 0 then (if 100 < r.ma.length then 16 else if r.ma.all adrB = true then 0 else 3) else grpsE r.gr := by unfold checkRobL; rw [if_neg (by omega)]
      refine ⟨fun hl => ?_, fun hl => ?_⟩
      · rw [dropG (d := noGrp) hl, grpsE] at i2
        refine ⟨hl, hgr i hl, fun hc => ?_, fun hc => ⟨⟨by omega, by omega⟩, i + 1, ⟨by omega, ?_⟩, by omega, by omega⟩⟩
        · rw [if_neg hc] at i2
          rw [eR, ← i2, if_neg hc]
        · rw [if_pos hc] at i2; exact i2
      rw [List.drop_eq_nil_of_le (by omega), grpsE] at i2
      rw [← i2, if_pos rfl] at eR
      rw [eR]
      refine ⟨fun h => by rw [if_pos (by omega)], fun h2 => ?_⟩
      rw [if_neg (by omega)]
      refine LoopW.adj ⟨hct, fol⟩ (by kernel_rfl) [] (fun i : Nat => [(33, .sl r.ma.length (lsF cStr r.ma)), (34, .int .i64 r.ma.length), (35, .int .i64 i)]) (fun _ => []) (fun i => i ≤ r.ma.length ∧ ∀ j, j < i → adrB (r.ma.getD j []) = true) (fun i => r.ma.length - i) 0 ?_ fun i hi => ?_
      · push_cast (config := { maxSteps := 10000000 })
        exact Nat.zero_le _
      · push_cast (config := { maxSteps := 10000000 })
        obtain ⟨j1, j2⟩ := hi
        refine ⟨fun hl => ⟨hl, fun hc => ?_, fun hc => ⟨⟨by omega, by omega⟩, i + 1, ⟨by omega, fun j hj => ?_⟩, by omega, by omega⟩⟩, fun hl => by rw [if_pos (all_at' (d := []) fun j hj => j2 j (by omega))]⟩
        · rw [if_neg (by rw [all_no' (d := []) hl (show adrB (r.ma.getD i []) = false from decide_eq_false hc)]; simp)]
        · by_cases e : j = i
          · subst e; exact decide_eq_true hc
          · exact j2 j (by omega)
  · cases h
attribute [push_cast] ckCheckRob
theorem conCheckRob4 : Con pg 38 ckCheckRob := by
  have hct := (ctA_ok conCheckGrp4 (ctA_ok conIsAdr4 (ctN_ok _)))
  intro args q r h hq
  unfold ckCheckRob at h
  split at h
  · cases h
    rename_i x
    refine pcall_args (args' := [cRob.enc (cRob.dec x)]) ⟨hq.1, trivial⟩ ?_
    obtain ⟨-, ok⟩ := hq
    generalize cRob.dec x = r at ok ⊢
    obtain ⟨o1, o2, o3, o4⟩ := ok
    refine w38 (fun _ => false) [] rfl hct rfl rfl ?_
    push_cast (config := { maxSteps := 10000000 })
    refine ⟨fun h => by unfold checkRobL; rw [if_pos (by omega)], fun h1 => ?_⟩
    have hgr : ∀ j, j < r.gr.length → grpOk (r.gr.getD j noGrp) := fun j hj => o2 _ (by rw [List.getD_eq_getElem?_getD, List.getElem?_eq_getElem hj]; exact List.getElem_mem hj)
    have hma : ∀ j, j < r.ma.length → (r.ma.getD j []).length ≤ 140737488355328 := fun j hj => o4 _ (by rw [List.getD_eq_getElem?_getD, List.getElem?_eq_getElem hj]; exact List.getElem_mem hj)
    refine LoopW.adj ⟨hct, fol⟩ (by kernel_rfl) [] (fun i : Nat => [(1, .ptr 1 0), (13, .sl r.gr.length (lsF cGrp r.gr)), (14, .int .i64 r.gr.length), (15, .int .i64 i)]) (fun _ => [(1, .cells [.sl r.gr.length (lsF cGrp r.gr), .sl r.ma.length (lsF cStr r.ma)])]) (fun i => i ≤ r.gr.length ∧ grpsE (r.gr.drop i) = grpsE r.gr) (fun i => r.gr.length - i) 0 ?_ fun i hi => ?_
    · push_cast (config := { maxSteps := 10000000 })
      exact Nat.zero_le _
    · push_cast (config := { maxSteps := 10000000 })
      obtain ⟨i1, i2⟩ := hi
      have eR : checkRobL r = if grpsE r.gr = 0 then (if 100 < r.ma.length then 16 else if r.ma.all adrB = true then 0 else 3) else grpsE r.gr := by unfold checkRobL; rw [if_neg (by omega)]
      refine ⟨fun hl => ?_, fun hl => ?_⟩
      · rw [dropG (d := noGrp) hl, grpsE] at i2
        refine ⟨hl, hgr i hl, fun hc => ?_, fun hc => ⟨⟨by omega, by omega⟩, i + 1, ⟨by omega, ?_⟩, by omega, by omega⟩⟩
        · rw [if_neg hc] at i2
          rw [eR, ← i2, if_neg hc]
        · rw [if_pos hc] at i2; exact i2
      rw [List.drop_eq_nil_of_le (by omega), grpsE] at i2
      rw [← i2, if_pos rfl] at eR
      rw [eR]
      refine ⟨fun h => by rw [if_pos (by omega)], fun h2 => ?_⟩
      rw [if_neg (by omega)]
      refine LoopW.adj ⟨hct, fol⟩ (by kernel_rfl) [] (fun i : Nat => [(30, .sl r.ma.length (lsF cStr r.ma)), (31, .int .i64 r.ma.length), (32, .int .i64 i)]) (fun _ => []) (fun i => i ≤ r.ma.length ∧ ∀ j, j < i → adrB (r.ma.getD j []) = true) (fun i => r.ma.length - i) 0 ?_ fun i hi => ?_
      · push_cast (config := { maxSteps := 10000000 })
        exact Nat.zero_le _
      · push_cast (config := { maxSteps := 10000000 })
        obtain ⟨j1, j2⟩ := hi
        refine ⟨fun hl => ⟨hl, fun hc => ?_, fun hc => ⟨⟨by omega, by omega⟩, i + 1, ⟨by omega, fun j hj => ?_⟩, by omega, by omega⟩⟩, fun hl => by rw [if_pos (all_at' (d := []) fun j hj => j2 j (by omega))]⟩
        · rw [if_neg (by rw [all_no' (d := []) hl hc]; simp)]
        · by_cases e : j = i
          · subst e; exact hc
          · exact j2 j (by omega)
  · cases h

def ckIsMom : Ck
  | [.int .i64 n] => some (True, .bool (decide (0 ≤ n) && decide (n ≤ 253402300799)))
  | _ => none
theorem conIsMomR : Con pg 33 ckIsMom := by
  have hct := ctN_ok pg
  intro args q r h hq
  unfold ckIsMom at h
  split at h
  · cases h
    rename_i n
    refine w33 (fun _ => false) [] rfl hct rfl rfl ?_
    push_cast (config := { maxSteps := 10000000 })
  · cases h
attribute [push_cast] ckIsMom
def ckIsRules : Ck
  | [.int .i64 n] => some (True, .bool (isRulS n))
  | _ => none
theorem conIsRules : Con pg 34 ckIsRules := by
  have hct := ctN_ok pg
  intro args q r h hq
  unfold ckIsRules at h
  split at h
  · cases h
    rename_i n
    refine w34 (fun _ => false) [] rfl hct rfl rfl ?_
    push_cast (config := { maxSteps := 10000000 })
    rfl
  · cases h
attribute [push_cast] ckIsRules
def ckIsAll : Ck
  | [.int .i64 n] => some (True, .bool (isAllS n))
  | _ => none
theorem conIsAll : Con pg 57 ckIsAll := by
  have hct := ctN_ok pg
  intro args q r h hq
  unfold ckIsAll at h
  split at h
  · cases h
    rename_i n
    refine w57 (fun _ => false) [] rfl hct rfl rfl ?_
    push_cast (config := { maxSteps := 10000000 })
    rfl
  · cases h
attribute [push_cast] ckIsAll
def rdgsOk (l : List Rdg) : Prop := ∀ x ∈ l, rdgOk x
theorem rdgs_at {l : List Rdg} (h : rdgsOk l) {i : Nat} (hi : i < l.length) : rdgOk (l.getD i noRdg) := h _ (by rw [List.getD_eq_getElem?_getD, List.getElem?_eq_getElem hi]; exact List.getElem_mem hi)
def prevA (l : List Rdg) (i : Nat) : Int := if i = 0 then -1 else (l.getD (i - 1) noRdg).at'
def ckCheckRdgs : Ck
  | [.sl n f] => some (isLs cRdg n f ∧ rdgsOk (lsOf cRdg n f), .int .i64 (checkRdgs (lsOf cRdg n f)))
  | _ => none
theorem conCheckRdgs : Con pg 10 ckCheckRdgs := by
  have hct := (ctA_ok conIsMomR (ctA_ok conIsRules (ctA_ok conCheckRob (ctN_ok _))))
  intro args q r h hq
  unfold ckCheckRdgs at h
  split at h
  · cases h
    rename_i n f
    refine pcall_args (args' := [.sl (lsOf cRdg n f).length (lsF cRdg (lsOf cRdg n f))]) ⟨isLs.vle hq.1, trivial⟩ ?_
    obtain ⟨-, hl⟩ := hq
    generalize lsOf cRdg n f = l at hl ⊢
    refine w10 (fun _ => false) [] rfl hct rfl rfl ?_
    push_cast (config := { maxSteps := 10000000 })
    refine ⟨fun h => by unfold checkRdgs; rw [if_pos (by omega)], fun h => ?_⟩
    have e0 : checkRdgs l = rdgsGo (-1) l := by unfold checkRdgs; rw [if_neg (by omega)]
    rw [e0]
    refine LoopW.adj ⟨hct, fol⟩ (by kernel_rfl) [] (fun i : Nat => [(0, .sl l.length (lsF cRdg l)), (9, .sl l.length (lsF cRdg l)), (10, .int .i64 l.length), (11, .int .i64 i)]) (fun _ => []) (fun i => i ≤ l.length ∧ rdgsGo (prevA l i) (l.drop i) = rdgsGo (-1) l) (fun i => l.length - i) 0 ?_ fun i hi => ?_
    · push_cast (config := { maxSteps := 10000000 })
      exact ⟨Nat.zero_le _, rfl⟩
    · push_cast (config := { maxSteps := 10000000 })
      obtain ⟨i1, i2⟩ := hi
      have ep : ∀ j, prevA l (j + 1) = (l.getD j noRdg).at' := fun j => by unfold prevA; rw [if_neg (by omega)]; rfl
      refine ⟨fun hlt => ?_, fun hge => ?_⟩
      · rw [dropG (d := noRdg) hlt, rdgsGo] at i2
        have ok := rdgs_at hl hlt
        have e1 := ep i
        have hp : 0 < i → prevA l i = (l.getD ((i : Int) - 1).toNat noRdg).at' := fun h => by
          unfold prevA; rw [if_neg (by omega)]; congr 2; omega
        have hp0 : i = 0 → prevA l i = -1 := fun h => by subst h; rfl
        generalize l.getD i noRdg = x at *
        obtain ⟨k1, k2, k3, k4, k5⟩ := ok
        have g1 := k5.1
        have g2 := k5.2.2.1
        refine ⟨hlt, fun h => ⟨h, fun h' => ⟨h, h'⟩⟩, fun h => ⟨h, fun h' => ⟨h, h'⟩⟩, fun h => ?_, fun h => ⟨fun h2 => ⟨h2, by omega, by omega⟩, fun h2 => ?_, fun h2 => ⟨k5, fun h3 => ?_, fun h3 => ⟨fun h4 => ⟨h4, by omega, by omega⟩, fun h4 => ⟨h4, by omega, by omega⟩, fun h4 => ?_, fun h4 => ⟨⟨by omega, by omega⟩, i + 1, ⟨by omega, ?_⟩, by omega, by omega⟩⟩⟩⟩⟩
        · have hE : rdgE x = 1 := by unfold rdgE; rw [if_pos (by omega)]
          rw [hE, if_neg (by omega)] at i2; exact i2
        · have hE : rdgE x = 3 := by unfold rdgE; rw [if_neg (by omega), if_pos ⟨h2.1, by omega⟩]
          rw [hE, if_neg (by omega)] at i2; exact i2
        all_goals
          have hE : rdgE x = checkRobL x.ro := by unfold rdgE; rw [if_neg (by omega), if_neg (fun y => h2 y.1 (by omega))]
          rw [hE] at i2
        · rw [if_neg h3] at i2; exact i2
        · rw [if_pos h3, if_pos (by rw [hp (by omega)]; exact h4.2)] at i2; exact i2
        · rw [if_pos h3, if_neg ?_, ← e1] at i2
          · exact i2
          · by_cases hi0 : i = 0
            · rw [hp0 hi0]; omega
            · rw [hp (by omega)]; exact h4 (by omega)
      · rw [List.drop_eq_nil_of_le (by omega), rdgsGo] at i2
        exact i2
  · cases h
attribute [push_cast] ckCheckRdgs
def ckAsk : Ck
  | [.sl n f, .int .i64 a, .int .i64 m] => some (isLs cRdg n f ∧ rdgsOk (lsOf cRdg n f), .int .i64 (askE (lsOf cRdg n f) a m))
  | _ => none
theorem conAsk : Con pg 29 ckAsk := by
  have hct := (ctA_ok conCheckRdgs (ctA_ok conIsMomR (ctN_ok _)))
  intro args q r h hq
  unfold ckAsk at h
  split at h
  · cases h
    rename_i n f a m
    refine pcall_args (args' := [.sl (lsOf cRdg n f).length (lsF cRdg (lsOf cRdg n f)), .int .i64 a, .int .i64 m]) ⟨isLs.vle hq.1, VLe.refl _, VLe.refl _, trivial⟩ ?_
    obtain ⟨-, hl⟩ := hq
    generalize lsOf cRdg n f = l at hl ⊢
    refine w29 (fun _ => false) [] rfl hct rfl rfl ?_
    push_cast (config := { maxSteps := 10000000 })
    refine ⟨hl, fun h => by unfold askE; rw [if_neg h], fun h => ⟨fun h2 => ?_, fun h2 => ?_⟩⟩
    · unfold askE; rw [if_pos h, if_neg (by omega)]
    · unfold askE; rw [if_pos h, if_pos (by omega)]
  · cases h
attribute [push_cast] ckAsk
theorem rdgsGo_ok : ∀ {l : List Rdg} {p : Int}, rdgsGo p l = 0 → (∀ x ∈ l, rdgE x = 0 ∧ p ≤ x.at') ∧ l.Pairwise fun x y => x.at' ≤ y.at'
  | [], p, _ => ⟨fun x hx => (by cases hx), .nil⟩
  | x :: t, p, h => by
    rw [rdgsGo] at h
    by_cases h1 : rdgE x = 0
    · rw [if_pos h1] at h
      by_cases h2 : x.at' < p
      · rw [if_pos h2] at h; cases h
      · rw [if_neg h2] at h
        obtain ⟨a, b⟩ := rdgsGo_ok h
        refine ⟨fun y hy => ?_, .cons (fun y hy => (a y hy).2) b⟩
        rcases List.mem_cons.1 hy with rfl | hy
        · exact ⟨h1, by omega⟩
        · have := a y hy; exact ⟨this.1, by omega⟩
    · rw [if_neg h1] at h; exact absurd h h1
theorem rdgE_ok {x : Rdg} (h : rdgE x = 0) : 0 ≤ x.at' ∧ x.at' ≤ 253402300799 ∧ checkRobL x.ro = 0 := by
  unfold rdgE at h
  split at h
  · cases h
  · split at h
    · cases h
    · exact ⟨by omega, by omega, h⟩
theorem rdgs_ok {l : List Rdg} (h : checkRdgs l = 0) : l.length ≤ 500 ∧ (∀ x ∈ l, 0 ≤ x.at' ∧ x.at' ≤ 253402300799 ∧ checkRobL x.ro = 0) ∧ ∀ i j, i ≤ j → j < l.length → (l.getD i noRdg).at' ≤ (l.getD j noRdg).at' := by
  unfold checkRdgs at h
  split at h
  · cases h
  · obtain ⟨a, b⟩ := rdgsGo_ok h
    refine ⟨by omega, fun x hx => rdgE_ok (a x hx).1, fun i j hij hj => ?_⟩
    by_cases e : i = j
    · subst e; exact Int.le_refl _
    · rw [List.getD_eq_getElem?_getD, List.getD_eq_getElem?_getD, List.getElem?_eq_getElem (by omega), List.getElem?_eq_getElem hj]
      exact List.pairwise_iff_getElem.1 b i j (by omega) hj (by omega)
theorem lastN_at : ∀ {l : List Rdg} {m : Int} {n : Nat}, n ≤ l.length → (∀ j, j < n → (l.getD j noRdg).at' ≤ m) → (n < l.length → m < (l.getD n noRdg).at') → lastN l m = n
  | [], m, n, h, _, _ => by simp at h; subst h; rfl
  | c :: t, m, 0, h, _, h2 => by
    have := h2 (by simp)
    unfold lastN
    rw [List.takeWhile_cons, if_neg (by have h3 : m < c.at' := by simpa using this
                                        simp; omega)]; rfl
  | c :: t, m, n + 1, h, h1, h2 => by
    have h0 := h1 0 (by omega)
    have h0 : c.at' ≤ m := by simpa using h0
    unfold lastN
    rw [List.takeWhile_cons, if_pos (by simpa using h0), List.length_cons]
    congr 1
    exact lastN_at (by simpa using h) (fun j hj => by have := h1 (j + 1) (by omega); simpa using this) (fun hn => by have := h2 (by simpa using hn); simpa using this)
theorem goodI_b (l : List Rdg) : ∀ n, -1 ≤ goodI l n ∧ goodI l n < n
  | 0 => ⟨Int.le_refl _, by show (-1 : Int) < 0; omega⟩
  | n + 1 => by
    have := goodI_b l n
    rw [goodI]
    split <;> omega
theorem goodI_says (l : List Rdg) : ∀ n, 0 ≤ goodI l n → saysB (l.getD (goodI l n).toNat noRdg) = true
  | 0, h => by have h : (0 : Int) ≤ -1 := h; omega
  | n + 1, h => by
    rw [goodI] at h ⊢
    split
    · rename_i hs; rw [Int.toNat_natCast]; exact hs
    · rename_i hs
      rw [if_neg hs] at h
      exact goodI_says l n h
def ckStand0 : Ck
  | [.sl n f, .int .i64 a, .int .i64 m] => some (isLs cRdg n f ∧ rdgsOk (lsOf cRdg n f) ∧ askE (lsOf cRdg n f) a m = 0, .tup [.int .i64 (standL (lsOf cRdg n f) a m).1, .int .i64 (standL (lsOf cRdg n f) a m).2])
  | _ => none
theorem conStand0 : Con pg 30 ckStand0 := by
  have hct := (ctA_ok conIsRules (ctA_ok conIsAll (ctN_ok _)))
  intro args q r h hq
  unfold ckStand0 at h
  split at h
  · cases h
    rename_i n f a m
    refine pcall_args (args' := [.sl (lsOf cRdg n f).length (lsF cRdg (lsOf cRdg n f)), .int .i64 a, .int .i64 m]) ⟨isLs.vle hq.1, VLe.refl _, VLe.refl _, trivial⟩ ?_
    obtain ⟨-, hl, hask⟩ := hq
    generalize lsOf cRdg n f = l at hl hask ⊢
    refine w30 (fun _ => false) [] rfl hct rfl rfl ?_
    push_cast (config := { maxSteps := 10000000 })
    have hc : checkRdgs l = 0 ∧ 1 ≤ a ∧ a ≤ 100000000 ∧ 0 ≤ m ∧ m ≤ 253402300799 := by
      unfold askE at hask
      split at hask
      · rename_i h0
        split at hask
        · exact ⟨h0, by assumption⟩
        · cases hask
      · exact absurd hask (by assumption)
    obtain ⟨s1, s2, s3⟩ := rdgs_ok hc.1
    refine LoopW.adj ⟨hct, fol⟩ (by kernel_rfl) [] (fun i : Nat => [(0, .sl l.length (lsF cRdg l)), (1, .int .i64 a), (2, .int .i64 m), (8, .int .i64 ((i : Int) - 1)), (9, .int .i64 (goodI l i)), (12, .sl l.length (lsF cRdg l)), (13, .int .i64 l.length), (14, .int .i64 i)]) (fun _ => []) (fun i => i ≤ l.length ∧ ∀ j, j < i → (l.getD j noRdg).at' ≤ m) (fun i => l.length - i) 0 ?_ fun i hi => ?_
    · push_cast (config := { maxSteps := 10000000 })
      exact ⟨Nat.zero_le _, rfl⟩
    · push_cast (config := { maxSteps := 10000000 })
      obtain ⟨i1, i2⟩ := hi
      have gb := goodI_b l i
      have gr : 0 ≤ goodI l i → 0 ≤ (l.getD (goodI l i).toNat noRdg).at' ∧ (l.getD (goodI l i).toNat noRdg).at' ≤ 253402300799 := fun h => by
        have hlt : (goodI l i).toNat < l.length := by omega
        have := s2 (l.getD (goodI l i).toNat noRdg) (by rw [List.getD_eq_getElem?_getD, List.getElem?_eq_getElem hlt]; exact List.getElem_mem hlt)
        exact ⟨this.1, this.2.1⟩
      have fin : lastN l m = i → ((i : Int) - 1 < 0 → 1 = (standL l a m).1 ∧ -1 = (standL l a m).2) ∧
              (¬(i : Int) - 1 < 0 →
                (¬goodI l i < 0 ∧ goodI l i < (i : Int) - 1 →
                    (¬goodI l i < 0 ∧ goodI l i < (i : Int) - 1) ∧ 0 ≤ goodI l i ∧ goodI l i < (l.length : Int)) ∧
                  (¬goodI l i < 0 ∧ goodI l i < (i : Int) - 1 →
                      (¬goodI l i < 0 ∧ goodI l i < (i : Int) - 1) ∧
                        -9223372036854775808 ≤ (l.getD (goodI l i).toNat noRdg).at' + a ∧
                          (l.getD (goodI l i).toNat noRdg).at' + a ≤ 9223372036854775807) ∧
                    (¬goodI l i < 0 → ¬goodI l i < 0 ∧ (goodI l i < (i : Int) - 1 → ¬goodI l i < 0 ∧ goodI l i < (i : Int) - 1)) ∧
                      (goodI l i < 0 ∨ goodI l i < (i : Int) - 1 ∧ (l.getD (goodI l i).toNat noRdg).at' + a ≤ m →
                          4 = (standL l a m).1 ∧ (i : Int) - 1 = (standL l a m).2) ∧
                        (¬goodI l i < 0 ∧ (goodI l i < (i : Int) - 1 → ¬(l.getD (goodI l i).toNat noRdg).at' + a ≤ m) →
                          (0 ≤ goodI l i ∧ goodI l i < (l.length : Int)) ∧
                            (isRulS (l.getD (goodI l i).toNat noRdg).st = true →
                                2 = (standL l a m).1 ∧ goodI l i = (standL l a m).2) ∧
                              (isRulS (l.getD (goodI l i).toNat noRdg).st = false →
                                3 = (standL l a m).1 ∧ goodI l i = (standL l a m).2))) := fun hN => by
        unfold standL
        rw [hN]
        refine ⟨fun h => by rw [if_pos (by omega)]; exact ⟨rfl, rfl⟩, fun h => ?_⟩
        rw [if_neg (by omega)]
        refine ⟨fun x => ⟨x, by omega, by omega⟩, fun x => ⟨x, ?_⟩, fun x => ⟨x, fun y => ⟨x, y⟩⟩, fun x => ?_, fun x => ⟨⟨by omega, by omega⟩, fun y => ?_, fun y => ?_⟩⟩
        · have := gr (by omega); omega
        · rw [if_pos x]; exact ⟨rfl, rfl⟩
        · rw [if_neg (fun z => z.elim x.1 fun w => x.2 w.1 w.2), if_pos y]; exact ⟨rfl, rfl⟩
        · rw [if_neg (fun z => z.elim x.1 fun w => x.2 w.1 w.2), if_neg (by rw [y]; simp)]; exact ⟨rfl, rfl⟩
      refine ⟨fun hlt => ⟨hlt, fun hb => fin (lastN_at i1 i2 fun _ => hb), fun hb => ?_⟩, fun hge => fin (lastN_at i1 i2 fun h => absurd h hge)⟩
      have i2' : ∀ j, j < i + 1 → (l.getD j noRdg).at' ≤ m := fun j hj => by
        by_cases e : j = i
        · subst e; omega
        · exact i2 j (by omega)
      refine ⟨fun hs => ⟨⟨by omega, by omega⟩, i + 1, ⟨by omega, i2'⟩, by omega, by omega, ?_, by omega⟩, fun hs => ⟨⟨by omega, by omega⟩, i + 1, ⟨by omega, i2'⟩, by omega, by omega, ?_, by omega⟩⟩
      · have h0 : saysB (l.getD i noRdg) = true := by unfold saysB; rw [Bool.or_eq_true]; exact hs
        rw [goodI, if_pos h0]
      · have h0 : saysB (l.getD i noRdg) = false := by unfold saysB; rw [hs.1, hs.2]; rfl
        rw [goodI, if_neg (by rw [h0]; simp)]
  · cases h
attribute [push_cast] ckStand0
def ckStand : Ck
  | [.sl n f, .int .i64 a, .int .i64 m] => some (isLs cRdg n f ∧ rdgsOk (lsOf cRdg n f), .tup [.int .i64 (if askE (lsOf cRdg n f) a m = 0 then (standL (lsOf cRdg n f) a m).1 else 0), .int .i64 (if askE (lsOf cRdg n f) a m = 0 then (standL (lsOf cRdg n f) a m).2 else 0), .int .i64 (askE (lsOf cRdg n f) a m)])
  | _ => none
theorem conStand : Con pg 8 ckStand := by
  have hct := (ctA_ok conAsk (ctA_ok conStand0 (ctN_ok _)))
  intro args q r h hq
  unfold ckStand at h
  split at h
  · cases h
    rename_i n f a m
    refine pcall_args (args' := [.sl (lsOf cRdg n f).length (lsF cRdg (lsOf cRdg n f)), .int .i64 a, .int .i64 m]) ⟨isLs.vle hq.1, VLe.refl _, VLe.refl _, trivial⟩ ?_
    obtain ⟨-, hl⟩ := hq
    generalize lsOf cRdg n f = l at hl ⊢
    refine w8 (fun _ => false) [] rfl hct rfl rfl ?_
    push_cast (config := { maxSteps := 10000000 })
    refine ⟨hl, fun h => ?_, fun h => ⟨⟨hl, h⟩, ?_⟩⟩
    · rw [if_neg h, if_neg h]; exact ⟨rfl, rfl⟩
    · rw [if_pos h, if_pos h]; exact ⟨rfl, rfl, h.symm⟩
  · cases h
attribute [push_cast] ckStand

def saysN (x : Rdg) : Int := if isRulS x.st = true then 2 else if isAllS x.st = true then 3 else 0
def ckSays : Ck
  | [.agg [.int .i64 a, .int .i64 s, x, y]] => some (True, .int .i64 (saysN ⟨a, s, noRob⟩))
  | _ => none
theorem conSays : Con pg 58 ckSays := by
  have hct := (ctA_ok conWithin (ctN_ok _))
  intro args q r h hq
  unfold ckSays at h
  split at h
  · cases h
    rename_i a s x y
    refine w58 (fun _ => false) [] rfl hct rfl rfl ?_
    push_cast (config := { maxSteps := 10000000 })
    unfold saysN isRulS isAllS
    simp only [Bool.and_eq_true, decide_eq_true_eq]
    exact ⟨fun h => by rw [if_pos h], fun h => ⟨fun h2 => by rw [if_neg (by omega), if_pos h2], fun h2 => by rw [if_neg (by omega), if_neg (by omega)]⟩⟩
  · cases h
attribute [push_cast] ckSays
def ckIsZero : Ck
  | [.agg [.sl n f, .sl m g]] => some (True, .bool (decide (n = 0) && decide (m = 0)))
  | _ => none
theorem conIsZero : Con pg 37 ckIsZero := by
  have hct := ctN_ok pg
  intro args q r h hq
  unfold ckIsZero at h
  split at h
  · cases h
    rename_i n f m g
    refine w37 (fun _ => false) [] rfl hct rfl rfl ?_
    push_cast (config := { maxSteps := 10000000 })
    congr 1
    · rw [Bool.eq_iff_iff, beq_iff_eq, decide_eq_true_eq]; omega
    · rw [Bool.eq_iff_iff, beq_iff_eq, decide_eq_true_eq]; omega
  · cases h
attribute [push_cast] ckIsZero
theorem conCheckRdgs4 : Con pg 11 ckCheckRdgs := by
  have hct := (ctA_ok conWithin (ctA_ok conIsZero (ctA_ok conCheckRob4 (ctN_ok _))))
  intro args q r h hq
  unfold ckCheckRdgs at h
  split at h
  · cases h
    rename_i n f
    refine pcall_args (args' := [.sl (lsOf cRdg n f).length (lsF cRdg (lsOf cRdg n f))]) ⟨isLs.vle hq.1, trivial⟩ ?_
    obtain ⟨-, hl⟩ := hq
    generalize lsOf cRdg n f = l at hl ⊢
    refine w11 (fun _ => false) [] rfl hct rfl rfl ?_
    push_cast (config := { maxSteps := 10000000 })
    refine ⟨fun h => by unfold checkRdgs; rw [if_pos (by omega)], fun h => ?_⟩
    have e0 : checkRdgs l = rdgsGo (-1) l := by unfold checkRdgs; rw [if_neg (by omega)]
    rw [e0]
    refine LoopW.adj ⟨hct, fol⟩ (by kernel_rfl) [] (fun i : Nat => [(0, .sl l.length (lsF cRdg l)), (9, .sl l.length (lsF cRdg l)), (10, .int .i64 l.length), (11, .int .i64 i)]) (fun _ => []) (fun i => i ≤ l.length ∧ rdgsGo (prevA l i) (l.drop i) = rdgsGo (-1) l) (fun i => l.length - i) 0 ?_ fun i hi => ?_
    · push_cast (config := { maxSteps := 10000000 })
      exact ⟨Nat.zero_le _, rfl⟩
    · push_cast (config := { maxSteps := 10000000 })
      obtain ⟨i1, i2⟩ := hi
      have ep : ∀ j, prevA l (j + 1) = (l.getD j noRdg).at' := fun j => by unfold prevA; rw [if_neg (by omega)]; rfl
      refine ⟨fun hlt => ?_, fun hge => ?_⟩
      · rw [dropG (d := noRdg) hlt, rdgsGo] at i2
        have ok := rdgs_at hl hlt
        have e1 := ep i
        have hp : 0 < i → prevA l i = (l.getD ((i : Int) - 1).toNat noRdg).at' := fun h => by
          unfold prevA; rw [if_neg (by omega)]; congr 2; omega
        have hp0 : i = 0 → prevA l i = -1 := fun h => by subst h; rfl
        generalize l.getD i noRdg = x at *
        obtain ⟨k1, k2, k3, k4, k5⟩ := ok
        have g1 := k5.1
        have g2 := k5.2.2.1
        have hr : isRulS x.st = true ↔ 200 ≤ x.st ∧ x.st ≤ 299 := by unfold isRulS; rw [Bool.and_eq_true, decide_eq_true_eq, decide_eq_true_eq]
        have hf : isRulS x.st = false ↔ ¬ (200 ≤ x.st ∧ x.st ≤ 299) := by rw [← hr]; simp
        refine ⟨hlt, fun h => ⟨h, fun h' => ⟨h, h'⟩⟩, fun h => ?_, fun h => ⟨fun h2 => ?_, fun h2 => ⟨k5, fun h3 => ?_, fun h3 => ⟨fun h4 => ⟨h4, by omega, by omega⟩, fun h4 => ⟨h4, by omega, by omega⟩, fun h4 => ?_, fun h4 => ⟨⟨by omega, by omega⟩, i + 1, ⟨by omega, ?_⟩, by omega, by omega⟩⟩⟩⟩⟩
        · have hE : rdgE x = 1 := by unfold rdgE; rw [if_pos (by omega)]
          rw [hE, if_neg (by omega)] at i2; exact i2
        · have hE : rdgE x = 3 := by unfold rdgE; rw [if_neg (by omega), if_pos ⟨hf.2 (by omega), by omega⟩]
          rw [hE, if_neg (by omega)] at i2; exact i2
        all_goals
          have hE : rdgE x = checkRobL x.ro := by
            unfold rdgE
            rw [if_neg (by omega), if_neg (fun y => by have := hf.1 y.1; omega)]
          rw [hE] at i2
        · rw [if_neg h3] at i2; exact i2
        · rw [if_pos h3, if_pos (by rw [hp (by omega)]; exact h4.2)] at i2; exact i2
        · rw [if_pos h3, if_neg ?_, ← e1] at i2
          · exact i2
          · by_cases hi0 : i = 0
            · rw [hp0 hi0]; omega
            · rw [hp (by omega)]; exact h4 (by omega)
      · rw [List.drop_eq_nil_of_le (by omega), rdgsGo] at i2
        exact i2
  · cases h
theorem conAsk4 : Con pg 31 ckAsk := by
  have hct := (ctA_ok conCheckRdgs4 (ctA_ok conWithin (ctN_ok _)))
  intro args q r h hq
  unfold ckAsk at h
  split at h
  · cases h
    rename_i n f a m
    refine pcall_args (args' := [.sl (lsOf cRdg n f).length (lsF cRdg (lsOf cRdg n f)), .int .i64 a, .int .i64 m]) ⟨isLs.vle hq.1, VLe.refl _, VLe.refl _, trivial⟩ ?_
    obtain ⟨-, hl⟩ := hq
    generalize lsOf cRdg n f = l at hl ⊢
    refine w31 (fun _ => false) [] rfl hct rfl rfl ?_
    push_cast (config := { maxSteps := 10000000 })
    refine ⟨hl, fun h => by unfold askE; rw [if_neg h], fun h => ⟨fun h2 => ?_, fun h2 => ?_⟩⟩
    · unfold askE; rw [if_pos h, if_neg (by omega)]
    · unfold askE; rw [if_pos h, if_pos (by omega)]
  · cases h
theorem conStand04 : Con pg 32 ckStand0 := by
  have hct := (ctA_ok conSays (ctN_ok _))
  intro args q r h hq
  unfold ckStand0 at h
  split at h
  · cases h
    rename_i n f a m
    refine pcall_args (args' := [.sl (lsOf cRdg n f).length (lsF cRdg (lsOf cRdg n f)), .int .i64 a, .int .i64 m]) ⟨isLs.vle hq.1, VLe.refl _, VLe.refl _, trivial⟩ ?_
    obtain ⟨-, hl, hask⟩ := hq
    generalize lsOf cRdg n f = l at hl hask ⊢
    refine w32 (fun _ => false) [] rfl hct rfl rfl ?_
    push_cast (config := { maxSteps := 10000000 })
    have hc : checkRdgs l = 0 ∧ 1 ≤ a ∧ a ≤ 100000000 ∧ 0 ≤ m ∧ m ≤ 253402300799 := by
      unfold askE at hask
      split at hask
      · rename_i h0
        split at hask
        · exact ⟨h0, by assumption⟩
        · cases hask
      · exact absurd hask (by assumption)
    obtain ⟨s1, s2, s3⟩ := rdgs_ok hc.1
    refine LoopW.adj ⟨hct, fol⟩ (by kernel_rfl) [] (fun t : Nat × Int => [(0, .sl l.length (lsF cRdg l)), (1, .int .i64 a), (2, .int .i64 m), (8, .int .i64 t.2), (14, .sl l.length (lsF cRdg l)), (15, .int .i64 l.length), (16, .int .i64 t.1)]) (fun _ => []) (fun t => t.1 ≤ l.length ∧ -1 ≤ t.2 ∧ t.2 < t.1 ∧ (∀ j : Nat, (j : Int) ≤ t.2 → (l.getD j noRdg).at' ≤ m) ∧ (∀ j : Nat, t.2 < j → j < t.1 → m < (l.getD j noRdg).at')) (fun t => l.length - t.1) (0, -1) ?_ fun t ht => ?_
    · push_cast (config := { maxSteps := 10000000 })
      exact ⟨Nat.zero_le _, fun j hj => by omega⟩
    · obtain ⟨i, z⟩ := t
      obtain ⟨i1, i2, i3, i4, i5⟩ : i ≤ l.length ∧ -1 ≤ z ∧ z < i ∧ (∀ j : Nat, (j : Int) ≤ z → (l.getD j noRdg).at' ≤ m) ∧ (∀ j : Nat, z < j → j < i → m < (l.getD j noRdg).at') := ht
      push_cast (config := { maxSteps := 10000000 })
      refine ⟨fun hlt => ⟨hlt, fun hm => ⟨⟨by omega, by omega⟩, ((i + 1, (i : Int)) : Nat × Int), ⟨by show i + 1 ≤ _; omega, by show -1 ≤ (i : Int); omega, by show (i : Int) < ((i + 1 : Nat) : Int); omega, fun j hj => ?_, fun j h1 h2 => ?_⟩, by show l.length - (i + 1) < l.length - i; omega, rfl, by show (i : Int) + 1 = ((i + 1 : Nat) : Int); omega⟩, fun hm => ⟨⟨by omega, by omega⟩, ((i + 1, z) : Nat × Int), ⟨by show i + 1 ≤ _; omega, i2, by show z < ((i + 1 : Nat) : Int); omega, i4, fun j h1 h2 => ?_⟩, by show l.length - (i + 1) < l.length - i; omega, rfl, by show (i : Int) + 1 = ((i + 1 : Nat) : Int); omega⟩⟩, fun hge => ?_⟩
      · have hj : (j : Int) ≤ i := hj
        have := s3 j i (by omega) hlt
        omega
      · have h1 : (i : Int) < j := h1
        have h2 : j < i + 1 := h2
        omega
      · have h2 : j < i + 1 := h2
        by_cases e : j = i
        · subst e; omega
        · exact i5 j h1 (by omega)
      have hN : lastN l m = (z + 1).toNat := lastN_at (by omega) (fun j hj => i4 j (by omega)) (fun h => i5 _ (by omega) (by omega))
      refine ⟨fun h => ?_, fun h => ⟨⟨by omega, by omega⟩, fun hs => ?_, fun hs => ⟨⟨by omega, by omega⟩, ?_⟩⟩⟩
      · have : (z + 1).toNat = 0 := by omega
        unfold standL; rw [hN, this, if_pos rfl]; exact ⟨rfl, rfl⟩
      · obtain ⟨k, rfl⟩ : ∃ k : Nat, z = k := ⟨z.toNat, by omega⟩
        have hk : ((k : Int) + 1).toNat = k + 1 := by omega
        rw [hk] at hN
        rw [Int.toNat_natCast] at hs ⊢
        have hsB : saysB (l.getD k noRdg) = true := by
          unfold saysB
          unfold saysN at hs
          simp only at hs
          cases h1 : isRulS (l.getD k noRdg).st with
          | true => rfl
          | false =>
            rw [h1] at hs
            cases h2 : isAllS (l.getD k noRdg).st with
            | true => rfl
            | false => rw [h2] at hs; exact absurd rfl hs
        have hg : goodI l (k + 1) = k := by rw [goodI, if_pos hsB]
        unfold standL
        rw [hN, hg, if_neg (by omega), if_neg (by omega), Int.toNat_natCast]
        unfold saysN
        simp only
        unfold saysB at hsB
        cases h1 : isRulS (l.getD k noRdg).st with
        | true => exact ⟨rfl, rfl⟩
        | false =>
          rw [h1] at hsB
          rw [show isAllS (l.getD k noRdg).st = true from hsB]
          exact ⟨rfl, rfl⟩
      obtain ⟨k, rfl⟩ : ∃ k : Nat, z = k := ⟨z.toNat, by omega⟩
      have hk : ((k : Int) + 1).toNat = k + 1 := by omega
      rw [hk] at hN
      rw [Int.toNat_natCast] at hs
      have no : ∀ j, saysN ⟨(l.getD j noRdg).at', (l.getD j noRdg).st, noRob⟩ = 0 ↔ saysB (l.getD j noRdg) = false := fun j => by
        unfold saysN saysB
        simp only
        cases isRulS (l.getD j noRdg).st <;> cases isAllS (l.getD j noRdg).st <;> decide
      have hg : goodI l (k + 1) = goodI l k := by rw [goodI, if_neg (by rw [(no k).1 hs]; simp)]
      refine LoopW.adj ⟨hct, fol⟩ (by kernel_rfl) [] (fun t : Nat => [(0, .sl l.length (lsF cRdg l)), (1, .int .i64 a), (2, .int .i64 m), (8, .int .i64 k), (12, .int .i64 ((t : Int) - 1))]) (fun _ => []) (fun t => t ≤ k ∧ goodI l (k + 1) = goodI l t) (fun t => t) k ?_ fun t ht => ?_
      · push_cast (config := { maxSteps := 10000000 })
        exact ⟨Nat.le_refl _, hg⟩
      · push_cast (config := { maxSteps := 10000000 })
        obtain ⟨t1, t2⟩ := ht
        have bd : ∀ j, j < l.length → 0 ≤ (l.getD j noRdg).at' ∧ (l.getD j noRdg).at' ≤ 253402300799 := fun j hj => by
          have := s2 (l.getD j noRdg) (by rw [List.getD_eq_getElem?_getD, List.getElem?_eq_getElem hj]; exact List.getElem_mem hj)
          exact ⟨this.1, this.2.1⟩
        have base : standL l a m = if goodI l t < 0 ∨ (goodI l t < (k : Int) ∧ (l.getD (goodI l t).toNat noRdg).at' + a ≤ m) then (4, (k : Int)) else if isRulS (l.getD (goodI l t).toNat noRdg).st = true then (2, goodI l t) else (3, goodI l t) := by
          unfold standL
          rw [hN, t2, if_neg (by omega)]
          have e : (((k + 1 : Nat) : Int) - 1) = k := by omega
          rw [e]
        rw [base]
        refine ⟨fun h => ?_, fun h => ?_⟩
        · obtain ⟨j, rfl⟩ : ∃ j, t = j + 1 := ⟨t - 1, by omega⟩
          have ej : (((j + 1 : Nat) : Int) - 1).toNat = j := by omega
          have ej2 : (((j + 1 : Nat) : Int) - 1) = j := by omega
          rw [ej]
          have bj := bd j (by omega)
          refine ⟨⟨by omega, by omega⟩, fun hz => ?_, fun hz => ⟨⟨by omega, by omega⟩, j, ⟨by omega, ?_⟩, by omega, by omega⟩⟩
          · have hsB : saysB (l.getD j noRdg) = true := by
              cases hx : saysB (l.getD j noRdg) with
              | true => rfl
              | false => exact absurd ((no j).2 hx) hz
            have hg2 : goodI l (j + 1) = j := by rw [goodI, if_pos hsB]
            rw [hg2, Int.toNat_natCast, ej2]
            refine ⟨⟨by omega, by omega⟩, ⟨by omega, by omega⟩, fun x => ?_, fun x => ?_⟩
            · rw [if_neg (by omega)]
              unfold saysB at hsB
              unfold saysN
              simp only
              cases h1 : isRulS (l.getD j noRdg).st with
              | true => exact ⟨rfl, rfl⟩
              | false =>
                rw [h1] at hsB
                rw [show isAllS (l.getD j noRdg).st = true from hsB]
                exact ⟨rfl, rfl⟩
            · rw [if_pos (by omega)]; exact ⟨rfl, rfl⟩
          · rw [t2, goodI, if_neg (by rw [(no j).1 hz]; simp)]
        · obtain rfl : t = 0 := by omega
          have g0 : goodI l 0 = -1 := rfl
          rw [g0, if_pos (by omega)]
          exact ⟨rfl, rfl⟩
  · cases h
theorem conStand4 : Con pg 9 ckStand := by
  have hct := (ctA_ok conAsk4 (ctA_ok conStand04 (ctN_ok _)))
  intro args q r h hq
  unfold ckStand at h
  split at h
  · cases h
    rename_i n f a m
    refine pcall_args (args' := [.sl (lsOf cRdg n f).length (lsF cRdg (lsOf cRdg n f)), .int .i64 a, .int .i64 m]) ⟨isLs.vle hq.1, VLe.refl _, VLe.refl _, trivial⟩ ?_
    obtain ⟨-, hl⟩ := hq
    generalize lsOf cRdg n f = l at hl ⊢
    refine w9 (fun _ => false) [] rfl hct rfl rfl ?_
    push_cast (config := { maxSteps := 10000000 })
    refine ⟨hl, fun h => ?_, fun h => ⟨⟨hl, h⟩, ?_⟩⟩
    · rw [if_neg h, if_neg h]; exact ⟨rfl, rfl⟩
    · rw [if_pos h, if_pos h]; exact ⟨rfl, rfl, h.symm⟩
  · cases h

def ckLawSM : Ck
  | [.sl n f, .int .i64 a, .int .i64 m] => some (isLv cRdg n f ∧ rdgsOk (lsOf cRdg n f), .bool true)
  | _ => none
theorem conLawSM : Con pg 3 ckLawSM := by
  have hct := (ctA_ok conStand (ctA_ok conStand4 (ctA_ok conCheckRdgs (ctA_ok conCheckRdgs4 (ctA_ok conAwake4 (ctN_ok _))))))
  intro args q r h hq
  unfold ckLawSM at h
  split at h
  · cases h
    rename_i n f a m
    refine pcall_args (args' := [.sl (lsOf cRdg n f).length (lsF cRdg (lsOf cRdg n f)), .int .i64 a, .int .i64 m]) ⟨hq.1, VLe.refl _, VLe.refl _, trivial⟩ ?_
    obtain ⟨-, ha⟩ := hq
    generalize lsOf cRdg n f = l at ha ⊢
    refine w3 (fun _ => false) [] rfl hct rfl rfl ?_
    push_cast (config := { maxSteps := 10000000 })
    exact ha
  · cases h
attribute [push_cast] ckLawSM
theorem allLawSM {H : Type} (ds : List (DataW H)) (hh : hasD [.list sRdg, .int .i64, .int .i64] ds) : PCall pg 3 (ds.map toV) (.bool true) := by
  obtain ⟨d1, d2, d3, rfl, x, y, z⟩ := hasD3 hh
  obtain ⟨n, f, e1, i1, b1, k1⟩ := shListE (c := cRdg) (p := rdgOk) (fun m v h => shRdg h) x
  obtain ⟨a, e2, _⟩ := shInt y
  obtain ⟨m, e3, _⟩ := shInt z
  simp only [List.map_cons, List.map_nil, e1, e2, e3]
  exact conLawSM _ _ _ rfl ⟨i1, k1⟩

end Go.Abs
