/- what functions of this program compute: contracts, each a function's own -/
import Derived.Test.YtpamahgbkmcpoaaDoorAbsK2
import Derived.Test.YtpamahgbkmcpoaaDoorAbsFacts
import Derived.Test.YtpamahgbkmcpoaaDoorAbsF0
import Derived.Test.YtpamahgbkmcpoaaDoorAbsShelf
import Derived.Lib.ItoaLen
namespace Go.Abs
open Go Go.Proofs
set_option maxHeartbeats 4000000
set_option maxRecDepth 100000
set_option linter.unusedVariables false
set_option linter.unusedSimpArgs false
def headsGo : List Hd → Int
  | [] => 0
  | h :: t => if tokL h.name = true then (if valueL h.value = true then headsGo t else 3) else 5
def checkHeadsL (l : List Hd) : Int := if 100 < l.length then 2 else headsGo l
def ckCheckHeads : Ck
  | [.sl n f] => some (isLs cHd n f ∧ hdsOk (lsOf cHd n f), .int .i64 (checkHeadsL (lsOf cHd n f)))
  | _ => none
theorem headsGo_tok {l : List Hd} {i : Nat} (hi : i < l.length) (h : ¬ tokL (l.getD i ⟨[], []⟩).name = true) : headsGo (l.drop i) = 5 := by
  rw [dropG (d := ⟨[], []⟩) hi, headsGo, if_neg h]
theorem headsGo_val {l : List Hd} {i : Nat} (hi : i < l.length) (h : tokL (l.getD i ⟨[], []⟩).name = true) (h2 : ¬ valueL (l.getD i ⟨[], []⟩).value = true) : headsGo (l.drop i) = 3 := by
  rw [dropG (d := ⟨[], []⟩) hi, headsGo, if_pos h, if_neg h2]
theorem headsGo_next {l : List Hd} {i : Nat} (hi : i < l.length) (h : tokL (l.getD i ⟨[], []⟩).name = true) (h2 : valueL (l.getD i ⟨[], []⟩).value = true) : headsGo (l.drop i) = headsGo (l.drop (i + 1)) := by
  rw [dropG (d := ⟨[], []⟩) hi, headsGo, if_pos h, if_pos h2]
theorem conCheckHeads : Con pg 22 ckCheckHeads := by
  have hct := (ctA_ok conIsToken (ctA_ok conIsValue (ctN_ok _)))
  intro args q r h hq
  unfold ckCheckHeads at h
  split at h
  · cases h
    rename_i n f
    refine pcall_args (args' := [.sl (lsOf cHd n f).length (lsF cHd (lsOf cHd n f))]) ⟨isLs.vle hq.1, trivial⟩ ?_
    obtain ⟨-, hl⟩ := hq
    generalize lsOf cHd n f = l at hl ⊢
    refine w22 (fun _ => false) [] rfl hct rfl rfl ?_
    push_cast (config := { maxSteps := 10000000 })
    refine ⟨fun h => ?_, fun h => ?_⟩
    · unfold checkHeadsL; rw [if_pos (by omega)]
    have e0 : checkHeadsL l = headsGo l := by unfold checkHeadsL; rw [if_neg (by omega)]
    rw [e0]
    refine LoopW.adj ⟨hct, fol⟩ (by kernel_rfl) [] (fun i : Nat => [(8, .sl l.length (lsF cHd l)), (9, .int .i64 l.length), (10, .int .i64 i)]) (fun _ => []) (fun i => i ≤ l.length ∧ headsGo (l.drop i) = headsGo l) (fun i => l.length - i) 0 ?_ fun i hi => ?_
    · push_cast (config := { maxSteps := 10000000 })
      exact Nat.zero_le _
    · push_cast (config := { maxSteps := 10000000 })
      obtain ⟨h1, h2⟩ := hi
      refine ⟨fun hlt => ?_, fun hlt => ?_⟩
      · have hb := hdsOk_at hl hlt
        (repeat' (first | apply And.intro | intro _)) <;> (try first | assumption | contradiction | omega | exact rfl | exact trivial)
        · rw [← h2, headsGo_tok hlt (by simp_all)]
        · rw [← h2, headsGo_val hlt (by assumption) (by simp_all)]
        · refine ⟨i + 1, ⟨by omega, ?_⟩, by omega, by omega⟩
          rw [← h2, headsGo_next hlt (by assumption) (by assumption)]
      · rw [← h2, List.drop_eq_nil_of_le (by omega)]; rfl
  · cases h
attribute [push_cast] ckCheckHeads
theorem conCheckHeads2 : Con pg 23 ckCheckHeads := by
  have hct := (ctA_ok conIsToken2 (ctA_ok conIsValue2 (ctN_ok _)))
  intro args q r h hq
  unfold ckCheckHeads at h
  split at h
  · cases h
    rename_i n f
    refine pcall_args (args' := [.sl (lsOf cHd n f).length (lsF cHd (lsOf cHd n f))]) ⟨isLs.vle hq.1, trivial⟩ ?_
    obtain ⟨-, hl⟩ := hq
    generalize lsOf cHd n f = l at hl ⊢
    refine w23 (fun _ => false) [] rfl hct rfl rfl ?_
    push_cast (config := { maxSteps := 10000000 })
    refine ⟨fun h => ?_, fun h => ?_⟩
    · unfold checkHeadsL; rw [if_pos (by omega)]
    have e0 : checkHeadsL l = headsGo l := by unfold checkHeadsL; rw [if_neg (by omega)]
    rw [e0]
    refine LoopW.adj ⟨hct, fol⟩ (by kernel_rfl) [] (fun i : Nat => [(0, .sl l.length (lsF cHd l)), (3, .int .i64 i)]) (fun _ => []) (fun i => i ≤ l.length ∧ headsGo (l.drop i) = headsGo l) (fun i => l.length - i) 0 ?_ fun i hi => ?_
    · push_cast (config := { maxSteps := 10000000 })
      exact Nat.zero_le _
    · push_cast (config := { maxSteps := 10000000 })
      obtain ⟨h1, h2⟩ := hi
      refine ⟨fun hlt => ?_, fun hlt => ?_⟩
      · have hb := hdsOk_at hl hlt
        (repeat' (first | apply And.intro | intro _)) <;> (try first | assumption | contradiction | omega | exact rfl | exact trivial)
        · rw [← h2, headsGo_tok hlt (by simp_all)]
        · rw [← h2, headsGo_val hlt (by assumption) (by simp_all)]
        · refine ⟨i + 1, ⟨by omega, ?_⟩, by omega, by omega⟩
          rw [← h2, headsGo_next hlt (by assumption) (by assumption)]
      · rw [← h2, List.drop_eq_nil_of_le (by omega)]; rfl
  · cases h

def checkTopL (st : Int) (reason : List UInt8) (l : List Hd) : Int := if st < 100 ∨ 599 < st then 1 else if valueL reason = true then checkHeadsL l else 3
def ckCheckTop : Ck
  | [.agg [.int .i64 st, .str re, .sl n f, _]] => some (isLs cHd n f ∧ hdsOk (lsOf cHd n f) ∧ re.length ≤ 140737488355328, .int .i64 (checkTopL st re (lsOf cHd n f)))
  | _ => none
theorem conCheckTop : Con pg 33 ckCheckTop := by
  have hct := (ctA_ok conIsValue (ctA_ok conCheckHeads (ctN_ok _)))
  intro args q r h hq
  unfold ckCheckTop at h
  split at h
  · cases h
    rename_i st re n f x
    refine w33 (fun _ => false) [] rfl hct rfl rfl ?_
    push_cast (config := { maxSteps := 10000000 })
    obtain ⟨q1, q2, q3⟩ := hq
    refine ⟨fun h => ?_, fun h => ⟨by omega, fun h2 => ?_, fun h2 => ⟨⟨q1, q2⟩, ?_⟩⟩⟩
    · unfold checkTopL; rw [if_pos h]
    · unfold checkTopL; rw [if_neg (by omega), if_neg (by simp [h2])]
    · unfold checkTopL; rw [if_neg (by omega), if_pos h2]
  · cases h
attribute [push_cast] ckCheckTop
theorem conCheckTop2 : Con pg 38 ckCheckTop := by
  have hct := (ctA_ok conWithin2b (ctA_ok conIsValue2 (ctA_ok conCheckHeads2 (ctN_ok _))))
  intro args q r h hq
  unfold ckCheckTop at h
  split at h
  · cases h
    rename_i st re n f x
    refine w38 (fun _ => false) [] rfl hct rfl rfl ?_
    push_cast (config := { maxSteps := 10000000 })
    obtain ⟨q1, q2, q3⟩ := hq
    refine ⟨fun h => ?_, fun h => ⟨by omega, fun h2 => ?_, fun h2 => ⟨⟨q1, q2⟩, ?_⟩⟩⟩
    · unfold checkTopL; rw [if_pos (by omega)]
    · unfold checkTopL; rw [if_neg (by omega), if_neg (by simp [h2])]
    · unfold checkTopL; rw [if_neg (by omega), if_pos h2]
  · cases h

def valuesL (l : List Hd) (name : List UInt8) : List (List UInt8) := (l.filter fun h => lowL h.name == name).map Hd.value
def ckValues : Ck
  | [.sl n f, .str name] => some (isLs cHd n f ∧ hdsOk (lsOf cHd n f) ∧ n ≤ 1000000, .sl (valuesL (lsOf cHd n f) name).length (lsF cStr (valuesL (lsOf cHd n f) name)))
  | _ => none
theorem valuesL_hit {l : List Hd} {i : Nat} {name : List UInt8} (hi : i < l.length) (h : lowL (l.getD i ⟨[], []⟩).name = name) : valuesL (l.drop i) name = (l.getD i ⟨[], []⟩).value :: valuesL (l.drop (i + 1)) name := by
  unfold valuesL
  rw [dropG (d := ⟨[], []⟩) hi, List.filter_cons, if_pos (beq_iff_eq.2 h), List.map_cons]
theorem valuesL_miss {l : List Hd} {i : Nat} {name : List UInt8} (hi : i < l.length) (h : ¬ lowL (l.getD i ⟨[], []⟩).name = name) : valuesL (l.drop i) name = valuesL (l.drop (i + 1)) name := by
  unfold valuesL
  rw [dropG (d := ⟨[], []⟩) hi, List.filter_cons, if_neg (fun e => h (beq_iff_eq.1 e))]
theorem valuesL_le (l : List Hd) (name : List UInt8) : (valuesL l name).length ≤ l.length := by
  unfold valuesL; rw [List.length_map]; exact List.length_filter_le _ _
theorem conValues : Con pg 36 ckValues := by
  have hct := (ctA_ok conSmallA (ctN_ok _))
  intro args q r h hq
  unfold ckValues at h
  split at h
  · cases h
    rename_i n f name
    refine pcall_args (args' := [.sl (lsOf cHd n f).length (lsF cHd (lsOf cHd n f)), .str name]) ⟨isLs.vle hq.1, VLe.refl _, trivial⟩ ?_
    obtain ⟨-, hl, hn⟩ := hq
    have hn2 : (lsOf cHd n f).length ≤ 1000000 := by rw [lsOf_len]; exact hn
    generalize lsOf cHd n f = l at hl hn2 ⊢
    refine w36 (fun _ => false) [.frz 90] rfl hct rfl rfl ?_
    push_cast (config := { maxSteps := 10000000 })
    refine LoopW.adj ⟨hct, fol⟩ (by kernel_rfl) [.nv 5 90 1 (lsF cStr [])] (fun t : Nat × List (List UInt8) => [(1, .str name), (5, .vec 90 t.2.length), (8, .sl l.length (lsF cHd l)), (9, .int .i64 l.length), (10, .int .i64 t.1)]) (fun t => [(90, .vec 1 t.2.length (lsF cStr t.2))]) (fun t => t.1 ≤ l.length ∧ t.2.length ≤ t.1 ∧ t.2 ++ valuesL (l.drop t.1) name = valuesL l name) (fun t => l.length - t.1) (0, []) ?_ fun t ht => ?_
    · push_cast (config := { maxSteps := 10000000 })
      exact Nat.zero_le _
    · obtain ⟨i, o⟩ := t
      obtain ⟨h1, h2, h3⟩ : i ≤ l.length ∧ o.length ≤ i ∧ o ++ valuesL (l.drop i) name = valuesL l name := ht
      push_cast (config := { maxSteps := 10000000 })
      refine ⟨fun hlt => ?_, fun hlt => ?_⟩
      · have hb := hdsOk_at hl hlt
        (repeat' (first | apply And.intro | intro _)) <;> (try first | assumption | contradiction | omega | exact rfl | exact trivial)
        · exact ⟨(i + 1, o ++ [(l.getD i ⟨[], []⟩).value]), ⟨by show i + 1 ≤ l.length; omega, by simp; omega, by rw [← h3, valuesL_hit hlt (by assumption)]; simp⟩, by show l.length - (i + 1) < l.length - i; omega, ⟨by simp, by simp⟩, LsI.app (c := cStr) (LsI.ls o) (LsI.one (c := cStr) rfl) (by simp)⟩
        · exact ⟨(i + 1, o), ⟨by show i + 1 ≤ l.length; omega, by show o.length ≤ i + 1; omega, by rw [← h3, valuesL_miss hlt (by assumption)]⟩, by show l.length - (i + 1) < l.length - i; omega, ⟨rfl, by simp⟩, LsI.ls (c := cStr) o⟩
      · have e : o = valuesL l name := by rw [← h3, List.drop_eq_nil_of_le (by omega)]; simp [valuesL]
        rw [← e]
        exact ⟨rfl, fun _ _ => rfl⟩
  · cases h
attribute [push_cast] ckValues
theorem conValues2 : Con pg 40 ckValues := by
  have hct := (ctA_ok conSmall (ctN_ok _))
  intro args q r h hq
  unfold ckValues at h
  split at h
  · cases h
    rename_i n f name
    refine pcall_args (args' := [.sl (lsOf cHd n f).length (lsF cHd (lsOf cHd n f)), .str name]) ⟨isLs.vle hq.1, VLe.refl _, trivial⟩ ?_
    obtain ⟨-, hl, hn⟩ := hq
    have hn2 : (lsOf cHd n f).length ≤ 1000000 := by rw [lsOf_len]; exact hn
    generalize lsOf cHd n f = l at hl hn2 ⊢
    refine w40 (fun _ => false) [.frz 90] rfl hct rfl rfl ?_
    push_cast (config := { maxSteps := 10000000 })
    refine LoopW.adj ⟨hct, fol⟩ (by kernel_rfl) [.nv 5 90 1 (lsF cStr [])] (fun t : Nat × List (List UInt8) => [(0, .sl l.length (lsF cHd l)), (1, .str name), (5, .vec 90 t.2.length), (6, .int .i64 t.1)]) (fun t => [(90, .vec 1 t.2.length (lsF cStr t.2))]) (fun t => t.1 ≤ l.length ∧ t.2.length ≤ t.1 ∧ t.2 ++ valuesL (l.drop t.1) name = valuesL l name) (fun t => l.length - t.1) (0, []) ?_ fun t ht => ?_
    · push_cast (config := { maxSteps := 10000000 })
      exact Nat.zero_le _
    · obtain ⟨i, o⟩ := t
      obtain ⟨h1, h2, h3⟩ : i ≤ l.length ∧ o.length ≤ i ∧ o ++ valuesL (l.drop i) name = valuesL l name := ht
      push_cast (config := { maxSteps := 10000000 })
      refine ⟨fun hlt => ?_, fun hlt => ?_⟩
      · have hb := hdsOk_at hl hlt
        (repeat' (first | apply And.intro | intro _)) <;> (try first | assumption | contradiction | omega | exact rfl | exact trivial)
        · exact ⟨(i + 1, o ++ [(l.getD i ⟨[], []⟩).value]), ⟨by show i + 1 ≤ l.length; omega, by simp; omega, by rw [← h3, valuesL_hit hlt (by assumption)]; simp⟩, by show l.length - (i + 1) < l.length - i; omega, ⟨by simp, by simp⟩, LsI.app (c := cStr) (LsI.ls o) (LsI.one (c := cStr) rfl) (by simp)⟩
        · exact ⟨(i + 1, o), ⟨by show i + 1 ≤ l.length; omega, by show o.length ≤ i + 1; omega, by rw [← h3, valuesL_miss hlt (by assumption)]⟩, by show l.length - (i + 1) < l.length - i; omega, ⟨rfl, by simp⟩, LsI.ls (c := cStr) o⟩
      · have e : o = valuesL l name := by rw [← h3, List.drop_eq_nil_of_le (by omega)]; simp [valuesL]
        rw [← e]
        exact ⟨rfl, fun _ _ => rfl⟩
  · cases h

def ckCloneBy : Ck
  | [.sl n f] => some (isBy n f ∧ n ≤ 140737488355328, .sl n f)
  | _ => none
theorem conCloneBy : Con pg 34 ckCloneBy := by
  have hct := ctN_ok pg
  intro args q r h hq
  unfold ckCloneBy at h
  split at h
  · cases h
    rename_i n f
    by_cases hn : n = 0
    · subst hn
      refine pcall_nil1 fun a c => ?_
      refine w34 (fun _ => true) [.frz 5] rfl hct rfl rfl ?_
      push_cast (config := { maxSteps := 10000000 })
      cases a
      · push_cast (config := { maxSteps := 10000000 })
      · push_cast (config := { maxSteps := 10000000 })
    · refine w34 (fun _ => true) [.frz 5] rfl hct rfl rfl ?_
      push_cast (config := { maxSteps := 10000000 })
      obtain ⟨h1, h2⟩ := hq
      exact ⟨by omega, ⟨h1.flat, by omega, by omega⟩, h1.pure⟩
  · cases h
attribute [push_cast] ckCloneBy

def ofBodyL (h : Hd) : Bool := (lowL h.name == [108, 101, 110, 103, 116, 104]) || (lowL h.name == [99, 111, 100, 105, 110, 103])
def ckOfBody : Ck
  | [.agg [.str a, .str b]] => some (a.length ≤ 140737488355328, .bool (ofBodyL ⟨a, b⟩))
  | _ => none
theorem conOfBody : Con pg 35 ckOfBody := by
  have hct := (ctA_ok conSmallA (ctN_ok _))
  intro args q r h hq
  unfold ckOfBody at h
  split at h
  · cases h
    rename_i a b
    refine w35 (fun _ => false) [] rfl hct rfl rfl ?_
    push_cast (config := { maxSteps := 10000000 })
    exact ⟨hq, rfl⟩
  · cases h
attribute [push_cast] ckOfBody
theorem conFraming : Con pg 39 ckOfBody := by
  have hct := (ctA_ok conSmall (ctN_ok _))
  intro args q r h hq
  unfold ckOfBody at h
  split at h
  · cases h
    rename_i a b
    refine w39 (fun _ => false) [] rfl hct rfl rfl ?_
    push_cast (config := { maxSteps := 10000000 })
    exact ⟨hq, fun h => ⟨h, hq⟩, rfl⟩
  · cases h

abbrev topL (a : Ans) : Int := checkTopL a.st a.re a.hd
def keepOld (n : Ans) (h : Hd) : Bool := ofBodyL h || decide ((valuesL n.hd (lowL h.name)).length = 0)
def renHd (o n : Ans) : List Hd := o.hd.filter (keepOld n) ++ n.hd.filter fun h => !ofBodyL h
def noAns : Ans := ⟨0, [], [], []⟩
def renewedL (o n : Ans) : Ans × Int := if topL o ≠ 0 then (noAns, topL o) else if topL n ≠ 0 then (noAns, topL n) else if n.st ≠ 304 ∨ o.st ≠ 200 then (noAns, 11) else if 100 < (renHd o n).length then (noAns, 2) else (⟨o.st, o.re, renHd o n, o.bd⟩, 0)
theorem top_100 {a : Ans} (h : topL a = 0) : a.hd.length ≤ 100 := by
  simp only [topL, checkTopL, checkHeadsL] at h
  (repeat' split at h) <;> omega
@[push_cast] theorem no_st : noAns.st = 0 := rfl
@[push_cast] theorem no_re : noAns.re = [] := rfl
@[push_cast] theorem no_hd : noAns.hd = [] := rfl
@[push_cast] theorem no_bd : noAns.bd = [] := rfl
@[push_cast] theorem enc_no : cAns.enc noAns = .agg [.int .i64 0, .str [], .sl 0 (lsF cHd []), .sl 0 (byF [])] := rfl
theorem ren_o {o n : Ans} (h : ¬ topL o = 0) : renewedL o n = (noAns, topL o) := by unfold renewedL; rw [if_pos h]
theorem ren_n {o n : Ans} (h0 : topL o = 0) (h : ¬ topL n = 0) : renewedL o n = (noAns, topL n) := by unfold renewedL; rw [if_neg (fun e => e h0), if_pos h]
theorem ren_s {o n : Ans} (h0 : topL o = 0) (h1 : topL n = 0) (h : n.st ≠ 304 ∨ o.st ≠ 200) : renewedL o n = (noAns, 11) := by unfold renewedL; rw [if_neg (fun e => e h0), if_neg (fun e => e h1), if_pos h]
theorem ren_ok {o n : Ans} (h0 : topL o = 0) (h1 : topL n = 0) (h : n.st = 304 ∧ o.st = 200) : renewedL o n = if 100 < (renHd o n).length then (noAns, 2) else (⟨o.st, o.re, renHd o n, o.bd⟩, 0) := by unfold renewedL; rw [if_neg (fun e => e h0), if_neg (fun e => e h1), if_neg (fun e => e.elim (fun e => e h.1) fun e => e h.2)]
def ckRenewed : Ck
  | [x, y] => some ((isC cAns x ∧ isC cAns y) ∧ ansOk (cAns.dec x) ∧ ansOk (cAns.dec y), .tup [cAns.enc (renewedL (cAns.dec x) (cAns.dec y)).1, .int .i64 (renewedL (cAns.dec x) (cAns.dec y)).2])
  | _ => none
theorem filter_hit {l : List Hd} {p : Hd → Bool} {i : Nat} (hi : i < l.length) (h : p (l.getD i ⟨[], []⟩) = true) : (l.drop i).filter p = l.getD i ⟨[], []⟩ :: (l.drop (i + 1)).filter p := by
  rw [dropG (d := ⟨[], []⟩) hi, List.filter_cons, if_pos h]
theorem filter_miss {l : List Hd} {p : Hd → Bool} {i : Nat} (hi : i < l.length) (h : ¬ p (l.getD i ⟨[], []⟩) = true) : (l.drop i).filter p = (l.drop (i + 1)).filter p := by
  rw [dropG (d := ⟨[], []⟩) hi, List.filter_cons, if_neg h]
theorem conRenewed : Con pg 9 ckRenewed := by
  have hct := (ctA_ok conCheckTop (ctA_ok conOfBody (ctA_ok conValues (ctA_ok conSmallA (ctA_ok conCloneBy (ctN_ok _))))))
  intro args q r h hq
  unfold ckRenewed at h
  split at h
  · cases h
    rename_i x y
    refine pcall_args (args' := [cAns.enc (cAns.dec x), cAns.enc (cAns.dec y)]) ⟨hq.1.1, hq.1.2, trivial⟩ ?_
    obtain ⟨-, ha, hb⟩ := hq
    generalize cAns.dec x = a at ha ⊢
    generalize cAns.dec y = b at hb ⊢
    refine w9 (fun _ => false) [.frz 90] rfl hct rfl rfl ?_
    push_cast (config := { maxSteps := 10000000 })
    refine LoopW.adj ⟨hct, fol⟩ (by kernel_rfl) [] (fun i : Nat => [(2, .ptr 2 0), (3, .ptr 3 0), (4, .ptr 4 0), (16, .sl 2 (litF [cAns.enc a, cAns.enc b])), (17, .int .i64 2), (18, .int .i64 i)]) (fun i => [(2, .cells (cAns.enc a).flat), (3, .cells (cAns.enc b).flat), (4, .cells (cAns.enc noAns).flat)]) (fun i => i ≤ 2 ∧ (1 ≤ i → topL a = 0) ∧ (2 ≤ i → topL b = 0)) (fun i => 2 - i) 0 ?_ fun i hi => ?_
    · push_cast (config := { maxSteps := 10000000 })
    · obtain ⟨h1, h2, h3⟩ := hi
      have hi3 : i = 0 ∨ i = 1 ∨ i = 2 := by omega
      rcases hi3 with rfl | rfl | rfl
      · push_cast (config := { maxSteps := 10000000 })
        refine ⟨⟨ha.1, ha.2.1⟩, fun h => ?_, fun h => ⟨1, ⟨by omega, fun _ => h, fun h => absurd h (by omega)⟩, by omega, rfl⟩⟩
        rw [ren_o h]; exact ⟨⟨rfl, rfl, rfl, rfl⟩, rfl⟩
      · push_cast (config := { maxSteps := 10000000 })
        refine ⟨⟨hb.1, hb.2.1⟩, fun h => ?_, fun h => ⟨2, ⟨by omega, fun _ => h2 (by omega), fun _ => h⟩, by omega, rfl⟩⟩
        rw [ren_n (h2 (by omega)) h]; exact ⟨⟨rfl, rfl, rfl, rfl⟩, rfl⟩
      · have t0 := h2 (by omega)
        have t1 := h3 (by omega)
        have l0 := top_100 t0
        have l1 := top_100 t1
        push_cast (config := { maxSteps := 10000000 })
        refine ⟨fun h => ?_, fun h => ⟨ha.2.2.2, ?_⟩⟩
        · rw [ren_s t0 t1 h]; exact ⟨⟨rfl, rfl, rfl, rfl⟩, rfl⟩
        rw [ren_ok t0 t1 h]
        refine LoopW.adj ⟨hct, fol⟩ (by kernel_rfl) [.nvc 9 2 90 2 (lsF cHd [])] (fun t : Nat × List Hd => [(3, .ptr 3 0), (4, .ptr 4 0), (9, .ptr 9 0), (47, .sl a.hd.length (lsF cHd a.hd)), (48, .int .i64 a.hd.length), (49, .int .i64 t.1)]) (fun t => [(3, .cells (cAns.enc b).flat), (4, .cells (cAns.enc noAns).flat), (9, .cells [.int .i64 a.st, .str a.re, .vec 90 t.2.length, .sl a.bd.length (byF a.bd)]), (90, .vec 2 t.2.length (lsF cHd t.2))]) (fun t => t.1 ≤ a.hd.length ∧ t.2.length ≤ t.1 ∧ t.2 ++ (a.hd.drop t.1).filter (keepOld b) = a.hd.filter (keepOld b)) (fun t => a.hd.length - t.1) (0, []) ?_ fun t ht => ?_
        · push_cast (config := { maxSteps := 10000000 })
          exact Nat.zero_le _
        · obtain ⟨i, o⟩ := t
          obtain ⟨g1, g2, g3⟩ : i ≤ a.hd.length ∧ o.length ≤ i ∧ o ++ (a.hd.drop i).filter (keepOld b) = a.hd.filter (keepOld b) := ht
          push_cast (config := { maxSteps := 10000000 })
          refine ⟨fun hlt => ?_, fun hge => ?_⟩
          · have hk := hdsOk_at ha.1 hlt
            have app := LsI.app (c := cHd) (f := lsF cHd o) (g := litF [cHd.enc (a.hd.getD i ⟨[], []⟩)]) (LsI.ls o) (LsI.one (c := cHd) (a := a.hd.getD i ⟨[], []⟩) rfl) rfl
            refine ⟨hlt, hk.1, fun h => ⟨h, hk.1⟩, fun h => ⟨h, hb.1, by omega⟩, fun h => ⟨⟨by omega, by omega⟩, ⟨by omega, by omega⟩, (i + 1, o ++ [a.hd.getD i ⟨[], []⟩]), ⟨by show i + 1 ≤ a.hd.length; omega, by simp; omega, ?_⟩, by show a.hd.length - (i + 1) < a.hd.length - i; omega, rfl, by simp, by simp, app.2⟩, fun h => ⟨⟨by omega, by omega⟩, (i + 1, o), ⟨by show i + 1 ≤ a.hd.length; omega, by show o.length ≤ i + 1; omega, ?_⟩, by show a.hd.length - (i + 1) < a.hd.length - i; omega, rfl, rfl, rfl, fun _ _ => rfl⟩⟩
            · have hk2 : keepOld b (a.hd.getD i ⟨[], []⟩) = true := by
                unfold keepOld
                rcases h with h | h
                · rw [h]; rfl
                · rw [decide_eq_true (by omega), Bool.or_true]
              rw [← g3, filter_hit hlt hk2]; simp
            · have hk2 : ¬ keepOld b (a.hd.getD i ⟨[], []⟩) = true := by
                unfold keepOld
                rw [h.1, decide_eq_false (by omega)]; simp
              rw [← g3, filter_miss hlt hk2]
          · have e0 : o = a.hd.filter (keepOld b) := by rw [← g3, List.drop_eq_nil_of_le (by omega)]; simp
            refine LoopW.adj ⟨hct, fol⟩ (by kernel_rfl) [] (fun t : Nat × List Hd => [(4, .ptr 4 0), (9, .ptr 9 0), (73, .sl b.hd.length (lsF cHd b.hd)), (74, .int .i64 b.hd.length), (75, .int .i64 t.1)]) (fun t => [(4, .cells (cAns.enc noAns).flat), (9, .cells [.int .i64 a.st, .str a.re, .vec 90 t.2.length, .sl a.bd.length (byF a.bd)]), (90, .vec 2 t.2.length (lsF cHd t.2))]) (fun t => t.1 ≤ b.hd.length ∧ t.2.length ≤ 100 + t.1 ∧ t.2 ++ (b.hd.drop t.1).filter (fun h => !ofBodyL h) = renHd a b) (fun t => b.hd.length - t.1) (0, o) ?_ fun t ht => ?_
            · push_cast (config := { maxSteps := 10000000 })
              have hl : o.length ≤ a.hd.length := by omega
              exact ⟨Nat.zero_le _, by omega, by unfold renHd; rw [e0]⟩
            · obtain ⟨i, o⟩ := t
              obtain ⟨g1, g2, g3⟩ : i ≤ b.hd.length ∧ o.length ≤ 100 + i ∧ o ++ (b.hd.drop i).filter (fun h => !ofBodyL h) = renHd a b := ht
              push_cast (config := { maxSteps := 10000000 })
              refine ⟨fun hlt => ?_, fun hge => ?_⟩
              · have hk := hdsOk_at hb.1 hlt
                have app := LsI.app (c := cHd) (f := lsF cHd o) (g := litF [cHd.enc (b.hd.getD i ⟨[], []⟩)]) (LsI.ls o) (LsI.one (c := cHd) (a := b.hd.getD i ⟨[], []⟩) rfl) rfl
                refine ⟨hlt, hk.1, fun h => ⟨⟨by omega, by omega⟩, ⟨by omega, by omega⟩, (i + 1, o ++ [b.hd.getD i ⟨[], []⟩]), ⟨by show i + 1 ≤ b.hd.length; omega, by simp; omega, ?_⟩, by show b.hd.length - (i + 1) < b.hd.length - i; omega, rfl, by simp, by simp, app.2⟩, fun h => ⟨⟨by omega, by omega⟩, (i + 1, o), ⟨by show i + 1 ≤ b.hd.length; omega, by show o.length ≤ 100 + (i + 1); omega, ?_⟩, by show b.hd.length - (i + 1) < b.hd.length - i; omega, rfl, rfl, rfl, fun _ _ => rfl⟩⟩
                · rw [← g3, filter_hit hlt (by rw [h]; rfl)]; simp
                · rw [← g3, filter_miss hlt (by rw [h]; simp)]
              · have e1 : o = renHd a b := by rw [← g3, List.drop_eq_nil_of_le (by omega)]; simp
                subst e1
                refine ⟨fun h => ?_, fun h => ?_⟩
                · rw [if_pos (by omega)]; exact ⟨⟨rfl, rfl, rfl, rfl⟩, rfl⟩
                · rw [if_neg (by omega)]; exact ⟨⟨rfl, rfl, ⟨rfl, fun _ _ => rfl⟩, rfl, fun _ _ => rfl⟩, rfl⟩
  · cases h
attribute [push_cast] ckRenewed

def valsR (l : List Hd) (name : List UInt8) : List (List UInt8) × Int := if checkHeadsL l ≠ 0 then ([], checkHeadsL l) else if tokL name = true then (valuesL l (lowL name), 0) else ([], 5)
def ckVals : Ck
  | [.sl n f, .str name] => some (isLs cHd n f ∧ hdsOk (lsOf cHd n f) ∧ name.length ≤ 140737488355328, .tup [.sl (valsR (lsOf cHd n f) name).1.length (lsF cStr (valsR (lsOf cHd n f) name).1), .int .i64 (valsR (lsOf cHd n f) name).2])
  | _ => none
theorem headsL_100 {l : List Hd} (h : checkHeadsL l = 0) : l.length ≤ 100 := by
  unfold checkHeadsL at h
  split at h <;> omega
theorem conVals : Con pg 18 ckVals := by
  have hct := (ctA_ok conCheckHeads (ctA_ok conIsToken (ctA_ok conSmallA (ctA_ok conValues (ctN_ok _)))))
  intro args q r h hq
  unfold ckVals at h
  split at h
  · cases h
    rename_i n f name
    refine pcall_args (args' := [.sl (lsOf cHd n f).length (lsF cHd (lsOf cHd n f)), .str name]) ⟨isLs.vle hq.1, VLe.refl _, trivial⟩ ?_
    obtain ⟨-, hl, hn⟩ := hq
    generalize lsOf cHd n f = l at hl ⊢
    refine w18 (fun _ => false) [] rfl hct rfl rfl ?_
    push_cast (config := { maxSteps := 10000000 })
    refine ⟨hl, fun h => ?_, fun h0 => ⟨fun h => ?_, fun h => ⟨hn, ⟨hl, by have := headsL_100 h0; omega⟩, ?_⟩⟩⟩
    · unfold valsR; rw [if_pos h]; exact ⟨rfl, rfl⟩
    · unfold valsR; rw [if_neg (by omega), if_neg (by simp [h])]; exact ⟨rfl, rfl⟩
    · unfold valsR; rw [if_neg (by omega), if_pos h]; exact ⟨⟨rfl, fun _ _ => rfl⟩, rfl⟩
  · cases h
attribute [push_cast] ckVals

theorem eqS_take {a b : List (List UInt8)} (h : a.length = b.length) (hh : ∀ j, j < a.length → a.getD j [] = b.getD j []) : a = b := by
  apply List.ext_getElem h
  intro i h1 h2
  have := hh i h1
  rwa [List.getD_eq_getElem?_getD, List.getD_eq_getElem?_getD, List.getElem?_eq_getElem h1, List.getElem?_eq_getElem h2] at this
def ckEqStr : Ck
  | [.sl n f, .sl m g] => some (isLs cStr n f ∧ isLs cStr m g ∧ n ≤ 4611686018427387904, .bool (decide (lsOf cStr n f = lsOf cStr m g)))
  | _ => none
theorem conEqStr : Con pg 24 ckEqStr := by
  have hct := ctN_ok pg
  intro args q r h hq
  unfold ckEqStr at h
  split at h
  · cases h
    rename_i n f m g
    refine pcall_args (args' := [.sl (lsOf cStr n f).length (lsF cStr (lsOf cStr n f)), .sl (lsOf cStr m g).length (lsF cStr (lsOf cStr m g))]) ⟨isLs.vle hq.1, isLs.vle hq.2.1, trivial⟩ ?_
    have hn : (lsOf cStr n f).length ≤ 4611686018427387904 := by rw [lsOf_len]; exact hq.2.2
    generalize lsOf cStr n f = a at hn ⊢
    generalize lsOf cStr m g = b
    refine w24 (fun _ => false) [] rfl hct rfl rfl ?_
    push_cast (config := { maxSteps := 10000000 })
    refine ⟨fun h => ?_, fun h => ?_⟩
    · exact (decide_eq_false fun e => h (by rw [e])).symm
    refine LoopW.adj ⟨hct, fol⟩ (by kernel_rfl) [] (fun i : Nat => [(0, .sl a.length (lsF cStr a)), (1, .sl b.length (lsF cStr b)), (12, .int .i64 a.length), (13, .int .i64 i)]) (fun _ => []) (fun i => i ≤ a.length ∧ ∀ j, j < i → a.getD j [] = b.getD j []) (fun i => a.length - i) 0 ?_ fun i hi => ?_
    · push_cast (config := { maxSteps := 10000000 })
      exact Nat.zero_le _
    · push_cast (config := { maxSteps := 10000000 })
      obtain ⟨h1, h2⟩ := hi
      refine ⟨fun hlt => ⟨hlt, by omega, fun hne => ?_, fun he => ⟨by omega, i + 1, ⟨by omega, fun j hj => ?_⟩, by omega, by omega⟩⟩, fun hge => ?_⟩
      · exact (decide_eq_false fun e => hne (by rw [e])).symm
      · by_cases e : j = i
        · subst e; exact he
        · exact h2 j (by omega)
      · exact (decide_eq_true (eqS_take (by omega) fun j hj => h2 j (by omega))).symm
  · cases h
attribute [push_cast] ckEqStr

def ckLawRK : Ck
  | [x, y, .str name] => some ((isC cAns x ∧ isC cAns y) ∧ ansOk (cAns.dec x) ∧ ansOk (cAns.dec y) ∧ name.length ≤ 140737488355328, .bool true)
  | _ => none
theorem valuesL_app (l m : List Hd) (N : List UInt8) : valuesL (l ++ m) N = valuesL l N ++ valuesL m N := by simp [valuesL]
theorem valuesL_keep {l : List Hd} {p : Hd → Bool} {N : List UInt8} (h : ∀ x ∈ l, lowL x.name = N → p x = true) : valuesL (l.filter p) N = valuesL l N := by
  unfold valuesL
  rw [List.filter_filter]
  congr 1
  apply List.filter_congr
  intro x hx
  cases e : (lowL x.name == N) with
  | false => rfl
  | true => rw [h x hx (beq_iff_eq.1 e)]; rfl
theorem valuesL_drop {l : List Hd} {p : Hd → Bool} {N : List UInt8} (h : ∀ x ∈ l, lowL x.name = N → p x = false) : valuesL (l.filter p) N = [] := by
  unfold valuesL
  rw [List.filter_filter, List.map_eq_nil_iff, List.filter_eq_nil_iff]
  intro x hx
  cases e : (lowL x.name == N) with
  | false => simp
  | true => rw [h x hx (beq_iff_eq.1 e)]; simp
theorem headsGo_of : ∀ {l : List Hd}, (∀ h ∈ l, tokL h.name = true ∧ valueL h.value = true) → headsGo l = 0
  | [], _ => rfl
  | x :: t, h => by
    have hx := h x (by simp)
    simp only [headsGo, hx.1, hx.2, if_true]
    exact headsGo_of fun y hy => h y (by simp [hy])
theorem headsGo_to : ∀ {l : List Hd}, headsGo l = 0 → ∀ h ∈ l, tokL h.name = true ∧ valueL h.value = true
  | [], _, h, hh => by cases hh
  | x :: t, e, h, hh => by
    simp only [headsGo] at e
    split at e
    · rename_i h1
      split at e
      · rename_i h2
        rcases List.mem_cons.1 hh with rfl | hh
        · exact ⟨h1, h2⟩
        · exact headsGo_to e h hh
      · omega
    · omega
theorem top_go {a : Ans} (h : topL a = 0) : ∀ x ∈ a.hd, tokL x.name = true ∧ valueL x.value = true := by
  unfold topL checkTopL at h
  (repeat' split at h) <;> (try omega)
  unfold checkHeadsL at h
  split at h
  · omega
  · exact headsGo_to h
theorem renHd_mem {a b : Ans} {h : Hd} (hh : h ∈ renHd a b) : h ∈ a.hd ∨ h ∈ b.hd := by
  unfold renHd at hh
  rw [List.mem_append] at hh
  rcases hh with hh | hh
  · exact .inl (List.mem_filter.1 hh).1
  · exact .inr (List.mem_filter.1 hh).1
theorem ren_bad {a b : Ans} (h : ¬ (renewedL a b).2 = 0) : (renewedL a b).1.st = 0 := by
  unfold renewedL at h ⊢
  (repeat' split) <;> (try rfl)
  simp_all
theorem ren_good {a b : Ans} (h : (renewedL a b).2 = 0) : topL a = 0 ∧ topL b = 0 ∧ (renHd a b).length ≤ 100 ∧ (renewedL a b).1 = ⟨a.st, a.re, renHd a b, a.bd⟩ := by
  unfold renewedL at h ⊢
  split at h
  · rename_i h1; exact absurd h h1
  split at h
  · rename_i h2; exact absurd h h2
  split at h
  · exact absurd h (by decide)
  split at h
  · exact absurd h (by decide)
  · rename_i h1 h2 h3 h4
    rw [if_neg h1, if_neg h2, if_neg h3, if_neg h4]
    exact ⟨by omega, by omega, by omega, rfl⟩
theorem valsR_ok {l : List Hd} {name : List UInt8} (h : checkHeadsL l = 0) : valsR l name = if tokL name = true then (valuesL l (lowL name), 0) else ([], 5) := by
  unfold valsR; rw [if_neg (by omega)]
theorem heads_of {a : Ans} (h : topL a = 0) : checkHeadsL a.hd = 0 := by
  unfold checkHeadsL; rw [if_neg (by have := top_100 h; omega)]; exact headsGo_of (top_go h)
theorem tok_ascii {s : List UInt8} (h : tokL s = true) : (s.all fun c => decide (c.toNat < 128)) = true := by
  simp only [tokL, Bool.and_eq_true] at h
  rw [List.all_eq_true] at h ⊢
  intro c hc
  have h1 := h.2 c hc
  have key : ∀ n, n < 256 → tokB (UInt8.ofNat n) = true → n < 128 := by decide +kernel
  exact decide_eq_true (key c.toNat (UInt8.toNat_lt c) (by simpa using h1))
theorem ren_keep {a b : Ans} {N : List UInt8} (h : (valuesL b.hd N).length = 0 ∨ N = [108, 101, 110, 103, 116, 104] ∨ N = [99, 111, 100, 105, 110, 103]) : valuesL (renHd a b) N = valuesL a.hd N := by
  unfold renHd
  rw [valuesL_app, valuesL_keep, valuesL_drop, List.append_nil]
  · rcases h with h | h
    · have h0 : valuesL b.hd N = [] := List.length_eq_zero_iff.1 h
      have : ∀ x ∈ b.hd, ¬ lowL x.name = N := fun x hx e => by
        have hm : x.value ∈ valuesL b.hd N := by
          simp only [valuesL, List.mem_map, List.mem_filter, beq_iff_eq]
          exact ⟨x, ⟨hx, e⟩, rfl⟩
        rw [h0] at hm; cases hm
      exact fun x hx e => absurd e (this x hx)
    · intro x _ e
      unfold ofBodyL
      rcases h with rfl | rfl <;> simp [e]
  · intro x _ e
    unfold keepOld ofBodyL
    rcases h with h | rfl | rfl
    · rw [e, decide_eq_true h, Bool.or_true]
    · simp [e]
    · simp [e]
theorem ren_new {a b : Ans} {N : List UInt8} (h : ¬ (valuesL b.hd N).length = 0) (h1 : ¬ N = [108, 101, 110, 103, 116, 104]) (h2 : ¬ N = [99, 111, 100, 105, 110, 103]) : valuesL (renHd a b) N = valuesL b.hd N := by
  unfold renHd
  have hb : ∀ x : Hd, lowL x.name = N → ofBodyL x = false := fun x e => by unfold ofBodyL; rw [e]; simp [h1, h2]
  rw [valuesL_app, valuesL_drop, valuesL_keep, List.nil_append]
  · intro x _ e; rw [hb x e]; rfl
  · intro x _ e
    unfold keepOld
    rw [hb x e, e, decide_eq_false h]; rfl
theorem conLawRK : Con pg 7 ckLawRK := by
  have hct := (ctA_ok conRenewed (ctA_ok conVals (ctA_ok conEqStr (ctA_ok conLower (ctA_ok conBEqual (ctA_ok conAwake2 (ctN_ok _)))))))
  intro args q r h hq
  unfold ckLawRK at h
  split at h
  · cases h
    rename_i x y name
    refine pcall_args (args' := [cAns.enc (cAns.dec x), cAns.enc (cAns.dec y), .str name]) ⟨hq.1.1, hq.1.2, VLe.refl _, trivial⟩ ?_
    obtain ⟨-, ha, hb, hn⟩ := hq
    generalize cAns.dec x = a at ha ⊢
    generalize cAns.dec y = b at hb ⊢
    refine w7 (fun _ => false) [] rfl hct rfl rfl ?_
    push_cast (config := { maxSteps := 10000000 })
    refine ⟨⟨ha, hb⟩, fun h => ren_bad h, fun h => ?_⟩
    obtain ⟨g1, g2, g3, g4⟩ := ren_good h
    rw [g4]
    have hO : hdsOk (renHd a b) := fun x hx => by
      rcases renHd_mem hx with h | h
      · exact ha.1 x h
      · exact hb.1 x h
    have c0 : checkHeadsL (renHd a b) = 0 := by
      unfold checkHeadsL
      rw [if_neg (by omega)]
      exact headsGo_of fun x hx => by
        rcases renHd_mem hx with h | h
        · exact top_go g1 x h
        · exact top_go g2 x h
    have c1 := heads_of g1
    have c2 := heads_of g2
    refine ⟨fun h => by simp at h, fun _ => ⟨⟨hO, hn⟩, ⟨ha.1, hn⟩, ⟨hb.1, hn⟩, ?_⟩⟩
    simp only [valsR_ok c0, valsR_ok c1, valsR_ok c2]
    cases ht : tokL name with
    | false => simp
    | true =>
      have hl : (valuesL (renHd a b) (lowL name)).length ≤ 4611686018427387904 := by
        have h1 := valuesL_le (renHd a b) (lowL name)
        omega
      simp only [if_true]
      refine ⟨fun h => by simp at h, fun _ => ⟨⟨hn, tok_ascii ht⟩, fun h => ⟨hl, ren_keep ?_⟩, fun h => ⟨hl, ren_new (by omega) h.1.2 h.2⟩⟩⟩
      rcases h with (h | h) | h
      · exact .inl (by omega)
      · exact .inr (.inl h)
      · exact .inr (.inr h)
  · cases h
attribute [push_cast] ckLawRK
theorem allLawRK {H : Type} (ds : List (DataW H)) (hh : hasD [.tup [.int .i64, .str, .list (.tup [.str, .str]), .list (.int .u8)], .tup [.int .i64, .str, .list (.tup [.str, .str]), .list (.int .u8)], .str] ds) : PCall pg 7 (ds.map toV) (.bool true) := by
  obtain ⟨d1, d2, d3, rfl, a, b, c⟩ := hasD3 hh
  obtain ⟨s, e3, l3⟩ := shStr c
  simp only [List.map_cons, List.map_nil, e3]
  exact conLawRK _ _ _ rfl ⟨⟨(shAns a).1, (shAns b).1⟩, (shAns a).2, (shAns b).2, l3⟩

end Go.Abs
