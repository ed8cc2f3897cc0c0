/- what functions of this program compute: contracts, each a function's own -/
import Derived.Test.YtpamahgbkmcpoaaGreatDoorAbsK2
import Derived.Test.YtpamahgbkmcpoaaGreatDoorAbsFacts
import Derived.Test.YtpamahgbkmcpoaaGreatDoorAbsF1
import Derived.Test.YtpamahgbkmcpoaaGreatDoorAbsShelf
import Derived.Lib.SlTrimSet
import Derived.Lib.Atoi
import Derived.Lib.Itoa
import Derived.Lib.ItoaNum
import Derived.Lib.AtoiErrMem
import Derived.Lib.Walk
import Derived.Lib.BitFns
import Derived.Lib.TrailingZeros
import Derived.Lib.ItoaLen
namespace Go.Abs
open Go Go.Proofs
set_option maxHeartbeats 4000000
set_option maxRecDepth 100000
set_option linter.unusedVariables false
set_option linter.unusedSimpArgs false
def wChd : List UInt8 := [99, 104, 117, 110, 107, 101, 100]
/-- the frame that heads say -/
def frameL (st : Int) (l : List Hd) : Int := if st < 200 ∨ st = 204 ∨ st = 304 then 1 else if valuesL l wCod = [wChd] then 3 else if (valuesL l wCod).length ≠ 0 then 0 else if (valuesL l wLen).length = 0 then 4 else if (lengthL l).2 = true then 2 else 0
def noBody (st : Int) : Prop := (st < 200 ∨ st = 204) ∨ st = 304
theorem fr1 {st : Int} {l : List Hd} (h : (st < 200 ∨ st = 204) ∨ st = 304) : 1 = frameL st l := by unfold frameL; rw [if_pos (by omega)]
theorem fr3 {st : Int} {l : List Hd} (h : (¬ st < 200 ∧ ¬ st = 204) ∧ ¬ st = 304) (h2 : ((valuesL l wCod).length : Int) = 1 ∧ (valuesL l wCod).getD 0 [] = wChd) : 3 = frameL st l := by unfold frameL; rw [if_neg (by omega), if_pos (sing_iff.2 h2)]
theorem fr0 {st : Int} {l : List Hd} (h : (¬ st < 200 ∧ ¬ st = 204) ∧ ¬ st = 304) (h2 : ((valuesL l wCod).length : Int) = 1 → ¬ (valuesL l wCod).getD 0 [] = wChd) (h3 : 0 < ((valuesL l wCod).length : Int)) : 0 = frameL st l := by
  unfold frameL; rw [if_neg (by omega), if_neg (fun e => h2 (sing_iff.1 e).1 (sing_iff.1 e).2), if_pos (by omega)]
theorem fr4 {st : Int} {l : List Hd} (h : (¬ st < 200 ∧ ¬ st = 204) ∧ ¬ st = 304) (h3 : ¬ 0 < ((valuesL l wCod).length : Int)) (h4 : ((valuesL l wLen).length : Int) = 0) : 4 = frameL st l := by
  unfold frameL; rw [if_neg (by omega), if_neg (fun e => by rw [e] at h3; simp at h3), if_neg (by omega), if_pos (by omega)]
theorem fr2 {st : Int} {l : List Hd} (h : (¬ st < 200 ∧ ¬ st = 204) ∧ ¬ st = 304) (h3 : ¬ 0 < ((valuesL l wCod).length : Int)) (h4 : ¬ ((valuesL l wLen).length : Int) = 0) : frameL st l = if (lengthL l).2 = true then 2 else 0 := by
  unfold frameL; rw [if_neg (by omega), if_neg (fun e => by rw [e] at h3; simp at h3), if_neg (by omega), if_neg (by omega)]
theorem headsGo_mem : ∀ {l : List Hd}, headsGo l = 0 → ∀ h ∈ l, tokL h.name = true ∧ valueL h.value = true
  | [], _, h, hh => by cases hh
  | x :: t, e, h, hh => by
    simp only [headsGo] at e
    split at e
    · rename_i h1
      split at e
      · rename_i h2
        rcases List.mem_cons.1 hh with rfl | hh
        · exact ⟨h1, h2⟩
        · exact headsGo_mem e h hh
      · omega
    · omega
theorem checkH_mem {l : List Hd} (e : checkHeadsL l = 0) : ∀ h ∈ l, tokL h.name = true ∧ valueL h.value = true := by
  unfold checkHeadsL at e
  split at e
  · omega
  · exact headsGo_mem e
theorem valuesL_mem {l : List Hd} {name v : List UInt8} (h : v ∈ valuesL l name) : ∃ x ∈ l, lowL x.name = name ∧ x.value = v := by
  simp only [valuesL, List.mem_map, List.mem_filter, beq_iff_eq] at h
  obtain ⟨x, ⟨h1, h2⟩, h3⟩ := h
  exact ⟨x, h1, h2, h3⟩
theorem value_1000 {s : List UInt8} (h : valueL s = true) : s.length ≤ 1000 := by
  simp only [valueL, Bool.and_eq_true, decide_eq_true_eq] at h; exact h.1.1
theorem digL_plain {v : List UInt8} (h : v.length ≤ 1000) : digL v 1000 = true ↔ plainL v = true := by
  simp only [digL, plainL, digsL, Bool.and_eq_true, Bool.or_eq_true, decide_eq_true_eq, beq_iff_eq]
  constructor
  · rintro ⟨⟨⟨a, _⟩, b⟩, c | c⟩
    · exact ⟨⟨b, a⟩, .inr c⟩
    · exact ⟨⟨b, a⟩, .inl (by rw [c]; rfl)⟩
  · rintro ⟨⟨b, a⟩, c⟩
    refine ⟨⟨⟨a, by omega⟩, b⟩, ?_⟩
    by_cases e : v.getD 0 0 = 48
    · refine .inr ?_
      have : v.length = 1 := c.resolve_right (fun h => h e)
      match v, this, e with
      | [x], _, e => simp at e; rw [e]
    · exact .inl e
theorem len_plain {l : List Hd} (e : checkHeadsL l = 0) : (lengthL l).2 = true ↔ ((valuesL l wLen).length : Int) = 1 ∧ plainL ((valuesL l wLen).getD 0 []) = true := by
  have hm : ∀ v ∈ valuesL l wLen, v.length ≤ 1000 := fun v hv => by
    obtain ⟨x, h1, _, rfl⟩ := valuesL_mem hv
    exact value_1000 (checkH_mem e x h1).2
  unfold lengthL
  rw [show ([108, 101, 110, 103, 116, 104] : List UInt8) = wLen from rfl]
  generalize valuesL l wLen = V at hm ⊢
  match V, hm with
  | [], _ => simp [lenV]
  | a :: b :: r, _ => simp [lenV]; omega
  | [v], hm =>
    have := hm v (by simp)
    rw [show ([v] : List (List UInt8)).getD 0 [] = v from rfl, ← digL_plain this]
    unfold lenV
    simp only
    split
    · rename_i h; simp only [List.length_singleton, h, and_true]; split <;> simp
    · rename_i h; simp [h]
theorem vget_len {V : List (List UInt8)} (h : ∀ v ∈ V, v.length ≤ 140737488355328) : (V.getD 0 []).length ≤ 4611686018427387904 := by
  cases V with
  | nil => simp
  | cons v V => have := h v (by simp); simp only [List.getD_cons_zero]; omega
def ckFrame : Ck
  | [.agg [.int .i64 st, .str re, .sl n f, _]] => some (isLs cHd n f ∧ hdsOk (lsOf cHd n f) ∧ n ≤ 1000000, .int .i64 (frameL st (lsOf cHd n f)))
  | _ => none
theorem conFrame : Con pg 56 ckFrame := by
  have hct := (ctA_ok conValues (ctA_ok conLength (ctN_ok _)))
  intro args q r h hq
  unfold ckFrame at h
  split at h
  · cases h
    rename_i st re n f x
    refine w56 (fun _ => false) [] rfl hct rfl rfl ?_
    push_cast (config := { maxSteps := 10000000 })
    refine ⟨hq, hq, fun h => fr1 h, fun h => ⟨fun h1 => ⟨h1, by omega⟩, fun h1 => fr3 h h1, fun h1 => ⟨fun h2 => fr0 h h1 h2, fun h2 => ⟨fun h3 => fr4 h h2 h3, fun h3 => ⟨hq, fun h4 => ?_, fun h4 => ?_⟩⟩⟩⟩⟩
    · rw [fr2 h h2 h3, if_pos h4]
    · rw [fr2 h h2 h3, if_neg (by simp [h4])]
  · cases h
attribute [push_cast] ckFrame
def ckFrame2 : Ck
  | [.int .i64 st, .sl n f] => some (isLs cHd n f ∧ hdsOk (lsOf cHd n f) ∧ n ≤ 1000000 ∧ checkHeadsL (lsOf cHd n f) = 0, .int .i64 (frameL st (lsOf cHd n f)))
  | _ => none
theorem conFrame2 : Con pg 31 ckFrame2 := by
  have hct := (ctA_ok conValues2 (ctA_ok conPlain (ctN_ok _)))
  intro args q r h hq
  unfold ckFrame2 at h
  split at h
  · cases h
    rename_i st n f
    refine w31 (fun _ => false) [] rfl hct rfl rfl ?_
    push_cast (config := { maxSteps := 10000000 })
    have H : isLs cHd n f ∧ hdsOk (lsOf cHd n f) ∧ n ≤ 1000000 := ⟨hq.1, hq.2.1, hq.2.2.1⟩
    refine ⟨fun h => fr1 h, fun h => ⟨H, fun h2 => ⟨fun h1 => ⟨h1, by omega⟩, fun h1 => fr3 h h1, fun h1 => fr0 h h1 h2⟩, fun h2 => ⟨H, fun h3 => fr4 h h2 h3, fun h3 => ?_⟩⟩⟩
    have e := len_plain hq.2.2.2
    have hV := valuesL_ok hq.2.1 wLen
    refine ⟨fun h => ⟨h, by omega⟩, fun h1 => ⟨h1, ?_⟩, fun h1 => ?_, fun h1 => ?_⟩
    · exact vget_len hV
    · rw [fr2 h h2 h3, if_pos (e.2 h1)]
    · rw [fr2 h h2 h3, if_neg]
      intro h4
      have h5 := e.1 h4
      have h6 := h1 h5.1
      rw [show ([108, 101, 110, 103, 116, 104] : List UInt8) = wLen from rfl, h5.2] at h6
      cases h6
  · cases h
attribute [push_cast] ckFrame2
/-- the number of bytes that the head length says -/
def toldL (l : List Hd) : Int := capL ((valuesL l wLen).getD 0 []) 200001
def ckTold : Ck
  | [.sl n f] => some (isLs cHd n f ∧ hdsOk (lsOf cHd n f) ∧ n ≤ 1000000 ∧ checkHeadsL (lsOf cHd n f) = 0 ∧ (lengthL (lsOf cHd n f)).2 = true, .int .i64 (toldL (lsOf cHd n f)))
  | _ => none
theorem conTold : Con pg 32 ckTold := by
  have hct := (ctA_ok conValues2 (ctA_ok conCap (ctN_ok _)))
  intro args q r h hq
  unfold ckTold at h
  split at h
  · cases h
    rename_i n f
    refine w32 (fun _ => false) [] rfl hct rfl rfl ?_
    push_cast (config := { maxSteps := 10000000 })
    have H : isLs cHd n f ∧ hdsOk (lsOf cHd n f) ∧ n ≤ 1000000 := ⟨hq.1, hq.2.1, hq.2.2.1⟩
    have e := (len_plain hq.2.2.2.1).1 hq.2.2.2.2
    have hV := valuesL_ok hq.2.1 wLen
    exact ⟨H, by have := e.1; show 0 < ((valuesL (lsOf cHd n f) wLen).length : Int); omega, ⟨e.2, vget_len hV⟩, rfl⟩
  · cases h
attribute [push_cast] ckTold
theorem told_eq {l : List Hd} (h : checkHeadsL l = 0) (h2 : (lengthL l).2 = true) {n : Nat} (hn : n ≤ 200000) : toldL l = n ↔ valuesL l wLen = [Lib.itoa n] := by
  have e := (len_plain h).1 h2
  unfold toldL
  rw [itoa_nat]
  generalize valuesL l wLen = V at e ⊢
  match V, e with
  | [], e => simp at e
  | a :: b :: r, e => simp at e; omega
  | [v], e =>
    have hp := plain_all e.2
    simp only [List.getD_cons_zero] at hp ⊢
    have hd := dec_dig n
    have hl := dec_len 5 n (by omega)
    constructor
    · intro h
      unfold capL at h
      split at h
      · omega
      · have : natOf v = n := by omega
        rw [← this, dec_natOf hp.2.1 hp.1 (hp.2.2.symm)]
    · intro h
      obtain rfl : v = Lib.decDigits n := by simpa using h
      unfold capL
      rw [if_neg (by omega), hd.2.1]; omega

def checkTopL (st : Int) (reason : List UInt8) (l : List Hd) : Int := if st < 100 ∨ 599 < st then 1 else if valueL reason = true then checkHeadsL l else 3
def ckCheckTop : Ck
  | [.agg [.int .i64 st, .str re, .sl n f, _]] => some (isLs cHd n f ∧ hdsOk (lsOf cHd n f) ∧ re.length ≤ 140737488355328, .int .i64 (checkTopL st re (lsOf cHd n f)))
  | _ => none
theorem conCheckTop : Con pg 40 ckCheckTop := by
  have hct := (ctA_ok conIsValue (ctA_ok conCheckHeads (ctN_ok _)))
  intro args q r h hq
  unfold ckCheckTop at h
  split at h
  · cases h
    rename_i st re n f x
    refine w40 (fun _ => false) [] rfl hct rfl rfl ?_
    push_cast (config := { maxSteps := 10000000 })
    obtain ⟨q1, q2, q3⟩ := hq
    refine ⟨fun h => ?_, fun h => ⟨by omega, fun h2 => ?_, fun h2 => ⟨⟨q1, q2⟩, ?_⟩⟩⟩
    · unfold checkTopL; rw [if_pos h]
    · unfold checkTopL; rw [if_neg (by omega), if_neg (by simp [h2])]
    · unfold checkTopL; rw [if_neg (by omega), if_pos h2]
  · cases h
attribute [push_cast] ckCheckTop
theorem conCheckTop2 : Con pg 29 ckCheckTop := by
  have hct := (ctA_ok conWithin2b (ctA_ok conIsValue2 (ctA_ok conCheckHeads2 (ctN_ok _))))
  intro args q r h hq
  unfold ckCheckTop at h
  split at h
  · cases h
    rename_i st re n f x
    refine w29 (fun _ => false) [] rfl hct rfl rfl ?_
    push_cast (config := { maxSteps := 10000000 })
    obtain ⟨q1, q2, q3⟩ := hq
    refine ⟨fun h => ?_, fun h => ⟨by omega, fun h2 => ?_, fun h2 => ⟨⟨q1, q2⟩, ?_⟩⟩⟩
    · unfold checkTopL; rw [if_pos (by omega)]
    · unfold checkTopL; rw [if_neg (by omega), if_neg (by simp [h2])]
    · unfold checkTopL; rw [if_neg (by omega), if_pos h2]
  · cases h

/-- the error of an answer with a frame -/
def checkAnsL (a : Ans) (fr ch : Int) : Int := if checkTopL a.st a.re a.hd = 0 then (if 200000 < a.bd.length then 2 else if fr < 1 ∨ 4 < fr then 4 else if fr = 3 ∧ (ch < 1 ∨ 65536 < ch) ∨ ¬ fr = 3 ∧ ¬ ch = 0 then 1 else if (¬ fr = frameL a.st a.hd ∨ fr = 1 ∧ ¬ a.bd.length = 0) ∨ fr = 2 ∧ ¬ valuesL a.hd wLen = [Lib.itoa a.bd.length] then 12 else 0) else checkTopL a.st a.re a.hd
theorem frame_2 {st : Int} {l : List Hd} (h : frameL st l = 2) : (lengthL l).2 = true := by
  unfold frameL at h
  repeat' split at h
  all_goals first | omega | assumption
theorem caT {a : Ans} {fr ch : Int} (h : ¬ checkTopL a.st a.re a.hd = 0) : checkAnsL a fr ch = checkTopL a.st a.re a.hd := by unfold checkAnsL; rw [if_neg h]
theorem caL {a : Ans} {fr ch : Int} (h0 : checkTopL a.st a.re a.hd = 0) (h : 200000 < a.bd.length) : checkAnsL a fr ch = 2 := by unfold checkAnsL; rw [if_pos h0, if_pos h]
theorem caK {a : Ans} {fr ch : Int} (h0 : checkTopL a.st a.re a.hd = 0) (h1 : ¬ 200000 < a.bd.length) (h : fr < 1 ∨ 4 < fr) : checkAnsL a fr ch = 4 := by unfold checkAnsL; rw [if_pos h0, if_neg h1, if_pos h]
theorem caR {a : Ans} {fr ch : Int} (h0 : checkTopL a.st a.re a.hd = 0) (h1 : ¬ 200000 < a.bd.length) (h2 : ¬ (fr < 1 ∨ 4 < fr)) (h : fr = 3 ∧ (ch < 1 ∨ 65536 < ch) ∨ ¬ fr = 3 ∧ ¬ ch = 0) : checkAnsL a fr ch = 1 := by unfold checkAnsL; rw [if_pos h0, if_neg h1, if_neg h2, if_pos h]
theorem caC {a : Ans} {fr ch : Int} (h0 : checkTopL a.st a.re a.hd = 0) (h1 : ¬ 200000 < a.bd.length) (h2 : ¬ (fr < 1 ∨ 4 < fr)) (h3 : ¬ (fr = 3 ∧ (ch < 1 ∨ 65536 < ch) ∨ ¬ fr = 3 ∧ ¬ ch = 0)) (h : (¬ fr = frameL a.st a.hd ∨ fr = 1 ∧ ¬ a.bd.length = 0) ∨ fr = 2 ∧ ¬ valuesL a.hd wLen = [Lib.itoa a.bd.length]) : checkAnsL a fr ch = 12 := by unfold checkAnsL; rw [if_pos h0, if_neg h1, if_neg h2, if_neg h3, if_pos h]
theorem caO {a : Ans} {fr ch : Int} (h0 : checkTopL a.st a.re a.hd = 0) (h1 : ¬ 200000 < a.bd.length) (h2 : ¬ (fr < 1 ∨ 4 < fr)) (h3 : ¬ (fr = 3 ∧ (ch < 1 ∨ 65536 < ch) ∨ ¬ fr = 3 ∧ ¬ ch = 0)) (h : ¬ ((¬ fr = frameL a.st a.hd ∨ fr = 1 ∧ ¬ a.bd.length = 0) ∨ fr = 2 ∧ ¬ valuesL a.hd wLen = [Lib.itoa a.bd.length])) : checkAnsL a fr ch = 0 := by unfold checkAnsL; rw [if_pos h0, if_neg h1, if_neg h2, if_neg h3, if_neg h]
theorem top_heads {a : Ans} (h : checkTopL a.st a.re a.hd = 0) : checkHeadsL a.hd = 0 ∧ a.re.length ≤ 1000 ∧ 100 ≤ a.st ∧ a.st ≤ 599 ∧ valueL a.re = true := by
  unfold checkTopL at h
  split at h
  · omega
  · split at h
    · rename_i h2
      exact ⟨h, value_1000 h2, by omega, by omega, h2⟩
    · omega
def ckCheckAns : Ck
  | [x, .int .i64 fr, .int .i64 ch] => some (isC cAns x ∧ ansOk (cAns.dec x), .int .i64 (checkAnsL (cAns.dec x) fr ch))
  | _ => none
theorem conCheckAns : Con pg 25 ckCheckAns := by
  have hct := (ctA_ok conCheckTop (ctA_ok conFrame (ctA_ok conLength (ctN_ok _))))
  intro args q r h hq
  unfold ckCheckAns at h
  split at h
  · cases h
    rename_i x fr ch
    refine pcall_args (args' := [cAns.enc (cAns.dec x), .int .i64 fr, .int .i64 ch]) ⟨hq.1, VLe.refl _, VLe.refl _, trivial⟩ ?_
    obtain ⟨-, ha⟩ := hq
    generalize cAns.dec x = a at ha ⊢
    refine w25 (fun _ => false) [] rfl hct rfl rfl ?_
    push_cast (config := { maxSteps := 10000000 })
    refine ⟨⟨ha.1, ha.2.1⟩, fun h => (caT h).symm, fun h0 => ?_⟩
    have hn := heads_100 (top_heads h0).1
    have H : hdsOk a.hd ∧ a.hd.length ≤ 1000000 := ⟨ha.1, by omega⟩
    refine ⟨fun h => (caL h0 (by omega)).symm, fun h1 => ⟨fun h => (caK h0 (by omega) h).symm, fun h2 => ⟨fun h => ⟨h, fun h' => ⟨h, h'⟩⟩, fun h => ⟨h, fun h' => ⟨h, h'⟩⟩, fun h => (caR h0 (by omega) (by omega) h).symm, fun h3 => ?_⟩⟩⟩
    have e := lenV_eq (l := valuesL a.hd wLen) (n := a.bd.length) (by omega)
    have h3' : ¬ (fr = 3 ∧ (ch < 1 ∨ 65536 < ch) ∨ ¬ fr = 3 ∧ ¬ ch = 0) := by
      rintro (⟨a1, a2⟩ | ⟨a1, a2⟩)
      · have := h3.1 a1; omega
      · exact a2 (h3.2 a1)
    have hlen : fr = frameL a.st a.hd → fr = 2 → ((lengthL a.hd).1 = a.bd.length ↔ valuesL a.hd wLen = [Lib.itoa a.bd.length]) := fun h h2 => by
      have h5 : (lengthL a.hd).2 = true := frame_2 (h ▸ h2)
      rw [← e]; exact ⟨fun x => ⟨h5, x⟩, fun x => x.2⟩
    refine ⟨H, fun h => ⟨fun _ => (caC h0 (by omega) (by omega) h3' (.inl (.inl h))).symm, fun h' => absurd h' h⟩, fun h => ⟨fun h' => (caC h0 (by omega) (by omega) h3' (.inl (.inr ⟨h'.1, by omega⟩))).symm, fun h' => ⟨H, fun h4 => (caC h0 (by omega) (by omega) h3' (.inr ⟨h4.1, fun x => h4.2 ((hlen h h4.1).2 x)⟩)).symm, fun h4 => (caO h0 (by omega) (by omega) h3' ?_).symm⟩⟩⟩
    rintro ((x | ⟨x, y⟩) | ⟨x, y⟩)
    · exact x h
    · exact h' x (by omega)
    · exact y ((hlen h x).1 (h4 x))
  · cases h
attribute [push_cast] ckCheckAns

def ckWriteHeadsK : List V → List Blk → Option (Prop × V × List Blk)
  | [.vec i n, .sl m f], [.vec 1 k g] => some (k = n ∧ isBy n g ∧ isLs cHd m f ∧ n ≤ 1000000 ∧ m ≤ 1000000 ∧ (headsB (lsOf cHd m f)).length ≤ 100000000000, .vec i (n + (headsB (lsOf cHd m f)).length + 2), [.vec 1 (n + (headsB (lsOf cHd m f)).length + 2) (byF (bytesOf n g ++ headsB (lsOf cHd m f) ++ [13, 10]))])
  | _, _ => none
def ckWriteHeads : Cf := ⟨fun | [.vec i _, _] => [i] | _ => [], ckWriteHeadsK⟩
theorem conWriteHeads : FCon pg 26 ckWriteHeads := by
  have hct := ctN_ok pg
  intro args bs q r bs' h hq
  replace h : ckWriteHeadsK args bs = some (q, r, bs') := h
  unfold ckWriteHeadsK at h
  split at h
  · cases h
    rename_i i n m f k g
    refine ⟨rfl, rfl, ?_⟩
    obtain ⟨rfl, hg, hf, hk, hm, hb⟩ := hq
    refine fcall_args (args' := [.vec (i + 9000) (bytesOf k g).length, .sl (lsOf cHd m f).length (lsF cHd (lsOf cHd m f))]) ⟨VLe.of_eq (by rw [bytesOf_len]; rfl), isLs.vle hf, trivial⟩ ?_
    refine fcall_blk (hm := [(i + 9000, .vec 1 (bytesOf k g).length (byF (bytesOf k g)))]) ⟨rfl, ⟨rfl, (bytesOf_len k g).symm, fun j hj => by show V.shift (g j) = _; rw [hg.2 j hj]; rfl⟩, trivial⟩ ?_
    have hk2 : (bytesOf k g).length ≤ 1000000 := by rw [bytesOf_len]; exact hk
    have hm2 : (lsOf cHd m f).length ≤ 1000000 := by rw [lsOf_len]; exact hm
    have ek : k = (bytesOf k g).length := (bytesOf_len k g).symm
    rw [show k + (headsB (lsOf cHd m f)).length + 2 = (bytesOf k g).length + (headsB (lsOf cHd m f)).length + 2 by rw [← ek]]
    generalize bytesOf k g = b at hk2 ⊢
    generalize lsOf cHd m f = l at hb hm2 ⊢
    show FCall pg 26 [.vec (i + 9000) b.length, .sl l.length (lsF cHd l)] [(i + 9000, .vec 1 b.length (byF b))] (.vec (i + 9000) (b.length + (headsB l).length + 2)) [(i + 9000, .vec 1 (b.length + (headsB l).length + 2) (byF (b ++ headsB l ++ [13, 10])))]
    refine fw26 (fun _ => false) [] rfl hct rfl (by simp) (by simp [hlIn, idsIn, Blk.menIn, V.menInL, V.menIn, V.flat, byF, lsF]) (by simp [V.menIn, V.menInL, idsIn]) ?_
    push_cast (config := { maxSteps := 10000000 })
    refine LoopW.adj ⟨hct, fol⟩ (by kernel_rfl) [] (fun t : Nat × List UInt8 => [(0, .vec (i + 9000) t.2.length), (7, .sl l.length (lsF cHd l)), (8, .int .i64 l.length), (9, .int .i64 t.1)]) (fun t => [(i + 9000, .vec 1 t.2.length (byF t.2))]) (fun t => t.1 ≤ l.length ∧ t.2 ++ headsB (l.drop t.1) = b ++ headsB l) (fun t => l.length - t.1) (0, b) ?_ fun t ht => ?_
    · push_cast (config := { maxSteps := 10000000 })
      exact Nat.zero_le _
    · obtain ⟨j, o⟩ := t
      obtain ⟨h1, h2⟩ : j ≤ l.length ∧ o ++ headsB (l.drop j) = b ++ headsB l := ht
      have hl := congrArg List.length h2
      simp only [List.length_append] at hl
      push_cast (config := { maxSteps := 10000000 })
      refine ⟨fun hlt => ?_, fun hge => ?_⟩
      · have e := dropG (d := ⟨[], []⟩) hlt
        rw [e, headsB] at h2 hl
        clear e
        generalize l.getD j ⟨[], []⟩ = x at *
        have hx : (headB x).length = x.name.length + 2 + x.value.length + 2 := by simp [headB]; omega
        simp only [List.length_append] at hl
        have app := ByI.app (ByI.by o) (ByI.by (headB x)) rfl
        refine ⟨hlt, by omega, by omega, by omega, ⟨by omega, by omega⟩, ⟨by omega, by omega⟩, (j + 1, o ++ headB x), ⟨by show j + 1 ≤ l.length; omega, by rw [← h2]; simp⟩, by show l.length - (j + 1) < l.length - j; omega, ⟨by rw [List.length_append, hx], by simp⟩, by rw [List.length_append, hx], fun i hi => app.2 i (by rw [hx]; omega)⟩
      · rw [List.drop_eq_nil_of_le (by omega)] at h2 hl
        simp only [headsB, List.append_nil, List.length_nil] at h2 hl
        subst h2
        have app := ByI.app (ByI.by (b ++ headsB l)) (ByI.by [13, 10]) rfl
        exact ⟨⟨by omega, by omega⟩, by omega, by omega, app.2⟩
  · cases h
attribute [push_cast] ckWriteHeadsK
@[push_cast] theorem wh_ids (i n : Nat) (x : V) : ckWriteHeads.ids [.vec i n, x] = [i] := rfl
@[push_cast] theorem wh_k (i n : Nat) (m : Nat) (f : Nat → V) (k : Nat) (g : Nat → V) : ckWriteHeads.k [.vec i n, .sl m f] [.vec 1 k g] = some (k = n ∧ isBy n g ∧ isLs cHd m f ∧ n ≤ 1000000 ∧ m ≤ 1000000 ∧ (headsB (lsOf cHd m f)).length ≤ 100000000000, .vec i (n + (headsB (lsOf cHd m f)).length + 2), [.vec 1 (n + (headsB (lsOf cHd m f)).length + 2) (byF (bytesOf n g ++ headsB (lsOf cHd m f) ++ [13, 10]))]) := rfl

def ansP (a : Ans) : List UInt8 := [87, 69, 66, 47, 49, 32] ++ Lib.itoa a.st ++ [32] ++ a.re ++ [13, 10]
def ansBody (a : Ans) (fr ch : Int) : List UInt8 := if fr = 3 then chunksL ch.toNat a.bd else a.bd
def ansB (a : Ans) (fr ch : Int) : List UInt8 := ansP a ++ headsB a.hd ++ [13, 10] ++ ansBody a fr ch
def ansR (a : Ans) (fr ch : Int) : List UInt8 := if checkAnsL a fr ch = 0 then ansB a fr ch else []
theorem ap3 {N : Nat} {P H b R : List UInt8} (hP : P.length = N) (hR : R = P ++ H ++ [13, 10] ++ b) : ByI (N + H.length + 2 + b.length) (appF (N + H.length + 2) (byF (P ++ H ++ [13, 10])) (byF b)) R := by
  have h := ByI.app (ByI.by (P ++ H ++ [13, 10])) (ByI.by b) rfl
  have hl : (P ++ H ++ [13, 10]).length = N + H.length + 2 := by simp [hP]; omega
  rw [hl] at h
  exact h.eq hR.symm
theorem ans_ok {a : Ans} {fr ch : Int} (h : checkAnsL a fr ch = 0) : (Lib.itoa a.st).length ≤ 6 ∧ 100 ≤ a.st ∧ a.st ≤ 599 ∧ a.re.length ≤ 1000 ∧ a.hd.length ≤ 100 ∧ (headsB a.hd).length ≤ 104400 ∧ a.bd.length ≤ 200000 ∧ (fr = 3 → 1 ≤ ch ∧ ch ≤ 65536) := by
  unfold checkAnsL at h
  split at h
  · rename_i h0
    split at h
    · omega
    · split at h
      · omega
      · split at h
        · omega
        · rename_i h1 h2 h3
          obtain ⟨t1, t2, t3, t4, _⟩ := top_heads h0
          refine ⟨?_, t3, t4, t2, heads_100 t1, heads_le t1, by omega, fun e => by omega⟩
          have := itoa_len (n := a.st.toNat) (by omega)
          rwa [show ((a.st.toNat : Nat) : Int) = a.st by omega] at this
  · omega
theorem body_le {a : Ans} {fr ch : Int} (h : checkAnsL a fr ch = 0) : (ansBody a fr ch).length ≤ 2200005 := by
  obtain ⟨_, _, _, _, _, _, h7, h8⟩ := ans_ok h
  unfold ansBody
  split
  · rename_i e
    have := chunksL_len (k := ch.toNat) (by have := h8 e; omega) (by have := h8 e; omega) a.bd.length a.bd (Nat.le_refl _)
    omega
  · omega
def ckAnsB : Ck
  | [x, .int .i64 fr, .int .i64 ch] => some (isC cAns x ∧ ansOk (cAns.dec x), .tup [.sl (ansR (cAns.dec x) fr ch).length (byF (ansR (cAns.dec x) fr ch)), .int .i64 (checkAnsL (cAns.dec x) fr ch)])
  | _ => none
theorem conAnsB : Con pg 9 ckAnsB := by
  have hct := (ctA_ok conCheckAns (ctA_ok conItoa (ctA_ok conChunks0 (ctF_ok conWriteHeads (ctN_ok _)))))
  intro args q r h hq
  unfold ckAnsB at h
  split at h
  · cases h
    rename_i x fr ch
    refine pcall_args (args' := [cAns.enc (cAns.dec x), .int .i64 fr, .int .i64 ch]) ⟨hq.1, VLe.refl _, VLe.refl _, trivial⟩ ?_
    obtain ⟨-, ha⟩ := hq
    generalize cAns.dec x = a at ha ⊢
    refine w9 (fun _ => false) [.frz 26] rfl hct rfl rfl ?_
    push_cast (config := { maxSteps := 10000000 })
    refine ⟨ha, fun h => by unfold ansR; rw [if_neg h]; rfl, fun h => ?_⟩
    obtain ⟨b1, b2, b3, b4, b5, b6, b7, b8⟩ := ans_ok h
    have hb := body_le h
    have hr : ansR a fr ch = ansB a fr ch := by unfold ansR; rw [if_pos h]
    have hp := ByI.by (87 :: 69 :: 66 :: 47 :: 49 :: 32 :: (Lib.itoa a.st ++ [32] ++ a.re ++ [13, 10]))
    have hpl : (87 :: 69 :: 66 :: 47 :: 49 :: 32 :: (Lib.itoa a.st ++ [32] ++ a.re ++ [13, 10]) : List UInt8).length = (Lib.itoa a.st).length + 1 + a.re.length + 2 + 1 + 1 + 1 + 1 + 1 + 1 := by simp; omega
    rw [hpl] at hp
    rw [hp.bytes]
    unfold ansB ansBody at hr
    unfold ansBody at hb
    refine ⟨⟨by omega, by omega⟩, by omega, by omega, by omega, by omega, ⟨hp.is, by omega, by omega, by omega⟩, fun h3 => ?_, fun h3 => ?_⟩
    · rw [if_pos h3] at hr hb
      have ap := ap3 (H := headsB a.hd) (b := chunksL ch.toNat a.bd) (R := ansR a fr ch) hpl (by rw [hr]; simp [ansP])
      exact ⟨⟨by omega, b8 h3⟩, ⟨by omega, by omega⟩, ap.pure, ⟨ap.1, ap.2⟩, h.symm⟩
    · rw [if_neg h3] at hr hb
      have ap := ap3 (H := headsB a.hd) (b := a.bd) (R := ansR a fr ch) hpl (by rw [hr]; simp [ansP])
      exact ⟨⟨by omega, by omega⟩, ap.pure, ⟨ap.1, ap.2⟩, h.symm⟩
  · cases h
attribute [push_cast] ckAnsB

def ckHeadBytes : List V → Option (Prop × V × Blk)
  | [.str s, .sl m f] => some (isLs cHd m f ∧ s.length ≤ 1000000 ∧ m ≤ 1000000 ∧ (headsB (lsOf cHd m f)).length ≤ 100000000000, .vec 8999 (s.length + 2 + (headsB (lsOf cHd m f)).length + 2), .vec 1 (s.length + 2 + (headsB (lsOf cHd m f)).length + 2) (byF (s ++ [13, 10] ++ headsB (lsOf cHd m f) ++ [13, 10])))
  | _ => none
theorem ncall_args {f : FuncId} {args args' : List V} {r : V} {nb : Blk} (hv : vleL args args') (h : NCall pg f args' r nb) : NCall pg f args r nb := by
  intro S vals hs hh hlen hr
  exact h S vals hs hh (hlen.trans (vleL_len hv)) fun i hi => vleL_at hv i _ _ _ _ (hr i (by rw [vleL_len hv]; exact hi))
theorem conHeadBytes : NCon pg 33 ckHeadBytes := by
  have hct := ctN_ok pg
  intro args q r nb h hq
  unfold ckHeadBytes at h
  split at h
  · cases h
    rename_i s m f
    obtain ⟨hf, hs, hm, hb⟩ := hq
    refine ncall_args (args' := [.str s, .sl (lsOf cHd m f).length (lsF cHd (lsOf cHd m f))]) ⟨VLe.refl _, isLs.vle hf, trivial⟩ ?_
    have hm2 : (lsOf cHd m f).length ≤ 1000000 := by rw [lsOf_len]; exact hm
    generalize lsOf cHd m f = l at hb hm2 ⊢
    refine nw33 (fun _ => false) [.ren 32 8999] rfl hct rfl rfl ?_ ?_
    · simp [noSlB, V.flat, V.noSlL, V.noSl, byF, lsF]
    push_cast (config := { maxSteps := 10000000 })
    refine ⟨by omega, ?_⟩
    refine LoopW.adj ⟨hct, fol⟩ (by kernel_rfl) [] (fun t : Nat × List UInt8 => [(1, .sl l.length (lsF cHd l)), (5, .str t.2), (6, .int .i64 t.1)]) (fun t => []) (fun t => t.1 ≤ l.length ∧ t.2 ++ headsB (l.drop t.1) = s ++ [13, 10] ++ headsB l) (fun t => l.length - t.1) (0, s ++ [13, 10]) ?_ fun t ht => ?_
    · push_cast (config := { maxSteps := 10000000 })
      exact Nat.zero_le _
    · obtain ⟨j, o⟩ := t
      obtain ⟨h1, h2⟩ : j ≤ l.length ∧ o ++ headsB (l.drop j) = s ++ [13, 10] ++ headsB l := ht
      have hl := congrArg List.length h2
      simp only [List.length_append, List.length_cons, List.length_nil] at hl
      push_cast (config := { maxSteps := 10000000 })
      refine ⟨fun hlt => ?_, fun hge => ?_⟩
      · have e := dropG (d := ⟨[], []⟩) hlt
        rw [e, headsB] at h2 hl
        clear e
        generalize l.getD j ⟨[], []⟩ = x at *
        have hx : (headB x).length = x.name.length + 2 + x.value.length + 2 := by simp [headB]; omega
        simp only [List.length_append] at hl
        exact ⟨hlt, by omega, hlt, by omega, by omega, by omega, ⟨by omega, by omega⟩, (j + 1, o ++ headB x), ⟨by show j + 1 ≤ l.length; omega, by rw [← h2]; simp⟩, by show l.length - (j + 1) < l.length - j; omega, rfl, by simp⟩
      · rw [List.drop_eq_nil_of_le (by omega)] at h2 hl
        simp only [headsB, List.append_nil, List.length_nil] at h2 hl
        subst h2
        simp only [List.length_append, List.length_cons, List.length_nil]
        exact ⟨by omega, trivial, trivial, fun _ _ => trivial⟩
  · cases h
attribute [push_cast] ckHeadBytes

theorem ap4 {N : Nat} {Q b R : List UInt8} (hQ : Q.length = N) (hR : R = Q ++ b) : ByI (N + b.length) (appF N (byF Q) (byF b)) R := by
  have h := ByI.app (ByI.by Q) (ByI.by b) rfl
  rw [hQ] at h
  exact h.eq hR.symm
theorem ansR_no {a : Ans} {fr ch k : Int} (h : checkAnsL a fr ch = k) (hk : k ≠ 0) : (ansR a fr ch).length = 0 ∧ k = checkAnsL a fr ch := by
  refine ⟨?_, h.symm⟩
  unfold ansR; rw [if_neg (by omega)]; rfl
theorem conAnsB2 : Con pg 10 ckAnsB := by
  have hct := (ctA_ok conCheckTop2 (ctA_ok conWithin2b (ctA_ok conFrame2 (ctA_ok conTold (ctA_ok conItoa (ctA_ok conRchunks0 (ctW_ok conHeadBytes (ctN_ok _))))))))
  intro args q r h hq
  unfold ckAnsB at h
  split at h
  · cases h
    rename_i x fr ch
    refine pcall_args (args' := [cAns.enc (cAns.dec x), .int .i64 fr, .int .i64 ch]) ⟨hq.1, VLe.refl _, VLe.refl _, trivial⟩ ?_
    obtain ⟨-, ha⟩ := hq
    generalize cAns.dec x = a at ha ⊢
    refine w10 (fun _ => false) [.frz 77] rfl hct rfl rfl ?_
    push_cast (config := { maxSteps := 10000000 })
    refine ⟨⟨ha.1, ha.2.1⟩, fun h => ansR_no (caT h) h, fun h0 => ⟨fun h => ansR_no (caL h0 (by omega)) (by omega), fun h1 => ⟨fun h => ansR_no (caK h0 (by omega) (by omega)) (by omega), fun h2 => ⟨fun h => ⟨h, fun h' => ⟨h, h'⟩⟩, fun h => ansR_no (caR h0 (by omega) (by omega) (by omega)) (by omega), fun h3 => ?_⟩⟩⟩⟩
    have t0 := top_heads h0
    have hn := heads_100 t0.1
    have H : hdsOk a.hd ∧ a.hd.length ≤ 1000000 ∧ checkHeadsL a.hd = 0 := ⟨ha.1, by omega, t0.1⟩
    have h3' : ¬ (fr = 3 ∧ (ch < 1 ∨ 65536 < ch) ∨ ¬ fr = 3 ∧ ¬ ch = 0) := by
      rintro (⟨a1, a2⟩ | ⟨a1, a2⟩)
      · have := h3.1 a1; omega
      · exact a2 (h3.2 a1)
    have hto : fr = frameL a.st a.hd → fr = 2 → (toldL a.hd = a.bd.length ↔ valuesL a.hd wLen = [Lib.itoa a.bd.length]) := fun h e => told_eq t0.1 (frame_2 (h ▸ e)) (by omega)
    refine ⟨H, fun h => ⟨h, fun h' => ⟨h, h'⟩⟩, fun h => ⟨h, H.1, H.2.1, H.2.2, frame_2 (h.1.1 ▸ h.2)⟩, fun h => ⟨h, fun h' => ⟨h, h'⟩⟩, fun h => ?_, fun h => ?_⟩
    · refine ansR_no (caC h0 (by omega) (by omega) h3' ?_) (by omega)
      by_cases e1 : fr = frameL a.st a.hd
      · rcases h with (h | h) | h
        · exact absurd e1 h
        · exact .inl (.inr ⟨h.1, by omega⟩)
        · exact .inr ⟨h.1, fun x => h.2 ((hto e1 h.1).2 x)⟩
      · exact .inl (.inl e1)
    · have hk : checkAnsL a fr ch = 0 := by
        refine caO h0 (by omega) (by omega) h3' ?_
        rintro ((x | ⟨x, y⟩) | ⟨x, y⟩)
        · exact x h.1.1
        · exact h.1.2 x (by omega)
        · exact y ((hto h.1.1 x).1 (h.2 x))
      obtain ⟨b1, b2, b3, b4, b5, b6, b7, b8⟩ := ans_ok hk
      have hb := body_le hk
      have hr : ansR a fr ch = ansB a fr ch := by unfold ansR; rw [if_pos hk]
      have hql : (87 :: 69 :: 66 :: 47 :: 49 :: 32 :: (Lib.itoa a.st ++ [32] ++ a.re ++ [13, 10] ++ headsB a.hd ++ [13, 10]) : List UInt8).length = (Lib.itoa a.st).length + 1 + a.re.length + 1 + 1 + 1 + 1 + 1 + 1 + 2 + (headsB a.hd).length + 2 := by simp; omega
      unfold ansB ansBody at hr
      unfold ansBody at hb
      refine ⟨⟨by omega, by omega⟩, by omega, by omega, by omega, ⟨by omega, by omega, by omega⟩, fun h5 => ?_, fun h5 => ?_⟩
      · rw [if_pos h5] at hr hb
        have ap := ap4 (b := chunksL ch.toNat a.bd) (R := ansR a fr ch) hql (by rw [hr]; simp [ansP])
        exact ⟨⟨by omega, b8 h5⟩, ⟨by omega, by omega⟩, ap.pure, ⟨ap.1, ap.2⟩, hk.symm⟩
      · rw [if_neg h5] at hr hb
        have ap := ap4 (b := a.bd) (R := ansR a fr ch) hql (by rw [hr]; simp [ansP])
        exact ⟨⟨by omega, by omega⟩, ap.pure, ⟨ap.1, ap.2⟩, hk.symm⟩
  · cases h

def ckLawAns : Ck
  | [x, .int .i64 fr, .int .i64 ch] => some (isC cAns x ∧ ansOk (cAns.dec x), .bool true)
  | _ => none
theorem conLawAns : Con pg 3 ckLawAns := by
  have hct := (ctA_ok conAnsB (ctA_ok conAnsB2 (ctA_ok conBEqual (ctA_ok conAwake2 (ctN_ok _)))))
  intro args q r h hq
  unfold ckLawAns at h
  split at h
  · cases h
    rename_i x fr ch
    refine pcall_args (args' := [cAns.enc (cAns.dec x), .int .i64 fr, .int .i64 ch]) ⟨hq.1, VLe.refl _, VLe.refl _, trivial⟩ ?_
    obtain ⟨-, ha⟩ := hq
    generalize cAns.dec x = a at ha ⊢
    refine w3 (fun _ => false) [] rfl hct rfl rfl ?_
    push_cast (config := { maxSteps := 10000000 })
    exact ha
  · cases h
attribute [push_cast] ckLawAns
theorem allLawAns {H : Type} (ds : List (DataW H)) (hh : hasD [.tup [.int .i64, .str, .list (.tup [.str, .str]), .list (.int .u8)], .int .i64, .int .i64] ds) : PCall pg 3 (ds.map toV) (.bool true) := by
  obtain ⟨d1, d2, d3, rfl, a, b, c⟩ := hasD3 hh
  obtain ⟨k, e2, _⟩ := shInt b
  obtain ⟨k3, e3, _⟩ := shInt c
  simp only [List.map_cons, List.map_nil, e2, e3]
  exact conLawAns _ _ _ rfl ⟨(shAns a).1, (shAns a).2⟩

end Go.Abs
