/- what functions of this program compute: contracts, each a function's own -/
import Derived.Test.YtgfejmodfapeoaaGreatDoorAbsK2
import Derived.Test.YtgfejmodfapeoaaGreatDoorAbsFacts
import Derived.Test.YtgfejmodfapeoaaGreatDoorAbsF4
import Derived.Test.YtgfejmodfapeoaaGreatDoorAbsShelf
import Derived.Lib.SplitLaws
import Derived.Lib.SlTrimSet
import Derived.Lib.Atoi
import Derived.Lib.Itoa
import Derived.Lib.ItoaNum
import Derived.Lib.AtoiErrMem
import Derived.Lib.Join
import Derived.Lib.IndexMore
import Derived.Lib.Repeat
import Derived.Lib.ItoaLen
import Derived.Lib.Index
import Derived.Lib.IndexBytes
namespace Go.Abs
open Go Go.Proofs
set_option maxHeartbeats 4000000
set_option maxRecDepth 100000
set_option linter.unusedVariables false
set_option linter.unusedSimpArgs false
def valB (c : UInt8) : Bool := decide (c.toNat = 9 ∨ 32 ≤ c.toNat ∧ c.toNat ≤ 126)
def valueL (s : List UInt8) : Bool := decide (s.length ≤ 1000) && (Lib.trimS s [32, 9] == s) && s.all valB
def ckMTrim : Ck
  | [.str s] => some (s.length ≤ 4611686018427387904, .str (Lib.trimS s [32, 9]))
  | _ => none
theorem conMTrim : Con pg 85 ckMTrim := by
  have hct := (ctA_ok conTrim (ctN_ok _))
  intro args q r h hq
  unfold ckMTrim at h
  split at h
  · cases h
    rename_i s
    refine w85 (fun _ => false) [] rfl hct rfl rfl ?_
    push_cast (config := { maxSteps := 10000000 })
    exact hq
  · cases h
attribute [push_cast] ckMTrim
def ckIsValue : Ck
  | [.str s] => some (s.length ≤ 4611686018427387904, .bool (valueL s))
  | _ => none
theorem valueL_no {s : List UInt8} (h : s.all valB = false) : false = valueL s := by unfold valueL; rw [h, Bool.and_false]
theorem conIsValue : Con pg 42 ckIsValue := by
  have hct := (ctA_ok conMTrim (ctN_ok _))
  intro args q r h hq
  unfold ckIsValue at h
  split at h
  · cases h
    rename_i s
    refine w42 (fun _ => false) [] rfl hct rfl rfl ?_
    push_cast (config := { maxSteps := 10000000 })
    refine ⟨fun h => ⟨h, hq⟩, fun h => ?_, fun h => ?_⟩
    · unfold valueL
      rcases h with h | h
      · rw [show decide (s.length ≤ 1000) = false from decide_eq_false (by omega)]; rfl
      · rw [show (Lib.trimS s [32, 9] == s) = false by simpa using h]; simp
    · refine LoopW.adj ⟨hct, fol⟩ (by kernel_rfl) [] (fun i : Nat => [(0, .str s), (14, .int .i64 s.length), (15, .int .i64 i)]) (fun _ => []) (fun i => i ≤ s.length ∧ ∀ j, j < i → valB (s.getD j 0) = true) (fun i => s.length - i) 0 ?_ fun i hi => ?_
      · push_cast (config := { maxSteps := 10000000 })
        exact Nat.zero_le _
      · push_cast (config := { maxSteps := 10000000 })
        obtain ⟨h1, h2⟩ := hi
        (repeat' (first | apply And.intro | intro _)) <;> (try first | assumption | contradiction | omega | exact rfl | exact trivial)
        · rename_i a b
          exact valueL_no (all_no' (d := 0) a (by unfold valB; exact decide_eq_false (by omega)))
        · rename_i a b
          refine ⟨i + 1, ⟨by omega, fun j hj => ?_⟩, by omega, by omega⟩
          by_cases e : j = i
          · subst e
            refine decide_eq_true (Classical.byContradiction fun hn => ?_)
            have := b (by omega)
            omega
          · exact h2 j (by omega)
        · unfold valueL
          rw [all_at' fun j hj => h2 j (by omega), show decide (s.length ≤ 1000) = true from decide_eq_true (by omega), show (Lib.trimS s [32, 9] == s) = true by simpa using h.2]; rfl
  · cases h
attribute [push_cast] ckIsValue
def headsGo : List Hd → Int
  | [] => 0
  | h :: t => if tokL h.name = true then (if valueL h.value = true then headsGo t else 3) else 5
def checkHeadsL (l : List Hd) : Int := if 100 < l.length then 2 else headsGo l
def ckCheckHeads : Ck
  | [.sl n f] => some (isLs cHd n f ∧ hdsOk (lsOf cHd n f), .int .i64 (checkHeadsL (lsOf cHd n f)))
  | _ => none
theorem headsGo_tok {l : List Hd} {i : Nat} (hi : i < l.length) (h : ¬ tokL (l.getD i ⟨[], []⟩).name = true) : headsGo (l.drop i) = 5 := by
  rw [dropG (d := ⟨[], []⟩) hi, headsGo, if_neg h]
theorem headsGo_val {l : List Hd} {i : Nat} (hi : i < l.length) (h : tokL (l.getD i ⟨[], []⟩).name = true) (h2 : ¬ valueL (l.getD i ⟨[], []⟩).value = true) : headsGo (l.drop i) = 3 := by
  rw [dropG (d := ⟨[], []⟩) hi, headsGo, if_pos h, if_neg h2]
theorem headsGo_next {l : List Hd} {i : Nat} (hi : i < l.length) (h : tokL (l.getD i ⟨[], []⟩).name = true) (h2 : valueL (l.getD i ⟨[], []⟩).value = true) : headsGo (l.drop i) = headsGo (l.drop (i + 1)) := by
  rw [dropG (d := ⟨[], []⟩) hi, headsGo, if_pos h, if_pos h2]
theorem conCheckHeads : Con pg 23 ckCheckHeads := by
  have hct := (ctA_ok conIsToken (ctA_ok conIsValue (ctN_ok _)))
  intro args q r h hq
  unfold ckCheckHeads at h
  split at h
  · cases h
    rename_i n f
    refine pcall_args (args' := [.sl (lsOf cHd n f).length (lsF cHd (lsOf cHd n f))]) ⟨isLs.vle hq.1, trivial⟩ ?_
    obtain ⟨-, hl⟩ := hq
    generalize lsOf cHd n f = l at hl ⊢
    refine w23 (fun _ => false) [] rfl hct rfl rfl ?_
    push_cast (config := { maxSteps := 10000000 })
    refine ⟨fun h => ?_, fun h => ?_⟩
    · unfold checkHeadsL; rw [if_pos (by omega)]
    have e0 : checkHeadsL l = headsGo l := by unfold checkHeadsL; rw [if_neg (by omega)]
    rw [e0]
    refine LoopW.adj ⟨hct, fol⟩ (by kernel_rfl) [] (fun i : Nat => [(8, .sl l.length (lsF cHd l)), (9, .int .i64 l.length), (10, .int .i64 i)]) (fun _ => []) (fun i => i ≤ l.length ∧ headsGo (l.drop i) = headsGo l) (fun i => l.length - i) 0 ?_ fun i hi => ?_
    · push_cast (config := { maxSteps := 10000000 })
      exact Nat.zero_le _
    · push_cast (config := { maxSteps := 10000000 })
      obtain ⟨h1, h2⟩ := hi
      refine ⟨fun hlt => ?_, fun hlt => ?_⟩
      · have hb := hdsOk_at hl hlt
        (repeat' (first | apply And.intro | intro _)) <;> (try first | assumption | contradiction | omega | exact rfl | exact trivial)
        · rw [← h2, headsGo_tok hlt (by simp_all)]
        · rw [← h2, headsGo_val hlt (by assumption) (by simp_all)]
        · refine ⟨i + 1, ⟨by omega, ?_⟩, by omega, by omega⟩
          rw [← h2, headsGo_next hlt (by assumption) (by assumption)]
      · rw [← h2, List.drop_eq_nil_of_le (by omega)]; rfl
  · cases h
attribute [push_cast] ckCheckHeads
def valuesL (l : List Hd) (name : List UInt8) : List (List UInt8) := (l.filter fun h => lowL h.name == name).map Hd.value
def ckValues : Ck
  | [.sl n f, .str name] => some (isLs cHd n f ∧ hdsOk (lsOf cHd n f) ∧ n ≤ 1000000, .sl (valuesL (lsOf cHd n f) name).length (lsF cStr (valuesL (lsOf cHd n f) name)))
  | _ => none
theorem valuesL_hit {l : List Hd} {i : Nat} {name : List UInt8} (hi : i < l.length) (h : lowL (l.getD i ⟨[], []⟩).name = name) : valuesL (l.drop i) name = (l.getD i ⟨[], []⟩).value :: valuesL (l.drop (i + 1)) name := by
  unfold valuesL
  rw [dropG (d := ⟨[], []⟩) hi, List.filter_cons, if_pos (beq_iff_eq.2 h), List.map_cons]
theorem valuesL_miss {l : List Hd} {i : Nat} {name : List UInt8} (hi : i < l.length) (h : ¬ lowL (l.getD i ⟨[], []⟩).name = name) : valuesL (l.drop i) name = valuesL (l.drop (i + 1)) name := by
  unfold valuesL
  rw [dropG (d := ⟨[], []⟩) hi, List.filter_cons, if_neg (fun e => h (beq_iff_eq.1 e))]
theorem valuesL_le (l : List Hd) (name : List UInt8) : (valuesL l name).length ≤ l.length := by
  unfold valuesL; rw [List.length_map]; exact List.length_filter_le _ _
attribute [push_cast] ckValues
def tgB (c : UInt8) : Bool := decide (33 ≤ c.toNat ∧ c.toNat ≤ 126)
def targetL (s : List UInt8) : Bool := decide (1 ≤ s.length) && decide (s.length ≤ 2000) && s.all tgB
theorem targetL_no {s : List UInt8} (h : s.all tgB = false) : false = targetL s := by unfold targetL; rw [h, Bool.and_false]
def ckIsTarget : Ck
  | [.str s] => some (s.length ≤ 4611686018427387904, .bool (targetL s))
  | _ => none
attribute [push_cast] ckIsTarget
def ckDigits : Ck
  | [.str s, .int .i64 n] => some (s.length ≤ 4611686018427387904, .bool (digL s n))
  | _ => none
theorem conDigits : Con pg 73 ckDigits := by
  have hct := (ctA_ok conTrim (ctN_ok _))
  intro args q r h hq
  unfold ckDigits at h
  split at h
  · cases h
    rename_i s n
    refine w73 (fun _ => false) [] rfl hct rfl rfl ?_
    push_cast (config := { maxSteps := 10000000 })
    refine ⟨fun h => ⟨h, hq⟩, fun h => ⟨h, by have := h.1.1; omega⟩, fun h => ⟨h, fun h2 => ⟨h, h2⟩⟩, ?_⟩
    unfold digL
    have e1 : (Lib.trimS s [48, 49, 50, 51, 52, 53, 54, 55, 56, 57] == []) = s.all isDg := by
      rw [Bool.eq_iff_iff, beq_iff_eq]; exact trim_dig s
    have e2 : (((s.getD 0 0).toNat : Int) != 48) = decide (s.getD 0 0 ≠ 48) := by
      rw [Bool.eq_iff_iff, bne_iff_ne, decide_eq_true_eq, ne_eq, ne_eq, u8_eq]; rfl
    rw [e1, e2]
    congr 3
    exact decide_eq_decide.2 (by omega)
  · cases h
attribute [push_cast] ckDigits
def lenV : List (List UInt8) → Int × Bool
  | [v] => if digL v 1000 = true then (if 9 < v.length then (200001, true) else (min (natOf v : Int) 200001, true)) else (0, false)
  | _ => (0, false)
def lengthL (l : List Hd) : Int × Bool := lenV (valuesL l [108, 101, 110, 103, 116, 104])
def ckLength : Ck
  | [.sl n f] => some (isLs cHd n f ∧ hdsOk (lsOf cHd n f) ∧ n ≤ 1000000, .tup [.int .i64 (lengthL (lsOf cHd n f)).1, .bool (lengthL (lsOf cHd n f)).2])
  | _ => none
theorem valuesL_ok {l : List Hd} (h : hdsOk l) (name : List UInt8) : ∀ v ∈ valuesL l name, v.length ≤ 140737488355328 := by
  intro v hv
  simp only [valuesL, List.mem_map, List.mem_filter] at hv
  obtain ⟨x, ⟨hx, _⟩, rfl⟩ := hv
  exact (h x hx).2
theorem digL_all {v : List UInt8} {n : Int} (h : digL v n = true) : 1 ≤ v.length ∧ (v.length : Int) ≤ n ∧ v.all isDg = true ∧ (v.getD 0 0 ≠ 48 ∨ v = [48]) := by
  simp only [digL, Bool.and_eq_true, Bool.or_eq_true, decide_eq_true_eq, beq_iff_eq] at h
  exact ⟨h.1.1.1, h.1.1.2, h.1.2, h.2⟩
attribute [push_cast] ckLength
def wLen : List UInt8 := [108, 101, 110, 103, 116, 104]
def wCod : List UInt8 := [99, 111, 100, 105, 110, 103]
/-- the length that the heads say is not the body's, or a coding is named -/
def clashL (l : List Hd) (n : Nat) : Bool := (!((valuesL l wLen).length == 0 && n == 0) && !(valuesL l wLen == [Lib.itoa n])) || !((valuesL l wCod).length == 0)
def checkInqL (a : Inq) : Int := if tokL a.me = true then (if targetL a.tg = true then (if checkHeadsL a.hd = 0 then (if a.bd.length ≤ 200000 then (if clashL a.hd a.bd.length = true then 12 else 0) else 2) else checkHeadsL a.hd) else 3) else 5
theorem lenV_eq {l : List (List UInt8)} {n : Nat} (h : n ≤ 200000) : (lenV l).2 = true ∧ (lenV l).1 = n ↔ l = [Lib.itoa n] := by
  rw [itoa_nat]
  match l with
  | [] => simp [lenV]
  | a :: b :: r => simp [lenV]
  | [v] =>
    have hd := dec_dig n
    have hl := dec_len 5 n (by omega)
    constructor
    · intro ⟨h1, h2⟩
      unfold lenV at h1 h2
      simp only at h1 h2
      split at h1
      · rename_i hv
        rw [if_pos hv] at h2
        have hq := digL_all hv
        split at h2
        · simp only at h2; omega
        · simp only at h2
          have : natOf v = n := by omega
          have e := dec_natOf hq.2.2.1 hq.1 (hq.2.2.2.imp id fun e => by rw [e]; rfl)
          rw [← this, e]
      · cases h1
    · intro e
      obtain rfl : v = Lib.decDigits n := by simpa using e
      have hv : digL (Lib.decDigits n) 1000 = true := by
        simp only [digL, Bool.and_eq_true, Bool.or_eq_true, decide_eq_true_eq, beq_iff_eq]
        refine ⟨⟨⟨hd.2.2.1, by omega⟩, hd.1⟩, ?_⟩
        by_cases h10 : 10 ≤ n
        · exact .inl (hd.2.2.2.2 h10)
        · by_cases h0 : n = 0
          · subst h0; exact .inr (by rw [dec_small (by omega)]; rfl)
          · refine .inl ?_
            rw [dec_small (by omega)]
            intro e
            have := congrArg UInt8.toNat e
            simp only [List.getD_cons_zero] at this
            rw [UInt8.toNat_ofNat'] at this
            have : (48 : UInt8).toNat = 48 := rfl
            omega
      simp only [lenV, hv, if_true]
      rw [if_neg (by omega)]
      exact ⟨rfl, by rw [hd.2.1]; omega⟩
theorem itoa_len {n : Nat} (h : n ≤ 200000) : (Lib.itoa n).length ≤ 6 := by rw [itoa_nat]; exact dec_len 5 n (by omega)
theorem clash_iff {l : List Hd} {n : Nat} : clashL l n = true ↔ (((valuesL l wLen).length : Int) = 0 → ¬ (n : Int) = 0) ∧ ¬ valuesL l wLen = [Lib.itoa n] ∨ 0 < ((valuesL l wCod).length : Int) := by
  simp only [clashL, Bool.or_eq_true, Bool.and_eq_true, Bool.not_eq_true', Bool.and_eq_false_iff, beq_eq_false_iff_ne, ne_eq]
  constructor
  · rintro (⟨h1, h2⟩ | h)
    · exact .inl ⟨fun a b => by rcases h1 with h1 | h1 <;> omega, h2⟩
    · exact .inr (by omega)
  · rintro (⟨h1, h2⟩ | h)
    · refine .inl ⟨?_, h2⟩
      by_cases e : (valuesL l wLen).length = 0
      · exact .inr fun e2 => h1 (by omega) (by omega)
      · exact .inl e
    · exact .inr (by omega)
theorem clash_len {l : List Hd} {n : Nat} (h : n ≤ 200000) : clashL l n = true ↔ (((valuesL l wLen).length : Int) = 0 → ¬ (n : Int) = 0) ∧ ((lengthL l).2 = false ∨ ¬ (lengthL l).1 = n) ∨ 0 < ((valuesL l wCod).length : Int) := by
  have e : (¬ valuesL l wLen = [Lib.itoa n]) ↔ ((lengthL l).2 = false ∨ ¬ (lengthL l).1 = n) := by
    rw [← lenV_eq h, Decidable.not_and_iff_or_not, Bool.not_eq_true]; rfl
  rw [clash_iff, e]
theorem sing_iff {l : List (List UInt8)} {x : List UInt8} : l = [x] ↔ (l.length : Int) = 1 ∧ l.getD 0 [] = x := by
  match l with
  | [] => simp
  | [a] => simp
  | a :: b :: r => simp; omega
theorem clash_ref {l : List Hd} {n : Nat} : clashL l n = true ↔ (((valuesL l wLen).length : Int) = 0 → ¬ (n : Int) = 0) ∧ (¬ ((valuesL l wLen).length : Int) = 1 ∨ ¬ (valuesL l wLen).getD 0 [] = Lib.itoa n) ∨ 0 < ((valuesL l wCod).length : Int) := by
  rw [clash_iff, sing_iff, Decidable.not_and_iff_or_not]
theorem heads_100 {l : List Hd} (h : checkHeadsL l = 0) : l.length ≤ 100 := by
  unfold checkHeadsL at h
  split at h
  · omega
  · omega
theorem headsGo_le : ∀ {l : List Hd}, headsGo l = 0 → (headsB l).length ≤ l.length * 1044
  | [], _ => by simp [headsB]
  | h :: t, e => by
    simp only [headsGo] at e
    split at e
    · rename_i h1
      split at e
      · rename_i h2
        have ih := headsGo_le e
        simp only [tokL, valueL, Bool.and_eq_true, decide_eq_true_eq] at h1 h2
        simp only [headsB, headB, List.length_append, List.length_cons, List.length_nil]
        omega
      · omega
    · omega
theorem heads_le {l : List Hd} (h : checkHeadsL l = 0) : (headsB l).length ≤ 104400 := by
  have h1 := heads_100 h
  unfold checkHeadsL at h
  rw [if_neg (by omega)] at h
  have := headsGo_le h
  omega
def ckInq : Ck
  | [.agg [.str me, .str tg, .sl n f, .sl m g]] => some (isLs cHd n f ∧ isBy m g ∧ inqOk ⟨me, tg, lsOf cHd n f, bytesOf m g⟩, .int .i64 (checkInqL ⟨me, tg, lsOf cHd n f, bytesOf m g⟩))
  | _ => none
attribute [push_cast] ckInq
def ownL (l : List Hd) : Bool := l.any fun h => ownW.contains (lowL h.name)
theorem values_ne {l : List Hd} {w : List UInt8} : 0 < ((valuesL l w).length : Int) ↔ ∃ h ∈ l, lowL h.name = w := by
  unfold valuesL
  rw [List.length_map]
  constructor
  · intro h
    have : (l.filter fun h => lowL h.name == w) ≠ [] := fun e => by rw [e] at h; simp at h
    obtain ⟨x, hx⟩ := List.exists_mem_of_ne_nil _ this
    rw [List.mem_filter, beq_iff_eq] at hx
    exact ⟨x, hx⟩
  · rintro ⟨x, h1, h2⟩
    have : x ∈ l.filter fun h => lowL h.name == w := List.mem_filter.2 ⟨h1, beq_iff_eq.2 h2⟩
    have := List.length_pos_of_mem this
    omega
theorem own_iff {l : List Hd} : ownL l = true ↔ ∃ w ∈ ownW, 0 < ((valuesL l w).length : Int) := by
  unfold ownL
  rw [List.any_eq_true]
  constructor
  · rintro ⟨h, h1, h2⟩
    rw [List.contains_iff_mem] at h2
    exact ⟨_, h2, values_ne.2 ⟨h, h1, rfl⟩⟩
  · rintro ⟨w, h1, h2⟩
    obtain ⟨h, h3, rfl⟩ := values_ne.1 h2
    exact ⟨h, h3, List.contains_iff_mem.2 h1⟩
/-- the error of a record -/
def checkRecL (r : Rcd) : Int :=
  if r.ki < 1 ∨ 5 < r.ki then 4
  else if ¬ (nameL r.id = true ∧ (r.ow = [] ∨ nameL r.ow = true)) then 5
  else if r.ow = r.id ∨ (r.ow = [] ∧ (r.ki = 4 ∨ r.ki = 5)) ∨ (r.ow ≠ [] ∧ r.ki = 1) then 12
  else if ¬ (0 ≤ r.ti ∧ r.ti ≤ 253402300799) then 1
  else if ¬ targetL r.ke = true then 3
  else if 30 < r.hd.length then 2
  else if ¬ checkHeadsL r.hd = 0 then checkHeadsL r.hd
  else if ownL r.hd = true then 12
  else if 200000 < r.bd.length then 2
  else if 0 < r.bd.length ∧ r.ki = 4 then 3 else 0
theorem rec_ok {r : Rcd} (h : checkRecL r = 0) : 1 ≤ r.ki ∧ r.ki ≤ 5 ∧ nameL r.id = true ∧ (r.ow = [] ∨ nameL r.ow = true) ∧ 0 ≤ r.ti ∧ r.ti ≤ 253402300799 ∧ targetL r.ke = true ∧ r.hd.length ≤ 30 ∧ checkHeadsL r.hd = 0 ∧ r.bd.length ≤ 200000 := by
  unfold checkRecL at h
  by_cases c1 : r.ki < 1 ∨ 5 < r.ki
  · rw [if_pos c1] at h; omega
  rw [if_neg c1] at h
  by_cases c2 : ¬ (nameL r.id = true ∧ (r.ow = [] ∨ nameL r.ow = true))
  · rw [if_pos c2] at h; omega
  rw [if_neg c2] at h
  by_cases c3 : r.ow = r.id ∨ (r.ow = [] ∧ (r.ki = 4 ∨ r.ki = 5)) ∨ (r.ow ≠ [] ∧ r.ki = 1)
  · rw [if_pos c3] at h; omega
  rw [if_neg c3] at h
  by_cases c4 : ¬ (0 ≤ r.ti ∧ r.ti ≤ 253402300799)
  · rw [if_pos c4] at h; omega
  rw [if_neg c4] at h
  by_cases c5 : ¬ targetL r.ke = true
  · rw [if_pos c5] at h; omega
  rw [if_neg c5] at h
  by_cases c6 : 30 < r.hd.length
  · rw [if_pos c6] at h; omega
  rw [if_neg c6] at h
  by_cases c7 : ¬ checkHeadsL r.hd = 0
  · rw [if_pos c7] at h; exact absurd h c7
  rw [if_neg c7] at h
  by_cases c8 : ownL r.hd = true
  · rw [if_pos c8] at h; omega
  rw [if_neg c8] at h
  by_cases c9 : 200000 < r.bd.length
  · rw [if_pos c9] at h; omega
  exact ⟨by omega, by omega, (Classical.not_not.1 c2).1, (Classical.not_not.1 c2).2, by omega, by omega, Classical.not_not.1 c5, by omega, Classical.not_not.1 c7, by omega⟩
def wKept : List UInt8 := [75, 69, 80, 84, 47, 49, 13, 10]
/-- the lines ahead of a record's heads, and behind them -/
def recP (r : Rcd) : List UInt8 := wKept ++ lnB2 [105, 100] r.id ++ (if r.ow = [] then [] else lnB2 [111, 102] r.ow) ++ lnB2 [107, 105, 110, 100] (kindW.getD (r.ki - 1).toNat []) ++ lnB2 [100, 97, 116, 101] (dateTextL r.ti) ++ lnB2 [107, 101, 121] r.ke
def recQ (r : Rcd) : List UInt8 := lnB2 [108, 101, 110, 103, 116, 104] (Lib.itoa r.bd.length) ++ lnB2 [100, 105, 103, 101, 115, 116] (digestL r.bd) ++ [13, 10]
def recB (r : Rcd) : List UInt8 := recP r ++ headsB r.hd ++ recQ r ++ r.bd ++ [13, 10, 13, 10]

def idxL (l : List (List UInt8)) (w : List UInt8) : Int := match l.findIdx? (· == w) with
  | some k => k
  | none => -1
theorem idxL_at {l : List (List UInt8)} {w : List UInt8} {i : Nat} (hi : i < l.length) (h : w = l.getD i []) (hn : ∀ j, j < i → ¬ w = l.getD j []) : idxL l w = i := by
  unfold idxL
  have : l.findIdx? (· == w) = some i := by
    rw [List.findIdx?_eq_some_iff_getElem]
    refine ⟨hi, ?_, fun j hj => ?_⟩
    · rw [List.getD_eq_getElem?_getD, List.getElem?_eq_getElem hi] at h; simp [h]
    · have h1 := hn j hj
      rw [List.getD_eq_getElem?_getD, List.getElem?_eq_getElem (by omega)] at h1
      simp only [Option.getD_some] at h1
      simp only [Bool.not_eq_true, beq_eq_false_iff_ne]
      exact fun e => h1 e.symm
  rw [this]
theorem idxL_no {l : List (List UInt8)} {w : List UInt8} (hn : ∀ j, j < l.length → ¬ w = l.getD j []) : idxL l w = -1 := by
  unfold idxL
  have : l.findIdx? (· == w) = none := by
    rw [List.findIdx?_eq_none_iff]
    intro x hx
    obtain ⟨j, hj, rfl⟩ := List.getElem_of_mem hx
    have h1 := hn j hj
    rw [List.getD_eq_getElem?_getD, List.getElem?_eq_getElem hj] at h1
    simp only [Option.getD_some] at h1
    exact beq_eq_false_iff_ne.2 fun e => h1 e.symm
  rw [this]
def ckIndexStr : Ck
  | [.sl n f, .str w] => some (isLs cStr n f ∧ n ≤ 4611686018427387904, .int .i64 (idxL (lsOf cStr n f) w))
  | _ => none
theorem conIndexStr : Con pg 43 ckIndexStr := by
  have hct := ctN_ok pg
  intro args q r h hq
  unfold ckIndexStr at h
  split at h
  · cases h
    rename_i n f w
    refine pcall_args (args' := [.sl (lsOf cStr n f).length (lsF cStr (lsOf cStr n f)), .str w]) ⟨isLs.vle hq.1, VLe.refl _, trivial⟩ ?_
    have hn : (lsOf cStr n f).length ≤ 4611686018427387904 := by rw [lsOf_len]; exact hq.2
    generalize lsOf cStr n f = a at hn ⊢
    refine w43 (fun _ => false) [] rfl hct rfl rfl ?_
    push_cast (config := { maxSteps := 10000000 })
    refine LoopW.adj ⟨hct, fol⟩ (by kernel_rfl) [] (fun i : Nat => [(0, .sl a.length (lsF cStr a)), (1, .str w), (7, .int .i64 a.length), (8, .int .i64 i)]) (fun _ => []) (fun i => i ≤ a.length ∧ ∀ j, j < i → ¬ w = a.getD j []) (fun i => a.length - i) 0 ?_ fun i hi => ?_
    · push_cast (config := { maxSteps := 10000000 })
      exact Nat.zero_le _
    · push_cast (config := { maxSteps := 10000000 })
      obtain ⟨h1, h2⟩ := hi
      refine ⟨fun h => ⟨h, fun h3 => (idxL_at h h3 h2).symm, fun h3 => ⟨by omega, i + 1, ⟨by omega, fun j hj => ?_⟩, by omega, by omega⟩⟩, fun h => (idxL_no fun j hj => h2 j (by omega)).symm⟩
      by_cases e : j = i
      · subst e; exact h3
      · exact h2 j (by omega)
  · cases h
attribute [push_cast] ckIndexStr

def ckName : Ck
  | [.str s] => some (s.length ≤ 4611686018427387900, .bool (nameL s))
  | _ => none
theorem conIsName : Con pg 20 ckName := by
  have hct := (ctA_ok conTrim (ctN_ok _))
  intro args q r h hq
  unfold ckName at h
  split at h
  · cases h
    rename_i s
    refine w20 (fun _ => false) [] rfl hct rfl rfl ?_
    push_cast (config := { maxSteps := 10000000 })
    refine ⟨fun h => ⟨h, by omega⟩, fun h => ⟨h, by omega⟩, fun h => ⟨h, by omega⟩, ?_⟩
    have e := trim_nm s
    unfold nmS at e
    rw [Bool.eq_iff_iff]
    simp only [nameL, smB, Bool.and_eq_true, decide_eq_true_eq, beq_iff_eq, e]
    exact ⟨fun ⟨⟨⟨⟨a, b⟩, c⟩, d⟩, f⟩ => ⟨⟨⟨by omega, by omega⟩, by omega, by omega⟩, f⟩, fun ⟨⟨⟨a, b⟩, c, d⟩, f⟩ => ⟨⟨⟨⟨by omega, by omega⟩, by omega⟩, by omega⟩, f⟩⟩
  · cases h
attribute [push_cast] ckName
def ckKey : Ck
  | [.str s] => some (s.length ≤ 4611686018427387900, .bool (targetL s))
  | _ => none
theorem conIsKey : Con pg 22 ckKey := by
  have hct := ctN_ok pg
  intro args q r h hq
  unfold ckKey at h
  split at h
  · cases h
    rename_i s
    refine w22 (fun _ => false) [] rfl hct rfl rfl ?_
    push_cast (config := { maxSteps := 10000000 })
    refine LoopW.adj ⟨hct, fol⟩ (by kernel_rfl) [] (fun i : Nat => [(0, .str s), (5, .int .i64 s.length), (6, .int .i64 i)]) (fun _ => []) (fun i => i ≤ s.length ∧ ∀ j, j < i → tgB (s.getD j 0) = true) (fun i => s.length - i) 0 ?_ fun i hi => ?_
    · push_cast (config := { maxSteps := 10000000 })
      exact Nat.zero_le _
    · push_cast (config := { maxSteps := 10000000 })
      obtain ⟨h1, h2⟩ := hi
      refine ⟨fun h => ⟨h, fun a => ⟨a, h⟩, fun a => ?_, fun a => ⟨⟨by omega, by omega⟩, i + 1, ⟨by omega, fun j hj => ?_⟩, by omega, by omega⟩⟩, fun h => ?_⟩
      · unfold targetL; rw [all_no h (decide_eq_false (by omega))]; simp
      · by_cases e : j = i
        · subst e; exact decide_eq_true (by omega)
        · exact h2 j (by omega)
      · unfold targetL
        rw [all_at fun j hj => h2 j (by omega), Bool.and_true]
        congr 1 <;> exact decide_eq_decide.2 (by omega)
  · cases h
attribute [push_cast] ckKey
def ckWithin6 : Ck
  | [.int .i64 n, .int .i64 a, .int .i64 b] => some (True, .bool (decide (a ≤ n) && decide (n ≤ b)))
  | _ => none
attribute [push_cast] ckWithin6
theorem idx_has (l : List (List UInt8)) (w : List UInt8) : decide (0 ≤ idxL l w) = l.contains w := by
  unfold idxL
  cases h : l.findIdx? (· == w) with
  | none =>
    rw [List.findIdx?_eq_none_iff] at h
    have : l.contains w = false := by
      rw [Bool.eq_false_iff]
      intro hc
      rw [List.contains_iff_mem] at hc
      have := h w hc
      simp at this
    rw [this]; rfl
  | some k =>
    rw [List.findIdx?_eq_some_iff_getElem] at h
    obtain ⟨hk, h1, _⟩ := h
    have : l.contains w = true := by
      rw [List.contains_iff_mem]
      have e := beq_iff_eq.1 h1
      rw [← e]; exact List.getElem_mem hk
    rw [this]
    exact decide_eq_true (Int.natCast_nonneg k)
def ckHasStr : Ck
  | [.sl n f, .str w] => some (isLs cStr n f ∧ n ≤ 4611686018427387904, .bool ((lsOf cStr n f).contains w))
  | _ => none
theorem conHasStr : Con pg 24 ckHasStr := by
  have hct := (ctA_ok conIndexStr (ctN_ok _))
  intro args q r h hq
  unfold ckHasStr at h
  split at h
  · cases h
    rename_i n f w
    refine w24 (fun _ => false) [] rfl hct rfl rfl ?_
    push_cast (config := { maxSteps := 10000000 })
    exact ⟨hq, idx_has _ _⟩
  · cases h
attribute [push_cast] ckHasStr
def ckKinds : Ck
  | [] => some (True, .sl 5 (lsF cStr kindW))
  | _ => none
theorem conKinds : Con pg 28 ckKinds := by
  have hct := ctN_ok pg
  intro args q r h hq
  unfold ckKinds at h
  split at h
  · cases h
    refine w28 (fun _ => false) [] rfl hct rfl rfl ?_
    push_cast (config := { maxSteps := 10000000 })
    intro i hi
    rcases (by omega : i = 0 ∨ i = 1 ∨ i = 2 ∨ i = 3 ∨ i = 4) with rfl | rfl | rfl | rfl | rfl <;> rfl
  · cases h
attribute [push_cast] ckKinds
def ckOwn : Ck
  | [] => some (True, .sl 7 (lsF cStr ownW))
  | _ => none
theorem conOwn : Con pg 25 ckOwn := by
  have hct := ctN_ok pg
  intro args q r h hq
  unfold ckOwn at h
  split at h
  · cases h
    refine w25 (fun _ => false) [] rfl hct rfl rfl ?_
    push_cast (config := { maxSteps := 10000000 })
    intro i hi
    rcases (by omega : i = 0 ∨ i = 1 ∨ i = 2 ∨ i = 3 ∨ i = 4 ∨ i = 5 ∨ i = 6) with rfl | rfl | rfl | rfl | rfl | rfl | rfl <;> rfl
  · cases h
attribute [push_cast] ckOwn
def ckKindW : Ck
  | [.int .i64 k] => some (1 ≤ k ∧ k ≤ 5, .str (kindW.getD (k - 1).toNat []))
  | _ => none
attribute [push_cast] ckKindW
def ckMixed : Ck
  | [.sl n f] => some (isBy n f ∧ n ≤ 4611686018427387900, .int .u64 (mixL (bytesOf n f)))
  | _ => none
theorem conMixed : Con pg 47 ckMixed := by
  have hct := ctN_ok pg
  intro args q r h hq
  unfold ckMixed at h
  split at h
  · cases h
    rename_i n f
    refine pcall_args (args' := [.sl (bytesOf n f).length (byF (bytesOf n f))]) ⟨isBy.vle hq.1, trivial⟩ ?_
    have h1 : (bytesOf n f).length ≤ 4611686018427387900 := by rw [bytesOf_len]; exact hq.2
    generalize bytesOf n f = b at h1 ⊢
    refine w47 (fun _ => false) [] rfl hct rfl rfl ?_
    push_cast (config := { maxSteps := 10000000 })
    have hstep : ∀ i, i < b.length → bitsI BinOp.xor IntKind.u64 (mixL (b.take i)) (((b.getD i 0).toNat : Int) % 18446744073709551616) * 1099511628211 % 18446744073709551616 = mixL (b.take (i + 1)) := fun i hi => by
      rw [takeG (d := 0) hi, mixL_snoc]; rfl
    refine LoopW.adj ⟨hct, fol⟩ (by kernel_rfl) [] (fun i : Nat => [(0, .sl b.length (byF b)), (3, .int .u64 (mixL (b.take i))), (6, .int .i64 b.length), (7, .int .i64 i)]) (fun _ => []) (fun i => i ≤ b.length) (fun i => b.length - i) 0 ?_ fun i hi => ?_
    · push_cast (config := { maxSteps := 10000000 })
      exact ⟨Nat.zero_le _, rfl⟩
    · push_cast (config := { maxSteps := 10000000 })
      exact ⟨fun h => ⟨h, ⟨by omega, by omega⟩, i + 1, by omega, by omega, hstep i h, by omega⟩, fun h => by rw [List.take_of_length_le (by omega)]⟩
  · cases h
attribute [push_cast] ckMixed
def hxF (n : Int) (i : Nat) : Nat → V := fun j => bif decide (16 ≤ j + i) then .int .u8 (hexD (n / 16 ^ (15 - j))).toNat else .int .u8 0
theorem div16 {n : Int} (h0 : 0 ≤ n) (h1 : n < 18446744073709551616) (i : Nat) : 0 ≤ n / 16 ^ i ∧ n / 16 ^ i < 18446744073709551616 := by
  have hp : (0 : Int) < 16 ^ i := Int.pow_pos (by omega)
  refine ⟨Int.ediv_nonneg h0 (by omega), ?_⟩
  have := Int.ediv_le_self (16 ^ i) h0
  omega
theorem div16s (n : Int) (i : Nat) : n / 16 ^ i / 16 = n / 16 ^ (i + 1) := by
  have hp : (0 : Int) < 16 ^ i := Int.pow_pos (by omega)
  rw [Int.pow_succ, Int.ediv_ediv_of_nonneg (by omega)]
theorem hx_set {n : Int} {i : Nat} (hi : i < 16) (j : Nat) : setF (hxF n i) (15 - i) (.int .u8 (hexD (n / 16 ^ i)).toNat) j = hxF n (i + 1) j := by
  unfold setF hxF
  by_cases e : j = 15 - i
  · rw [decide_eq_true e, cond_true, decide_eq_true (show 16 ≤ j + (i + 1) by omega), cond_true, show 15 - j = i by omega]
  · rw [decide_eq_false e, cond_false]
    by_cases h : 16 ≤ j + i
    · rw [decide_eq_true h, decide_eq_true (show 16 ≤ j + (i + 1) by omega)]
    · rw [decide_eq_false h, decide_eq_false (show ¬ 16 ≤ j + (i + 1) by omega)]
theorem hx_end {n : Int} {i : Nat} (hi : i = 16) : (∀ j, j < 16 → ∃ m, hxF n i j = .int .u8 m) ∧ bytesOf 16 (hxF n i) = hex16 n := by
  subst hi
  have e : ∀ j, hxF n 16 j = .int .u8 (hexD (n / 16 ^ (15 - j))).toNat := fun j => by unfold hxF; rw [decide_eq_true (by omega)]; rfl
  refine ⟨fun j _ => ⟨_, e j⟩, ?_⟩
  unfold bytesOf hex16
  refine List.map_congr_left fun j _ => ?_
  rw [e]
  simp [V.toByte, hexD]
def ckHex : Ck
  | [.int .u64 n] => some (0 ≤ n ∧ n < 18446744073709551616, .str (hex16 n))
  | _ => none
theorem conHex : Con pg 46 ckHex := by
  have hct := ctN_ok pg
  intro args q r h hq
  unfold ckHex at h
  split at h
  · cases h
    rename_i n
    refine w46 (fun _ => false) [] rfl hct rfl rfl ?_
    push_cast (config := { maxSteps := 10000000 })
    refine LoopW.adj ⟨hct, fol⟩ (by kernel_rfl) [] (fun i : Nat => [(0, .int .u64 (n / 16 ^ i)), (3, .vec 5 16), (7, .int .i64 16), (8, .int .i64 i)]) (fun i => [(5, .vec 1 16 (hxF n i))]) (fun i => i ≤ 16) (fun i => 16 - i) 0 ?_ fun i hi => ?_
    · push_cast (config := { maxSteps := 10000000 })
      exact ⟨(Int.ediv_one n).symm, fun i hi => by unfold hxF; rw [decide_eq_false (by omega)]; rfl⟩
    · push_cast (config := { maxSteps := 10000000 })
      refine ⟨fun h => ?_, fun h => hx_end (by omega)⟩
      have hd := div16 hq.1 hq.2 i
      rw [andF _ hd.1 hd.2, shrF _ hd.1, div16s]
      have hj : (15 - (i : Int)).toNat = 15 - i := by omega
      have hz : hxF n i (15 - i) = .int .u8 0 := by unfold hxF; rw [decide_eq_false (by omega)]; rfl
      rw [hj, hz]
      exact ⟨⟨by omega, by omega⟩, ⟨by omega, by omega⟩, ⟨by omega, by omega⟩, by omega, ⟨by omega, by omega⟩, i + 1, by omega, by omega, ⟨rfl, by omega⟩, fun j _ => hx_set (by omega) j⟩
  · cases h
attribute [push_cast] ckHex
def ckDigest : Ck
  | [.sl n f] => some (isBy n f ∧ n ≤ 4611686018427387900, .str (digestL (bytesOf n f)))
  | _ => none
theorem conDigest : Con pg 31 ckDigest := by
  have hct := (ctA_ok conMixed (ctA_ok conHex (ctN_ok _)))
  intro args q r h hq
  unfold ckDigest at h
  split at h
  · cases h
    rename_i n f
    refine w31 (fun _ => false) [] rfl hct rfl rfl ?_
    push_cast (config := { maxSteps := 10000000 })
    exact ⟨hq, mix_b _, rfl⟩
  · cases h
attribute [push_cast] ckDigest
/- the closure of record.write: a line behind the bytes; the bytes' cell is block 2, the row of bytes block 12 -/
def catL (L a v : List UInt8) : List UInt8 := L ++ lnB2 a v
theorem catL_len (L a v : List UInt8) : (catL L a v).length = L.length + a.length + v.length + 4 := by simp [catL, lnB2]; omega
def ckLineK : List V → List Blk → Option (Prop × V × List Blk)
  | [.str a, .str v, .ptr 2 0], [.cells [.vec 12 n], .vec 1 k g] => some (k = n ∧ isBy n g ∧ n ≤ 100000000 ∧ a.length ≤ 100000000 ∧ v.length ≤ 100000000, .tup [], [.cells [.vec 12 (catL (bytesOf n g) a v).length], .vec 1 (catL (bytesOf n g) a v).length (byF (catL (bytesOf n g) a v))])
  | _, _ => none
def ckLine6 : Cf := ⟨fun | [_, _, .ptr 2 _] => [2, 12] | _ => [], ckLineK⟩
theorem conLine6 : FCon pg 27 ckLine6 := by
  have hct := ctN_ok pg
  intro args bs q r bs' h hq
  replace h : ckLineK args bs = some (q, r, bs') := h
  unfold ckLineK at h
  split at h
  · cases h
    rename_i a v n k g
    refine ⟨rfl, Nat.le_refl _, ?_⟩
    obtain ⟨rfl, hg, hk, ha, hv⟩ := hq
    show FCall pg 27 [.str a, .str v, .ptr 9002 0] [(9002, .cells [.vec 9012 k]), (9012, .vec 1 k fun i => V.shift (g i))] (.tup []) [(9002, .cells [.vec 9012 (catL (bytesOf k g) a v).length]), (9012, .vec 1 (catL (bytesOf k g) a v).length (byF (catL (bytesOf k g) a v)))]
    refine fcall_blk (hm := [(9002, .cells [.vec 9012 k]), (9012, .vec 1 k (byF (bytesOf k g)))]) ⟨rfl, ⟨⟨rfl, rfl⟩, trivial⟩, rfl, ⟨rfl, rfl, fun j hj => by show V.shift (g j) = _; rw [hg.2 j hj]; rfl⟩, trivial⟩ ?_
    have hl := bytesOf_len k g
    generalize bytesOf k g = b at hl ⊢
    subst hl
    refine fw27 (fun _ => false) [] rfl hct rfl (by simp) (by simp [hlIn, idsIn, Blk.menIn, V.menInL, V.menIn, V.flat, byF, lsF]) (by simp [V.menIn, V.menInL, idsIn]) ?_
    push_cast (config := { maxSteps := 10000000 })
    have hll : (lnB2 a v).length = a.length + 2 + v.length + 2 := by simp [lnB2]; omega
    have hcl := catL_len b a v
    have app := ByI.app (ByI.by b) (ByI.by (lnB2 a v)) rfl
    rw [hll] at app
    exact ⟨by omega, by omega, by omega, ⟨by omega, by omega⟩, by omega, by omega, app.2⟩
  · cases h
@[push_cast] theorem line6_ids (x y : V) (o : Nat) : ckLine6.ids [x, y, .ptr 2 o] = [2, 12] := rfl
@[push_cast] theorem line6_k (a v : List UInt8) (n k : Nat) (g : Nat → V) : ckLine6.k [.str a, .str v, .ptr 2 0] [.cells [.vec 12 n], .vec 1 k g] = some (k = n ∧ isBy n g ∧ n ≤ 100000000 ∧ a.length ≤ 100000000 ∧ v.length ≤ 100000000, .tup [], [.cells [.vec 12 (catL (bytesOf n g) a v).length], .vec 1 (catL (bytesOf n g) a v).length (byF (catL (bytesOf n g) a v))]) := rfl
@[push_cast] theorem vle_fn6 (f : Fn) (a b : List V) : vle (.fn f a b) (.fn f a b) = True := eq_true rfl
@[push_cast] theorem kept_by : bytesOf 8 (byF [75, 69, 80, 84, 47, 49, 13, 10]) = [75, 69, 80, 84, 47, 49, 13, 10] := rfl
@[push_cast] theorem kept_is : isBy 8 (byF [75, 69, 80, 84, 47, 49, 13, 10]) = True := eq_true (isBy_by [75, 69, 80, 84, 47, 49, 13, 10])
theorem date_le {n : Int} (h0 : 0 ≤ n) (h1 : n ≤ 253402300799) : (dateTextL n).length ≤ 6000 := by
  have h0 : 0 ≤ n / 86400 ∧ n / 86400 ≤ 2932896 := by omega
  have b := date_b h0.1 h0.2
  have l1 := wdN_b ((n / 86400 + 3) % 7).toNat
  have l2 := mnN_b (monthI (n / 86400) - 1).toNat
  have l3 := paddedL_len (n := n / 86400 - daysI (yearI (n / 86400)) (monthI (n / 86400)) + 1) (k := 2) (by omega) (by omega) (by omega) (by omega)
  have l4 := paddedL_len (n := yearI (n / 86400)) (k := 4) (by omega) (by omega) (by omega) (by omega)
  have l5 := paddedL_len (n := n % 86400 / 3600) (k := 2) (by omega) (by omega) (by omega) (by omega)
  have l6 := paddedL_len (n := n % 86400 / 60 % 60) (k := 2) (by omega) (by omega) (by omega) (by omega)
  have l7 := paddedL_len (n := n % 86400 % 60) (k := 2) (by omega) (by omega) (by omega) (by omega)
  unfold dateTextL
  simp only [List.length_append, List.length_cons, List.length_nil]
  omega
theorem kindW_le (k : Nat) : (kindW.getD k []).length ≤ 7 := by
  match k with
  | 0 | 1 | 2 | 3 | 4 => decide
  | k + 5 => simp [kindW]
theorem name_le {s : List UInt8} (h : nameL s = true) : s.length ≤ 40 := by
  simp only [nameL, Bool.and_eq_true, decide_eq_true_eq] at h; exact h.1.1.2
theorem target_le {s : List UInt8} (h : targetL s = true) : s.length ≤ 2000 := by
  simp only [targetL, Bool.and_eq_true, decide_eq_true_eq] at h; exact h.1.2
theorem rec_sz {r : Rcd} (h : checkRecL r = 0) : r.id.length ≤ 40 ∧ r.ow.length ≤ 40 ∧ r.ke.length ≤ 2000 ∧ (dateTextL r.ti).length ≤ 6000 ∧ (headsB r.hd).length ≤ 104400 ∧ r.bd.length ≤ 200000 ∧ r.hd.length ≤ 30 := by
  obtain ⟨h1, h2, h3, h4, h5, h6, h7, h8, h9, h10⟩ := rec_ok h
  refine ⟨name_le h3, ?_, target_le h7, date_le h5 h6, heads_le h9, h10, h8⟩
  rcases h4 with h4 | h4
  · rw [h4]; simp
  · exact name_le h4
theorem recP_ow {r : Rcd} (h : ¬ r.ow = []) : catL (catL (catL (catL (catL [75, 69, 80, 84, 47, 49, 13, 10] [105, 100] r.id) [111, 102] r.ow) [107, 105, 110, 100] (kindW.getD (r.ki - 1).toNat [])) [100, 97, 116, 101] (dateTextL r.ti)) [107, 101, 121] r.ke = recP r := by
  unfold recP; rw [if_neg h]; rfl
theorem recP_no {r : Rcd} (h : r.ow = []) : catL (catL (catL (catL [75, 69, 80, 84, 47, 49, 13, 10] [105, 100] r.id) [107, 105, 110, 100] (kindW.getD (r.ki - 1).toNat [])) [100, 97, 116, 101] (dateTextL r.ti)) [107, 101, 121] r.ke = recP r := by
  unfold recP; rw [if_pos h, List.append_nil]; rfl
theorem recP_le {r : Rcd} (h : checkRecL r = 0) : (recP r).length ≤ 10000 := by
  obtain ⟨z1, z2, z3, z4, z5, z6, z7⟩ := rec_sz h
  have zk := kindW_le (r.ki - 1).toNat
  by_cases e : r.ow = []
  · rw [← recP_no e]; simp only [catL_len, List.length_cons, List.length_nil]; omega
  · rw [← recP_ow e]; simp only [catL_len, List.length_cons, List.length_nil]; omega
def ckWrite : Ck
  | [.nilsl, x] => some (isC cRec x ∧ recOk (cRec.dec x) ∧ checkRecL (cRec.dec x) = 0, .sl (recB (cRec.dec x)).length (byF (recB (cRec.dec x))))
  | _ => none
theorem conWrite : Con pg 12 ckWrite := by
  have hct := (ctF_ok conLine6 (ctA_ok conKinds (ctA_ok conDateText (ctA_ok conItoa (ctA_ok conDigest (ctN_ok _))))))
  intro args q r h hq
  unfold ckWrite at h
  split at h
  · cases h
    rename_i x
    refine pcall_args (args' := [.nilsl, cRec.enc (cRec.dec x)]) ⟨VLe.refl _, hq.1, trivial⟩ ?_
    obtain ⟨-, ha, hc⟩ := hq
    generalize cRec.dec x = r at ha hc ⊢
    refine w12 (fun d => decide (d = 10006)) [.frz 12] rfl hct rfl rfl ?_
    push_cast (config := { maxSteps := 10000000 })
    obtain ⟨z1, z2, z3, z4, z5, z6, z7⟩ := rec_sz hc
    obtain ⟨y1, y2, y3, y4, y5, y6, y7, y8, y9, y10⟩ := rec_ok hc
    have zk := kindW_le (r.ki - 1).toNat
    have zp := recP_le hc
    have c8 : ([75, 69, 80, 84, 47, 49, 13, 10] : List UInt8).length = 8 := rfl
    have c2 : ([105, 100] : List UInt8).length = 2 := rfl
    rw [if_pos ⟨y5, y6⟩]
    refine ⟨by omega, fun how => ?_, fun how => ?_⟩
    · have hP := recP_ow how
      refine ⟨⟨by simp only [catL_len, List.length_cons, List.length_nil]; omega, by omega⟩, ⟨by omega, by omega⟩, ⟨by omega, by omega⟩, ⟨by simp only [catL_len, List.length_cons, List.length_nil]; omega, by omega⟩, ⟨by omega, by omega⟩, ⟨by simp only [catL_len, List.length_cons, List.length_nil]; omega, by omega⟩, ⟨by simp only [catL_len, List.length_cons, List.length_nil]; omega, by omega⟩, ?_⟩
      generalize catL (catL (catL (catL (catL [75, 69, 80, 84, 47, 49, 13, 10] [105, 100] r.id) [111, 102] r.ow) [107, 105, 110, 100] (kindW.getD (r.ki - 1).toNat [])) [100, 97, 116, 101] (dateTextL r.ti)) [107, 101, 121] r.ke = P at hP ⊢
      refine LoopW.adj ⟨hct, fol⟩ (by kernel_rfl) [] (fun t : Nat × List UInt8 => [(2, .ptr 2 0), (3, .ptr 3 0), (5, .fn (.func 27) [] [.ptr 2 0]), (46, .sl r.hd.length (lsF cHd r.hd)), (47, .int .i64 r.hd.length), (48, .int .i64 t.1)]) (fun t => [(2, .cells [.vec 12 t.2.length]), (12, .vec 1 t.2.length (byF t.2)), (3, .cells [.int .i64 r.ki, .str r.id, .str r.ow, .int .i64 r.ti, .str r.ke, .sl r.hd.length (lsF cHd r.hd), .sl r.bd.length (byF r.bd)])]) (fun t => t.1 ≤ r.hd.length ∧ t.2 ++ headsB (r.hd.drop t.1) = recP r ++ headsB r.hd) (fun t => r.hd.length - t.1) (0, P) ?_ fun t ht => ?_
      · push_cast (config := { maxSteps := 10000000 })
        exact ⟨Nat.zero_le _, congrArg (· ++ headsB r.hd) hP⟩
      · obtain ⟨i, o⟩ := t
        obtain ⟨i1, i2⟩ : i ≤ r.hd.length ∧ o ++ headsB (r.hd.drop i) = recP r ++ headsB r.hd := ht
        have hl := congrArg List.length i2
        simp only [List.length_append] at hl
        push_cast (config := { maxSteps := 10000000 })
        refine ⟨fun h => ?_, fun h => ?_⟩
        · have e := dropG (d := ⟨[], []⟩) h
          rw [e, headsB] at i2 hl
          have hx : (headB (r.hd.getD i ⟨[], []⟩)).length = (r.hd.getD i ⟨[], []⟩).name.length + 2 + (r.hd.getD i ⟨[], []⟩).value.length + 2 := by simp [headB]; omega
          simp only [List.length_append] at hl
          exact ⟨h, ⟨by omega, by omega, by omega⟩, ⟨by omega, by omega⟩, (i + 1, catL o (r.hd.getD i ⟨[], []⟩).name (r.hd.getD i ⟨[], []⟩).value), ⟨by show i + 1 ≤ r.hd.length; omega, by rw [← i2]; simp [catL, lnB2, headB]⟩, by show r.hd.length - (i + 1) < r.hd.length - i; omega, by show (i : Int) + 1 = ((i + 1 : Nat) : Int); omega, rfl, rfl, fun _ _ => rfl⟩
        · rw [List.drop_eq_nil_of_le (by omega)] at i2 hl
          simp only [headsB, List.append_nil, List.length_nil, Nat.add_zero] at i2 hl
          have hi6 := itoa_len (n := r.bd.length) (by omega)
          have hdg : (digestL r.bd).length = 16 := hex16_len _
          have hq1 := catL_len o [108, 101, 110, 103, 116, 104] (Lib.itoa r.bd.length)
          have hq2 := catL_len (catL o [108, 101, 110, 103, 116, 104] (Lib.itoa r.bd.length)) [100, 105, 103, 101, 115, 116] (digestL r.bd)
          have cl1 : ([108, 101, 110, 103, 116, 104] : List UInt8).length = 6 := rfl
          have cl2 : ([100, 105, 103, 101, 115, 116] : List UInt8).length = 6 := rfl
          have eq : catL (catL o [108, 101, 110, 103, 116, 104] (Lib.itoa r.bd.length)) [100, 105, 103, 101, 115, 116] (digestL r.bd) ++ [13, 10] ++ r.bd ++ [13, 10, 13, 10] = recB r := by
            rw [i2]; simp [recB, recQ, catL]
          generalize catL (catL o [108, 101, 110, 103, 116, 104] (Lib.itoa r.bd.length)) [100, 105, 103, 101, 115, 116] (digestL r.bd) = Q at hq2 eq ⊢
          have app : ByI (Q.length + 2 + r.bd.length + 4) (appF (Q.length + 2 + r.bd.length) (appF (Q.length + 2) (appF Q.length (byF Q) (byF [13, 10])) (byF r.bd)) (byF [13, 10, 13, 10])) (recB r) := (ByI.app (ByI.app (ByI.app (ByI.by Q) (ByI.by [13, 10]) rfl) (ByI.by r.bd) rfl) (ByI.by [13, 10, 13, 10]) rfl).eq eq
          exact ⟨⟨by omega, by omega⟩, ⟨by omega, by omega⟩, by omega, ⟨by omega, by omega⟩, ⟨by omega, by omega⟩, ⟨by omega, by omega⟩, ⟨by omega, by omega⟩, app.pure, app.1, app.2⟩
    · have hP := recP_no how
      refine ⟨⟨by omega, by omega⟩, ⟨by omega, by omega⟩, ⟨by simp only [catL_len, List.length_cons, List.length_nil]; omega, by omega⟩, ⟨by omega, by omega⟩, ⟨by simp only [catL_len, List.length_cons, List.length_nil]; omega, by omega⟩, ⟨by simp only [catL_len, List.length_cons, List.length_nil]; omega, by omega⟩, ?_⟩
      generalize catL (catL (catL (catL [75, 69, 80, 84, 47, 49, 13, 10] [105, 100] r.id) [107, 105, 110, 100] (kindW.getD (r.ki - 1).toNat [])) [100, 97, 116, 101] (dateTextL r.ti)) [107, 101, 121] r.ke = P at hP ⊢
      refine LoopW.adj ⟨hct, fol⟩ (by kernel_rfl) [] (fun t : Nat × List UInt8 => [(2, .ptr 2 0), (3, .ptr 3 0), (5, .fn (.func 27) [] [.ptr 2 0]), (46, .sl r.hd.length (lsF cHd r.hd)), (47, .int .i64 r.hd.length), (48, .int .i64 t.1)]) (fun t => [(2, .cells [.vec 12 t.2.length]), (12, .vec 1 t.2.length (byF t.2)), (3, .cells [.int .i64 r.ki, .str r.id, .str r.ow, .int .i64 r.ti, .str r.ke, .sl r.hd.length (lsF cHd r.hd), .sl r.bd.length (byF r.bd)])]) (fun t => t.1 ≤ r.hd.length ∧ t.2 ++ headsB (r.hd.drop t.1) = recP r ++ headsB r.hd) (fun t => r.hd.length - t.1) (0, P) ?_ fun t ht => ?_
      · push_cast (config := { maxSteps := 10000000 })
        exact ⟨Nat.zero_le _, congrArg (· ++ headsB r.hd) hP⟩
      · obtain ⟨i, o⟩ := t
        obtain ⟨i1, i2⟩ : i ≤ r.hd.length ∧ o ++ headsB (r.hd.drop i) = recP r ++ headsB r.hd := ht
        have hl := congrArg List.length i2
        simp only [List.length_append] at hl
        push_cast (config := { maxSteps := 10000000 })
        refine ⟨fun h => ?_, fun h => ?_⟩
        · have e := dropG (d := ⟨[], []⟩) h
          rw [e, headsB] at i2 hl
          have hx : (headB (r.hd.getD i ⟨[], []⟩)).length = (r.hd.getD i ⟨[], []⟩).name.length + 2 + (r.hd.getD i ⟨[], []⟩).value.length + 2 := by simp [headB]; omega
          simp only [List.length_append] at hl
          exact ⟨h, ⟨by omega, by omega, by omega⟩, ⟨by omega, by omega⟩, (i + 1, catL o (r.hd.getD i ⟨[], []⟩).name (r.hd.getD i ⟨[], []⟩).value), ⟨by show i + 1 ≤ r.hd.length; omega, by rw [← i2]; simp [catL, lnB2, headB]⟩, by show r.hd.length - (i + 1) < r.hd.length - i; omega, by show (i : Int) + 1 = ((i + 1 : Nat) : Int); omega, rfl, rfl, fun _ _ => rfl⟩
        · rw [List.drop_eq_nil_of_le (by omega)] at i2 hl
          simp only [headsB, List.append_nil, List.length_nil, Nat.add_zero] at i2 hl
          have hi6 := itoa_len (n := r.bd.length) (by omega)
          have hdg : (digestL r.bd).length = 16 := hex16_len _
          have hq1 := catL_len o [108, 101, 110, 103, 116, 104] (Lib.itoa r.bd.length)
          have hq2 := catL_len (catL o [108, 101, 110, 103, 116, 104] (Lib.itoa r.bd.length)) [100, 105, 103, 101, 115, 116] (digestL r.bd)
          have cl1 : ([108, 101, 110, 103, 116, 104] : List UInt8).length = 6 := rfl
          have cl2 : ([100, 105, 103, 101, 115, 116] : List UInt8).length = 6 := rfl
          have eq : catL (catL o [108, 101, 110, 103, 116, 104] (Lib.itoa r.bd.length)) [100, 105, 103, 101, 115, 116] (digestL r.bd) ++ [13, 10] ++ r.bd ++ [13, 10, 13, 10] = recB r := by
            rw [i2]; simp [recB, recQ, catL]
          generalize catL (catL o [108, 101, 110, 103, 116, 104] (Lib.itoa r.bd.length)) [100, 105, 103, 101, 115, 116] (digestL r.bd) = Q at hq2 eq ⊢
          have app : ByI (Q.length + 2 + r.bd.length + 4) (appF (Q.length + 2 + r.bd.length) (appF (Q.length + 2) (appF Q.length (byF Q) (byF [13, 10])) (byF r.bd)) (byF [13, 10, 13, 10])) (recB r) := (ByI.app (ByI.app (ByI.app (ByI.by Q) (ByI.by [13, 10]) rfl) (ByI.by r.bd) rfl) (ByI.by [13, 10, 13, 10]) rfl).eq eq
          exact ⟨⟨by omega, by omega⟩, ⟨by omega, by omega⟩, by omega, ⟨by omega, by omega⟩, ⟨by omega, by omega⟩, ⟨by omega, by omega⟩, ⟨by omega, by omega⟩, app.pure, app.1, app.2⟩
  · cases h
attribute [push_cast] ckWrite

@[push_cast] theorem vle_map (i : Nat) : vle (.map i) (.map i) = True := eq_true rfl
/- names that were seen, in a map -/
def seenM (s : List (List UInt8)) : MK → Option V
  | .str x => if s.contains x = true then some (.bool true) else none
  | _ => none
@[push_cast] theorem asB_seen (s : List (List UInt8)) (x : List UInt8) : asB false (seenM s (.str x)) = s.contains x := by
  simp only [seenM]
  by_cases h : s.contains x = true
  · rw [if_pos h]; exact h.symm
  · rw [if_neg h]; show false = _; simpa using h
@[push_cast] theorem okB_seen (s : List (List UInt8)) (k : MK) : okB (seenM s k) = True := by
  refine eq_true ?_
  unfold seenM
  split
  · split <;> exact trivial
  · exact trivial
theorem putM_seen (s : List (List UInt8)) (x : List UInt8) (l : MK) : putM (seenM s) (.str x) (.bool true) l = seenM (s ++ [x]) l := by
  unfold putM
  by_cases h : l = .str x
  · subst h
    rw [decide_eq_true rfl]
    simp only [cond_true, seenM]
    rw [if_pos (by simp)]
  · rw [decide_eq_false h]
    simp only [cond_false]
    cases l with
    | int k n => rfl
    | ss a b => rfl
    | str y =>
      have hy : y ≠ x := fun e => h (by rw [e])
      simp only [seenM]
      have : (s ++ [x]).contains y = s.contains y := by
        rw [Bool.eq_iff_iff]; simp [hy]
      rw [this]
theorem seen_nil : ∀ l, (none : Option V) = seenM [] l := fun l => by cases l <;> rfl
/-- the error of records -/
def cfGo : List (List UInt8) → Int → List Rcd → Int
  | _, m, [] => if 500000 < m then 2 else 0
  | s, m, r :: t => if ¬ checkRecL r = 0 then checkRecL r else if s.contains r.id = true then 7 else cfGo (s ++ [r.id]) (m + (recB r).length) t
def checkFileL (l : List Rcd) : Int := if 1000 < l.length then 2 else cfGo [] 0 l
def recsOk (l : List Rcd) : Prop := ∀ a ∈ l, recOk a
theorem recsOk_at {l : List Rcd} (h : recsOk l) {i : Nat} (hi : i < l.length) : recOk (l.getD i noRec) := by
  rw [List.getD_eq_getElem?_getD, List.getElem?_eq_getElem hi]; exact h _ (List.getElem_mem hi)
theorem recB_le {r : Rcd} (h : checkRecL r = 0) : (recB r).length ≤ 400000 := by
  obtain ⟨z1, z2, z3, z4, z5, z6, z7⟩ := rec_sz h
  have zp := recP_le h
  have hi6 := itoa_len (n := r.bd.length) (by omega)
  have hdg : (digestL r.bd).length = 16 := hex16_len _
  simp only [recB, recQ, lnB2, List.length_append, List.length_cons, List.length_nil]
  omega
/-- the bytes of records -/
def fileB : List Rcd → List UInt8
  | [] => []
  | r :: t => recB r ++ fileB t
theorem fileB_app (a b : List Rcd) : fileB (a ++ b) = fileB a ++ fileB b := by
  induction a with
  | nil => rfl
  | cons r t ih => simp only [List.cons_append, fileB, ih, List.append_assoc]
theorem cfGo_ok : ∀ {l : List Rcd} {s : List (List UInt8)} {m : Int}, cfGo s m l = 0 → (∀ r ∈ l, checkRecL r = 0) ∧ m + (fileB l).length ≤ 500000
  | [], s, m, h => by
    rw [cfGo] at h
    split at h
    · omega
    · exact ⟨fun r hr => (by cases hr), by simp only [fileB, List.length_nil]; omega⟩
  | r :: t, s, m, h => by
    rw [cfGo] at h
    by_cases h1 : checkRecL r = 0
    · rw [if_neg (fun x => x h1)] at h
      by_cases h2 : s.contains r.id = true
      · rw [if_pos h2] at h; omega
      · rw [if_neg h2] at h
        obtain ⟨a, b⟩ := cfGo_ok h
        refine ⟨fun x hx => ?_, by simp only [fileB, List.length_append]; omega⟩
        rcases List.mem_cons.1 hx with rfl | hx
        · exact h1
        · exact a x hx
    · rw [if_pos h1] at h; exact absurd h h1
theorem file_ok {l : List Rcd} (h : checkFileL l = 0) : (∀ r ∈ l, checkRecL r = 0) ∧ (fileB l).length ≤ 500000 ∧ l.length ≤ 1000 := by
  unfold checkFileL at h
  split at h
  · omega
  · obtain ⟨a, b⟩ := cfGo_ok h
    exact ⟨a, by omega, by omega⟩
@[push_cast] theorem lsF_rec (l : List Rcd) (i : Nat) : lsF cRec l i = .agg [.int .i64 (l.getD i noRec).ki, .str (l.getD i noRec).id, .str (l.getD i noRec).ow, .int .i64 (l.getD i noRec).ti, .str (l.getD i noRec).ke, .sl (l.getD i noRec).hd.length (lsF cHd (l.getD i noRec).hd), .sl (l.getD i noRec).bd.length (byF (l.getD i noRec).bd)] := rfl
theorem cf_app {l : List Rcd} {i : Nat} (h : i < l.length) : (l.take (i + 1)).map Rcd.id = (l.take i).map Rcd.id ++ [(l.getD i noRec).id] := by
  rw [takeG (d := noRec) h, List.map_append]; rfl

/-- does the line at a place begin with a word -/
def isL (B : List UInt8) (i : Nat) (w : List UInt8) : Bool := decide ((B.drop i).take (w.length + 2) = w ++ [58, 32])
theorem isL_pre (B : List UInt8) (i : Nat) (w : List UInt8) : hasPre ((B.drop i).take (w.length + 2)) (w ++ [58, 32]) = isL B i w := by
  unfold isL
  rw [Bool.eq_iff_iff, hasPre_iff, decide_eq_true_eq]
  constructor
  · rintro ⟨r, e⟩
    have hl := congrArg List.length e
    simp at hl
    have : r = [] := List.length_eq_zero_iff.1 (by omega)
    rw [e, this, List.append_nil]
  · intro e; exact ⟨[], by rw [e, List.append_nil]⟩

/- the calendar, by ranges -/
theorem daysI_next (y : Int) : daysI (y + 1) 1 = daysI y 1 + yearLong y := by
  rw [daysI_1, daysI_1]
  unfold yearLong leapB
  split
  · rename_i h; simp only [decide_eq_true_eq] at h; omega
  · rename_i h; simp only [decide_eq_true_eq] at h; omega
theorem daysI_month {y : Int} {m : Int} (h : 1 ≤ m) : daysI y (m + 1) = daysI y m + monthLongI y m := by
  unfold daysI
  obtain ⟨k, rfl⟩ : ∃ k : Nat, m = k + 1 := ⟨(m - 1).toNat, by omega⟩
  rw [show ((k : Int) + 1 + 1 - 1).toNat = k + 1 by omega, show ((k : Int) + 1 - 1).toNat = k by omega]
  simp only [monthsSum]; omega
theorem monthsSum_12 (y : Int) : monthsSum y 12 = yearLong y := by
  simp only [monthsSum]
  unfold monthLongI yearLong leapB
  by_cases h : y % 4 = 0 ∧ (y % 100 ≠ 0 ∨ y % 400 = 0)
  · simp [h]
  · simp [h]
theorem daysI_13 (y : Int) : daysI y 13 = daysI (y + 1) 1 := by
  rw [daysI_next, daysI_1]
  unfold daysI
  rw [show ((13 : Int) - 1).toNat = 12 from rfl, monthsSum_12]; 
theorem daysI_mono {y z : Int} (h : y < z) : daysI (y + 1) 1 ≤ daysI z 1 := by
  rw [daysI_1, daysI_1]; omega
theorem yearF_up (d : Int) : ∀ (n : Nat) (y : Int), d < daysI (yearF d n y + 1) 1 ∨ yearF d n y = y + n
  | 0, y => .inr (by simp [yearF])
  | n + 1, y => by
    simp only [yearF]
    split
    · rcases yearF_up d n (y + 1) with h | h
      · exact .inl h
      · exact .inr (by omega)
    · exact .inl (by omega)
theorem monthF_up (y d : Int) : ∀ (n : Nat) (m : Int), (12 ≤ monthF y d n m ∨ d < daysI y (monthF y d n m + 1)) ∨ monthF y d n m = m + n
  | 0, m => .inr (by simp [monthF])
  | n + 1, m => by
    simp only [monthF]
    split
    · rcases monthF_up y d n (m + 1) with h | h
      · exact .inl h
      · exact .inr (by omega)
    · exact .inl (by omega)
theorem yearI_up {d : Int} (h0 : 0 ≤ d) (h1 : d ≤ 2932896) : d < daysI (yearI d + 1) 1 := by
  have b := date_b h0 h1
  rcases yearF_up d 1000 (1970 + d / 366) with h | h
  · exact h
  · have hb := yearF_b d 1000 _ (daysI_y0 d h0 h1)
    have := daysI_step hb.2 hb.1 h0 h1
    omega
theorem yearI_is {d y : Int} (h0 : 0 ≤ d) (h1 : d ≤ 2932896) (a : daysI y 1 ≤ d) (b : d < daysI (y + 1) 1) : yearI d = y := by
  have hb := yearF_b d 1000 _ (daysI_y0 d h0 h1)
  have hu := yearI_up h0 h1
  have hl : daysI (yearI d) 1 ≤ d := hb.2
  rcases Int.lt_trichotomy (yearI d) y with h | h | h
  · have := daysI_mono h; omega
  · exact h
  · have := daysI_mono h; omega
theorem monthsSum_mono (y : Int) {i j : Nat} (h : i ≤ j) : monthsSum y i ≤ monthsSum y j := by
  induction h with
  | refl => exact Int.le_refl _
  | step _ ih => have := monthLongI_b y ((‹Nat› : Nat) + 1 : Int); simp only [monthsSum]; have := monthLongI_b y; omega
theorem daysI_mmono {y m k : Int} (h1 : 1 ≤ m) (h : m ≤ k) : daysI y m ≤ daysI y k := by
  have := monthsSum_mono y (i := (m - 1).toNat) (j := (k - 1).toNat) (by omega)
  unfold daysI; omega
theorem monthI_is {d m : Int} (h0 : 0 ≤ d) (h1 : d ≤ 2932896) (m1 : 1 ≤ m) (m2 : m ≤ 12) (a : daysI (yearI d) m ≤ d) (b : d < daysI (yearI d) (m + 1)) : monthI d = m := by
  have hd : daysI (yearI d) 1 ≤ d := (yearF_b d 1000 _ (daysI_y0 d h0 h1)).2
  have hb := monthF_b (yearI d) d 12 1 (by omega) (by omega) hd
  have hu : 12 ≤ monthI d ∨ d < daysI (yearI d) (monthI d + 1) := by
    rcases monthF_up (yearI d) d 12 1 with h | h
    · exact h
    · exact .inl (by unfold monthI; omega)
  change 1 ≤ monthI d ∧ monthI d ≤ 12 ∧ daysI (yearI d) (monthI d) ≤ d at hb
  rcases Int.lt_trichotomy (monthI d) m with h | h | h
  · rcases hu with hu | hu
    · omega
    · have := daysI_mmono (y := yearI d) (m := monthI d + 1) (k := m) (by omega) (by omega); omega
  · exact h
  · have := daysI_mmono (y := yearI d) (m := m + 1) (k := monthI d) (by omega) (by omega); omega
theorem monthI_up {d : Int} (h0 : 0 ≤ d) (h1 : d ≤ 2932896) : d < daysI (yearI d) (monthI d + 1) := by
  have hd : daysI (yearI d) 1 ≤ d := (yearF_b d 1000 _ (daysI_y0 d h0 h1)).2
  have hb := monthF_b (yearI d) d 12 1 (by omega) (by omega) hd
  change 1 ≤ monthI d ∧ monthI d ≤ 12 ∧ daysI (yearI d) (monthI d) ≤ d at hb
  rcases monthF_up (yearI d) d 12 1 with h | h
  · change 12 ≤ monthI d ∨ d < daysI (yearI d) (monthI d + 1) at h
    rcases h with h | h
    · rw [show monthI d = 12 by omega, show (12 : Int) + 1 = 13 from rfl, daysI_13]; exact yearI_up h0 h1
    · exact h
  · change monthI d = 1 + ((12 : Nat) : Int) at h; omega
theorem yearI_9999 {d : Int} (h0 : 0 ≤ d) (h1 : d ≤ 2932896) : yearI d ≤ 9999 := by
  have hd : daysI (yearI d) 1 ≤ d := (yearF_b d 1000 _ (daysI_y0 d h0 h1)).2
  rw [daysI_1] at hd; omega

theorem u8n {a b : Int} (h : a = b) : UInt8.ofNat a.toNat = UInt8.ofNat b.toNat := by rw [h]
theorem padded2 {n : Int} (h0 : 0 ≤ n) (h1 : n ≤ 99) : paddedL n 2 = twoL n := by
  obtain ⟨k, rfl⟩ : ∃ k : Nat, n = k := ⟨n.toNat, by omega⟩
  unfold paddedL twoL
  rw [itoa_nat]
  by_cases h : k < 10
  · rw [dec_small h]
    rw [show (48 + (k : Int) / 10 % 10).toNat = 48 by omega, show (48 + (k : Int) % 10).toNat = 48 + k by omega]
    rfl
  · rw [dec_step (by omega), dec_small (by omega)]
    rw [show (48 + (k : Int) / 10 % 10).toNat = 48 + k / 10 by omega, show (48 + (k : Int) % 10).toNat = 48 + k % 10 by omega]
    rfl
theorem padded4 {n : Int} (h0 : 1000 ≤ n) (h1 : n ≤ 9999) : paddedL n 4 = twoL (n / 100) ++ twoL n := by
  obtain ⟨k, rfl⟩ : ∃ k : Nat, n = k := ⟨n.toNat, by omega⟩
  unfold paddedL twoL
  rw [itoa_nat, dec_step (by omega), dec_step (n := k / 10) (by omega), dec_step (n := k / 10 / 10) (by omega), dec_small (by omega)]
  rw [show (48 + (k : Int) / 100 / 10 % 10).toNat = 48 + k / 10 / 10 / 10 by omega, show (48 + (k : Int) / 100 % 10).toNat = 48 + k / 10 / 10 % 10 by omega, show (48 + (k : Int) / 10 % 10).toNat = 48 + k / 10 % 10 by omega, show (48 + (k : Int) % 10).toNat = 48 + k % 10 by omega]
  rfl
theorem dayName (d : Int) : List.take ((3 * ((d + 4) % 7) + 3).toNat - (3 * ((d + 4) % 7)).toNat) (List.drop (3 * ((d + 4) % 7)).toNat ([83, 117, 110, 77, 111, 110, 84, 117, 101, 87, 101, 100, 84, 104, 117, 70, 114, 105, 83, 97, 116] : List UInt8)) = wdN.getD ((d + 3) % 7).toNat [] := by
  rcases (by omega : d % 7 = 0 ∨ d % 7 = 1 ∨ d % 7 = 2 ∨ d % 7 = 3 ∨ d % 7 = 4 ∨ d % 7 = 5 ∨ d % 7 = 6) with h | h | h | h | h | h | h
  · rw [show (d + 4) % 7 = 4 by omega, show (d + 3) % 7 = 3 by omega]; rfl
  · rw [show (d + 4) % 7 = 5 by omega, show (d + 3) % 7 = 4 by omega]; rfl
  · rw [show (d + 4) % 7 = 6 by omega, show (d + 3) % 7 = 5 by omega]; rfl
  · rw [show (d + 4) % 7 = 0 by omega, show (d + 3) % 7 = 6 by omega]; rfl
  · rw [show (d + 4) % 7 = 1 by omega, show (d + 3) % 7 = 0 by omega]; rfl
  · rw [show (d + 4) % 7 = 2 by omega, show (d + 3) % 7 = 1 by omega]; rfl
  · rw [show (d + 4) % 7 = 3 by omega, show (d + 3) % 7 = 2 by omega]; rfl
end Go.Abs
