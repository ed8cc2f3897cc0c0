/- what functions of this program compute: contracts, each a function's own -/
import Derived.Test.YtdinkjgcpkcnaaaGreatDoorAbsK2
import Derived.Test.YtdinkjgcpkcnaaaGreatDoorAbsFacts
import Derived.Test.YtdinkjgcpkcnaaaGreatDoorAbsF4
import Derived.Test.YtdinkjgcpkcnaaaGreatDoorAbsShelf
import Derived.Lib.SplitLaws
import Derived.Lib.SlTrimSet
import Derived.Lib.IndexMore
import Derived.Lib.Atoi
import Derived.Lib.Itoa
import Derived.Lib.ItoaNum
import Derived.Lib.AtoiErrMem
import Derived.Lib.Join
import Derived.Lib.Repeat
import Derived.Lib.ItoaLen
namespace Go.Abs
open Go Go.Proofs
set_option maxHeartbeats 4000000
set_option maxRecDepth 100000
set_option linter.unusedVariables false
set_option linter.unusedSimpArgs false
def idxI (l : List Int) (w : Int) : Int := match l.findIdx? (fun x => decide (w = x)) with
  | some k => k
  | none => -1
theorem idxI_at {l : List Int} {w : Int} {i : Nat} (hi : i < l.length) (h : w = l.getD i 0) (hn : ∀ j, j < i → ¬ w = l.getD j 0) : idxI l w = i := by
  unfold idxI
  have : l.findIdx? (fun x => decide (w = x)) = some i := by
    rw [List.findIdx?_eq_some_iff_getElem]
    refine ⟨hi, ?_, fun j hj => ?_⟩
    · rw [List.getD_eq_getElem?_getD, List.getElem?_eq_getElem hi] at h; simpa using h
    · have h1 := hn j hj
      rw [List.getD_eq_getElem?_getD, List.getElem?_eq_getElem (by omega)] at h1
      simpa using h1
  rw [this]
theorem idxI_no {l : List Int} {w : Int} (hn : ∀ j, j < l.length → ¬ w = l.getD j 0) : idxI l w = -1 := by
  unfold idxI
  have : l.findIdx? (fun x => decide (w = x)) = none := by
    rw [List.findIdx?_eq_none_iff]
    intro x hx
    obtain ⟨j, hj, rfl⟩ := List.getElem_of_mem hx
    have h1 := hn j hj
    rw [List.getD_eq_getElem?_getD, List.getElem?_eq_getElem hj] at h1
    simpa using h1
  rw [this]
theorem idxI_has (l : List Int) (w : Int) : decide (0 ≤ idxI l w) = decide (w ∈ l) := by
  unfold idxI
  cases h : l.findIdx? (fun x => decide (w = x)) with
  | none =>
    rw [List.findIdx?_eq_none_iff] at h
    rw [decide_eq_false (by omega : ¬ (0 : Int) ≤ -1), decide_eq_false]
    intro hc
    have := h w hc
    simp at this
  | some k =>
    rw [List.findIdx?_eq_some_iff_getElem] at h
    obtain ⟨hk, h1, _⟩ := h
    have e : w = l[k] := by simpa using h1
    have hm : w ∈ l := by rw [e]; exact List.getElem_mem hk
    rw [decide_eq_true hm]
    exact decide_eq_true (Int.natCast_nonneg k)
def ckIdxI : Ck
  | [.sl n f, .int .i64 w] => some (isLs cInt n f ∧ n ≤ 4611686018427387904, .int .i64 (idxI (lsOf cInt n f) w))
  | _ => none
theorem conIdxI : Con pg 81 ckIdxI := by
  have hct := ctN_ok pg
  intro args q r h hq
  unfold ckIdxI at h
  split at h
  · cases h
    rename_i n f w
    refine pcall_args (args' := [.sl (lsOf cInt n f).length (lsF cInt (lsOf cInt n f)), .int .i64 w]) ⟨isLs.vle hq.1, VLe.refl _, trivial⟩ ?_
    have hn : (lsOf cInt n f).length ≤ 4611686018427387904 := by rw [lsOf_len]; exact hq.2
    generalize lsOf cInt n f = l at hn ⊢
    refine w81 (fun _ => false) [] rfl hct rfl rfl ?_
    push_cast (config := { maxSteps := 10000000 })
    refine LoopW.adj ⟨hct, fol⟩ (by kernel_rfl) [] (fun i : Nat => [(0, .sl l.length (lsF cInt l)), (1, .int .i64 w), (7, .int .i64 l.length), (8, .int .i64 i)]) (fun _ => []) (fun i => i ≤ l.length ∧ ∀ j, j < i → ¬ w = l.getD j 0) (fun i => l.length - i) 0 ?_ fun i hi => ?_
    · push_cast (config := { maxSteps := 10000000 })
      exact Nat.zero_le _
    · push_cast (config := { maxSteps := 10000000 })
      obtain ⟨h1, h2⟩ := hi
      refine ⟨fun h => ⟨h, fun h3 => (idxI_at h h3 h2).symm, fun h3 => ⟨by omega, i + 1, ⟨by omega, fun j hj => ?_⟩, by omega, by omega⟩⟩, fun h => (idxI_no fun j hj => h2 j (by omega)).symm⟩
      by_cases e : j = i
      · subst e; exact h3
      · exact h2 j (by omega)
  · cases h
attribute [push_cast] ckIdxI
def ckCtnI : Ck
  | [.sl n f, .int .i64 w] => some (isLs cInt n f ∧ n ≤ 4611686018427387904, .bool (decide (w ∈ lsOf cInt n f)))
  | _ => none
theorem conCtnI : Con pg 50 ckCtnI := by
  have hct := (ctA_ok conIdxI (ctN_ok _))
  intro args q r h hq
  unfold ckCtnI at h
  split at h
  · cases h
    rename_i n f w
    refine w50 (fun _ => false) [] rfl hct rfl rfl ?_
    push_cast (config := { maxSteps := 10000000 })
    exact ⟨hq, idxI_has _ _⟩
  · cases h
attribute [push_cast] ckCtnI
def ckFirst : Ck
  | [.sl n f, .str name] => some (isLs cHd n f ∧ hdsOk (lsOf cHd n f) ∧ n ≤ 1000000, .tup [.str ((valuesL (lsOf cHd n f) name).getD 0 []), .bool (decide (0 < (valuesL (lsOf cHd n f) name).length))])
  | _ => none
theorem conFirst : Con pg 51 ckFirst := by
  have hct := (ctA_ok conValues (ctN_ok _))
  intro args q r h hq
  unfold ckFirst at h
  split at h
  · cases h
    rename_i n f name
    refine pcall_args (args' := [.sl (lsOf cHd n f).length (lsF cHd (lsOf cHd n f)), .str name]) ⟨isLs.vle hq.1, VLe.refl _, trivial⟩ ?_
    obtain ⟨-, h1, h2⟩ := hq
    have hlen : (lsOf cHd n f).length = n := lsOf_len n f
    rw [← hlen] at h2
    generalize lsOf cHd n f = l at h1 h2 ⊢
    refine w51 (fun _ => false) [] rfl hct rfl rfl ?_
    push_cast (config := { maxSteps := 10000000 })
    refine ⟨⟨h1, h2⟩, fun h => ?_, fun h => ?_⟩
    · have : (valuesL l name).length = 0 := by omega
      rw [List.length_eq_zero_iff.1 this]; exact ⟨rfl, rfl⟩
    · exact ⟨by omega, (decide_eq_true (by omega)).symm⟩
  · cases h
attribute [push_cast] ckFirst
def ckPlain : Ck
  | [.agg [.str sc, .str ho, .str po, .str pa, .str qu, .bool hq, .str fr, .bool hf]] => some (checkAdrL ⟨sc, ho, po, pa, qu, hq, fr, hf⟩ = 0, .str (plainA ⟨sc, ho, po, pa, qu, hq, fr, hf⟩))
  | _ => none
theorem conPlain : Con pg 13 ckPlain := by
  have hct := (ctA_ok conNormAF (ctA_ok conTextA (ctN_ok _)))
  intro args q r h hq
  unfold ckPlain at h
  split at h
  · cases h
    rename_i sc ho po pa qu hq1 fr hf
    refine w13 (fun _ => false) [] rfl hct rfl rfl ?_
    push_cast (config := { maxSteps := 10000000 })
    generalize ea : (⟨sc, ho, po, pa, qu, hq1, fr, hf⟩ : Adr) = b at *
    obtain ⟨rfl, rfl, rfl, rfl, rfl, rfl, rfl, rfl⟩ : sc = b.sc ∧ ho = b.ho ∧ po = b.po ∧ pa = b.pa ∧ qu = b.qu ∧ hq1 = b.hq ∧ fr = b.fr ∧ hf = b.hf := by subst ea; exact ⟨rfl, rfl, rfl, rfl, rfl, rfl, rfl, rfl⟩
    have e1 : plainA b = wrL (if checkAdrL (normA b) = 0 then normA b else b) := rfl
    have o1 := ok_sz hq
    have o2 := norm_ok hq
    refine ⟨hq, fun h => ⟨o1, ?_⟩, fun h => ?_⟩
    · rw [e1, if_pos hq, if_neg h]
    · rw [if_pos h] at e1
      rw [if_pos h, show (⟨(normA b).sc, (normA b).ho, (normA b).po, (normA b).pa, (normA b).qu, (normA b).hq, (normA b).fr, (normA b).hf⟩ : Adr) = normA b from rfl, if_pos h, e1]
      exact ⟨o2, rfl⟩
  · cases h
attribute [push_cast] ckPlain
theorem resA_ok {b : Adr} {r : List UInt8} (h : (resA b r).2 = 0) : adrOk (resA b r).1 := by
  have no : adrOk noAdr := by unfold adrOk noAdr; simp
  unfold resA at h ⊢
  split
  · exact no
  · split
    · exact no
    · split
      · exact no
      · split
        · exact no
        · rename_i k
          have k : checkAdrL (res0 b (trimA r)).1 = 0 := by simpa using k
          obtain ⟨y1, y2, y3, y4, y5, y6, y7, y8⟩ := check_sz k
          have := undotL_len (res0 b (trimA r)).1.pa
          exact ⟨by show (res0 b (trimA r)).1.sc.length ≤ _; omega, by show (res0 b (trimA r)).1.ho.length ≤ _; omega, by show (res0 b (trimA r)).1.po.length ≤ _; omega, by show (undotL _).length ≤ _; omega, by show (res0 b (trimA r)).1.qu.length ≤ _; omega, by show (res0 b (trimA r)).1.fr.length ≤ _; omega⟩
def ckLeads : Ck
  | [.agg [.int .i64 st, .str re, .sl n f, x], .agg [.str sc, .str ho, .str po, .str pa, .str qu, .bool hq, .str fr, .bool hf]] => some (isLs cHd n f ∧ hdsOk (lsOf cHd n f) ∧ n ≤ 1000000 ∧ adrOk ⟨sc, ho, po, pa, qu, hq, fr, hf⟩, .tup [cAdr.enc ((leadA st (lsOf cHd n f) ⟨sc, ho, po, pa, qu, hq, fr, hf⟩).getD noAdr), .bool (leadA st (lsOf cHd n f) ⟨sc, ho, po, pa, qu, hq, fr, hf⟩).isSome])
  | _ => none
theorem conLeads : Con pg 14 ckLeads := by
  have hct := (ctA_ok conCtnI (ctA_ok conFirst (ctA_ok conResolve (ctA_ok conCheckAdr (ctN_ok _)))))
  intro args q r h hq
  unfold ckLeads at h
  split at h
  · cases h
    rename_i st re n f x sc ho po pa qu hq1 fr hf
    refine w14 (fun _ => false) [] rfl hct rfl rfl ?_
    push_cast (config := { maxSteps := 10000000 })
    obtain ⟨h1, h2, h3, h4⟩ := hq
    have hI : LsI cInt 5 (litF [V.int IntKind.i64 301, V.int IntKind.i64 302, V.int IntKind.i64 303, V.int IntKind.i64 307, V.int IntKind.i64 308]) [301, 302, 303, 307, 308] := ⟨rfl, fun i hi => by
      match i, hi with
      | 0, _ => rfl
      | 1, _ => rfl
      | 2, _ => rfl
      | 3, _ => rfl
      | 4, _ => rfl⟩
    rw [hI.of]
    generalize ea : (⟨sc, ho, po, pa, qu, hq1, fr, hf⟩ : Adr) = b at *
    obtain ⟨rfl, rfl, rfl, rfl, rfl, rfl, rfl, rfl⟩ : sc = b.sc ∧ ho = b.ho ∧ po = b.po ∧ pa = b.pa ∧ qu = b.qu ∧ hq1 = b.hq ∧ fr = b.fr ∧ hf = b.hf := by subst ea; exact ⟨rfl, rfl, rfl, rfl, rfl, rfl, rfl, rfl⟩
    have hr : st ∈ [301, 302, 303, 307, 308] ↔ redL st = true := by
      unfold redL
      simp only [List.mem_cons, List.mem_nil_iff, or_false, Bool.or_eq_true, decide_eq_true_eq, or_assoc]
    simp only [hr]
    have hv : ∀ v ∈ valuesL (lsOf cHd n f) wLoc, v.length ≤ 140737488355328 := fun v hv => by
      unfold valuesL at hv
      obtain ⟨x, hx, rfl⟩ := List.mem_map.1 hv
      exact (h2 x (List.mem_filter.1 hx).1).2
    generalize hL : leadA st (lsOf cHd n f) b = L
    rw [show ([108, 111, 99, 97, 116, 105, 111, 110] : List UInt8) = wLoc from rfl]
    unfold leadA at hL
    generalize valuesL (lsOf cHd n f) wLoc = W at *
    refine ⟨hI.is, fun g => ?_, fun g => ⟨⟨h1, h2, h3⟩, fun g2 => ?_, fun g2 => ?_⟩⟩
    · rw [if_pos (by simpa using g)] at hL
      subst hL; exact ⟨⟨rfl, rfl, rfl, rfl, rfl, rfl, rfl, rfl⟩, rfl⟩
    · have : W = [] := List.length_eq_zero_iff.1 (by omega)
      rw [if_neg (by rw [g]; simp), this] at hL
      subst hL; exact ⟨⟨rfl, rfl, rfl, rfl, rfl, rfl, rfl, rfl⟩, rfl⟩
    · rw [if_neg (by rw [g]; simp)] at hL
      obtain ⟨v, W', rfl⟩ : ∃ v W', W = v :: W' := by
        cases W with
        | nil => simp at g2
        | cons v W' => exact ⟨v, W', rfl⟩
      have hv := hv v (by simp)
      rw [show (v :: W').getD 0 [] = v from rfl]
      have ro := resA_ok (b := b) (r := v)
      have hL : L = if (resA b v).2 = 0 then (if checkAdrL (withFr (resA b v).1 b) = 0 then some (withFr (resA b v).1 b) else none) else none := hL.symm
      generalize resA b v = o at *
      rw [show (⟨o.1.sc, o.1.ho, o.1.po, o.1.pa, o.1.qu, o.1.hq, o.1.fr, o.1.hf⟩ : Adr) = o.1 from rfl]
      refine ⟨⟨h4, hv⟩, fun k => ?_, fun k => ⟨fun k2 => ?_, fun k2 => ?_⟩⟩
      · rw [if_neg k] at hL
        subst hL; exact ⟨⟨rfl, rfl, rfl, rfl, rfl, rfl, rfl, rfl⟩, rfl⟩
      · have ro := ro k
        rw [if_pos k] at hL
        have ew : withFr o.1 b = ⟨o.1.sc, o.1.ho, o.1.po, o.1.pa, o.1.qu, o.1.hq, b.fr, b.hf⟩ := by unfold withFr; rw [if_neg (by rw [k2]; simp)]
        rw [ew] at hL
        refine ⟨⟨ro.1, ro.2.1, ro.2.2.1, ro.2.2.2.1, ro.2.2.2.2.1, h4.2.2.2.2.2⟩, fun k3 => ?_, fun k3 => ?_⟩
        · rw [if_neg k3] at hL
          subst hL; exact ⟨⟨rfl, rfl, rfl, rfl, rfl, rfl, rfl, rfl⟩, rfl⟩
        · rw [if_pos k3] at hL
          subst hL; exact ⟨⟨rfl, rfl, rfl, rfl, rfl, rfl, rfl, rfl⟩, rfl⟩
      · have ro := ro k
        rw [if_pos k] at hL
        have ew : withFr o.1 b = o.1 := by unfold withFr; rw [if_pos k2]
        rw [ew] at hL
        refine ⟨ro, fun k3 => ?_, fun k3 => ?_⟩
        · rw [if_neg k3] at hL
          subst hL; exact ⟨⟨rfl, rfl, rfl, rfl, rfl, rfl, rfl, rfl⟩, rfl⟩
        · rw [if_pos k3] at hL
          subst hL; exact ⟨⟨rfl, rfl, rfl, rfl, rfl, rfl, rfl, rfl⟩, rfl⟩
  · cases h
attribute [push_cast] ckLeads

def idxL (l : List (List UInt8)) (w : List UInt8) : Int := match l.findIdx? (· == w) with
  | some k => k
  | none => -1
theorem idxL_at {l : List (List UInt8)} {w : List UInt8} {i : Nat} (hi : i < l.length) (h : w = l.getD i []) (hn : ∀ j, j < i → ¬ w = l.getD j []) : idxL l w = i := by
  unfold idxL
  have : l.findIdx? (· == w) = some i := by
    rw [List.findIdx?_eq_some_iff_getElem]
    refine ⟨hi, ?_, fun j hj => ?_⟩
    · rw [List.getD_eq_getElem?_getD, List.getElem?_eq_getElem hi] at h; simp [h]
    · have h1 := hn j hj
      rw [List.getD_eq_getElem?_getD, List.getElem?_eq_getElem (by omega)] at h1
      simp only [Option.getD_some] at h1
      simp only [Bool.not_eq_true, beq_eq_false_iff_ne]
      exact fun e => h1 e.symm
  rw [this]
theorem idxL_no {l : List (List UInt8)} {w : List UInt8} (hn : ∀ j, j < l.length → ¬ w = l.getD j []) : idxL l w = -1 := by
  unfold idxL
  have : l.findIdx? (· == w) = none := by
    rw [List.findIdx?_eq_none_iff]
    intro x hx
    obtain ⟨j, hj, rfl⟩ := List.getElem_of_mem hx
    have h1 := hn j hj
    rw [List.getD_eq_getElem?_getD, List.getElem?_eq_getElem hj] at h1
    simp only [Option.getD_some] at h1
    exact beq_eq_false_iff_ne.2 fun e => h1 e.symm
  rw [this]
def ckIndexStr : Ck
  | [.sl n f, .str w] => some (isLs cStr n f ∧ n ≤ 4611686018427387904, .int .i64 (idxL (lsOf cStr n f) w))
  | _ => none
theorem conIndexStr : Con pg 53 ckIndexStr := by
  have hct := ctN_ok pg
  intro args q r h hq
  unfold ckIndexStr at h
  split at h
  · cases h
    rename_i n f w
    refine pcall_args (args' := [.sl (lsOf cStr n f).length (lsF cStr (lsOf cStr n f)), .str w]) ⟨isLs.vle hq.1, VLe.refl _, trivial⟩ ?_
    have hn : (lsOf cStr n f).length ≤ 4611686018427387904 := by rw [lsOf_len]; exact hq.2
    generalize lsOf cStr n f = a at hn ⊢
    refine w53 (fun _ => false) [] rfl hct rfl rfl ?_
    push_cast (config := { maxSteps := 10000000 })
    refine LoopW.adj ⟨hct, fol⟩ (by kernel_rfl) [] (fun i : Nat => [(0, .sl a.length (lsF cStr a)), (1, .str w), (7, .int .i64 a.length), (8, .int .i64 i)]) (fun _ => []) (fun i => i ≤ a.length ∧ ∀ j, j < i → ¬ w = a.getD j []) (fun i => a.length - i) 0 ?_ fun i hi => ?_
    · push_cast (config := { maxSteps := 10000000 })
      exact Nat.zero_le _
    · push_cast (config := { maxSteps := 10000000 })
      obtain ⟨h1, h2⟩ := hi
      refine ⟨fun h => ⟨h, fun h3 => (idxL_at h h3 h2).symm, fun h3 => ⟨by omega, i + 1, ⟨by omega, fun j hj => ?_⟩, by omega, by omega⟩⟩, fun h => (idxL_no fun j hj => h2 j (by omega)).symm⟩
      by_cases e : j = i
      · subst e; exact h3
      · exact h2 j (by omega)
  · cases h
attribute [push_cast] ckIndexStr

theorem idxC_has (l : List (List UInt8)) (w : List UInt8) : decide (0 ≤ idxL l w) = l.contains w := by
  unfold idxL
  cases h : l.findIdx? (· == w) with
  | none =>
    rw [List.findIdx?_eq_none_iff] at h
    have : l.contains w = false := by
      rw [Bool.eq_false_iff]
      intro hc
      rw [List.contains_iff_mem] at hc
      have := h w hc
      simp at this
    rw [this]; rfl
  | some k =>
    rw [List.findIdx?_eq_some_iff_getElem] at h
    obtain ⟨hk, h1, _⟩ := h
    have : l.contains w = true := by
      rw [List.contains_iff_mem]
      have e := beq_iff_eq.1 h1
      rw [← e]; exact List.getElem_mem hk
    rw [this]
    exact decide_eq_true (Int.natCast_nonneg k)
def ckCtnS : Ck
  | [.sl n f, .str w] => some (isLs cStr n f ∧ n ≤ 4611686018427387904, .bool ((lsOf cStr n f).contains w))
  | _ => none
theorem conCtnS : Con pg 15 ckCtnS := by
  have hct := (ctA_ok conIndexStr (ctN_ok _))
  intro args q r h hq
  unfold ckCtnS at h
  split at h
  · cases h
    rename_i n f w
    refine w15 (fun _ => false) [] rfl hct rfl rfl ?_
    push_cast (config := { maxSteps := 10000000 })
    exact ⟨hq, idxC_has _ _⟩
  · cases h
attribute [push_cast] ckCtnS

theorem headsL100 {l : List Hd} (h : checkHeadsL l = 0) : l.length ≤ 100 := by
  unfold checkHeadsL at h
  split at h
  · cases h
  · omega
def anssOk (l : List Ans) : Prop := ∀ a ∈ l, ansOk a
def ckFollow : Ck
  | [.agg [.str sc, .str ho, .str po, .str pa, .str qu, .bool hq, .str fr, .bool hf], .sl n f, .int .i64 m] => some (adrOk ⟨sc, ho, po, pa, qu, hq, fr, hf⟩ ∧ isLs cAns n f ∧ anssOk (lsOf cAns n f) ∧ n ≤ 140737488355328,
      .tup [.sl (if folE ⟨sc, ho, po, pa, qu, hq, fr, hf⟩ (lsOf cAns n f) m = 0 then (folL ⟨sc, ho, po, pa, qu, hq, fr, hf⟩ (lsOf cAns n f) m).1 else []).length (lsF cAdr (if folE ⟨sc, ho, po, pa, qu, hq, fr, hf⟩ (lsOf cAns n f) m = 0 then (folL ⟨sc, ho, po, pa, qu, hq, fr, hf⟩ (lsOf cAns n f) m).1 else [])), .bool (decide (folE ⟨sc, ho, po, pa, qu, hq, fr, hf⟩ (lsOf cAns n f) m = 0) && (folL ⟨sc, ho, po, pa, qu, hq, fr, hf⟩ (lsOf cAns n f) m).2), .int .i64 (folE ⟨sc, ho, po, pa, qu, hq, fr, hf⟩ (lsOf cAns n f) m)])
  | _ => none
theorem conFollow : Con pg 5 ckFollow := by
  have hct := (ctA_ok conCheckAdr (ctA_ok conCheckTop (ctA_ok conPlain (ctA_ok conLeads (ctA_ok conCtnS (ctN_ok _))))))
  intro args q r h hq
  unfold ckFollow at h
  split at h
  · cases h
    rename_i sc ho po pa qu hq1 fr hf n f m
    refine pcall_args (args' := [.agg [.str sc, .str ho, .str po, .str pa, .str qu, .bool hq1, .str fr, .bool hf], .sl (lsOf cAns n f).length (lsF cAns (lsOf cAns n f)), .int .i64 m]) ⟨VLe.refl _, isLs.vle hq.2.1, VLe.refl _, trivial⟩ ?_
    obtain ⟨hx, -, hl, hn⟩ := hq
    have hlen : (lsOf cAns n f).length = n := lsOf_len n f
    rw [← hlen] at hn
    generalize lsOf cAns n f = l at hl hn ⊢
    generalize ea : (⟨sc, ho, po, pa, qu, hq1, fr, hf⟩ : Adr) = b at *
    obtain ⟨rfl, rfl, rfl, rfl, rfl, rfl, rfl, rfl⟩ : sc = b.sc ∧ ho = b.ho ∧ po = b.po ∧ pa = b.pa ∧ qu = b.qu ∧ hq1 = b.hq ∧ fr = b.fr ∧ hf = b.hf := by subst ea; exact ⟨rfl, rfl, rfl, rfl, rfl, rfl, rfl, rfl⟩
    refine w5 (fun d => decide (d = 43 ∨ d = 50)) [.frzIf 43 43] rfl hct rfl rfl ?_
    push_cast (config := { maxSteps := 10000000 })
    rw [show (⟨b.sc, b.ho, b.po, b.pa, b.qu, b.hq, b.fr, b.hf⟩ : Adr) = b from rfl]
    refine ⟨hx, fun h => ?_, fun h => ⟨fun h2 => ?_, fun h2 => ?_⟩⟩
    · have e : folE b l m = checkAdrL b := by unfold folE; rw [if_neg h]
      rw [e, if_neg h, decide_eq_false h]; exact ⟨rfl, rfl, rfl⟩
    · have e : folE b l m = 1 := by unfold folE; rw [if_pos h, if_pos h2]
      rw [e]; exact ⟨rfl, rfl, rfl⟩
    have eF : folE b l m = topsE l := by unfold folE; rw [if_pos h, if_neg (by omega)]
    rw [eF]
    refine LoopW.adj ⟨hct, fol⟩ (by kernel_rfl) [] (fun i : Nat => [(1, .sl l.length (lsF cAns l)), (2, .int .i64 m), (3, .ptr 3 0), (30, .sl l.length (lsF cAns l)), (31, .int .i64 l.length), (32, .int .i64 i)]) (fun _ => [(3, .cells (cAdr.enc b).flat)]) (fun i => i ≤ l.length ∧ topsE (l.drop i) = topsE l ∧ ∀ j, j < i → (l.getD j noAns).hd.length ≤ 100) (fun i => l.length - i) 0 ?_ fun i hi => ?_
    · push_cast (config := { maxSteps := 10000000 })
      exact Nat.zero_le _
    · obtain ⟨i1, i2, i3⟩ := hi
      push_cast (config := { maxSteps := 10000000 })
      have dn : ∀ j, l.getD j ⟨0, [], [], []⟩ = l.getD j noAns := fun _ => rfl
      refine ⟨fun hlt => ?_, fun hge => ?_⟩
      · rw [dropG (d := noAns) hlt, topsE] at i2
        have ok := hl _ (mem_at (d := noAns) hlt)
        have i3 : ∀ j, j < i → (l.getD j noAns).hd.length ≤ 100 := i3
        generalize hA : l.getD i noAns = A at *
        refine ⟨hlt, ⟨ok.1, ok.2.1⟩, fun k => ?_, fun k => ⟨by omega, i + 1, ⟨by omega, ?_, fun j hj => ?_⟩, by omega, by omega⟩⟩
        · rw [if_neg k] at i2
          rw [if_neg (by omega), decide_eq_false (by omega)]
          exact ⟨rfl, rfl, i2⟩
        · rw [if_pos k] at i2; exact i2
        · by_cases e : j = i
          · subst e
            rw [hA]
            unfold checkTopL at k
            split at k
            · cases k
            · split at k
              · exact headsL100 k
              · cases k
          · exact i3 j (by omega)
      have e0 : topsE l = 0 := by rw [List.drop_eq_nil_of_le (by omega)] at i2; exact i2.symm
      have i3 : ∀ j, j < l.length → (l.getD j noAns).hd.length ≤ 100 := fun j hj => i3 j (by omega)
      rw [if_pos e0, e0]
      refine ⟨fun k => ?_, fun k => ⟨h, ?_⟩⟩
      · have hz : l = [] := List.length_eq_zero_iff.1 (by omega)
        have eL : folL b l m = ([b], true) := by unfold folL; rw [if_pos hz]
        rw [eL]
        refine ⟨fun j hj => ?_, ⟨rfl, fun j hj => ?_⟩, rfl, rfl⟩
        · obtain rfl : j = 0 := by omega
          rfl
        · obtain rfl : j = 0 := by omega
          rfl
      have eL : folL b l m = folG m b [b] l := by unfold folL; rw [if_neg (fun e => k (by rw [e]; rfl))]
      rw [eL]
      refine LoopW.adj ⟨hct, fol⟩ (by kernel_rfl) [] (fun t : Nat × Adr × List Adr => [(2, .int .i64 m), (3, .ptr 3 0), (13, .vec 43 t.2.2.length), (14, .vec 50 t.2.2.length), (51, .sl l.length (lsF cAns l)), (52, .int .i64 l.length), (53, .int .i64 t.1)]) (fun t => [(3, .cells (cAdr.enc t.2.1).flat), (43, .vec 8 t.2.2.length (lsF cAdr t.2.2)), (50, .vec 1 t.2.2.length (lsF cStr (t.2.2.map plainA)))]) (fun t => t.1 ≤ l.length ∧ checkAdrL t.2.1 = 0 ∧ (t.2.2.length : Int) ≤ m + 1 ∧ 1 ≤ t.2.2.length ∧ folG m t.2.1 t.2.2 (l.drop t.1) = folG m b [b] l) (fun t => l.length - t.1) (0, b, [b]) ?_ fun t ht => ?_
      · push_cast (config := { maxSteps := 10000000 })
        refine ⟨⟨Nat.zero_le _, h, by omega⟩, fun j hj => ?_, fun j hj => ?_⟩
        · obtain rfl : j = 0 := by omega
          rfl
        · obtain rfl : j = 0 := by omega
          rfl
      · obtain ⟨i, f, out⟩ := t
        obtain ⟨j1, j2, j3, j4, j5⟩ := ht
        push_cast (config := { maxSteps := 10000000 })
        rw [show (⟨f.sc, f.ho, f.po, f.pa, f.qu, f.hq, f.fr, f.hf⟩ : Adr) = f from rfl]
        refine ⟨fun hlt => ?_, fun hge => ?_⟩
        · have ok := hl _ (mem_at (d := noAns) hlt)
          have ih := i3 i hlt
          rw [dropG (d := noAns) hlt, folG] at j5
          generalize l.getD i noAns = A at *
          refine ⟨hlt, ⟨ok.1, by omega, ok_sz j2⟩, ?_⟩
          cases hL : leadA A.st A.hd f with
          | none =>
            rw [hL] at j5
            have j5 : (out, true) = folG m b [b] l := j5
            rw [← j5]
            exact ⟨fun _ => ⟨⟨rfl, fun _ _ => rfl⟩, rfl⟩, fun z => by cases z⟩
          | some x =>
            rw [hL] at j5
            have hx := lead_ok hL
            have j5 : (if m < (out.length : Int) then (out, false) else if plainA x ∈ out.map plainA then (out ++ [x], false) else folG m x (out ++ [x]) (l.drop (i + 1))) = folG m b [b] l := j5
            rw [show (some x).getD noAdr = x from rfl, show (⟨x.sc, x.ho, x.po, x.pa, x.qu, x.hq, x.fr, x.hf⟩ : Adr) = x from rfl]
            refine ⟨fun z => absurd z (by simp), fun _ => ?_⟩
            refine ⟨fun z => ?_, fun z => ?_⟩
            · rw [if_pos z] at j5
              rw [← j5]
              exact ⟨⟨rfl, fun _ _ => rfl⟩, rfl⟩
            rw [if_neg z] at j5
            have lS : (fun i => V.str ((List.map plainA out).getD i [])) = lsF cStr (out.map plainA) := rfl
            have lO : lsOf cStr out.length (lsF cStr (out.map plainA)) = out.map plainA := by
              have := lsOf_ls (c := cStr) (out.map plainA)
              rwa [List.length_map] at this
            have lI : isLs cStr out.length (lsF cStr (out.map plainA)) := by
              have := isLs_ls (c := cStr) (out.map plainA)
              rwa [List.length_map] at this
            rw [lS, lO]
            have eA : ∀ j, j < out.length + 1 → appF out.length (lsF cAdr out) (litF [cAdr.enc x]) j = lsF cAdr (out ++ [x]) j := fun j hj =>
              (LsI.app (c := cAdr) (k := out.length + 1) (LsI.ls out) (LsI.one (c := cAdr) (a := x) (f := litF [cAdr.enc x]) rfl) rfl).2 j hj
            have eS : ∀ j, j < out.length + 1 → appF out.length (lsF cStr (out.map plainA)) (litF [cStr.enc (plainA x)]) j = lsF cStr ((out ++ [x]).map plainA) j := fun j hj => by
              have hA := LsI.app (c := cStr) (k := out.length + 1) (LsI.ls (out.map plainA)) (LsI.one (c := cStr) (a := plainA x) (f := litF [cStr.enc (plainA x)]) rfl) (by simp)
              rw [List.length_map] at hA
              rw [List.map_append]
              exact hA.2 j hj
            refine ⟨by omega, hx, ⟨lI, by omega⟩, fun w => ?_, fun w => ?_⟩
            · rw [if_pos (List.contains_iff_mem.1 w)] at j5
              rw [← j5]
              refine ⟨fun j hj => ?_, ⟨by simp, fun j hj => eA j hj⟩, rfl⟩
              have := eA j hj
              show (appF out.length (lsF cAdr out) (litF [cAdr.enc x]) j).isPure = true
              rw [this]; rfl
            · rw [if_neg (fun y => by rw [List.contains_iff_mem.2 y] at w; cases w)] at j5
              exact ⟨hx, by omega, by omega, ((i + 1, x, out ++ [x]) : Nat × Adr × List Adr), ⟨by show i + 1 ≤ _; omega, hx, by show ((out ++ [x]).length : Int) ≤ _; rw [List.length_append]; push_cast; simp; omega, by show 1 ≤ (out ++ [x]).length; simp, j5⟩, by show l.length - (i + 1) < _; omega, ⟨by simp, by simp, by show (i : Int) + 1 = ((i + 1 : Nat) : Int); omega⟩, ⟨rfl, rfl, rfl, rfl, rfl, rfl, rfl, rfl⟩, ⟨by simp, fun j hj => eA j hj⟩, by simp, fun j hj => eS j hj⟩
        · rw [List.drop_eq_nil_of_le (by omega), folG] at j5
          rw [← j5]
          exact ⟨⟨rfl, fun _ _ => rfl⟩, rfl⟩
  · cases h
attribute [push_cast] ckFollow

def ckLawFO : Ck
  | [.agg [.str sc, .str ho, .str po, .str pa, .str qu, .bool hq, .str fr, .bool hf], .sl n f, .int .i64 m] => some (adrOk ⟨sc, ho, po, pa, qu, hq, fr, hf⟩ ∧ isLv cAns n f ∧ anssOk (lsOf cAns n f) ∧ n ≤ 140737488355328, .bool true)
  | _ => none
theorem conLawFO : Con pg 3 ckLawFO := by
  have hct := (ctA_ok conFollow (ctA_ok conAwake2 (ctA_ok conNormAF (ctN_ok _))))
  intro args q r h hq
  unfold ckLawFO at h
  split at h
  · cases h
    rename_i sc ho po pa qu hq1 fr hf n f m
    refine pcall_args (args' := [.agg [.str sc, .str ho, .str po, .str pa, .str qu, .bool hq1, .str fr, .bool hf], .sl (lsOf cAns n f).length (lsF cAns (lsOf cAns n f)), .int .i64 m]) ⟨VLe.refl _, hq.2.1, VLe.refl _, trivial⟩ ?_
    obtain ⟨hx, -, hl, hn⟩ := hq
    have hlen : (lsOf cAns n f).length = n := lsOf_len n f
    rw [← hlen] at hn
    generalize lsOf cAns n f = l at hl hn ⊢
    generalize ea : (⟨sc, ho, po, pa, qu, hq1, fr, hf⟩ : Adr) = b at *
    obtain ⟨rfl, rfl, rfl, rfl, rfl, rfl, rfl, rfl⟩ : sc = b.sc ∧ ho = b.ho ∧ po = b.po ∧ pa = b.pa ∧ qu = b.qu ∧ hq1 = b.hq ∧ fr = b.fr ∧ hf = b.hf := by subst ea; exact ⟨rfl, rfl, rfl, rfl, rfl, rfl, rfl, rfl⟩
    refine w3 (fun _ => false) [] rfl hct rfl rfl ?_
    push_cast (config := { maxSteps := 10000000 })
    rw [show (⟨b.sc, b.ho, b.po, b.pa, b.qu, b.hq, b.fr, b.hf⟩ : Adr) = b from rfl]
    refine ⟨⟨hx, hl, hn⟩, fun h => by rw [if_neg h]; rfl, fun h => ?_⟩
    rw [if_pos h, decide_eq_true h, Bool.true_and]
    have hb : checkAdrL b = 0 ∧ 0 ≤ m ∧ m ≤ 20 := by
      unfold folE at h
      by_cases h1 : checkAdrL b = 0
      · rw [if_pos h1] at h
        by_cases h2 : m < 0 ∨ 20 < m
        · rw [if_pos h2] at h; cases h
        · exact ⟨h1, by omega⟩
      · rw [if_neg h1] at h; exact absurd h h1
    obtain ⟨r1, r2, r3, r4, r5, r6⟩ := folL_ok (l := l) hb.1 hb.2.1
    generalize folL b l m = r at *
    obtain ⟨v, e⟩ := r
    simp only at r1 r2 r3 r4 r5 r6
    have hp := List.length_pos_iff.2 r1
    dsimp only
    rw [r2]
    refine ⟨fun g => ⟨g, by omega⟩, fun g => ⟨g, by omega⟩, fun g => ⟨g, by omega⟩, fun g => ?_, fun _ => ?_⟩
    · rcases g with ((g | g) | g) | g
      · omega
      · exact g rfl rfl rfl rfl rfl rfl rfl rfl
      · omega
      · omega
    refine LoopW.adj ⟨hct, fol⟩ (by kernel_rfl) [] (fun i : Nat => [(7, .sl v.length (lsF cAdr v)), (8, .bool e), (10, .int .i64 i)]) (fun _ => []) (fun i => i ≤ v.length) (fun i => v.length - i) 0 ?_ fun i hi => ?_
    · push_cast (config := { maxSteps := 10000000 })
      exact Nat.zero_le _
    · push_cast (config := { maxSteps := 10000000 })
      intro hlt
      have hri := r3 _ (mem_at (d := noAdr) hlt)
      rw [show (⟨(v.getD i noAdr).sc, (v.getD i noAdr).ho, (v.getD i noAdr).po, (v.getD i noAdr).pa, (v.getD i noAdr).qu, (v.getD i noAdr).hq, (v.getD i noAdr).fr, (v.getD i noAdr).hf⟩ : Adr) = v.getD i noAdr from rfl]
      refine ⟨hlt, hri, fun hN => ?_⟩
      rw [if_pos hN]
      refine LoopW.adj ⟨hct, fol⟩ (by kernel_rfl) [] (fun k : Nat => [(7, .sl v.length (lsF cAdr v)), (8, .bool e), (10, .int .i64 i), (11, .ptr 11 0), (13, .int .i64 k)]) (fun _ => [(11, .cells (cAdr.enc (normA (v.getD i noAdr))).flat)]) (fun k => k ≤ i) (fun k => i - k) 0 ?_ fun k hk => ?_
      · push_cast (config := { maxSteps := 10000000 })
        exact Nat.zero_le _
      · push_cast (config := { maxSteps := 10000000 })
        rw [show (⟨(v.getD k noAdr).sc, (v.getD k noAdr).ho, (v.getD k noAdr).po, (v.getD k noAdr).pa, (v.getD k noAdr).qu, (v.getD k noAdr).hq, (v.getD k noAdr).fr, (v.getD k noAdr).hf⟩ : Adr) = v.getD k noAdr from rfl]
        refine ⟨fun hk2 => ?_, fun hk2 => ?_⟩
        · have hki : k < i := by omega
          have hrk := r3 _ (mem_at (d := noAdr) (show k < v.length by omega))
          refine ⟨by omega, hrk, fun hNk => ?_⟩
          rw [if_pos hNk]
          have eN : ∀ x y : Adr, x.sc = y.sc ∧ x.ho = y.ho ∧ x.po = y.po ∧ x.pa = y.pa ∧ x.qu = y.qu ∧ x.hq = y.hq ∧ x.fr = y.fr ∧ x.hf = y.hf → x = y := fun x y h => by
            cases x; cases y; simp_all
          have on := r6 k i hki hlt
          refine ⟨fun q => ⟨q, by omega⟩, fun q => ⟨q, fun q2 => ⟨q, q2⟩⟩, fun q => ?_, fun q => ⟨by omega, k + 1, by omega, by omega, by omega⟩⟩
          obtain ⟨a1, a2⟩ := on (plain_same hN (eN _ _ q.1))
          rcases q.2 with q2 | q2
          · rw [a1] at q2; cases q2
          · omega
        · exact ⟨by omega, i + 1, by omega, by omega, by omega⟩
  · cases h
attribute [push_cast] ckLawFO
theorem shAnsE {m : Nat} {v : V} (h : Sh.has (.tup [.int .i64, .str, .list (.tup [.str, .str]), .list (.int .u8)]) m v) : isE cAns v ∧ ansOk (cAns.dec v) := by
  obtain ⟨l, ms, rfl, -, hl⟩ := h
  obtain ⟨m1, v1, ms, l, rfl, h1, hl⟩ := hasL_cons hl
  obtain ⟨m2, v2, ms, l, rfl, h2, hl⟩ := hasL_cons hl
  obtain ⟨m3, v3, ms, l, rfl, h3, hl⟩ := hasL_cons hl
  obtain ⟨m4, v4, ms, l, rfl, h4, hl⟩ := hasL_cons hl
  obtain rfl := hasL_nil hl
  obtain ⟨st, rfl, _⟩ := shInt h1
  obtain ⟨re, rfl, b2⟩ := shStr h2
  obtain ⟨n, f, rfl, i3, b3, k3⟩ := shList (c := cHd) (fun m v h => shHead h) h3
  obtain ⟨k, g, rfl, i4, b4⟩ := shBytes h4
  have := reach_le
  refine ⟨⟨rfl, fun j hj => ?_⟩, ?_⟩
  · match j, hj with
    | 0, _ => exact ⟨VLe.refl _, rfl⟩
    | 1, _ => exact ⟨VLe.refl _, rfl⟩
    | 2, _ => exact ⟨isLs.vle i3, rfl⟩
    | 3, _ => exact ⟨i4.vle, rfl⟩
  show ansOk ⟨st, re, lsOf cHd n f, bytesOf k g⟩
  refine ⟨k3, b2, ?_, ?_⟩
  · show (lsOf cHd n f).length ≤ _
    rw [lsOf_len]; exact b3
  · show (bytesOf k g).length ≤ _
    rw [bytesOf_len]; omega
theorem allLawFO {H : Type} (ds : List (DataW H)) (hh : hasD [.tup [.str, .str, .str, .str, .str, .bool, .str, .bool], .list (.tup [.int .i64, .str, .list (.tup [.str, .str]), .list (.int .u8)]), .int .i64] ds) : PCall pg 3 (ds.map toV) (.bool true) := by
  obtain ⟨d1, d2, d3, rfl, x, y, z⟩ := hasD3 hh
  obtain ⟨a, e1, b1⟩ := shAdr x
  obtain ⟨n, f, e2, i1, bn, k1⟩ := shListE (c := cAns) (p := ansOk) (fun m v h => shAnsE h) y
  obtain ⟨m, e3, b3⟩ := shInt z
  simp only [List.map_cons, List.map_nil, e1, e2, e3]
  exact conLawFO _ _ _ rfl ⟨b1, i1, k1, bn⟩

end Go.Abs
