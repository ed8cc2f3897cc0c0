/- what functions of this program compute: contracts, each a function's own -/
import Derived.Test.YtjehocmnedconaaGreatDoorAbsK3
import Derived.Test.YtjehocmnedconaaGreatDoorAbsFacts
import Derived.Test.YtjehocmnedconaaGreatDoorAbsF7
import Derived.Test.YtjehocmnedconaaGreatDoorAbsShelf
import Derived.Lib.SlTrimSet
import Derived.Lib.Atoi
import Derived.Lib.Itoa
import Derived.Lib.ItoaNum
import Derived.Lib.AtoiErrMem
import Derived.Lib.Repeat
import Derived.Lib.ItoaLen
import Derived.Lib.SplitLaws
import Derived.Lib.Join
import Derived.Lib.Index
import Derived.Lib.IndexBytes
import Derived.Lib.Fold
import Derived.Lib.Walk
import Derived.WalkKit
import Derived.ScopeJumps
import Derived.Deep.LoopGhost
import Derived.Laws.RangeAny
import Derived.Lib.BitFns
import Derived.Lib.TrailingZeros
import Derived.Sort.Walk0
namespace Go.Abs
open Go Go.Proofs
set_option maxHeartbeats 4000000
set_option maxRecDepth 100000
set_option linter.unusedVariables false
set_option linter.unusedSimpArgs false
structure Adr where
  sc : List UInt8
  ho : List UInt8
  po : List UInt8
  pa : List UInt8
  qu : List UInt8
  hq : Bool
  fr : List UInt8
  hf : Bool
deriving DecidableEq
def noAdr : Adr := ⟨[], [], [], [], [], false, [], false⟩
def decAdr : V → Adr
  | .agg [.str sc, .str ho, .str po, .str pa, .str qu, .bool hq, .str fr, .bool hf] => ⟨sc, ho, po, pa, qu, hq, fr, hf⟩
  | _ => noAdr
def cAdr : Cod Adr := ⟨fun a => .agg [.str a.sc, .str a.ho, .str a.po, .str a.pa, .str a.qu, .bool a.hq, .str a.fr, .bool a.hf], decAdr, noAdr, fun _ => rfl⟩
@[push_cast] theorem enc_adr (a : Adr) : cAdr.enc a = .agg [.str a.sc, .str a.ho, .str a.po, .str a.pa, .str a.qu, .bool a.hq, .str a.fr, .bool a.hf] := rfl
@[push_cast] theorem dec_adr (sc ho po pa qu fr : List UInt8) (hq hf : Bool) : cAdr.dec (.agg [.str sc, .str ho, .str po, .str pa, .str qu, .bool hq, .str fr, .bool hf]) = ⟨sc, ho, po, pa, qu, hq, fr, hf⟩ := rfl
def ckJoin : Ck
  | [.sl n f, .str c] => some (isLs cStr n f ∧ n ≤ 140737488355328 ∧ (Lib.join (lsOf cStr n f) c).length ≤ 140737488355328, .str (Lib.join (lsOf cStr n f) c))
  | _ => none
attribute [push_cast] ckJoin
def ckTrimLeft : Ck
  | [.str s, .str c] => some (c.length < 4294967281 ∧ asciiC c = true, .str (Lib.trimLeftS s c))
  | _ => none
theorem conTrimLeft : Con pg 110 ckTrimLeft := by
  intro args q r h hq
  unfold ckTrimLeft at h
  split at h
  · cases h
    rename_i s c
    refine pcall_shelf (by kernel_rfl) rfl fun w hw => (Tryz.strings_TrimLeftL ⟨s.toArray⟩ ⟨c.toArray⟩ w ?_ ?_).mono fun e w' h => ?_
    · show c.toArray.size < _
      have := hq.1
      simp; omega
    · exact asciiC_at hq.2
    · exact shelf_str h.1 (grow_below h.2)
  · cases h
attribute [push_cast] ckTrimLeft
def ckCutPreS : Ck
  | [.str s, .str p] => some (s.length ≤ 140737488355328, .tup [.str (Lib.trimPrefix s p), .bool (Lib.hasPrefix s p)])
  | _ => none
theorem conCutPreS : Con pg 109 ckCutPreS := by
  intro args q r h hq
  unfold ckCutPreS at h
  split at h
  · cases h
    rename_i s p
    refine pcall_shelf (by kernel_rfl) rfl fun w hw => (Tryz.strings_CutPrefix ⟨s.toArray⟩ ⟨p.toArray⟩ w).mono fun e w' h => ?_
    refine ⟨_, h.1, ?_, fun γ imm => .tup _ [_, _] rfl fun i hi => ?_⟩
    · exact grow_eq h.2
    match i, hi with
    | 0, _ => exact .pure (.str _)
    | 1, _ => exact .pure (.bool _)
  · cases h
attribute [push_cast] ckCutPreS
def wWebS : List UInt8 := [87, 69, 66, 47, 49, 32]
def tpC (b : List UInt8) : List UInt8 × List UInt8 × Bool := Lib.cut (Lib.trimPrefix (lnS b 0) wWebS) [32]
def tpOk (b : List UInt8) : Bool := lnB b 0 && Lib.hasPrefix (lnS b 0) wWebS && (tpC b).2.2 && digL (tpC b).1 9
def tpV (b : List UInt8) : Ans × Nat × Bool := if tpOk b = true then (⟨natOf (tpC b).1, (tpC b).2.1, (rqH b).1, []⟩, (rqH b).2.1, (rqH b).2.2) else (⟨0, [], [], []⟩, 0, false)
def ckReadTop : Ck
  | [.sl n f] => some (isBy n f ∧ n ≤ 400000, .tup [cAns.enc (tpV (bytesOf n f)).1, .int .i64 (tpV (bytesOf n f)).2.1, .bool (tpV (bytesOf n f)).2.2])
  | _ => none
theorem conReadTop : Con pg 103 ckReadTop := by
  have hct := (ctA_ok conLine (ctA_ok conCutPreS (ctA_ok conCut (ctA_ok conDigits (ctA_ok conAtoi (ctA_ok conReadHeads (ctN_ok _)))))))
  intro args q r h hq
  unfold ckReadTop at h
  split at h
  · cases h
    rename_i n f
    refine pcall_args (args' := [.sl (bytesOf n f).length (byF (bytesOf n f))]) ⟨isBy.vle hq.1, trivial⟩ ?_
    have h1 : (bytesOf n f).length ≤ 400000 := by rw [bytesOf_len]; exact hq.2
    generalize bytesOf n f = b at h1 ⊢
    refine w103 (fun _ => false) [] rfl hct rfl rfl ?_
    push_cast (config := { maxSteps := 10000000 })
    have hsl := lnS_le b (Nat.zero_le b.length)
    have hl : (Lib.trimPrefix (lnS b 0) wWebS).length ≤ (lnS b 0).length := by unfold Lib.trimPrefix; split <;> simp
    have hc : (Lib.cut (Lib.trimPrefix (lnS b 0) wWebS) [32]).1.length ≤ (lnS b 0).length := by
      unfold Lib.cut; split
      · rw [List.length_take]; omega
      · exact hl
    change b.length ≤ 4611686018427387900 ∧ (lnS b 0).length ≤ 140737488355328 ∧ (Lib.trimPrefix (lnS b 0) wWebS).length < 4294967281 ∧ _
    refine ⟨by omega, by omega, by omega, fun h => ⟨h, ?_⟩, fun h => ?_, fun h => ?_⟩
    · exact Nat.le_trans hc (by omega)
    · have ek : tpOk b = false := by
        unfold tpOk tpC
        rcases h with ((h | h) | h) | h
        · rw [h]; rfl
        · rw [show Lib.hasPrefix (lnS b 0) wWebS = false from h]; simp
        · rw [show (Lib.cut (Lib.trimPrefix (lnS b 0) wWebS) [32]).2.2 = false from h]; simp
        · rw [show digL (Lib.cut (Lib.trimPrefix (lnS b 0) wWebS) [32]).1 9 = false from h]; simp
      unfold tpV; rw [if_neg (by simp [ek])]
      exact ⟨⟨rfl, rfl, rfl, rfl⟩, rfl, rfl⟩
    · have ek : tpOk b = true := by
        unfold tpOk tpC
        rw [h.1.1.1, show Lib.hasPrefix (lnS b 0) wWebS = true from h.1.1.2, show (Lib.cut (Lib.trimPrefix (lnS b 0) wWebS) [32]).2.2 = true from h.1.2, show digL (Lib.cut (Lib.trimPrefix (lnS b 0) wWebS) [32]).1 9 = true from h.2]; rfl
      have hd := digL_all (show digL (Lib.cut (Lib.trimPrefix (lnS b 0) wWebS) [32]).1 9 = true from h.2)
      have hf := ln_fit (Nat.zero_le b.length) h.1.1.1
      unfold tpV; rw [if_pos ek]
      exact ⟨⟨hd.1, by have := hd.2.1; change (Lib.cut (Lib.trimPrefix (lnS b 0) wWebS) [32]).1.length ≤ 18; omega, hd.2.2.1⟩, ⟨hf.2.1, by omega⟩, ⟨rfl, rfl, ⟨rfl, fun _ _ => rfl⟩, rfl⟩, rfl, rfl⟩
  · cases h
attribute [push_cast] ckReadTop
def medT (l : List Hd) : Bool × List UInt8 × Int :=
  if checkHeadsL l = 0 then
    (if 0 < (valuesL l [116, 121, 112, 101]).length then
      (if Lib.contains ((splitL ((valuesL l [116, 121, 112, 101]).getD 0 []) 59).getD 0 []) [47] = true then (true, lowL (Lib.trimS ((splitL ((valuesL l [116, 121, 112, 101]).getD 0 []) 59).getD 0 []) [32, 9]), 0) else (false, [], 0))
    else (false, [], 0))
  else (false, [], checkHeadsL l)
theorem trimS_sz' (s c : List UInt8) : (Lib.trimS s c).length ≤ s.length := by
  unfold Lib.trimS Lib.trimLeftS Lib.trimRightS
  refine Nat.le_trans (List.dropWhile_sublist _).length_le ?_
  rw [List.length_reverse]
  refine Nat.le_trans (List.dropWhile_sublist _).length_le ?_
  rw [List.length_reverse]; exact Nat.le_refl _
def ckMediaO : Ck
  | [.sl n f] => some (isLs cHd n f ∧ hdsOk (lsOf cHd n f) ∧ n ≤ 1000000, .tup [.agg [.str (medT (lsOf cHd n f)).2.1, .any], .bool (medT (lsOf cHd n f)).1, .int .i64 (medT (lsOf cHd n f)).2.2])
  | _ => none
theorem conMediaO : Con pg 57 ckMediaO := by
  have hct := (ctA_ok conCheckHeads (ctA_ok conFirst (ctA_ok conSplit (ctA_ok conMTrim (ctA_ok conSmallA (ctA_ok conContains (ctA_ok conTrimLeft (ctA_ok conCutPreS (ctN_ok _)))))))))
  intro args q r h hq
  unfold ckMediaO at h
  split at h
  · cases h
    rename_i n f
    refine pcall_args (args' := [.sl (lsOf cHd n f).length (lsF cHd (lsOf cHd n f))]) ⟨isLs.vle hq.1, trivial⟩ ?_
    obtain ⟨-, h1, h2⟩ := hq
    have hlen : (lsOf cHd n f).length = n := lsOf_len n f
    rw [← hlen] at h2
    generalize lsOf cHd n f = l at h1 h2 ⊢
    refine w57 (fun _ => false) [] rfl hct rfl rfl ?_
    push_cast (config := { maxSteps := 10000000 })
    generalize hM : medT l = M
    unfold medT at hM
    have hV : ∀ h : 0 < (valuesL l [116, 121, 112, 101]).length, checkHeadsL l = 0 → ((valuesL l [116, 121, 112, 101]).getD 0 []).length ≤ 100000 := fun h hc => by
      have hg : headsGo l = 0 := by
        unfold checkHeadsL at hc
        split at hc
        · cases hc
        · exact hc
      have hm : (valuesL l [116, 121, 112, 101]).getD 0 [] ∈ valuesL l [116, 121, 112, 101] := by
        rw [List.getD_eq_getElem?_getD, List.getElem?_eq_getElem h]; exact List.getElem_mem h
      unfold valuesL at hm
      obtain ⟨x, hx, he⟩ := List.mem_map.1 hm
      have := value_1000 (headsGo_mem hg x (List.mem_filter.1 hx).1).2
      have e : (valuesL l [116, 121, 112, 101]).getD 0 [] = x.value := he.symm
      rw [e]; omega
    generalize valuesL l [116, 121, 112, 101] = vs at *
    refine ⟨h1, fun h => ?_, fun hc => ⟨⟨h1, h2⟩, fun h => ?_, fun hv => ?_⟩⟩
    · rw [if_neg h] at hM; subst hM; exact ⟨rfl, rfl, rfl⟩
    · rw [if_pos hc, if_neg h] at hM; subst hM; exact ⟨rfl, rfl, rfl⟩
    rw [if_pos hc, if_pos hv] at hM
    have hl := hV hv hc
    generalize vs.getD 0 [] = v at *
    have hP := List.length_pos_iff.2 (spl_ne 59 v)
    have hPl : ∀ x ∈ spl 59 v, x.length ≤ 100000 := fun x hx => Nat.le_trans (spl_len 59 v x hx) hl
    have hPlen := splitL_le v 59
    rw [splitL_eq] at hM hPlen ⊢
    generalize spl 59 v = P at *
    have hPn : ∀ i, (P.getD i []).length ≤ 100000 := fun i => by
      by_cases hi : i < P.length
      · rw [List.getD_eq_getElem?_getD, List.getElem?_eq_getElem hi]; exact hPl _ (List.getElem_mem hi)
      · rw [List.getD_eq_getElem?_getD, List.getElem?_eq_none (by omega)]; exact Nat.zero_le _
    have hp0 := hPn 0
    have ht := trimS_sz' (P.getD 0 []) [32, 9]
    refine ⟨by omega, by omega, by omega, by omega, by omega, by omega, fun h => ?_, fun h => ⟨by omega, ?_⟩⟩
    · rw [if_neg (by rw [h]; simp)] at hM; subst hM; exact ⟨rfl, rfl, rfl⟩
    rw [if_pos h] at hM
    generalize lowL (Lib.trimS (P.getD 0 []) [32, 9]) = ty at *
    refine LoopW.adj ⟨hct, fol⟩ (by kernel_rfl) [] (fun k : Nat => [(2, .ptr 2 0), (9, .ptr 9 0), (43, .sl (P.drop 1).length (lsF cStr (P.drop 1))), (44, .int .i64 (P.drop 1).length), (45, .int .i64 k)]) (fun k => [(2, .cells [.str [], .str []]), (9, .cells [.str ty, .any])]) (fun k => k ≤ (P.drop 1).length) (fun k => (P.drop 1).length - k) 0 ?_ fun k hk => ?_
    · push_cast (config := { maxSteps := 10000000 })
      exact ⟨Nat.zero_le _, fun i _ => by rw [List.getD_eq_getElem?_getD, List.getElem?_drop, ← List.getD_eq_getElem?_getD, Nat.add_comm]; rfl⟩
    · have hk : k ≤ (P.drop 1).length := hk
      have hq := hPn (1 + k)
      have eq : (P.drop 1).getD k [] = P.getD (1 + k) [] := by rw [List.getD_eq_getElem?_getD, List.getElem?_drop, ← List.getD_eq_getElem?_getD]
      rw [List.length_drop] at hk
      push_cast (config := { maxSteps := 10000000 })
      rw [eq]
      generalize P.getD (1 + k) [] = q at *
      have l1 : (Lib.trimLeftS q [32, 9]).length ≤ q.length := (List.dropWhile_sublist _).length_le
      have l2 : (lowL (Lib.trimLeftS q [32, 9])).length = (Lib.trimLeftS q [32, 9]).length := by unfold lowL; rw [List.length_map]
      generalize lowL (Lib.trimLeftS q [32, 9]) = a at *
      generalize Lib.trimLeftS q [32, 9] = q' at *
      have l3 : (Lib.trimPrefix a [115, 101, 116, 61]).length ≤ a.length := by
        unfold Lib.trimPrefix
        split
        · rw [List.length_drop]; omega
        · exact Nat.le_refl _
      generalize Lib.trimPrefix a [115, 101, 116, 61] = b at *
      have l4 := trimS_sz' b [32, 9]
      generalize Lib.trimS b [32, 9] = c at *
      subst hM
      have fin : ty = (true, ty, (0 : Int)).2.1 ∧ true = (true, ty, (0 : Int)).1 ∧ (0 : Int) = (true, ty, (0 : Int)).2.2 := ⟨rfl, rfl, rfl⟩
      exact ⟨fun h => ⟨h, by omega, by omega, fun _ => ⟨by omega, fun g => ⟨g, by omega⟩, fun g => ⟨g, by omega, by omega⟩, fun g => ⟨g, by omega, by omega⟩, fun g => ⟨⟨by omega, by omega⟩, ⟨⟨by omega, by omega⟩, by omega, by omega⟩, fin⟩, fun _ => fin⟩, fun _ => ⟨⟨by omega, by omega⟩, k + 1, by omega, by omega, by omega⟩⟩, fun _ => fin⟩
  · cases h
attribute [push_cast] ckMediaO
end Go.Abs
