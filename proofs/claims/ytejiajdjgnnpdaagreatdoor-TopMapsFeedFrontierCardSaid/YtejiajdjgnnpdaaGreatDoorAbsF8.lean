/- what functions of this program compute: contracts, each a function's own -/
import Derived.Test.YtejiajdjgnnpdaaGreatDoorAbsK3
import Derived.Test.YtejiajdjgnnpdaaGreatDoorAbsFacts
import Derived.Test.YtejiajdjgnnpdaaGreatDoorAbsF7
import Derived.Test.YtejiajdjgnnpdaaGreatDoorAbsShelf
import Derived.Lib.SplitLaws
import Derived.Lib.SlTrimSet
import Derived.Lib.Atoi
import Derived.Lib.Itoa
import Derived.Lib.ItoaNum
import Derived.Lib.AtoiErrMem
import Derived.Lib.Join
import Derived.Lib.Repeat
import Derived.Lib.IndexMore
import Derived.Lib.AsciiSet
import Derived.Lib.IndexAny
import Derived.Sort.Walk0
import Derived.Lib.ItoaLen
import Derived.Shelf.Spec.SlicesInsert
import Derived.Shelf.Spec.SlicesInsertGrow
import Derived.Lib.Overlaps
import Derived.Lib.AppendZerosOnto
import Derived.Laws.NewBlocks
import Derived.WalkKit
import Derived.Lib.Walk
namespace Go.Abs
open Go Go.Proofs
set_option maxHeartbeats 4000000
set_option maxRecDepth 100000
set_option linter.unusedVariables false
set_option linter.unusedSimpArgs false
/- the parts of a string, as an own row -/
def ckSplitN : List V → Option (Prop × V × Blk)
  | [.str s, .str [c]] => some (s.length < 4294967281, .vec 8999 (splitL s c).length, .vec 1 (splitL s c).length (lsF cStr (splitL s c)))
  | _ => none
theorem hOf_none (i : Nat) : killH i (hOf []) = hOf [] := by
  funext j
  unfold killH
  split <;> rfl
theorem conSplitN : NCon pg 93 ckSplitN := by
  intro args q r nb h hq
  unfold ckSplitN at h
  split at h
  · rename_i s c
    cases h
    intro S vals hs hh hl hr
    match vals, hl with
    | [u, v], _ =>
      have e0 : S.rep (.str s) u := hr 0 (by simp)
      have e1 : S.rep (.str [c]) v := hr 1 (by simp)
      obtain rfl := inv_str e0
      obtain rfl := inv_str e1
      refine .inl ⟨by kernel_rfl, ?_⟩
      obtain ⟨m, hm⟩ := maxLen hs.tab.1
      refine (Tryz.strings_Split ⟨s.toArray⟩ ⟨#[c]⟩ m S.w (by show s.toArray.size < _; simpa using hq) hm (Nat.le_refl 1)).mono fun e w' h => ?_
      have hl : (splitL s c).length = Lib.countB ⟨s.toArray⟩ ⟨#[c]⟩ + 1 := by
        unfold splitL
        rw [List.length_map]
        exact Lib.splitB_all ⟨#[c]⟩ (Nat.le_refl 1) 0 _ _ rfl
      obtain ⟨he, hw⟩ := h
      rw [← hl] at he
      have hkb : (Blk.vec 1 (splitL s c).length (lsF cStr (splitL s c))).kill 8999 = Blk.vec 1 (splitL s c).length (lsF cStr (splitL s c)) := rfl
      have hlen : (Lib.splitB ⟨#[c]⟩ 0 (Lib.countB ⟨s.toArray⟩ ⟨#[c]⟩) ⟨s.toArray⟩).length = (splitL s c).length := by
        unfold splitL
        rw [List.length_map]
      have hel : ∀ i, i < (splitL s c).length → ((Lib.splitB ⟨#[c]⟩ 0 (Lib.countB ⟨s.toArray⟩ ⟨#[c]⟩) ⟨s.toArray⟩).map Value.string).toArray.getD i undef = .string ⟨((splitL s c).getD i []).toArray⟩ := fun i hi => by
        unfold splitL at hi ⊢
        rw [List.length_map] at hi
        simp [List.getD_eq_getElem?_getD, List.getElem?_eq_getElem hi, hi]
      have hp : Pushed S.w w' (.cells ((Lib.splitB ⟨#[c]⟩ 0 (Lib.countB ⟨s.toArray⟩ ⟨#[c]⟩) ⟨s.toArray⟩).map Value.string).toArray 9 (0, 0)) := by
        subst hw
        exact Pushed.mk' _ _
      obtain ⟨m1, m2, m3⟩ := new_vec (d := 8999) hs (sz := 1) (n := (splitL s c).length) (cap := (splitL s c).length) (f := lsF cStr (splitL s c)) hp (by decide) (Nat.le_refl _) (by simp [hlen]) (.inl rfl) (fun i hi => rfl) (fun i j hi hj => by
        obtain rfl : j = 0 := by omega
        rw [Nat.mul_one, Nat.add_zero, hel i hi]
        exact .pure (.str _)) (fun i j hi hj => by
        obtain rfl : j = 0 := by omega
        rw [Nat.mul_one, Nat.add_zero, hel i hi]; rfl)
      refine ⟨_, _, S.imm, he, ?_, ?_, m3⟩
      · have := m1; rw [hh, hOf_none, hkb] at this; exact this
      · have := m2; rw [hh, hOf_none, hkb] at this; exact this
  · cases h
attribute [push_cast] ckSplitN
/-- i steps of turning a row about -/
def revI (D : List (List UInt8)) : Nat → List (List UInt8)
  | 0 => D
  | i + 1 => ((revI D i).set i ((revI D i).getD (D.length - 1 - i) [])).set (D.length - 1 - i) ((revI D i).getD i [])
theorem revI_len (D : List (List UInt8)) : ∀ i, (revI D i).length = D.length
  | 0 => rfl
  | i + 1 => by rw [revI, List.length_set, List.length_set, revI_len D i]
theorem getD_set2 {α : Type} (l : List α) (i : Nat) (x d : α) (k : Nat) : (l.set i x).getD k d = if k = i ∧ i < l.length then x else l.getD k d := by
  rw [List.getD_eq_getElem?_getD, List.getElem?_set]
  by_cases h : i = k
  · subst h
    by_cases h2 : i < l.length
    · simp [h2]
    · simp [h2, List.getD_eq_getElem?_getD]
  · rw [if_neg h, if_neg (fun e => h e.1.symm), List.getD_eq_getElem?_getD]
theorem revI_at (D : List (List UInt8)) : ∀ {i : Nat}, 2 * i ≤ D.length → ∀ k, k < D.length → (revI D i).getD k [] = if k < i ∨ D.length - 1 - k < i then D.getD (D.length - 1 - k) [] else D.getD k []
  | 0, _, k, hk => by rw [if_neg (by omega)]; rfl
  | i + 1, h, k, hk => by
    have hl := revI_len D i
    have ih := revI_at D (i := i) (by omega)
    have e1 := ih i (by omega)
    rw [if_neg (by omega)] at e1
    have e2 := ih (D.length - 1 - i) (by omega)
    rw [if_neg (by omega)] at e2
    rw [revI, getD_set2, List.length_set, getD_set2, e1, e2, ih k hk]
    by_cases c1 : k = D.length - 1 - i
    · rw [if_pos ⟨c1, by omega⟩, if_pos (by omega), c1, show D.length - 1 - (D.length - 1 - i) = i by omega]
    · rw [if_neg (fun x => c1 x.1)]
      by_cases c2 : k = i
      · rw [if_pos ⟨c2, by omega⟩, if_pos (by omega), c2]
      · rw [if_neg (fun x => c2 x.1)]
        by_cases c3 : k < i ∨ D.length - 1 - k < i
        · rw [if_pos c3, if_pos (by omega)]
        · rw [if_neg c3, if_neg (by omega)]
theorem revI_end {D : List (List UInt8)} {i : Nat} (h : 2 * i ≤ D.length) (h2 : D.length ≤ 2 * i + 1) : revI D i = D.reverse := by
  apply List.ext_getElem
  · rw [revI_len, List.length_reverse]
  · intro k h3 h4
    rw [revI_len] at h3
    have := revI_at D h k h3
    rw [List.getD_eq_getElem?_getD, List.getElem?_eq_getElem (by rw [revI_len]; exact h3), Option.getD_some] at this
    rw [this, List.getElem_reverse]
    by_cases c : k < i ∨ D.length - 1 - k < i
    · rw [if_pos c, List.getD_eq_getElem?_getD, List.getElem?_eq_getElem (by omega)]; rfl
    · rw [if_neg c]
      have e : D.length - 1 - k = k := by omega
      simp only [e]
      rw [List.getD_eq_getElem?_getD, List.getElem?_eq_getElem h3]; rfl
def ckRevSK : List V → List Blk → Option (Prop × V × List Blk)
  | [.vec _ n], [.vec 1 k g] => some (k = n ∧ isLs cStr n g ∧ n ≤ 1000000, .tup [], [.vec 1 n (lsF cStr (lsOf cStr n g).reverse)])
  | _, _ => none
def ckRevS : Cf := ⟨fun | .vec i _ :: _ => [i] | _ => [], ckRevSK⟩
theorem men_str (ids : Nat → Bool) (D : List (List UInt8)) (j : Nat) : V.menInL ids (lsF cStr D j).flat = true := rfl
theorem conRevS : FCon pg 106 ckRevS := by
  have hct := ctN_ok pg
  intro args bs q r bs' h hq
  replace h : ckRevSK args bs = some (q, r, bs') := h
  unfold ckRevSK at h
  split at h
  · cases h
    rename_i i n k g
    refine ⟨rfl, by first | exact Nat.le_refl _ | exact Nat.zero_le _, ?_⟩
    obtain ⟨rfl, hf, hn⟩ := hq
    have hk : k = (lsOf cStr k g).length := (lsOf_len k g).symm
    refine fcall_blk (hm := [(i + 9000, .vec 1 (lsOf cStr k g).length (lsF cStr (lsOf cStr k g)))]) ⟨rfl, ⟨rfl, hk, fun j hj => by show V.shift (g j) = _; rw [hf.2 j hj]; rfl⟩, trivial⟩ ?_
    have hlen : (lsOf cStr k g).length = k := lsOf_len k g
    generalize lsOf cStr k g = D at hlen ⊢
    subst hlen
    show FCall pg 106 [.vec (i + 9000) D.length] [(i + 9000, .vec 1 D.length (lsF cStr D))] (.tup []) [(i + 9000, .vec 1 D.length (lsF cStr D.reverse))]
    refine fw106 (fun _ => false) [] rfl hct rfl (by simp) ?_ rfl ?_
    · simp [hlIn, Blk.menIn, men_str, idsIn]
    push_cast (config := { maxSteps := 10000000 })
    (repeat (refine ⟨by omega, ?_⟩))
    refine LoopW.adj ⟨hct, fol⟩ (by kernel_rfl) [] (fun t : Nat => [(0, .vec (i + 9000) D.length), (2, .int .i64 t), (3, .int .i64 ((D.length : Int) - 1 - t))]) (fun t => [(i + 9000, .vec 1 D.length (lsF cStr (revI D t)))]) (fun t => 2 * t ≤ D.length) (fun t => D.length - t) 0 ?_ fun t ht => ?_
    · push_cast (config := { maxSteps := 10000000 })
      exact ⟨Nat.zero_le _, by omega, fun _ _ => rfl⟩
    · have ht : 2 * t ≤ D.length := ht
      push_cast (config := { maxSteps := 10000000 })
      rw [show ((D.length : Int) - 1 - t).toNat = D.length - 1 - t by omega]
      refine ⟨fun h => ?_, fun h => by rw [revI_end ht (by omega)]; exact fun _ _ => rfl⟩
      have hs : ∀ (E : List (List UInt8)) (a : Nat) (x : List UInt8) (i : Nat), setF (lsF cStr E) a (.str x) i = .str (if i = a then x else E.getD i []) := fun E a x i => by
        unfold setF
        by_cases e : i = a
        · rw [decide_eq_true e, if_pos e]; rfl
        · rw [decide_eq_false e, if_neg e]; rfl
      refine ⟨⟨by omega, by omega⟩, by omega, by omega, by omega, by omega, by omega, ⟨by omega, by omega⟩, by omega, ⟨by omega, by omega⟩, ⟨by omega, by omega⟩, t + 1, by omega, by omega, ⟨by omega, by omega⟩, fun k hk => ?_⟩
      rw [hs]
      have hl := revI_len D t
      rw [revI, getD_set2, List.length_set, getD_set2]
      show setF _ (D.length - 1 - t) (V.str _) k = _
      unfold setF
      by_cases e1 : k = D.length - 1 - t
      · rw [decide_eq_true e1, if_pos ⟨e1, by omega⟩]; rfl
      · rw [decide_eq_false e1, if_neg (fun x => e1 x.1), cond_false]
        by_cases e2 : k = t
        · rw [decide_eq_true e2, if_pos ⟨e2, by omega⟩]; rfl
        · rw [decide_eq_false e2, if_neg (fun x => e2 x.1)]; rfl
  · cases h
attribute [push_cast] ckRevSK
@[push_cast] theorem revS_ids (i n : Nat) (l : List V) : ckRevS.ids (.vec i n :: l) = [i] := rfl
@[push_cast] theorem revS_k (i n k : Nat) (g : Nat → V) : ckRevS.k [.vec i n] [.vec 1 k g] = some (k = n ∧ isLs cStr n g ∧ n ≤ 1000000, .tup [], [.vec 1 n (lsF cStr (lsOf cStr n g).reverse)]) := rfl

def ckSamNil : Ck
  | [.nilsl] => some (True, .int .i64 0)
  | _ => none
theorem conSamNil : Con pg 22 ckSamNil := by
  have hct := ctN_ok pg
  intro args q r h hq
  unfold ckSamNil at h
  split at h
  · cases h
    refine w22 (fun _ => false) [] rfl hct rfl rfl ?_
    push_cast (config := { maxSteps := 10000000 })
    refine LoopW.adj ⟨hct, fol⟩ (by kernel_rfl) [] (fun _ : Unit => [(0, .nilsl), (9, .nilsl), (10, .int .i64 0), (11, .int .i64 0)]) (fun _ => []) (fun _ => True) (fun _ => 0) () ?_ fun _ _ => ?_
    · push_cast (config := { maxSteps := 10000000 })
    · push_cast (config := { maxSteps := 10000000 })
  · cases h
attribute [push_cast] ckSamNil
def ckIdxNil : Ck
  | [.nilsl, .agg [.int .i64 k, .str s]] => some (True, .int .i64 (-1))
  | _ => none
theorem conIdxNil : Con pg 138 ckIdxNil := by
  have hct := ctN_ok pg
  intro args q r h hq
  unfold ckIdxNil at h
  split at h
  · cases h
    rename_i k s
    refine w138 (fun _ => false) [] rfl hct rfl rfl ?_
    push_cast (config := { maxSteps := 10000000 })
    refine LoopW.adj ⟨hct, fol⟩ (by kernel_rfl) [] (fun _ : Unit => [(0, .nilsl), (7, .int .i64 0), (8, .int .i64 0)]) (fun _ => []) (fun _ => True) (fun _ => 0) () ?_ fun _ _ => ?_
    · push_cast (config := { maxSteps := 10000000 })
    · push_cast (config := { maxSteps := 10000000 })
  · cases h
attribute [push_cast] ckIdxNil
def ckConNil : Ck
  | [.nilsl, .agg [.int .i64 k, .str s]] => some (True, .bool false)
  | _ => none
theorem conConNil : Con pg 105 ckConNil := by
  have hct := (ctA_ok conIdxNil (ctN_ok _))
  intro args q r h hq
  unfold ckConNil at h
  split at h
  · cases h
    rename_i k s
    refine w105 (fun _ => false) [] rfl hct rfl rfl ?_
    push_cast (config := { maxSteps := 10000000 })
    done
  · cases h
attribute [push_cast] ckConNil
def ckHasNil : Ck
  | [.nilsl, .int .i64 k, .str s] => some (True, .bool false)
  | _ => none
theorem conHasNil : Con pg 57 ckHasNil := by
  have hct := (ctA_ok conConNil (ctN_ok _))
  intro args q r h hq
  unfold ckHasNil at h
  split at h
  · cases h
    rename_i k s
    refine w57 (fun _ => false) [] rfl hct rfl rfl ?_
    push_cast (config := { maxSteps := 10000000 })
    done
  · cases h
attribute [push_cast] ckHasNil
def ckPathNil : Ck
  | [.str s, .nilsl] => some (s = [47, 99], .str s)
  | _ => none
theorem conPathNil : Con pg 59 ckPathNil := by
  have hct := (ctA_ok conHasNil (ctA_ok conLastIdx (ctN_ok _)))
  intro args q r h hq
  unfold ckPathNil at h
  split at h
  · cases h
    rename_i s
    refine w59 (fun _ => false) [] rfl hct rfl rfl ?_
    push_cast (config := { maxSteps := 10000000 })
    subst hq
    decide +kernel
  · cases h
attribute [push_cast] ckPathNil
def ckTurned : Ck
  | [.str s, .str [c], .str d] => some (s.length ≤ 2000 ∧ (Lib.join (splitL s c).reverse d).length ≤ 140737488355328, .str (Lib.join (splitL s c).reverse d))
  | _ => none
theorem conTurned : Con pg 58 ckTurned := by
  have hct := (ctW_ok conSplitN (ctF_ok conRevS (ctA_ok conJoin (ctN_ok _))))
  intro args q r h hq
  unfold ckTurned at h
  split at h
  · cases h
    rename_i s c d
    refine w58 (fun _ => false) [] rfl hct rfl rfl ?_
    push_cast (config := { maxSteps := 10000000 })
    obtain ⟨h1, h2⟩ := hq
    have hl := splitL_le s c
    have hR : LsI cStr (splitL s c).length (lsF cStr (splitL s c).reverse) (splitL s c).reverse := LsI.len (LsI.ls _) (by rw [List.length_reverse])
    rw [hR.of]
    exact ⟨by omega, by omega, ⟨hR.is, by omega, h2⟩, rfl⟩
  · cases h
attribute [push_cast] ckTurned
def adL : Adr := ⟨[104, 116, 116, 112], [97, 46, 98], [], [47, 99], [], false, [], false⟩
def ckKeyNil : Ck
  | [.agg [.str sc, .str ho, .str po, .str pa, .str qu, .bool hq, .str fr, .bool hf], .nilsl] => some ((⟨sc, ho, po, pa, qu, hq, fr, hf⟩ : Adr) = adL, .str [98, 44, 97, 41, 47, 99])
  | _ => none
def ckNormL : Ck
  | [.agg [.str sc, .str ho, .str po, .str pa, .str qu, .bool hq, .str fr, .bool hf]] => some ((⟨sc, ho, po, pa, qu, hq, fr, hf⟩ : Adr) = adL, .agg [.str [104, 116, 116, 112], .str [97, 46, 98], .str [], .str [47, 99], .str [], .bool false, .str [], .bool false])
  | _ => none
theorem conNormL : Con pg 55 ckNormL := by
  intro args q r h hq
  unfold ckNormL at h
  split at h
  · cases h
    cases hq
    have := conNormA [.agg [.str [104, 116, 116, 112], .str [97, 46, 98], .str [], .str [47, 99], .str [], .bool false, .str [], .bool false]] _ _ rfl (show checkAdrL adL = 0 by decide +kernel)
    change PCall pg _ _ (cAdr.enc (normA adL)) at this
    rw [show normA adL = adL by decide +kernel] at this
    exact this
  · cases h
attribute [push_cast] ckNormL
theorem conKeyNil : Con pg 24 ckKeyNil := by
  have hct := (ctA_ok conNormL (ctA_ok conCutPre (ctA_ok conHasNil (ctA_ok conTurned (ctA_ok conPathNil (ctN_ok _))))))
  intro args q r h hq
  unfold ckKeyNil at h
  split at h
  · cases h
    rename_i sc ho po pa qu hq1 fr hf
    refine w24 (fun _ => false) [] rfl hct rfl rfl ?_
    push_cast (config := { maxSteps := 10000000 })
    cases hq
    exact ⟨rfl, by decide +kernel, by decide +kernel, fun h => by revert h; decide, fun _ => ⟨by decide +kernel, by decide +kernel⟩⟩
  · cases h
attribute [push_cast] ckKeyNil
def ckKeyNilT : Ck
  | [.agg [.str sc, .str ho, .str po, .str pa, .str qu, .bool hq, .str fr, .bool hf], .nilsl] => some ((⟨sc, ho, po, pa, qu, hq, fr, hf⟩ : Adr) = adL, .tup [.str [98, 44, 97, 41, 47, 99], .int .i64 0])
  | _ => none
theorem conKeyNilT : Con pg 7 ckKeyNilT := by
  have hct := (ctA_ok conCheckAdr (ctA_ok conSamNil (ctA_ok conNormAF (ctA_ok conKeyNil (ctN_ok _)))))
  intro args q r h hq
  unfold ckKeyNilT at h
  split at h
  · cases h
    rename_i sc ho po pa qu hq1 fr hf
    refine w7 (fun _ => false) [] rfl hct rfl rfl ?_
    push_cast (config := { maxSteps := 10000000 })
    cases hq
    have e1 : checkAdrL adL = 0 := by decide +kernel
    have e2 : checkAdrL (normA adL) = 0 := by decide +kernel
    exact ⟨by unfold adrOk; decide, fun h => h e1, fun _ => ⟨e1, fun h => h e2, fun _ => rfl⟩⟩
  · cases h
attribute [push_cast] ckKeyNilT
def ckLives : Ck
  | [] => some (True, .bool true)
  | _ => none
theorem conLives : Con pg 5 ckLives := by
  have hct := (ctA_ok conKeyNilT (ctN_ok _))
  intro args q r h hq
  unfold ckLives at h
  split at h
  · cases h
    refine w5 (fun _ => false) [] rfl hct rfl rfl ?_
    push_cast (config := { maxSteps := 10000000 })
    rfl
  · cases h
attribute [push_cast] ckLives

def ckKeyG : Ck
  | [.agg [.str sc, .str ho, .str po, .str pa, .str qu, .bool hq, .str fr, .bool hf], .sl n f] => some (checkAdrL ⟨sc, ho, po, pa, qu, hq, fr, hf⟩ = 0 ∧ isLs cSam n f ∧ n ≤ 4611686018427387904, .str (keyL (lsOf cSam n f) ⟨sc, ho, po, pa, qu, hq, fr, hf⟩))
  | _ => none
theorem conKeyG : Con pg 24 ckKeyG := by
  have hct := (ctA_ok conNormA (ctA_ok conCutPre (ctA_ok conHasS (ctA_ok conTurned (ctA_ok conPathO (ctA_ok conQryO (ctN_ok _)))))))
  intro args q r h hq
  unfold ckKeyG at h
  split at h
  · cases h
    rename_i sc ho po pa qu hq1 fr hf n f
    refine w24 (fun d => decide (d = 20006 ∨ d = 20009 ∨ d = 20012)) [] rfl hct rfl rfl ?_
    push_cast (config := { maxSteps := 10000000 })
    obtain ⟨ha, hl, hn⟩ := hq
    obtain ⟨y1, y2, y3, y4, y5⟩ := norm_sz ha
    have hk : keyL (lsOf cSam n f) ⟨sc, ho, po, pa, qu, hq1, fr, hf⟩ = keyN (lsOf cSam n f) (normA ⟨sc, ho, po, pa, qu, hq1, fr, hf⟩) := rfl
    rw [hk]
    clear hk
    have hwf : ∀ b : Adr, b = normA ⟨sc, ho, po, pa, qu, hq1, fr, hf⟩ → b.ho.length ≤ 2000 ∧ b.po.length ≤ 2000 ∧ b.pa.length ≤ 2001 ∧ b.qu.length ≤ 2000 := fun b e => by rw [e]; exact ⟨y2, y3, y4, y5⟩
    generalize normA ⟨sc, ho, po, pa, qu, hq1, fr, hf⟩ = b at *
    obtain ⟨z1, z2, z3, z4⟩ := hwf b rfl
    clear hwf y1 y2 y3 y4 y5
    refine ⟨ha, ?_⟩
    generalize hKN : keyN (lsOf cSam n f) b = KN
    refine SeqW.cut ⟨hct, fol⟩ (by kernel_rfl) (by kernel_rfl) [] (fun h : List UInt8 => [(1, .sl n f), (2, .ptr 2 0), (5, .str h)]) (fun _ => [(2, .cells [.str b.sc, .str b.ho, .str b.po, .str b.pa, .str b.qu, .bool b.hq, .str b.fr, .bool b.hf])]) (fun h => h = hostK (lsOf cSam n f) b.ho ∧ h.length ≤ 2000) ?_ fun h hh => ?_
    · have e4 : hostK (lsOf cSam n f) b.ho = if hasPre b.ho [119, 119, 119, 46] = true ∧ hasSam (lsOf cSam n f) 2 [] = true then b.ho.drop 4 else b.ho := rfl
      push_cast (config := { maxSteps := 10000000 })
      refine ⟨by omega, fun h => ⟨h, hl, hn⟩, fun h => ⟨b.ho.drop 4, ⟨by rw [e4, if_pos h], by rw [List.length_drop]; omega⟩, by rw [h.1]; rfl⟩, fun h => ⟨b.ho, ⟨by rw [e4, if_neg fun x => by rw [h x.1] at x; cases x.2], z1⟩, rfl⟩⟩
    obtain ⟨h1, h2⟩ := hh
    have e : KN = Lib.join (splitL h 46).reverse [44] ++ (if b.po = [] then [] else [58] ++ b.po) ++ [41] ++ (if b.sc = [104, 116, 116, 112, 115] ∧ hasSam (lsOf cSam n f) 1 [] = false then [115] else []) ++ pk3 (lsOf cSam n f) (pk2 (lsOf cSam n f) (pk1 (lsOf cSam n f) b.pa)) ++ (if b.hq = true then qryL (lsOf cSam n f) b.qu else []) := by rw [← hKN, h1]; rfl
    have ht := turn_len (s := h) (c := 46) (d := [44]) (by omega) (Nat.le_refl 1)
    clear hKN h1
    push_cast (config := { maxSteps := 10000000 })
    refine ⟨⟨h2, by omega⟩, ?_⟩
    refine SeqW.cut ⟨hct, fol⟩ (by kernel_rfl) (by kernel_rfl) [] (fun s : List UInt8 => [(1, .sl n f), (2, .ptr 2 0), (8, .str s)]) (fun _ => [(2, .cells [.str b.sc, .str b.ho, .str b.po, .str b.pa, .str b.qu, .bool b.hq, .str b.fr, .bool b.hf])]) (fun s => s = Lib.join (splitL h 46).reverse [44] ++ (if b.po = [] then [] else [58] ++ b.po)) ?_ fun s hs => ?_
    · push_cast (config := { maxSteps := 10000000 })
      refine ⟨fun h0 => ⟨by omega, by omega, _, ⟨?_, rfl⟩⟩, fun h0 => ⟨_, ⟨?_, rfl⟩⟩⟩
      · rw [if_neg h0]
      · rw [if_pos h0, List.append_nil]
    have hsl : s.length ≤ 5000000 := by
      rw [hs, List.length_append]
      split
      · simp; omega
      · simp; omega
    rw [← hs] at e
    clear hs ht
    push_cast (config := { maxSteps := 10000000 })
    refine ⟨by omega, ?_⟩
    refine SeqW.cut ⟨hct, fol⟩ (by kernel_rfl) (by kernel_rfl) [] (fun s2 : List UInt8 => [(1, .sl n f), (2, .ptr 2 0), (8, .str s2)]) (fun _ => [(2, .cells [.str b.sc, .str b.ho, .str b.po, .str b.pa, .str b.qu, .bool b.hq, .str b.fr, .bool b.hf])]) (fun s2 => s2 = s ++ [41] ++ (if b.sc = [104, 116, 116, 112, 115] ∧ hasSam (lsOf cSam n f) 1 [] = false then [115] else [])) ?_ fun s2 hs => ?_
    · push_cast (config := { maxSteps := 10000000 })
      refine ⟨fun h => ⟨h, hl, hn⟩, fun h => ⟨by omega, _, ⟨?_, rfl⟩⟩, fun h => ⟨_, ⟨?_, rfl⟩⟩⟩
      · rw [if_pos h]
      · rw [if_neg (fun x => by rw [h x.1] at x; cases x.2), List.append_nil]
    have hs2l : s2.length ≤ 5000002 := by
      rw [hs, List.length_append, List.length_append]
      split
      · simp; omega
      · simp; omega
    rw [← hs] at e
    clear hs
    have hp := pkk_len (lsOf cSam n f) b.pa
    have hq := (qry_len (l := lsOf cSam n f) (q := b.qu) (by omega)).1
    push_cast (config := { maxSteps := 10000000 })
    refine ⟨⟨by omega, hl, hn⟩, by omega, fun h => ⟨⟨by omega, hl, hn⟩, by omega, ?_⟩, fun h => ?_⟩
    · rw [e, if_pos h]
    · rw [e, if_neg (by rw [h]; simp), List.append_nil]
  · cases h
attribute [push_cast] ckKeyG

/- the first number that is not 0 -/
def orI : List Int → Int
  | [] => 0
  | x :: t => if x = 0 then orI t else x
theorem dropI {l : List Int} {i : Nat} (h : i < l.length) : l.drop i = l.getD i 0 :: l.drop (i + 1) := by
  rw [List.drop_eq_getElem_cons h, List.getD_eq_getElem?_getD, List.getElem?_eq_getElem h]; rfl
def ckOrI : Ck
  | [.sl n f] => some (isLs cInt n f ∧ n ≤ 1000000, .int .i64 (orI (lsOf cInt n f)))
  | _ => none
theorem conOrI : Con pg 54 ckOrI := by
  have hct := ctN_ok pg
  intro args q r h hq
  unfold ckOrI at h
  split at h
  · cases h
    rename_i n f
    refine pcall_args (args' := [.sl (lsOf cInt n f).length (lsF cInt (lsOf cInt n f))]) ⟨isLs.vle hq.1, trivial⟩ ?_
    have hn : (lsOf cInt n f).length ≤ 1000000 := by rw [lsOf_len]; exact hq.2
    generalize lsOf cInt n f = l at hn ⊢
    refine w54 (fun _ => false) [] rfl hct rfl rfl ?_
    push_cast (config := { maxSteps := 10000000 })
    refine LoopW.adj ⟨hct, fol⟩ (by kernel_rfl) [] (fun i : Nat => [(3, .int .i64 0), (6, .sl l.length (lsF cInt l)), (7, .int .i64 l.length), (8, .int .i64 i)]) (fun _ => []) (fun i => i ≤ l.length ∧ orI (l.drop i) = orI l) (fun i => l.length - i) 0 ?_ fun i hi => ?_
    · push_cast (config := { maxSteps := 10000000 })
      exact Nat.zero_le _
    · obtain ⟨i1, i2⟩ := hi
      push_cast (config := { maxSteps := 10000000 })
      refine ⟨fun h => ?_, fun h => ?_⟩
      · rw [dropI h, orI] at i2
        exact ⟨h, fun z => by rw [if_neg z] at i2; exact i2, fun z => ⟨by omega, i + 1, ⟨by omega, by rw [if_pos z] at i2; exact i2⟩, by omega, by omega⟩⟩
      · rw [List.drop_eq_nil_of_le (by omega)] at i2
        exact i2
  · cases h
attribute [push_cast] ckOrI

/-- what is wrong with rule i -/
def samI (l : List Sam) (i : Nat) : Int :=
  if (l.getD i noSam).ki < 1 ∨ 7 < (l.getD i noSam).ki then 4
  else if ¬ (((l.getD i noSam).ki = 5 ∨ (l.getD i noSam).ki = 7) ↔ ¬ (l.getD i noSam).nm = []) then 3
  else if ¬ rowR (l.getD i noSam).nm = true ∨ Lib.containsAny (l.getD i noSam).nm samX = true then 3
  else if 0 < i ∧ 0 ≤ orI [cmpI (l.getD (i - 1) noSam).ki (l.getD i noSam).ki, Lib.compareBytes (l.getD (i - 1) noSam).nm (l.getD i noSam).nm] then 8
  else 0
def fstE (g : Nat → Int) : Nat → Nat → Int
  | _, 0 => 0
  | i, k + 1 => if ¬ g i = 0 then g i else fstE g (i + 1) k
def samE (l : List Sam) : Int := if 50 < l.length then 2 else fstE (samI l) 0 l.length
theorem row_asc : ∀ {s : List UInt8}, rowR s = true → asciiC s = true
  | [], _ => rfl
  | c :: t, h => by
    rw [rowR, Bool.and_eq_true, Bool.and_eq_true] at h
    have h1 := h.1.1
    unfold rowB at h1
    simp only [Bool.and_eq_true, decide_eq_true_eq] at h1
    rw [asciiC_cons, Bool.and_eq_true]
    exact ⟨decide_eq_true (by omega), row_asc h.2⟩
theorem nam_iff (k : Int) (m : List UInt8) : (((k == 5 || k == 7) = (m != [])) : Prop) ↔ ((k = 5 ∨ k = 7) ↔ ¬ m = []) := by
  rw [Bool.eq_iff_iff, Bool.or_eq_true, beq_iff_eq, beq_iff_eq, bne_iff_ne]
theorem fstE_at {g : Nat → Int} {n i : Nat} (h : i < n) : fstE g i (n - i) = if ¬ g i = 0 then g i else fstE g (i + 1) (n - (i + 1)) := by
  rw [show n - i = (n - (i + 1)) + 1 by omega]; rfl
def samsOk (l : List Sam) : Prop := ∀ x ∈ l, x.nm.length ≤ 140737488355328
def ckChkSam : Ck
  | [.sl n f] => some (isLs cSam n f ∧ n ≤ 4611686018427387904 ∧ samsOk (lsOf cSam n f), .int .i64 (samE (lsOf cSam n f)))
  | _ => none
theorem conChkSam : Con pg 22 ckChkSam := by
  have hct := (ctA_ok conIsRow (ctA_ok conCany (ctA_ok conCmpI (ctA_ok conCmpS (ctA_ok conOrI (ctN_ok _))))))
  intro args q r h hq
  unfold ckChkSam at h
  split at h
  · cases h
    rename_i n f
    refine pcall_args (args' := [.sl (lsOf cSam n f).length (lsF cSam (lsOf cSam n f))]) ⟨isLs.vle hq.1, trivial⟩ ?_
    obtain ⟨-, hn, hs⟩ := hq
    rw [← lsOf_len (c := cSam) n f] at hn
    generalize lsOf cSam n f = l at hn hs ⊢
    refine w22 (fun _ => false) [] rfl hct rfl rfl ?_
    push_cast (config := { maxSteps := 10000000 })
    refine ⟨fun h => by unfold samE; rw [if_pos (by omega)], fun h => ?_⟩
    have hE : samE l = fstE (samI l) 0 l.length := by unfold samE; rw [if_neg (by omega)]
    rw [hE]
    refine LoopW.adj ⟨hct, fol⟩ (by kernel_rfl) [] (fun i : Nat => [(0, .sl l.length (lsF cSam l)), (9, .sl l.length (lsF cSam l)), (10, .int .i64 l.length), (11, .int .i64 i)]) (fun _ => []) (fun i => i ≤ l.length ∧ fstE (samI l) i (l.length - i) = fstE (samI l) 0 l.length) (fun i => l.length - i) 0 ?_ fun i hi => ?_
    · push_cast (config := { maxSteps := 10000000 })
      exact Nat.zero_le _
    · obtain ⟨i1, i2⟩ := hi
      have hnm : i < l.length → (l.getD i noSam).nm.length ≤ 140737488355328 := fun h => hs _ (by rw [List.getD_eq_getElem?_getD, List.getElem?_eq_getElem h]; exact List.getElem_mem h)
      have hF := @fstE_at (samI l) l.length i
      have hI : samI l i = if (l.getD i noSam).ki < 1 ∨ 7 < (l.getD i noSam).ki then 4
        else if ¬ (((l.getD i noSam).ki = 5 ∨ (l.getD i noSam).ki = 7) ↔ ¬ (l.getD i noSam).nm = []) then 3
        else if ¬ rowR (l.getD i noSam).nm = true ∨ Lib.containsAny (l.getD i noSam).nm samX = true then 3
        else if 0 < i ∧ 0 ≤ orI [cmpI (l.getD (i - 1) noSam).ki (l.getD i noSam).ki, Lib.compareBytes (l.getD (i - 1) noSam).nm (l.getD i noSam).nm] then 8
        else 0 := rfl
      have hR := isRow_0 (l.getD i noSam).nm
      rw [Bool.eq_iff_iff, Bool.and_eq_true, beq_iff_eq] at hR
      have hx : [47, 63, 38, 61, 37, 65, 66, 67, 68, 69, 70, 71, 72, 73, 74, 75, 76, 77, 78, 79, 80, 81, 82, 83, 84, 85, 86, 87, 88, 89, 90] = samX := rfl
      push_cast (config := { maxSteps := 10000000 })
      have e1 : ((i : Int) - 1).toNat = i - 1 := by omega
      rw [e1, nam_iff]
      have eC : LsI cInt 2 (litF [V.int IntKind.i64 (cmpI (l.getD (i - 1) noSam).ki (l.getD i noSam).ki), V.int IntKind.i64 (Lib.compareBytes (l.getD (i - 1) noSam).nm (l.getD i noSam).nm)]) [cmpI (l.getD (i - 1) noSam).ki (l.getD i noSam).ki, Lib.compareBytes (l.getD (i - 1) noSam).nm (l.getD i noSam).nm] := ⟨rfl, fun j hj => by
        match j, hj with
        | 0, _ => rfl
        | 1, _ => rfl⟩
      rw [eC.of]
      have eI := eC.is
      have hres : i < l.length → ¬ samI l i = 0 → samI l i = fstE (samI l) 0 l.length := fun h h2 => by rw [← i2, hF h, if_pos h2]
      have hgo : i < l.length → samI l i = 0 → fstE (samI l) (i + 1) (l.length - (i + 1)) = fstE (samI l) 0 l.length := fun h h2 => by rw [← i2, hF h, if_neg (fun x => x h2)]
      have hend : i = l.length → 0 = fstE (samI l) 0 l.length := fun e => by rw [← i2, e, Nat.sub_self]; rfl
      clear eC i2 hF
      generalize samI l i = r at *
      generalize litF _ = F at *
      generalize orI _ = o at *
      generalize fstE (samI l) 0 l.length = R at *
      generalize l.getD i noSam = x at *
      rw [hR]
      refine ⟨fun h => ⟨h, fun a1 => ?_, fun a1 => ⟨fun a2 => ?_, fun a2 => ⟨?_, fun a3 => ⟨a3, ?_, row_asc a3, hx⟩, fun a3 => ?_, fun a3 => ⟨fun h0 => ⟨h0, by omega, by omega⟩, fun h0 => ⟨h0, by omega, by omega⟩, fun h0 => ⟨h0, by omega, by omega⟩, fun h0 => ⟨h0, by omega, by omega⟩, fun h0 => ⟨h0, eI⟩, fun a4 => ?_, fun a4 => ⟨by omega, i + 1, ⟨h, hgo h ?_⟩, by omega, by omega⟩⟩⟩⟩⟩, fun h => ?_⟩
      · rw [if_pos a1] at hI
        have := hres h (by rw [hI]; decide)
        rw [← this, hI]
      · rw [if_neg (fun x => x.elim a1.1 a1.2), if_pos a2] at hI
        have := hres h (by rw [hI]; decide)
        rw [← this, hI]
      · have := hnm h; omega
      · have := hnm h; omega
      · have a4 : ¬ rowR x.nm = true ∨ Lib.containsAny x.nm samX = true := a3.imp_left fun g z => g (hR.2 z).1 (hR.2 z).2
        rw [if_neg (fun x => x.elim a1.1 a1.2), if_neg (fun z => z a2), if_pos a4] at hI
        have := hres h (by rw [hI]; decide)
        rw [← this, hI]
      · have a5 : ¬ (¬ rowR x.nm = true ∨ Lib.containsAny x.nm samX = true) := fun z => z.elim (fun g => g a3.1) (fun g => by rw [a3.2] at g; cases g)
        rw [if_neg (fun x => x.elim a1.1 a1.2), if_neg (fun z => z a2), if_neg a5, if_pos ⟨by omega, a4.2⟩] at hI
        have := hres h (by rw [hI]; decide)
        rw [← this, hI]
      · have a5 : ¬ (¬ rowR x.nm = true ∨ Lib.containsAny x.nm samX = true) := fun z => z.elim (fun g => g a3.1) (fun g => by rw [a3.2] at g; cases g)
        rw [if_neg (fun x => x.elim a1.1 a1.2), if_neg (fun z => z a2), if_neg a5, if_neg (fun z => a4 (by omega) z.2)] at hI
        exact hI
      · exact hend (by omega)
  · cases h
attribute [push_cast] ckChkSam
def keE (a : Adr) (l : List Sam) : Int := if ¬ checkAdrL a = 0 then checkAdrL a else if ¬ samE l = 0 then samE l else checkAdrL (normA a)
def ckKeyT : Ck
  | [.agg [.str sc, .str ho, .str po, .str pa, .str qu, .bool hq, .str fr, .bool hf], .sl n f] => some (adrOk ⟨sc, ho, po, pa, qu, hq, fr, hf⟩ ∧ isLs cSam n f ∧ n ≤ 4611686018427387904 ∧ samsOk (lsOf cSam n f), .tup [.str (if keE ⟨sc, ho, po, pa, qu, hq, fr, hf⟩ (lsOf cSam n f) = 0 then keyL (lsOf cSam n f) ⟨sc, ho, po, pa, qu, hq, fr, hf⟩ else []), .int .i64 (keE ⟨sc, ho, po, pa, qu, hq, fr, hf⟩ (lsOf cSam n f))])
  | _ => none
theorem conKeyT : Con pg 7 ckKeyT := by
  have hct := (ctA_ok conCheckAdr (ctA_ok conChkSam (ctA_ok conNormAF (ctA_ok conKeyG (ctN_ok _)))))
  intro args q r h hq
  unfold ckKeyT at h
  split at h
  · cases h
    rename_i sc ho po pa qu hq1 fr hf n f
    refine w7 (fun _ => false) [] rfl hct rfl rfl ?_
    push_cast (config := { maxSteps := 10000000 })
    obtain ⟨h0, hl, hn, hs⟩ := hq
    generalize (⟨sc, ho, po, pa, qu, hq1, fr, hf⟩ : Adr) = a at *
    generalize lsOf cSam n f = l at *
    have hE : keE a l = if ¬ checkAdrL a = 0 then checkAdrL a else if ¬ samE l = 0 then samE l else checkAdrL (normA a) := rfl
    generalize keE a l = e at *
    refine ⟨h0, fun h1 => ?_, fun h1 => ⟨⟨hl, hn, hs⟩, fun h2 => ?_, fun h2 => ⟨h1, fun h3 => ?_, fun h3 => ⟨⟨h1, hl, hn⟩, ?_⟩⟩⟩⟩
    · rw [if_pos h1] at hE
      rw [hE, if_neg h1]; exact ⟨rfl, rfl⟩
    · rw [if_neg (fun x => x h1), if_pos h2] at hE
      rw [hE, if_neg h2]; exact ⟨rfl, rfl⟩
    · rw [if_neg (fun x => x h1), if_neg (fun x => x h2)] at hE
      rw [hE, if_neg h3]; exact ⟨rfl, rfl⟩
    · rw [if_neg (fun x => x h1), if_neg (fun x => x h2), h3] at hE
      rw [hE, if_pos rfl]; exact ⟨rfl, rfl⟩
  · cases h
attribute [push_cast] ckKeyT

/-- what is asked -/
structure Inq where
  me : List UInt8
  tg : List UInt8
  hd : List Hd
  bd : List UInt8
deriving DecidableEq
def decInq : V → Inq
  | .agg [.str me, .str tg, .sl n f, .sl m g] => ⟨me, tg, lsOf cHd n f, bytesOf m g⟩
  | _ => ⟨[], [], [], []⟩
def cInq : Cod Inq := ⟨fun a => .agg [.str a.me, .str a.tg, .sl a.hd.length (lsF cHd a.hd), .sl a.bd.length (byF a.bd)], decInq, ⟨[], [], [], []⟩, fun a => by simp [decInq, lsOf_ls, bytesOf_by]⟩
@[push_cast] theorem enc_inq (a : Inq) : cInq.enc a = .agg [.str a.me, .str a.tg, .sl a.hd.length (lsF cHd a.hd), .sl a.bd.length (byF a.bd)] := rfl
@[push_cast] theorem dec_inq (me tg : List UInt8) (n m : Nat) (f g : Nat → V) : cInq.dec (.agg [.str me, .str tg, .sl n f, .sl m g]) = ⟨me, tg, lsOf cHd n f, bytesOf m g⟩ := rfl
theorem isC_inq {me tg : List UInt8} {n m : Nat} {f g : Nat → V} (h1 : isLs cHd n f) (h2 : isBy m g) : isC cInq (.agg [.str me, .str tg, .sl n f, .sl m g]) :=
  VLe.agg ⟨VLe.refl _, VLe.refl _, isLs.vle h1, isBy.vle h2, trivial⟩
@[push_cast] theorem isC_inqT (a : Inq) : isC cInq (.agg [.str a.me, .str a.tg, .sl a.hd.length (lsF cHd a.hd), .sl a.bd.length (byF a.bd)]) = True := eq_true (isC_enc cInq a)
@[push_cast] theorem inq_eta (a : Inq) : (⟨a.me, a.tg, a.hd, a.bd⟩ : Inq) = a := rfl
def inqOk (a : Inq) : Prop := hdsOk a.hd ∧ a.me.length ≤ 140737488355328 ∧ a.tg.length ≤ 140737488355328 ∧ a.hd.length ≤ 140737488355328 ∧ a.bd.length ≤ 140737488355328
theorem shInq {m : Nat} {v : V} (h : Sh.has (.tup [.str, .str, .list (.tup [.str, .str]), .list (.int .u8)]) m v) : isC cInq v ∧ inqOk (cInq.dec v) := by
  obtain ⟨l, ms, rfl, -, hl⟩ := h
  obtain ⟨m1, v1, ms, l, rfl, h1, hl⟩ := hasL_cons hl
  obtain ⟨m2, v2, ms, l, rfl, h2, hl⟩ := hasL_cons hl
  obtain ⟨m3, v3, ms, l, rfl, h3, hl⟩ := hasL_cons hl
  obtain ⟨m4, v4, ms, l, rfl, h4, hl⟩ := hasL_cons hl
  obtain rfl := hasL_nil hl
  obtain ⟨me, rfl, b1⟩ := shStr h1
  obtain ⟨tg, rfl, b2⟩ := shStr h2
  obtain ⟨n, f, rfl, i3, b3, k3⟩ := shList (c := cHd) (fun m v h => shHead h) h3
  obtain ⟨k, g, rfl, i4, b4⟩ := shBytes h4
  have := reach_le
  refine ⟨isC_inq i3 i4, ?_⟩
  show inqOk ⟨me, tg, lsOf cHd n f, bytesOf k g⟩
  refine ⟨k3, b1, b2, ?_, ?_⟩
  · show (lsOf cHd n f).length ≤ _
    rw [lsOf_len]; exact b3
  · show (bytesOf k g).length ≤ _
    rw [bytesOf_len]; omega
/-- heads, written -/
def headB (h : Hd) : List UInt8 := h.name ++ [58, 32] ++ h.value ++ [13, 10]
def headsB : List Hd → List UInt8
  | [] => []
  | h :: l => headB h ++ headsB l
theorem headsB_snoc (l : List Hd) (h : Hd) : headsB (l ++ [h]) = headsB l ++ headB h := by
  induction l with
  | nil => simp [headsB]
  | cons x l ih => simp [headsB, ih, List.append_assoc]

/-- a record -/
structure Rcd where
  ki : Int
  id : List UInt8
  ow : List UInt8
  ti : Int
  ke : List UInt8
  hd : List Hd
  bd : List UInt8
deriving DecidableEq
def noRec : Rcd := ⟨0, [], [], 0, [], [], []⟩
def decRec : V → Rcd
  | .agg [.int _ ki, .str id, .str ow, .int _ ti, .str ke, .sl n f, .sl m g] => ⟨ki, id, ow, ti, ke, lsOf cHd n f, bytesOf m g⟩
  | _ => noRec
def cRec : Cod Rcd := ⟨fun a => .agg [.int .i64 a.ki, .str a.id, .str a.ow, .int .i64 a.ti, .str a.ke, .sl a.hd.length (lsF cHd a.hd), .sl a.bd.length (byF a.bd)], decRec, noRec, fun a => by simp [decRec, lsOf_ls, bytesOf_by]⟩
@[push_cast] theorem enc_rec (a : Rcd) : cRec.enc a = .agg [.int .i64 a.ki, .str a.id, .str a.ow, .int .i64 a.ti, .str a.ke, .sl a.hd.length (lsF cHd a.hd), .sl a.bd.length (byF a.bd)] := rfl
@[push_cast] theorem dec_rec (k k' : IntKind) (ki ti : Int) (id ow ke : List UInt8) (n m : Nat) (f g : Nat → V) : cRec.dec (.agg [.int k ki, .str id, .str ow, .int k' ti, .str ke, .sl n f, .sl m g]) = ⟨ki, id, ow, ti, ke, lsOf cHd n f, bytesOf m g⟩ := rfl
theorem isC_rec {ki ti : Int} {id ow ke : List UInt8} {n m : Nat} {f g : Nat → V} (h1 : isLs cHd n f) (h2 : isBy m g) : isC cRec (.agg [.int .i64 ki, .str id, .str ow, .int .i64 ti, .str ke, .sl n f, .sl m g]) :=
  VLe.agg ⟨VLe.refl _, VLe.refl _, VLe.refl _, VLe.refl _, VLe.refl _, isLs.vle h1, isBy.vle h2, trivial⟩
@[push_cast] theorem isC_recT (a : Rcd) : isC cRec (.agg [.int .i64 a.ki, .str a.id, .str a.ow, .int .i64 a.ti, .str a.ke, .sl a.hd.length (lsF cHd a.hd), .sl a.bd.length (byF a.bd)]) = True := eq_true (isC_enc cRec a)
@[push_cast] theorem rec_eta (a : Rcd) : (⟨a.ki, a.id, a.ow, a.ti, a.ke, a.hd, a.bd⟩ : Rcd) = a := rfl
def recOk (a : Rcd) : Prop := hdsOk a.hd ∧ a.id.length ≤ 140737488355328 ∧ a.ow.length ≤ 140737488355328 ∧ a.ke.length ≤ 140737488355328 ∧ a.hd.length ≤ 140737488355328 ∧ a.bd.length ≤ 140737488355328 ∧ -9223372036854775808 ≤ a.ti ∧ a.ti ≤ 9223372036854775807 ∧ -9223372036854775808 ≤ a.ki ∧ a.ki ≤ 9223372036854775807
theorem shRec {m : Nat} {v : V} (h : Sh.has (.tup [.int .i64, .str, .str, .int .i64, .str, .list (.tup [.str, .str]), .list (.int .u8)]) m v) : isC cRec v ∧ recOk (cRec.dec v) := by
  obtain ⟨l, ms, rfl, -, hl⟩ := h
  obtain ⟨m1, v1, ms, l, rfl, h1, hl⟩ := hasL_cons hl
  obtain ⟨m2, v2, ms, l, rfl, h2, hl⟩ := hasL_cons hl
  obtain ⟨m3, v3, ms, l, rfl, h3, hl⟩ := hasL_cons hl
  obtain ⟨m4, v4, ms, l, rfl, h4, hl⟩ := hasL_cons hl
  obtain ⟨m5, v5, ms, l, rfl, h5, hl⟩ := hasL_cons hl
  obtain ⟨m6, v6, ms, l, rfl, h6, hl⟩ := hasL_cons hl
  obtain ⟨m7, v7, ms, l, rfl, h7, hl⟩ := hasL_cons hl
  obtain rfl := hasL_nil hl
  obtain ⟨ki, rfl, c1⟩ := shInt h1
  obtain ⟨id, rfl, b2⟩ := shStr h2
  obtain ⟨ow, rfl, b3⟩ := shStr h3
  obtain ⟨ti, rfl, c4⟩ := shInt h4
  obtain ⟨ke, rfl, b5⟩ := shStr h5
  obtain ⟨n, f, rfl, i6, b6, k6⟩ := shList (c := cHd) (fun m v h => shHead h) h6
  obtain ⟨k, g, rfl, i7, b7⟩ := shBytes h7
  have := reach_le
  simp only [Lit.wf, Bool.and_eq_true, decide_eq_true_eq] at c1 c4
  refine ⟨isC_rec i6 i7, ?_⟩
  show recOk ⟨ki, id, ow, ti, ke, lsOf cHd n f, bytesOf k g⟩
  refine ⟨k6, b2, b3, b5, ?_, ?_, c4.1, c4.2, c1.1, c1.2⟩
  · show (lsOf cHd n f).length ≤ _
    rw [lsOf_len]; exact b6
  · show (bytesOf k g).length ≤ _
    rw [bytesOf_len]; omega
/-- a name -/
def nmB (c : UInt8) : Bool := decide (97 ≤ c.toNat ∧ c.toNat ≤ 122 ∨ 48 ≤ c.toNat ∧ c.toNat ≤ 57 ∨ c.toNat = 45)
def smB (c : UInt8) : Bool := decide (97 ≤ c.toNat ∧ c.toNat ≤ 122)
def nameL (s : List UInt8) : Bool := decide (1 ≤ s.length) && decide (s.length ≤ 40) && smB (s.getD 0 0) && s.all nmB
def nmS : List UInt8 := [97, 98, 99, 100, 101, 102, 103, 104, 105, 106, 107, 108, 109, 110, 111, 112, 113, 114, 115, 116, 117, 118, 119, 120, 121, 122, 48, 49, 50, 51, 52, 53, 54, 55, 56, 57, 45]
theorem nmS_has (c : UInt8) : nmS.contains c = nmB c := by
  have key : ∀ n, n < 256 → nmS.contains (UInt8.ofNat n) = nmB (UInt8.ofNat n) := by decide +kernel
  have := key c.toNat (UInt8.toNat_lt c)
  simpa using this
theorem trim_nm (s : List UInt8) : Lib.trimS s nmS = [] ↔ s.all nmB = true := by
  rw [trimS_nil]
  have : (fun x => nmS.contains x) = nmB := funext nmS_has
  rw [this]
/-- a record's digest -/
def mixS (n : Int) (c : UInt8) : Int := bitsI .xor .u64 n (c.toNat % 18446744073709551616) * 1099511628211 % 18446744073709551616
def mixL (s : List UInt8) : Int := s.foldl mixS 14695981039346656037
theorem mix_b (s : List UInt8) : 0 ≤ mixL s ∧ mixL s < 18446744073709551616 := by
  have : ∀ (s : List UInt8) (n : Int), (0 ≤ n ∧ n < 18446744073709551616) → 0 ≤ s.foldl mixS n ∧ s.foldl mixS n < 18446744073709551616 := by
    intro s
    induction s with
    | nil => intro n h; exact h
    | cons c t ih => intro n h; rw [List.foldl_cons]; exact ih _ (by unfold mixS; omega)
  exact this s _ (by omega)
theorem mixL_snoc (s : List UInt8) (c : UInt8) : mixL (s ++ [c]) = mixS (mixL s) c := by simp [mixL, List.foldl_append]
theorem andF (n : Int) (h0 : 0 ≤ n) (h : n < 18446744073709551616) : bitsI .and .u64 n 15 = n % 16 := by
  obtain ⟨u, rfl⟩ : ∃ u : Nat, n = u := ⟨n.toNat, by omega⟩
  show IntKind.u64.wrap (((BitVec.ofInt 64 (u : Int) &&& BitVec.ofInt 64 15 : BitVec 64).toNat : Nat) : Int) = _
  have e3 : (BitVec.ofInt 64 (u : Int) &&& BitVec.ofInt 64 15 : BitVec 64).toNat = u % 16 := by
    rw [BitVec.ofInt_natCast, BitVec.toNat_and, show (BitVec.ofInt 64 15 : BitVec 64).toNat = 2 ^ 4 - 1 from rfl, BitVec.toNat_ofNat, Nat.mod_eq_of_lt (by omega), Nat.and_two_pow_sub_one_eq_mod]
  rw [e3, wrap_u64]
  omega
theorem shrF (n : Int) (h0 : 0 ≤ n) : n.fdiv (2 ^ min 4 IntKind.u64.bits) = n / 16 := by
  rw [show (2 : Int) ^ min 4 IntKind.u64.bits = 16 from rfl, Int.fdiv_eq_ediv_of_nonneg _ (by omega)]
def hexT : List UInt8 := [48, 49, 50, 51, 52, 53, 54, 55, 56, 57, 97, 98, 99, 100, 101, 102]
def hex16 (n : Int) : List UInt8 := (List.range 16).map fun j => hexT.getD ((n / 16 ^ (15 - j)) % 16).toNat 0
def digestL (s : List UInt8) : List UInt8 := hex16 (mixL s)
theorem hex16_len (n : Int) : (hex16 n).length = 16 := by simp [hex16]
/-- the words of the lines of a record's own -/
def ownW : List (List UInt8) := [[105, 100], [111, 102], [107, 105, 110, 100], [100, 97, 116, 101], [107, 101, 121], [108, 101, 110, 103, 116, 104], [100, 105, 103, 101, 115, 116]]
def kindW : List (List UInt8) := [[105, 110, 102, 111], [114, 101, 113, 117, 101, 115, 116], [97, 110, 115, 119, 101, 114], [114, 101, 118, 105, 115, 105, 116], [112, 105, 101, 99, 101]]
def ownH (lw : List UInt8 → List UInt8) (l : List Hd) : Bool := l.any fun h => ownW.contains (lw h.name)
def hexD (n : Int) : UInt8 := hexT.getD (n % 16).toNat 0
/-- the lines of a record -/
def lnB2 (w v : List UInt8) : List UInt8 := w ++ [58, 32] ++ v ++ [13, 10]

def valB (c : UInt8) : Bool := decide (c.toNat = 9 ∨ 32 ≤ c.toNat ∧ c.toNat ≤ 126)
def valueL (s : List UInt8) : Bool := decide (s.length ≤ 1000) && (Lib.trimS s [32, 9] == s) && s.all valB
def ckMTrim : Ck
  | [.str s] => some (s.length ≤ 4611686018427387904, .str (Lib.trimS s [32, 9]))
  | _ => none
attribute [push_cast] ckMTrim
def ckIsValue : Ck
  | [.str s] => some (s.length ≤ 4611686018427387904, .bool (valueL s))
  | _ => none
theorem valueL_no {s : List UInt8} (h : s.all valB = false) : false = valueL s := by unfold valueL; rw [h, Bool.and_false]
attribute [push_cast] ckIsValue
def headsGo : List Hd → Int
  | [] => 0
  | h :: t => if tokL h.name = true then (if valueL h.value = true then headsGo t else 3) else 5
def checkHeadsL (l : List Hd) : Int := if 100 < l.length then 2 else headsGo l
def ckCheckHeads : Ck
  | [.sl n f] => some (isLs cHd n f ∧ hdsOk (lsOf cHd n f), .int .i64 (checkHeadsL (lsOf cHd n f)))
  | _ => none
theorem headsGo_tok {l : List Hd} {i : Nat} (hi : i < l.length) (h : ¬ tokL (l.getD i ⟨[], []⟩).name = true) : headsGo (l.drop i) = 5 := by
  rw [dropG (d := ⟨[], []⟩) hi, headsGo, if_neg h]
theorem headsGo_val {l : List Hd} {i : Nat} (hi : i < l.length) (h : tokL (l.getD i ⟨[], []⟩).name = true) (h2 : ¬ valueL (l.getD i ⟨[], []⟩).value = true) : headsGo (l.drop i) = 3 := by
  rw [dropG (d := ⟨[], []⟩) hi, headsGo, if_pos h, if_neg h2]
theorem headsGo_next {l : List Hd} {i : Nat} (hi : i < l.length) (h : tokL (l.getD i ⟨[], []⟩).name = true) (h2 : valueL (l.getD i ⟨[], []⟩).value = true) : headsGo (l.drop i) = headsGo (l.drop (i + 1)) := by
  rw [dropG (d := ⟨[], []⟩) hi, headsGo, if_pos h, if_pos h2]
attribute [push_cast] ckCheckHeads
def valuesL (l : List Hd) (name : List UInt8) : List (List UInt8) := (l.filter fun h => lowL h.name == name).map Hd.value
def ckValues : Ck
  | [.sl n f, .str name] => some (isLs cHd n f ∧ hdsOk (lsOf cHd n f) ∧ n ≤ 1000000, .sl (valuesL (lsOf cHd n f) name).length (lsF cStr (valuesL (lsOf cHd n f) name)))
  | _ => none
theorem valuesL_hit {l : List Hd} {i : Nat} {name : List UInt8} (hi : i < l.length) (h : lowL (l.getD i ⟨[], []⟩).name = name) : valuesL (l.drop i) name = (l.getD i ⟨[], []⟩).value :: valuesL (l.drop (i + 1)) name := by
  unfold valuesL
  rw [dropG (d := ⟨[], []⟩) hi, List.filter_cons, if_pos (beq_iff_eq.2 h), List.map_cons]
theorem valuesL_miss {l : List Hd} {i : Nat} {name : List UInt8} (hi : i < l.length) (h : ¬ lowL (l.getD i ⟨[], []⟩).name = name) : valuesL (l.drop i) name = valuesL (l.drop (i + 1)) name := by
  unfold valuesL
  rw [dropG (d := ⟨[], []⟩) hi, List.filter_cons, if_neg (fun e => h (beq_iff_eq.1 e))]
theorem valuesL_le (l : List Hd) (name : List UInt8) : (valuesL l name).length ≤ l.length := by
  unfold valuesL; rw [List.length_map]; exact List.length_filter_le _ _
attribute [push_cast] ckValues
def tgB (c : UInt8) : Bool := decide (33 ≤ c.toNat ∧ c.toNat ≤ 126)
def targetL (s : List UInt8) : Bool := decide (1 ≤ s.length) && decide (s.length ≤ 2000) && s.all tgB
theorem targetL_no {s : List UInt8} (h : s.all tgB = false) : false = targetL s := by unfold targetL; rw [h, Bool.and_false]
def ckIsTarget : Ck
  | [.str s] => some (s.length ≤ 4611686018427387904, .bool (targetL s))
  | _ => none
attribute [push_cast] ckIsTarget
def ckDigits : Ck
  | [.str s, .int .i64 n] => some (s.length ≤ 4611686018427387904, .bool (digL s n))
  | _ => none
attribute [push_cast] ckDigits
def lenV : List (List UInt8) → Int × Bool
  | [v] => if digL v 1000 = true then (if 9 < v.length then (200001, true) else (min (natOf v : Int) 200001, true)) else (0, false)
  | _ => (0, false)
def lengthL (l : List Hd) : Int × Bool := lenV (valuesL l [108, 101, 110, 103, 116, 104])
def ckLength : Ck
  | [.sl n f] => some (isLs cHd n f ∧ hdsOk (lsOf cHd n f) ∧ n ≤ 1000000, .tup [.int .i64 (lengthL (lsOf cHd n f)).1, .bool (lengthL (lsOf cHd n f)).2])
  | _ => none
theorem valuesL_ok {l : List Hd} (h : hdsOk l) (name : List UInt8) : ∀ v ∈ valuesL l name, v.length ≤ 140737488355328 := by
  intro v hv
  simp only [valuesL, List.mem_map, List.mem_filter] at hv
  obtain ⟨x, ⟨hx, _⟩, rfl⟩ := hv
  exact (h x hx).2
theorem digL_all {v : List UInt8} {n : Int} (h : digL v n = true) : 1 ≤ v.length ∧ (v.length : Int) ≤ n ∧ v.all isDg = true ∧ (v.getD 0 0 ≠ 48 ∨ v = [48]) := by
  simp only [digL, Bool.and_eq_true, Bool.or_eq_true, decide_eq_true_eq, beq_iff_eq] at h
  exact ⟨h.1.1.1, h.1.1.2, h.1.2, h.2⟩
attribute [push_cast] ckLength
def wLen : List UInt8 := [108, 101, 110, 103, 116, 104]
def wCod : List UInt8 := [99, 111, 100, 105, 110, 103]
/-- the length that the heads say is not the body's, or a coding is named -/
def clashL (l : List Hd) (n : Nat) : Bool := (!((valuesL l wLen).length == 0 && n == 0) && !(valuesL l wLen == [Lib.itoa n])) || !((valuesL l wCod).length == 0)
def checkInqL (a : Inq) : Int := if tokL a.me = true then (if targetL a.tg = true then (if checkHeadsL a.hd = 0 then (if a.bd.length ≤ 200000 then (if clashL a.hd a.bd.length = true then 12 else 0) else 2) else checkHeadsL a.hd) else 3) else 5
theorem lenV_eq {l : List (List UInt8)} {n : Nat} (h : n ≤ 200000) : (lenV l).2 = true ∧ (lenV l).1 = n ↔ l = [Lib.itoa n] := by
  rw [itoa_nat]
  match l with
  | [] => simp [lenV]
  | a :: b :: r => simp [lenV]
  | [v] =>
    have hd := dec_dig n
    have hl := dec_len 5 n (by omega)
    constructor
    · intro ⟨h1, h2⟩
      unfold lenV at h1 h2
      simp only at h1 h2
      split at h1
      · rename_i hv
        rw [if_pos hv] at h2
        have hq := digL_all hv
        split at h2
        · simp only at h2; omega
        · simp only at h2
          have : natOf v = n := by omega
          have e := dec_natOf hq.2.2.1 hq.1 (hq.2.2.2.imp id fun e => by rw [e]; rfl)
          rw [← this, e]
      · cases h1
    · intro e
      obtain rfl : v = Lib.decDigits n := by simpa using e
      have hv : digL (Lib.decDigits n) 1000 = true := by
        simp only [digL, Bool.and_eq_true, Bool.or_eq_true, decide_eq_true_eq, beq_iff_eq]
        refine ⟨⟨⟨hd.2.2.1, by omega⟩, hd.1⟩, ?_⟩
        by_cases h10 : 10 ≤ n
        · exact .inl (hd.2.2.2.2 h10)
        · by_cases h0 : n = 0
          · subst h0; exact .inr (by rw [dec_small (by omega)]; rfl)
          · refine .inl ?_
            rw [dec_small (by omega)]
            intro e
            have := congrArg UInt8.toNat e
            simp only [List.getD_cons_zero] at this
            rw [UInt8.toNat_ofNat'] at this
            have : (48 : UInt8).toNat = 48 := rfl
            omega
      simp only [lenV, hv, if_true]
      rw [if_neg (by omega)]
      exact ⟨rfl, by rw [hd.2.1]; omega⟩
theorem itoa_len {n : Nat} (h : n ≤ 200000) : (Lib.itoa n).length ≤ 6 := by rw [itoa_nat]; exact dec_len 5 n (by omega)
theorem clash_iff {l : List Hd} {n : Nat} : clashL l n = true ↔ (((valuesL l wLen).length : Int) = 0 → ¬ (n : Int) = 0) ∧ ¬ valuesL l wLen = [Lib.itoa n] ∨ 0 < ((valuesL l wCod).length : Int) := by
  simp only [clashL, Bool.or_eq_true, Bool.and_eq_true, Bool.not_eq_true', Bool.and_eq_false_iff, beq_eq_false_iff_ne, ne_eq]
  constructor
  · rintro (⟨h1, h2⟩ | h)
    · exact .inl ⟨fun a b => by rcases h1 with h1 | h1 <;> omega, h2⟩
    · exact .inr (by omega)
  · rintro (⟨h1, h2⟩ | h)
    · refine .inl ⟨?_, h2⟩
      by_cases e : (valuesL l wLen).length = 0
      · exact .inr fun e2 => h1 (by omega) (by omega)
      · exact .inl e
    · exact .inr (by omega)
theorem clash_len {l : List Hd} {n : Nat} (h : n ≤ 200000) : clashL l n = true ↔ (((valuesL l wLen).length : Int) = 0 → ¬ (n : Int) = 0) ∧ ((lengthL l).2 = false ∨ ¬ (lengthL l).1 = n) ∨ 0 < ((valuesL l wCod).length : Int) := by
  have e : (¬ valuesL l wLen = [Lib.itoa n]) ↔ ((lengthL l).2 = false ∨ ¬ (lengthL l).1 = n) := by
    rw [← lenV_eq h, Decidable.not_and_iff_or_not, Bool.not_eq_true]; rfl
  rw [clash_iff, e]
theorem sing_iff {l : List (List UInt8)} {x : List UInt8} : l = [x] ↔ (l.length : Int) = 1 ∧ l.getD 0 [] = x := by
  match l with
  | [] => simp
  | [a] => simp
  | a :: b :: r => simp; omega
theorem clash_ref {l : List Hd} {n : Nat} : clashL l n = true ↔ (((valuesL l wLen).length : Int) = 0 → ¬ (n : Int) = 0) ∧ (¬ ((valuesL l wLen).length : Int) = 1 ∨ ¬ (valuesL l wLen).getD 0 [] = Lib.itoa n) ∨ 0 < ((valuesL l wCod).length : Int) := by
  rw [clash_iff, sing_iff, Decidable.not_and_iff_or_not]
theorem heads_100 {l : List Hd} (h : checkHeadsL l = 0) : l.length ≤ 100 := by
  unfold checkHeadsL at h
  split at h
  · omega
  · omega
theorem headsGo_le : ∀ {l : List Hd}, headsGo l = 0 → (headsB l).length ≤ l.length * 1044
  | [], _ => by simp [headsB]
  | h :: t, e => by
    simp only [headsGo] at e
    split at e
    · rename_i h1
      split at e
      · rename_i h2
        have ih := headsGo_le e
        simp only [tokL, valueL, Bool.and_eq_true, decide_eq_true_eq] at h1 h2
        simp only [headsB, headB, List.length_append, List.length_cons, List.length_nil]
        omega
      · omega
    · omega
theorem heads_le {l : List Hd} (h : checkHeadsL l = 0) : (headsB l).length ≤ 104400 := by
  have h1 := heads_100 h
  unfold checkHeadsL at h
  rw [if_neg (by omega)] at h
  have := headsGo_le h
  omega
def ckInq : Ck
  | [.agg [.str me, .str tg, .sl n f, .sl m g]] => some (isLs cHd n f ∧ isBy m g ∧ inqOk ⟨me, tg, lsOf cHd n f, bytesOf m g⟩, .int .i64 (checkInqL ⟨me, tg, lsOf cHd n f, bytesOf m g⟩))
  | _ => none
attribute [push_cast] ckInq
def ownL (l : List Hd) : Bool := l.any fun h => ownW.contains (lowL h.name)
theorem values_ne {l : List Hd} {w : List UInt8} : 0 < ((valuesL l w).length : Int) ↔ ∃ h ∈ l, lowL h.name = w := by
  unfold valuesL
  rw [List.length_map]
  constructor
  · intro h
    have : (l.filter fun h => lowL h.name == w) ≠ [] := fun e => by rw [e] at h; simp at h
    obtain ⟨x, hx⟩ := List.exists_mem_of_ne_nil _ this
    rw [List.mem_filter, beq_iff_eq] at hx
    exact ⟨x, hx⟩
  · rintro ⟨x, h1, h2⟩
    have : x ∈ l.filter fun h => lowL h.name == w := List.mem_filter.2 ⟨h1, beq_iff_eq.2 h2⟩
    have := List.length_pos_of_mem this
    omega
theorem own_iff {l : List Hd} : ownL l = true ↔ ∃ w ∈ ownW, 0 < ((valuesL l w).length : Int) := by
  unfold ownL
  rw [List.any_eq_true]
  constructor
  · rintro ⟨h, h1, h2⟩
    rw [List.contains_iff_mem] at h2
    exact ⟨_, h2, values_ne.2 ⟨h, h1, rfl⟩⟩
  · rintro ⟨w, h1, h2⟩
    obtain ⟨h, h3, rfl⟩ := values_ne.1 h2
    exact ⟨h, h3, List.contains_iff_mem.2 h1⟩
/-- the error of a record -/
def checkRecL (r : Rcd) : Int :=
  if r.ki < 1 ∨ 5 < r.ki then 4
  else if ¬ (nameL r.id = true ∧ (r.ow = [] ∨ nameL r.ow = true)) then 5
  else if r.ow = r.id ∨ (r.ow = [] ∧ (r.ki = 4 ∨ r.ki = 5)) ∨ (r.ow ≠ [] ∧ r.ki = 1) then 12
  else if ¬ (0 ≤ r.ti ∧ r.ti ≤ 253402300799) then 1
  else if ¬ targetL r.ke = true then 3
  else if 30 < r.hd.length then 2
  else if ¬ checkHeadsL r.hd = 0 then checkHeadsL r.hd
  else if ownL r.hd = true then 12
  else if 200000 < r.bd.length then 2
  else if 0 < r.bd.length ∧ r.ki = 4 then 3 else 0
theorem rec_ok {r : Rcd} (h : checkRecL r = 0) : 1 ≤ r.ki ∧ r.ki ≤ 5 ∧ nameL r.id = true ∧ (r.ow = [] ∨ nameL r.ow = true) ∧ 0 ≤ r.ti ∧ r.ti ≤ 253402300799 ∧ targetL r.ke = true ∧ r.hd.length ≤ 30 ∧ checkHeadsL r.hd = 0 ∧ r.bd.length ≤ 200000 := by
  unfold checkRecL at h
  by_cases c1 : r.ki < 1 ∨ 5 < r.ki
  · rw [if_pos c1] at h; omega
  rw [if_neg c1] at h
  by_cases c2 : ¬ (nameL r.id = true ∧ (r.ow = [] ∨ nameL r.ow = true))
  · rw [if_pos c2] at h; omega
  rw [if_neg c2] at h
  by_cases c3 : r.ow = r.id ∨ (r.ow = [] ∧ (r.ki = 4 ∨ r.ki = 5)) ∨ (r.ow ≠ [] ∧ r.ki = 1)
  · rw [if_pos c3] at h; omega
  rw [if_neg c3] at h
  by_cases c4 : ¬ (0 ≤ r.ti ∧ r.ti ≤ 253402300799)
  · rw [if_pos c4] at h; omega
  rw [if_neg c4] at h
  by_cases c5 : ¬ targetL r.ke = true
  · rw [if_pos c5] at h; omega
  rw [if_neg c5] at h
  by_cases c6 : 30 < r.hd.length
  · rw [if_pos c6] at h; omega
  rw [if_neg c6] at h
  by_cases c7 : ¬ checkHeadsL r.hd = 0
  · rw [if_pos c7] at h; exact absurd h c7
  rw [if_neg c7] at h
  by_cases c8 : ownL r.hd = true
  · rw [if_pos c8] at h; omega
  rw [if_neg c8] at h
  by_cases c9 : 200000 < r.bd.length
  · rw [if_pos c9] at h; omega
  exact ⟨by omega, by omega, (Classical.not_not.1 c2).1, (Classical.not_not.1 c2).2, by omega, by omega, Classical.not_not.1 c5, by omega, Classical.not_not.1 c7, by omega⟩
def wKept : List UInt8 := [75, 69, 80, 84, 47, 49, 13, 10]
/-- the lines ahead of a record's heads, and behind them -/
def recP (r : Rcd) : List UInt8 := wKept ++ lnB2 [105, 100] r.id ++ (if r.ow = [] then [] else lnB2 [111, 102] r.ow) ++ lnB2 [107, 105, 110, 100] (kindW.getD (r.ki - 1).toNat []) ++ lnB2 [100, 97, 116, 101] (dateTextL r.ti) ++ lnB2 [107, 101, 121] r.ke
def recQ (r : Rcd) : List UInt8 := lnB2 [108, 101, 110, 103, 116, 104] (Lib.itoa r.bd.length) ++ lnB2 [100, 105, 103, 101, 115, 116] (digestL r.bd) ++ [13, 10]
def recB (r : Rcd) : List UInt8 := recP r ++ headsB r.hd ++ recQ r ++ r.bd ++ [13, 10, 13, 10]

def idxL (l : List (List UInt8)) (w : List UInt8) : Int := match l.findIdx? (· == w) with
  | some k => k
  | none => -1
theorem idxL_at {l : List (List UInt8)} {w : List UInt8} {i : Nat} (hi : i < l.length) (h : w = l.getD i []) (hn : ∀ j, j < i → ¬ w = l.getD j []) : idxL l w = i := by
  unfold idxL
  have : l.findIdx? (· == w) = some i := by
    rw [List.findIdx?_eq_some_iff_getElem]
    refine ⟨hi, ?_, fun j hj => ?_⟩
    · rw [List.getD_eq_getElem?_getD, List.getElem?_eq_getElem hi] at h; simp [h]
    · have h1 := hn j hj
      rw [List.getD_eq_getElem?_getD, List.getElem?_eq_getElem (by omega)] at h1
      simp only [Option.getD_some] at h1
      simp only [Bool.not_eq_true, beq_eq_false_iff_ne]
      exact fun e => h1 e.symm
  rw [this]
theorem idxL_no {l : List (List UInt8)} {w : List UInt8} (hn : ∀ j, j < l.length → ¬ w = l.getD j []) : idxL l w = -1 := by
  unfold idxL
  have : l.findIdx? (· == w) = none := by
    rw [List.findIdx?_eq_none_iff]
    intro x hx
    obtain ⟨j, hj, rfl⟩ := List.getElem_of_mem hx
    have h1 := hn j hj
    rw [List.getD_eq_getElem?_getD, List.getElem?_eq_getElem hj] at h1
    simp only [Option.getD_some] at h1
    exact beq_eq_false_iff_ne.2 fun e => h1 e.symm
  rw [this]
def ckIndexStr : Ck
  | [.sl n f, .str w] => some (isLs cStr n f ∧ n ≤ 4611686018427387904, .int .i64 (idxL (lsOf cStr n f) w))
  | _ => none
theorem conIndexStr : Con pg 36 ckIndexStr := by
  have hct := ctN_ok pg
  intro args q r h hq
  unfold ckIndexStr at h
  split at h
  · cases h
    rename_i n f w
    refine pcall_args (args' := [.sl (lsOf cStr n f).length (lsF cStr (lsOf cStr n f)), .str w]) ⟨isLs.vle hq.1, VLe.refl _, trivial⟩ ?_
    have hn : (lsOf cStr n f).length ≤ 4611686018427387904 := by rw [lsOf_len]; exact hq.2
    generalize lsOf cStr n f = a at hn ⊢
    refine w36 (fun _ => false) [] rfl hct rfl rfl ?_
    push_cast (config := { maxSteps := 10000000 })
    refine LoopW.adj ⟨hct, fol⟩ (by kernel_rfl) [] (fun i : Nat => [(0, .sl a.length (lsF cStr a)), (1, .str w), (7, .int .i64 a.length), (8, .int .i64 i)]) (fun _ => []) (fun i => i ≤ a.length ∧ ∀ j, j < i → ¬ w = a.getD j []) (fun i => a.length - i) 0 ?_ fun i hi => ?_
    · push_cast (config := { maxSteps := 10000000 })
      exact Nat.zero_le _
    · push_cast (config := { maxSteps := 10000000 })
      obtain ⟨h1, h2⟩ := hi
      refine ⟨fun h => ⟨h, fun h3 => (idxL_at h h3 h2).symm, fun h3 => ⟨by omega, i + 1, ⟨by omega, fun j hj => ?_⟩, by omega, by omega⟩⟩, fun h => (idxL_no fun j hj => h2 j (by omega)).symm⟩
      by_cases e : j = i
      · subst e; exact h3
      · exact h2 j (by omega)
  · cases h
attribute [push_cast] ckIndexStr

def ckName : Ck
  | [.str s] => some (s.length ≤ 4611686018427387900, .bool (nameL s))
  | _ => none
attribute [push_cast] ckName
def ckKey : Ck
  | [.str s] => some (s.length ≤ 4611686018427387900, .bool (targetL s))
  | _ => none
attribute [push_cast] ckKey
def ckWithin6 : Ck
  | [.int .i64 n, .int .i64 a, .int .i64 b] => some (True, .bool (decide (a ≤ n) && decide (n ≤ b)))
  | _ => none
attribute [push_cast] ckWithin6
theorem idx_has (l : List (List UInt8)) (w : List UInt8) : decide (0 ≤ idxL l w) = l.contains w := by
  unfold idxL
  cases h : l.findIdx? (· == w) with
  | none =>
    rw [List.findIdx?_eq_none_iff] at h
    have : l.contains w = false := by
      rw [Bool.eq_false_iff]
      intro hc
      rw [List.contains_iff_mem] at hc
      have := h w hc
      simp at this
    rw [this]; rfl
  | some k =>
    rw [List.findIdx?_eq_some_iff_getElem] at h
    obtain ⟨hk, h1, _⟩ := h
    have : l.contains w = true := by
      rw [List.contains_iff_mem]
      have e := beq_iff_eq.1 h1
      rw [← e]; exact List.getElem_mem hk
    rw [this]
    exact decide_eq_true (Int.natCast_nonneg k)
def ckHasStr : Ck
  | [.sl n f, .str w] => some (isLs cStr n f ∧ n ≤ 4611686018427387904, .bool ((lsOf cStr n f).contains w))
  | _ => none
theorem conHasStr : Con pg 11 ckHasStr := by
  have hct := (ctA_ok conIndexStr (ctN_ok _))
  intro args q r h hq
  unfold ckHasStr at h
  split at h
  · cases h
    rename_i n f w
    refine w11 (fun _ => false) [] rfl hct rfl rfl ?_
    push_cast (config := { maxSteps := 10000000 })
    exact ⟨hq, idx_has _ _⟩
  · cases h
attribute [push_cast] ckHasStr
def ckKinds : Ck
  | [] => some (True, .sl 5 (lsF cStr kindW))
  | _ => none
attribute [push_cast] ckKinds
def ckOwn : Ck
  | [] => some (True, .sl 7 (lsF cStr ownW))
  | _ => none
attribute [push_cast] ckOwn
def ckKindW : Ck
  | [.int .i64 k] => some (1 ≤ k ∧ k ≤ 5, .str (kindW.getD (k - 1).toNat []))
  | _ => none
attribute [push_cast] ckKindW
end Go.Abs
