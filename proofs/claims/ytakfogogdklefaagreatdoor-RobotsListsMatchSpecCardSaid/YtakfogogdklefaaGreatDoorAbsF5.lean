/- what functions of this program compute: contracts, each a function's own -/
import Derived.Test.YtakfogogdklefaaGreatDoorAbsK2
import Derived.Test.YtakfogogdklefaaGreatDoorAbsFacts
import Derived.Test.YtakfogogdklefaaGreatDoorAbsF4
import Derived.Test.YtakfogogdklefaaGreatDoorAbsShelf
import Derived.Lib.SplitLaws
import Derived.Lib.SlTrimSet
import Derived.Lib.Atoi
import Derived.Lib.Itoa
import Derived.Lib.ItoaNum
import Derived.Lib.AtoiErrMem
import Derived.Lib.Join
import Derived.Lib.Repeat
import Derived.Lib.IndexMore
import Derived.Lib.ItoaLen
import Derived.Shelf.Spec.SlicesInsert
import Derived.Shelf.Spec.SlicesInsertGrow
import Derived.Lib.Overlaps
import Derived.Lib.AppendZerosOnto
import Derived.Laws.NewBlocks
import Derived.WalkKit
import Derived.Lib.Walk
import Derived.OwnWalkIn
import Derived.TacticsInMore
import Derived.RegionIn
import Derived.LoopNIn
import Derived.LoopIn
import Derived.Shelf.Abstract
namespace Go.Abs
open Go Go.Proofs
set_option maxHeartbeats 4000000
set_option maxRecDepth 100000
set_option linter.unusedVariables false
set_option linter.unusedSimpArgs false
def adrOk (a : Adr) : Prop := a.sc.length ≤ 140737488355328 ∧ a.ho.length ≤ 140737488355328 ∧ a.po.length ≤ 140737488355328 ∧ a.pa.length ≤ 140737488355328 ∧ a.qu.length ≤ 140737488355328 ∧ a.fr.length ≤ 140737488355328
theorem isRow_0 (s : List UInt8) : ((reL s [] (s.length + 1) 0).2 && ((reL s [] (s.length + 1) 0).1 == s.length)) = rowR s := by
  have h := row_same (s := s) ok_3 0
  have e1 : rdRow s 0 [] = reL s [] (s.length + 1) 0 := by unfold rdRow; rw [List.drop_zero]
  have e2 : utN s 0 [] = s.length := by
    unfold utN
    rw [List.drop_zero]
    exact runN_at (Nat.le_refl _) (fun j _ => rfl) (fun h => absurd h (Nat.lt_irrefl _))
  have e3 : cutS s 0 s.length = s := by unfold cutS; rw [List.drop_zero, List.take_length]
  rw [e1, e2, e3] at h
  rw [h, ← rb0_iff]
  by_cases h0 : rb0 s < 0
  · rw [if_pos h0, decide_eq_true h0]; simp
  · rw [if_neg h0, decide_eq_false h0]; rfl
def ckBehind : Ck
  | [.agg [.str sc, .str ho, .str po, .str pa, .str qu, .bool hq, .str fr, .bool hf]] => some (adrOk ⟨sc, ho, po, pa, qu, hq, fr, hf⟩, .str (behL ⟨sc, ho, po, pa, qu, hq, fr, hf⟩))
  | _ => none
theorem conBehind : Con pg 170 ckBehind := by
  have hct := ctN_ok pg
  intro args q r h hq
  unfold ckBehind at h
  split at h
  · cases h
    rename_i sc ho po pa qu hq1 fr hf
    refine w170 (fun _ => false) [] rfl hct rfl rfl ?_
    push_cast (config := { maxSteps := 10000000 })
    obtain ⟨h1, h2, h3, h4, h5, h6⟩ := hq
    simp only at h1 h2 h3 h4 h5 h6
    refine ⟨fun a => ⟨by omega, by omega, fun b => ⟨by omega, by omega, ?_⟩, fun b => ?_⟩, fun a => ⟨fun b => ⟨by omega, by omega, ?_⟩, fun b => ?_⟩⟩
    all_goals subst a b
    all_goals simp [behL]
  · cases h
attribute [push_cast] ckBehind
def ckWrite1 : Ck
  | [.agg [.str sc, .str ho, .str po, .str pa, .str qu, .bool hq, .str fr, .bool hf]] => some (adrOk ⟨sc, ho, po, pa, qu, hq, fr, hf⟩, .str (wrL ⟨sc, ho, po, pa, qu, hq, fr, hf⟩))
  | _ => none
theorem conWrite1 : Con pg 130 ckWrite1 := by
  have hct := (ctA_ok conBehind (ctN_ok _))
  intro args q r h hq
  unfold ckWrite1 at h
  split at h
  · cases h
    rename_i sc ho po pa qu hq1 fr hf
    refine w130 (fun _ => false) [] rfl hct rfl rfl ?_
    push_cast (config := { maxSteps := 10000000 })
    obtain ⟨h1, h2, h3, h4, h5, h6⟩ := hq
    simp only at h1 h2 h3 h4 h5 h6
    have hb : ((behL ⟨sc, ho, po, pa, qu, hq1, fr, hf⟩).length : Int) ≤ 422212465065986 := by
      unfold behL
      simp only [List.length_append]
      have q1 : (if hq1 = true then 63 :: qu else []).length ≤ qu.length + 1 := by split <;> simp
      have q2 : (if hf = true then 35 :: fr else []).length ≤ fr.length + 1 := by split <;> simp
      omega
    refine ⟨by omega, by omega, fun h => ⟨by omega, by omega, ⟨h1, h2, h3, h4, h5, h6⟩, by omega, ?_⟩, fun h => ⟨⟨h1, h2, h3, h4, h5, h6⟩, by omega, ?_⟩⟩
    · unfold wrL; simp only; rw [if_neg h]; rfl
    · unfold wrL; simp only; rw [if_pos h, List.append_nil]; rfl
  · cases h
attribute [push_cast] ckWrite1
def ckCheckAdr : Ck
  | [.agg [.str sc, .str ho, .str po, .str pa, .str qu, .bool hq, .str fr, .bool hf]] => some (adrOk ⟨sc, ho, po, pa, qu, hq, fr, hf⟩, .int .i64 (checkAdrL ⟨sc, ho, po, pa, qu, hq, fr, hf⟩))
  | _ => none
theorem conCheckAdr : Con pg 85 ckCheckAdr := by
  have hct := (ctA_ok conSmallA (ctA_ok conIsHost0 (ctA_ok conPortOf (ctA_ok conIsRow (ctA_ok conWrite1 (ctN_ok _))))))
  intro args q r h hq
  unfold ckCheckAdr at h
  split at h
  · cases h
    rename_i sc ho po pa qu hq1 fr hf
    refine w85 (fun _ => false) [] rfl hct rfl rfl ?_
    push_cast (config := { maxSteps := 10000000 })
    obtain ⟨h1, h2, h3, h4, h5, h6⟩ := hq
    simp only at h1 h2 h3 h4 h5 h6
    have bP : (0 < (pa.length : Int)) ↔ ¬ pa = [] := by
      constructor
      · intro h e; subst e; simp at h
      · exact sne_pos
    have rP := rowP_re pa
    have rQ := isRow_0 qu
    have rF := isRow_0 fr
    rw [Bool.eq_iff_iff, Bool.and_eq_true, beq_iff_eq] at rP rQ rF
    have ok : adrOk ⟨sc, ho, po, pa, qu, hq1, fr, hf⟩ := ⟨h1, h2, h3, h4, h5, h6⟩
    have e47 : ((pa.getD 0 0).toNat : Int) = 47 ↔ (pa.getD 0 0).toNat = 47 := by omega
    have syn : synA ⟨sc, ho, po, pa, qu, hq1, fr, hf⟩ = true ↔ (((((((lowL sc = [104, 116, 116, 112] ∨ lowL sc = [104, 116, 116, 112, 115]) ∧ hostL ho = true) ∧ (po = [] ∨ ¬ portN po = 0)) ∧ (pa = [] ∨ ((pa.getD 0 0).toNat : Int) = 47)) ∧ ((reL pa [63] (pa.length + 1) 0).2 = true ∧ (reL pa [63] (pa.length + 1) 0).1 = pa.length)) ∧ ((reL qu [] (qu.length + 1) 0).2 = true ∧ (reL qu [] (qu.length + 1) 0).1 = qu.length)) ∧ ((reL fr [] (fr.length + 1) 0).2 = true ∧ (reL fr [] (fr.length + 1) 0).1 = fr.length)) := by
      rw [rP, rQ, rF, e47]
      unfold synA schOk
      simp only [Bool.and_eq_true, Bool.or_eq_true, beq_iff_eq, decide_eq_true_eq, ne_eq]
      rfl
    have kb : ¬ synA ⟨sc, ho, po, pa, qu, hq1, fr, hf⟩ = true → 10 = checkAdrL ⟨sc, ho, po, pa, qu, hq1, fr, hf⟩ := fun h => by
      unfold checkAdrL; rw [if_pos (by simpa using h)]
    have k3 : synA ⟨sc, ho, po, pa, qu, hq1, fr, hf⟩ = true → (¬qu = [] ∧ hq1 = false) ∨ (¬fr = [] ∧ hf = false) → 3 = checkAdrL ⟨sc, ho, po, pa, qu, hq1, fr, hf⟩ := fun h h' => by
      unfold checkAdrL; rw [if_neg (by rw [h]; simp), if_pos h']
    have k2 : synA ⟨sc, ho, po, pa, qu, hq1, fr, hf⟩ = true → ¬ ((¬qu = [] ∧ hq1 = false) ∨ (¬fr = [] ∧ hf = false)) → 2000 < ((wrL ⟨sc, ho, po, pa, qu, hq1, fr, hf⟩).length : Int) → 2 = checkAdrL ⟨sc, ho, po, pa, qu, hq1, fr, hf⟩ := fun h h' h'' => by
      unfold checkAdrL; rw [if_neg (by rw [h]; simp), if_neg h', if_pos (by omega)]
    have k0 : synA ⟨sc, ho, po, pa, qu, hq1, fr, hf⟩ = true → ¬ ((¬qu = [] ∧ hq1 = false) ∨ (¬fr = [] ∧ hf = false)) → ¬ 2000 < ((wrL ⟨sc, ho, po, pa, qu, hq1, fr, hf⟩).length : Int) → 0 = checkAdrL ⟨sc, ho, po, pa, qu, hq1, fr, hf⟩ := fun h h' h'' => by
      unfold checkAdrL; rw [if_neg (by rw [h]; simp), if_neg h', if_neg (by omega)]
    rw [syn] at kb k3 k2 k0
    clear syn e47 rP rQ rF
    generalize checkAdrL ⟨sc, ho, po, pa, qu, hq1, fr, hf⟩ = X at *
    generalize ((wrL ⟨sc, ho, po, pa, qu, hq1, fr, hf⟩).length : Int) = W at *
    generalize reL pa [63] (pa.length + 1) 0 = A1 at *
    generalize reL qu [] (qu.length + 1) 0 = A2 at *
    generalize reL fr [] (fr.length + 1) 0 = A3 at *
    generalize ((pa.getD 0 0).toNat : Int) = A4 at *
    generalize (portN po) = A5 at *
    generalize (hostL ho) = A6 at *
    have l1 : pa.length ≤ 4611686018427387900 := by omega
    have l2 : qu.length ≤ 4611686018427387900 := by omega
    have l3 : fr.length ≤ 4611686018427387900 := by omega
    have l4 : po.length ≤ 4611686018427387900 := by omega
    have l5 : ho.length ≤ 4611686018427387904 := by omega
    clear hct
    (repeat' (first | apply And.intro | intro _)) <;> first | assumption | omega | grind
  · cases h
attribute [push_cast] ckCheckAdr

theorem wfL_rowR : ∀ (s : List UInt8), rowR s = true → wfL s = true
  | [], _ => rfl
  | [a], h => by
    simp only [rowR, hex2, Bool.or_false, Bool.and_true, Bool.and_eq_true, decide_eq_true_eq] at h
    have : a ≠ 37 := fun e => h.2 (by rw [e]; rfl)
    simp [wfL, this]
  | [a, b], h => by
    simp only [rowR, hex2, Bool.or_false, Bool.and_true, Bool.and_eq_true, decide_eq_true_eq] at h
    have h1 : a ≠ 37 := fun e => h.1.2 (by rw [e]; rfl)
    have h2 : b ≠ 37 := fun e => h.2.2 (by rw [e]; rfl)
    simp [wfL, h1, h2]
  | c :: a :: b :: r, h => by
    rw [rowR] at h
    simp only [Bool.and_eq_true, Bool.or_eq_true, decide_eq_true_eq] at h
    by_cases hc : c = 37
    · have h2 := h.1.2.resolve_left (fun x => x (by rw [hc]; rfl))
      simp only [hex2, Bool.and_eq_true] at h2
      have hr := rowR_tail [a, b] h.2
      rw [wfL, if_pos hc, Bool.and_eq_true, Bool.and_eq_true]
      exact ⟨h2, wfL_rowR r hr⟩
    · rw [wfL, if_neg hc]
      exact wfL_rowR (a :: b :: r) h.2
def ckUndot : Ck
  | [.str s] => some (s.length ≤ 2000, .str (undotL s))
  | _ => none
theorem spl_sum (c : UInt8) : ∀ s : List UInt8, (spl c s).length ≤ s.length + 1
  | [] => by simp [spl]
  | x :: t => by
    have := spl_sum c t
    have := List.length_pos_iff.2 (spl_ne c t)
    rw [spl]
    split
    · simp only [List.length_cons]; omega
    · simp only [List.length_cons, List.length_tail]; omega
theorem conUndot : Con pg 133 ckUndot := by
  have hct := (ctA_ok conSplit (ctA_ok conJoin (ctN_ok _)))
  intro args q r h hq
  unfold ckUndot at h
  split at h
  · cases h
    rename_i s
    refine w133 (fun d => decide (d = 20012)) [] rfl hct rfl rfl ?_
    push_cast (config := { maxSteps := 10000000 })
    refine ⟨fun h => by subst h; rfl, fun h => ?_⟩
    have h1 : 1 ≤ s.length := List.length_pos_iff.2 h
    have eU : undotL s = joinSl (dotGo (splitL (s.drop 1) 47) []) := by unfold undotL; rw [if_neg h]
    rw [eU]
    (repeat (refine ⟨by omega, ?_⟩))
    have hP0 : (splitL (s.drop 1) 47).length ≤ 2000 := by
      have := splitL_le (s.drop 1) 47
      rw [List.length_drop] at this; omega
    have hPn : splitL (s.drop 1) 47 ≠ [] := by rw [splitL_eq]; exact spl_ne _ _
    have hPl : ∀ x ∈ splitL (s.drop 1) 47, x.length ≤ 2000 := fun x hx => by
      rw [splitL_eq] at hx
      have := spl_len 47 _ x hx
      rw [List.length_drop] at this; omega
    have hJl := dotGo_len (splitL (s.drop 1) 47) []
    have hJs : (joinSl (splitL (s.drop 1) 47)).length ≤ 2000 := by
      rw [splitL_eq, joinSl_spl, List.length_cons, List.length_drop]; omega
    have hDn := dotGo_ne (splitL (s.drop 1) 47) [] hPn
    generalize splitL (s.drop 1) 47 = P at *
    refine LoopW.adj ⟨hct, fol⟩ (by kernel_rfl) [.nv 4 8000 1 (lsF cStr [])] (fun t : Nat × List (List UInt8) => [(3, .sl P.length (lsF cStr P)), (4, .vec 8000 t.2.length), (12, .sl P.length (lsF cStr P)), (13, .int .i64 P.length), (14, .int .i64 t.1)]) (fun t => [(8000, .vec 1 t.2.length (lsF cStr t.2))]) (fun t => t.1 ≤ P.length ∧ t.2.length ≤ t.1 ∧ dotGo (P.drop t.1) t.2 = dotGo P []) (fun t => P.length - t.1) (0, []) ?_ fun t ht => ?_
    · push_cast (config := { maxSteps := 10000000 })
      exact Nat.zero_le _
    · obtain ⟨i, o⟩ := t
      obtain ⟨i1, i2, i3⟩ : i ≤ P.length ∧ o.length ≤ i ∧ dotGo (P.drop i) o = dotGo P [] := ht
      push_cast (config := { maxSteps := 10000000 })
      refine ⟨fun hlt => ⟨hlt, ?_⟩, fun hge => ?_⟩
      · rw [dropG (d := []) hlt, dotGo] at i3
        have hne : P.drop (i + 1) = [] ↔ i + 1 = P.length := by
          rw [List.drop_eq_nil_iff]; omega
        refine SeqW.cut ⟨hct, fol⟩ (by kernel_rfl) (by kernel_rfl) [.trim 4] (fun o' : List (List UInt8) => [(3, .sl P.length (lsF cStr P)), (4, .vec 8000 o'.length), (5, .int .i64 i), (12, .sl P.length (lsF cStr P)), (13, .int .i64 P.length), (14, .int .i64 i)]) (fun o' => [(8000, .vec 1 o'.length (lsF cStr o'))]) (fun o' => o'.length ≤ i ∧ dotGo (P.drop (i + 1)) (if i + 1 = P.length then o' ++ [[]] else o') = dotGo P []) ?_ fun o' ho => ?_
        · push_cast (config := { maxSteps := 10000000 })
          have dl : ∀ j, j < o.length - 1 → V.str (o.getD j []) = V.str (o.dropLast.getD j []) := fun j hj => by
            rw [List.getD_eq_getElem?_getD, List.getD_eq_getElem?_getD, List.getElem?_dropLast, if_pos hj]
          refine ⟨fun h => ⟨⟨by omega, by omega⟩, ⟨⟨by omega, by omega⟩, by omega⟩, o.dropLast, ⟨by rw [List.length_dropLast]; omega, ?_⟩, by rw [List.length_dropLast]; omega, by rw [List.length_dropLast]; omega, fun j hj => dl j (by omega)⟩, fun h => ⟨fun h2 => ⟨⟨by omega, by omega⟩, ⟨by omega, by omega⟩, ((i + 1, o ++ [P.getD i []]) : Nat × List (List UInt8)), ⟨by show i + 1 ≤ _; omega, by show (o ++ [_]).length ≤ i + 1; simp; omega, ?_⟩, by show P.length - (i + 1) < P.length - i; omega, ⟨by simp, by show (i : Int) + 1 = ((i + 1 : Nat) : Int); omega⟩, by simp, fun j hj => ?_⟩, fun h2 => ⟨o, ⟨i2, ?_⟩, rfl, rfl, fun _ _ => rfl⟩⟩⟩
          · rw [if_pos h] at i3
            by_cases e : i + 1 = P.length
            · rw [if_pos (hne.2 e)] at i3; rw [if_pos e]; exact i3
            · rw [if_neg (fun x => e (hne.1 x))] at i3; rw [if_neg e]; exact i3
          · rw [if_neg h, if_neg h2] at i3; exact i3
          · exact (LsI.app (c := cStr) (f := lsF cStr o) (g := litF [cStr.enc (P.getD i [])]) (LsI.ls o) (LsI.one (c := cStr) (a := P.getD i []) rfl) rfl).2 j hj
          · rw [if_neg h, if_pos h2] at i3
            by_cases e : i + 1 = P.length
            · rw [if_pos (hne.2 e)] at i3; rw [if_pos e]; exact i3
            · rw [if_neg (fun x => e (hne.1 x))] at i3; rw [if_neg e]; exact i3
        · push_cast (config := { maxSteps := 10000000 })
          obtain ⟨o1, o2⟩ := ho
          refine ⟨⟨by omega, by omega⟩, fun h => ⟨⟨by omega, by omega⟩, ⟨by omega, by omega⟩, ((i + 1, o' ++ [[]]) : Nat × List (List UInt8)), ⟨by show i + 1 ≤ _; omega, by show (o' ++ [_]).length ≤ i + 1; simp; omega, by rw [if_pos (by omega)] at o2; exact o2⟩, by show P.length - (i + 1) < P.length - i; omega, ⟨by simp, by show (i : Int) + 1 = ((i + 1 : Nat) : Int); omega⟩, by simp, fun j hj => ?_⟩, fun h => ⟨⟨by omega, by omega⟩, ((i + 1, o') : Nat × List (List UInt8)), ⟨by show i + 1 ≤ _; omega, by show o'.length ≤ i + 1; omega, by rw [if_neg (by omega)] at o2; exact o2⟩, by show P.length - (i + 1) < P.length - i; omega, ⟨rfl, by show (i : Int) + 1 = ((i + 1 : Nat) : Int); omega⟩, rfl, fun _ _ => rfl⟩⟩
          exact (LsI.app (c := cStr) (f := lsF cStr o') (g := litF [cStr.enc []]) (LsI.ls o') (LsI.one (c := cStr) (a := []) rfl) rfl).2 j hj
      · rw [List.drop_eq_nil_of_le (by omega), dotGo] at i3
        rw [← i3] at hJl hDn ⊢
        have hj := join_sl (L := o) hDn
        have hlen := congrArg List.length hj
        rw [List.length_cons] at hlen
        have h0 : (joinSl []).length = 0 := rfl
        exact ⟨⟨by omega, by omega⟩, by omega, hj⟩
  · cases h
attribute [push_cast] ckUndot
def ckNormA : Ck
  | [.agg [.str sc, .str ho, .str po, .str pa, .str qu, .bool hq, .str fr, .bool hf]] => some (checkAdrL ⟨sc, ho, po, pa, qu, hq, fr, hf⟩ = 0, cAdr.enc (normA ⟨sc, ho, po, pa, qu, hq, fr, hf⟩))
  | _ => none
theorem check_sz {a : Adr} (h : checkAdrL a = 0) : synA a = true ∧ (wrL a).length ≤ 2000 ∧ a.sc.length ≤ 2000 ∧ a.ho.length ≤ 2000 ∧ a.po.length ≤ 2000 ∧ a.pa.length ≤ 2000 ∧ a.qu.length ≤ 2000 ∧ a.fr.length ≤ 2000 := by
  unfold checkAdrL at h
  split at h
  · cases h
  rename_i h1
  split at h
  · cases h
  rename_i h2
  split at h
  · cases h
  rename_i h3
  have hw : (wrL a).length ≤ 2000 := by omega
  have hw' := hw
  unfold wrL behL at hw'
  simp only [List.length_append] at hw'
  have hp : a.po.length ≤ (if a.po = [] then [] else 58 :: a.po).length := by split <;> simp_all
  have hq : a.qu.length ≤ (if a.hq = true then 63 :: a.qu else []).length := by
    split
    · simp
    · have : a.qu = [] := Classical.byContradiction fun x => h2 (.inl ⟨x, by simp_all⟩)
      rw [this]; simp
  have hf : a.fr.length ≤ (if a.hf = true then 35 :: a.fr else []).length := by
    split
    · simp
    · have : a.fr = [] := Classical.byContradiction fun x => h2 (.inr ⟨x, by simp_all⟩)
      rw [this]; simp
  exact ⟨by simpa using h1, hw, by omega, by omega, by omega, by omega, by omega, by omega⟩
theorem syn_wf {a : Adr} (h : synA a = true) : wfL a.pa = true ∧ wfL a.qu = true := by
  unfold synA at h
  simp only [Bool.and_eq_true] at h
  have h1 := h.1.1.2
  rw [rowP_rowR, Bool.and_eq_true] at h1
  exact ⟨wfL_rowR _ h1.1, wfL_rowR _ h.1.2⟩
theorem conNormA : Con pg 86 ckNormA := by
  have hct := (ctA_ok conSmallA (ctA_ok conTrimLeft (ctA_ok conNormalRow (ctA_ok conUndot (ctN_ok _)))))
  intro args q r h hq
  unfold ckNormA at h
  split at h
  · cases h
    rename_i sc ho po pa qu hq1 fr hf
    refine w86 (fun _ => false) [] rfl hct rfl rfl ?_
    push_cast (config := { maxSteps := 10000000 })
    obtain ⟨z1, z2, z3, z4, z5, z6, z7, z8⟩ := check_sz hq
    obtain ⟨y1, y2⟩ := syn_wf z1
    simp only at z3 z4 z5 z6 z7 z8 y1 y2
    have n1 := normL_len pa
    simp only [trimLeft_z, normA, portA, npL, show wHttp = [104, 116, 116, 112] from rfl, show wHttps = [104, 116, 116, 112, 115] from rfl]
    generalize undotL (normL pa) = up at *
    generalize lowL sc = lsc at *
    generalize trimZ po = tp at *
    (repeat' (first | apply And.intro | intro _)) <;> first | assumption | omega | grind
  · cases h
attribute [push_cast] ckNormA
def ckNormAF : Ck
  | [.agg [.str sc, .str ho, .str po, .str pa, .str qu, .bool hq, .str fr, .bool hf]] => some (checkAdrL ⟨sc, ho, po, pa, qu, hq, fr, hf⟩ = 0, .tup [cAdr.enc (if checkAdrL (normA ⟨sc, ho, po, pa, qu, hq, fr, hf⟩) = 0 then normA ⟨sc, ho, po, pa, qu, hq, fr, hf⟩ else noAdr), .int .i64 (checkAdrL (normA ⟨sc, ho, po, pa, qu, hq, fr, hf⟩))])
  | _ => none
theorem ok_sz {a : Adr} (h : checkAdrL a = 0) : adrOk a := by
  obtain ⟨z1, z2, z3, z4, z5, z6, z7, z8⟩ := check_sz h
  unfold adrOk
  omega
theorem undotL_len (s : List UInt8) : (undotL s).length ≤ s.length + 1 := by
  unfold undotL
  split
  · simp
  · have h := dotGo_len (splitL (s.drop 1) 47) []
    have h2 := congrArg List.length (joinSl_spl (s.drop 1))
    rw [← splitL_eq, List.length_cons, List.length_drop] at h2
    have h0 : (joinSl []).length = 0 := rfl
    omega
theorem norm_ok {a : Adr} (h : checkAdrL a = 0) : adrOk (normA a) := by
  obtain ⟨z1, z2, z3, z4, z5, z6, z7, z8⟩ := check_sz h
  have h1 := undotL_len (normL a.pa)
  have h2 := normL_len a.pa
  have h3 := normL_len a.qu
  have h4 := trimZ_len a.po
  have h5 : (portA a).length ≤ (trimZ a.po).length := by unfold portA; split <;> simp
  have h6 : (npL a).length ≤ 2001 := by
    unfold npL
    split
    · simp
    · omega
  have h7 := lowL_len a.sc
  have h8 := lowL_len a.ho
  have h9 : ([] : List UInt8).length = 0 := rfl
  unfold adrOk
  exact ⟨by show (lowL a.sc).length ≤ _; omega, by show (lowL a.ho).length ≤ _; omega, by show (portA a).length ≤ _; omega, by show (npL a).length ≤ _; omega, by show (normL a.qu).length ≤ _; omega, by show ([] : List UInt8).length ≤ _; omega⟩
theorem conNormAF : Con pg 44 ckNormAF := by
  have hct := (ctA_ok conCheckAdr (ctA_ok conNormA (ctN_ok _)))
  intro args q r h hq
  unfold ckNormAF at h
  split at h
  · cases h
    rename_i sc ho po pa qu hq1 fr hf
    refine w44 (fun _ => false) [] rfl hct rfl rfl ?_
    push_cast (config := { maxSteps := 10000000 })
    have a1 := ok_sz hq
    generalize (⟨sc, ho, po, pa, qu, hq1, fr, hf⟩ : Adr) = a at *
    have a2 : adrOk (normA a) := norm_ok hq
    rw [show (⟨(normA a).sc, (normA a).ho, (normA a).po, (normA a).pa, (normA a).qu, (normA a).hq, (normA a).fr, (normA a).hf⟩ : Adr) = normA a from rfl]
    refine ⟨a1, fun h => absurd hq h, fun _ => ⟨hq, a2, fun h => ?_, fun h => ?_⟩⟩
    · rw [if_neg h]; exact ⟨rfl, rfl, rfl, rfl, rfl, rfl, rfl, rfl⟩
    · rw [if_pos h]; exact ⟨⟨rfl, rfl, rfl, rfl, rfl, rfl, rfl, rfl⟩, h.symm⟩
  · cases h
attribute [push_cast] ckNormAF

def ckIsSch1 : Ck
  | [.str s] => some (s.length ≤ 140737488355328, .bool (schOk s))
  | _ => none
theorem conIsSch1 : Con pg 89 ckIsSch1 := by
  have hct := (ctA_ok conSmall (ctN_ok _))
  intro args q r h hq
  unfold ckIsSch1 at h
  split at h
  · cases h
    rename_i s
    refine w89 (fun _ => false) [] rfl hct rfl rfl ?_
    push_cast (config := { maxSteps := 10000000 })
    refine ⟨hq, fun h => ⟨h, hq⟩, ?_⟩
    rfl
  · cases h
attribute [push_cast] ckIsSch1
theorem conWrittenA : Con pg 94 ckWrite1 := by
  have hct := ctN_ok pg
  intro args q r h hq
  unfold ckWrite1 at h
  split at h
  · cases h
    rename_i sc ho po pa qu hq1 fr hf
    refine w94 (fun _ => false) [] rfl hct rfl rfl ?_
    push_cast (config := { maxSteps := 10000000 })
    obtain ⟨h1, h2, h3, h4, h5, h6⟩ := hq
    simp only at h1 h2 h3 h4 h5 h6
    (repeat' (first | apply And.intro | intro _)) <;> first | assumption | omega | skip
    all_goals subst_vars
    all_goals simp [wrL, behL, wSep, *]
  · cases h
theorem conCheckAdr1 : Con pg 48 ckCheckAdr := by
  have hct := (ctA_ok conIsSch1 (ctA_ok conIsHost2 (ctA_ok conIsPort1 (ctA_ok conIsPath1 (ctA_ok conIsRow1 (ctA_ok conWrittenA (ctN_ok _)))))))
  intro args q r h hq
  unfold ckCheckAdr at h
  split at h
  · cases h
    rename_i sc ho po pa qu hq1 fr hf
    refine w48 (fun _ => false) [] rfl hct rfl rfl ?_
    push_cast (config := { maxSteps := 10000000 })
    obtain ⟨h1, h2, h3, h4, h5, h6⟩ := hq
    simp only at h1 h2 h3 h4 h5 h6
    have ok : adrOk ⟨sc, ho, po, pa, qu, hq1, fr, hf⟩ := ⟨h1, h2, h3, h4, h5, h6⟩
    have syn : synA ⟨sc, ho, po, pa, qu, hq1, fr, hf⟩ = true ↔ ((((((schOk sc = true ∧ hostL ho = true) ∧ (po = [] ∨ ¬ portN po = 0)) ∧ (pa = [] ∨ (pa.getD 0 0).toNat = 47)) ∧ rowP pa = true) ∧ rowR qu = true) ∧ rowR fr = true) := by
      unfold synA
      simp only [Bool.and_eq_true, Bool.or_eq_true, beq_iff_eq, decide_eq_true_eq, ne_eq]
    have kb : ¬ synA ⟨sc, ho, po, pa, qu, hq1, fr, hf⟩ = true → 10 = checkAdrL ⟨sc, ho, po, pa, qu, hq1, fr, hf⟩ := fun h => by
      unfold checkAdrL; rw [if_pos (by simpa using h)]
    have k3 : synA ⟨sc, ho, po, pa, qu, hq1, fr, hf⟩ = true → (¬qu = [] ∧ hq1 = false) ∨ (¬fr = [] ∧ hf = false) → 3 = checkAdrL ⟨sc, ho, po, pa, qu, hq1, fr, hf⟩ := fun h h' => by
      unfold checkAdrL; rw [if_neg (by rw [h]; simp), if_pos h']
    have k2 : synA ⟨sc, ho, po, pa, qu, hq1, fr, hf⟩ = true → ¬ ((¬qu = [] ∧ hq1 = false) ∨ (¬fr = [] ∧ hf = false)) → 2000 < ((wrL ⟨sc, ho, po, pa, qu, hq1, fr, hf⟩).length : Int) → 2 = checkAdrL ⟨sc, ho, po, pa, qu, hq1, fr, hf⟩ := fun h h' h'' => by
      unfold checkAdrL; rw [if_neg (by rw [h]; simp), if_neg h', if_pos (by omega)]
    have k0 : synA ⟨sc, ho, po, pa, qu, hq1, fr, hf⟩ = true → ¬ ((¬qu = [] ∧ hq1 = false) ∨ (¬fr = [] ∧ hf = false)) → ¬ 2000 < ((wrL ⟨sc, ho, po, pa, qu, hq1, fr, hf⟩).length : Int) → 0 = checkAdrL ⟨sc, ho, po, pa, qu, hq1, fr, hf⟩ := fun h h' h'' => by
      unfold checkAdrL; rw [if_neg (by rw [h]; simp), if_neg h', if_neg (by omega)]
    have eP : pa = [] → rowP pa = true := fun e => by rw [e]; rfl
    rw [syn] at kb k3 k2 k0
    clear syn
    generalize checkAdrL ⟨sc, ho, po, pa, qu, hq1, fr, hf⟩ = X at *
    generalize ((wrL ⟨sc, ho, po, pa, qu, hq1, fr, hf⟩).length : Int) = W at *
    generalize (pa.getD 0 0).toNat = A4 at *
    generalize (portN po) = A5 at *
    generalize (hostL ho) = A6 at *
    generalize (schOk sc) = A7 at *
    generalize rowP pa = A1 at *
    generalize rowR qu = A2 at *
    generalize rowR fr = A3 at *
    clear hct
    (repeat' (first | apply And.intro | intro _)) <;> first | assumption | omega | grind
  · cases h

def ckUnhex1 : Ck
  | [.int .u8 c] => some (0 ≤ c ∧ c < 256 ∧ isHex c = true, .int .i64 (hexV c))
  | _ => none
theorem unhex1_key : ∀ n, n < 128 → isHex ((n : Nat) : Int) = true → Lib.indexByte [48, 49, 50, 51, 52, 53, 54, 55, 56, 57, 97, 98, 99, 100, 101, 102] (lowB (UInt8.ofNat n)) = hexV ((n : Nat) : Int) := by decide +kernel
theorem hex_128 {c : Int} (h : isHex c = true) : 48 ≤ c ∧ c < 128 := by
  simp only [isHex, isDig, Bool.or_eq_true, Bool.and_eq_true, decide_eq_true_eq] at h
  omega
theorem conUnhex1 : Con pg 177 ckUnhex1 := by
  have hct := (ctA_ok conSmall (ctA_ok conIndexByte (ctN_ok _)))
  intro args q r h hq
  unfold ckUnhex1 at h
  split at h
  · cases h
    rename_i c
    refine w177 (fun _ => false) [] rfl hct rfl rfl ?_
    push_cast (config := { maxSteps := 10000000 })
    have h1 := hex_128 hq.2.2
    have e : IntKind.i32.wrap c = c := by
      have key : ∀ n : Nat, n < 128 → IntKind.i32.wrap (n : Int) = n := by decide +kernel
      have := key c.toNat (by omega)
      rwa [Int.toNat_of_nonneg (by omega)] at this
    rw [e]
    obtain ⟨n, rfl⟩ : ∃ n : Nat, c = n := ⟨c.toNat, by omega⟩
    have := unhex1_key n (by omega) hq.2.2
    refine ⟨by omega, by simp [lowL], ?_⟩
    rw [Int.toNat_natCast]
    exact this
  · cases h
attribute [push_cast] ckUnhex1
def ckCoded : Ck
  | [.str s] => some (wfL s = true ∧ s.length ≤ 1073741824, .str (normL s))
  | _ => none
theorem conCoded : Con pg 140 ckCoded := by
  have hct := (ctA_ok conUnhex1 (ctA_ok conLetter (ctA_ok conDigit (ctN_ok _))))
  intro args q r h hq
  unfold ckCoded at h
  split at h
  · cases h
    rename_i s
    refine w140 (fun _ => false) [] rfl hct rfl rfl ?_
    push_cast (config := { maxSteps := 10000000 })
    refine LoopW.adj ⟨hct, fol⟩ (by kernel_rfl) [.nv 3 21 1 (byF [])] (fun t : Nat × List UInt8 => [(0, .str s), (3, .vec 21 t.2.length), (4, .int .i64 t.1)]) (fun t => [(21, .vec 1 t.2.length (byF t.2))]) (fun t => t.1 ≤ s.length ∧ t.2 ++ normL (s.drop t.1) = normL s ∧ wfL (s.drop t.1) = true) (fun t => s.length - t.1) (0, []) ?_ fun t ht => ?_
    · push_cast (config := { maxSteps := 10000000 })
      simp [hq.1]
    · obtain ⟨i, l⟩ := t
      push_cast (config := { maxSteps := 10000000 })
      obtain ⟨h1, h2, h3⟩ : i ≤ s.length ∧ l ++ normL (s.drop i) = normL s ∧ wfL (s.drop i) = true := ht
      have hl : l.length ≤ s.length := by
        have k1 := congrArg List.length h2
        have k2 := normL_len s
        simp only [List.length_append] at k1; omega
      refine ⟨fun hi => ⟨hi, fun hc => ⟨hi, by omega, by omega, (i + 1, l ++ [s.getD i 0]), ⟨by simp; omega, ?_, ?_⟩, by simp; omega, by simp, by simp, fun j hj => ?_⟩, fun hc => ?_⟩, fun hn => ?_⟩
      · rw [normL_no hi (fun h => hc (by rw [h.1]; rfl))] at h2
        simpa using h2
      · exact wfL_no hi (fun h => hc (by rw [h]; rfl)) h3
      · exact appF_lit (bs := [s.getD i 0]) rfl hj
      · have hc' : s.getD i 0 = 37 := (u8_eq _ _).2 hc
        obtain ⟨k1, k2, k3, k4⟩ := wfL_hex hi hc' h3
        have hN1 := hexN_lt k2
        have hN2 := hexN_lt k3
        have e := normL_hex k1 hc' k2 k3
        have v1 := hexV_lt k2
        have v2 := hexV_lt k3
        have ev : 16 * hexV ((s.getD (i + 1) 0).toNat : Int) + hexV ((s.getD (i + 2) 0).toNat : Int) = ((16 * hexN (s.getD (i + 1) 0) + hexN (s.getD (i + 2) 0) : Nat) : Int) := by unfold hexN; omega
        rw [ev]
        generalize hv : 16 * hexN (s.getD (i + 1) 0) + hexN (s.getD (i + 2) 0) = v at *
        have hv' : v < 256 := by omega
        rw [show ((v : Nat) : Int) % 256 = (v : Nat) by omega]
        have e1 : (v : Int) / 16 % 256 = ((v / 16 : Nat) : Int) := by omega
        have e2 : (v : Int) % 16 % 256 = ((v % 16 : Nat) : Int) := by omega
        have hle := u8_lt (s.getD (i + 1) 0)
        have hle2 := u8_lt (s.getD (i + 2) 0)
        refine ⟨by omega, by omega, ⟨by omega, k2⟩, by omega, by omega, by omega, ⟨by omega, k3⟩, by omega, fun hf => ⟨by omega, by omega, by omega, (i + 3, l ++ [UInt8.ofNat v]), ⟨by show i + 3 ≤ _; omega, ?_, k4⟩, by show s.length - (i + 3) < _; omega, ⟨by simp, by show (i : Int) + 2 + 1 = ((i + 3 : Nat) : Int); omega⟩, by simp, fun j hj => ?_⟩, fun hf => ⟨by omega, by omega, by omega, by omega, by omega, by omega, by omega, (i + 3, l ++ [37, hexRow.getD (v / 16) 0, hexRow.getD (v % 16) 0]), ⟨by show i + 3 ≤ _; omega, ?_, k4⟩, by show s.length - (i + 3) < _; omega, ⟨by simp, by show (i : Int) + 2 + 1 = ((i + 3 : Nat) : Int); omega⟩, by simp, fun j hj => ?_⟩⟩
        · rw [e, encB, if_pos (by simp only [isFreeI]; grind)] at h2
          simpa using h2
        · refine appF_lit ?_ hj
          simp [ofNat_toNat hv']
        · rw [e, encB, if_neg (by simp only [isFreeI]; grind)] at h2
          simpa using h2
        · refine appF_lit ?_ hj
          have e1 : ((v : Int) / 16 % 256).toNat = v / 16 := by omega
          have e2 : ((v : Int) % 16).toNat = v % 16 := by omega
          simp [hexRow, e1, e2]
      · have : i = s.length := by omega
        subst this
        simpa [normL] using h2
  · cases h
attribute [push_cast] ckCoded
def dotF : List (List UInt8) → List (List UInt8) → List (List UInt8)
  | [], o => o
  | p :: t, o => if p = [46, 46] then dotF t o.dropLast else if p = [46] then dotF t o else dotF t (o ++ [p])
def lastP (P : List (List UInt8)) : List UInt8 := P.getD (P.length - 1) []
theorem dotGo_F : ∀ (t o : List (List UInt8)), t ≠ [] → dotGo t o = dotF t o ++ (if lastP t = [46] ∨ lastP t = [46, 46] then [[]] else [])
  | [p], o, _ => by
    have e : lastP [p] = p := rfl
    rw [dotGo, dotF, e]
    by_cases h1 : p = [46, 46]
    · simp [h1, dotGo, dotF]
    · by_cases h2 : p = [46]
      · simp [h2, dotGo, dotF]
      · simp [h1, h2, dotGo, dotF]
  | p :: q :: t, o, _ => by
    have e : lastP (p :: q :: t) = lastP (q :: t) := by unfold lastP; simp
    rw [dotGo, dotF, e]
    have n : ¬ q :: t = [] := by simp
    rw [if_neg n, if_neg n]
    split
    · exact dotGo_F (q :: t) _ n
    · split <;> exact dotGo_F (q :: t) _ n
theorem dotF_len : ∀ (t o : List (List UInt8)), (dotF t o).length ≤ t.length + o.length
  | [], o => by simp [dotF]
  | p :: t, o => by
    rw [dotF]
    split
    · have := dotF_len t o.dropLast; rw [List.length_dropLast] at this; simp only [List.length_cons]; omega
    · split
      · have := dotF_len t o; simp only [List.length_cons]; omega
      · have := dotF_len t (o ++ [p]); simp only [List.length_append, List.length_cons, List.length_nil] at this ⊢; omega
def ckDots1 : Ck
  | [.str s] => some (s.length ≤ 2000 ∧ (s = [] ∨ s.getD 0 0 = 47), .str (undotL s))
  | _ => none
theorem conDots1 : Con pg 139 ckDots1 := by
  have hct := (ctA_ok conSplit (ctN_ok _))
  intro args q r h hq
  unfold ckDots1 at h
  split at h
  · cases h
    rename_i s
    refine w139 (fun d => decide (d = 20007 ∨ d = 20015)) [] rfl hct rfl rfl ?_
    push_cast (config := { maxSteps := 10000000 })
    refine ⟨fun h => by subst h; rfl, fun h => ?_⟩
    have h1 : 1 ≤ s.length := List.length_pos_iff.2 h
    have h47 := hq.2.resolve_left h
    have eU : undotL s = joinSl (dotGo (splitL (s.drop 1) 47) []) := by unfold undotL; rw [if_neg h]
    have eS : splitL s 47 = [] :: splitL (s.drop 1) 47 := by
      cases s with
      | nil => exact absurd rfl h
      | cons c t =>
        have : c = 47 := by simpa using h47
        subst this
        rw [splitL_eq, splitL_eq, spl, if_pos rfl]; rfl
    have hP0 : (splitL (s.drop 1) 47).length ≤ 2000 := by
      have := splitL_le (s.drop 1) 47
      rw [List.length_drop] at this; omega
    have hPn : splitL (s.drop 1) 47 ≠ [] := by rw [splitL_eq]; exact spl_ne _ _
    have hPp := List.length_pos_iff.2 hPn
    have hPl : ∀ x ∈ splitL (s.drop 1) 47, x.length ≤ 2000 := fun x hx => by
      rw [splitL_eq] at hx
      have := spl_len 47 _ x hx
      rw [List.length_drop] at this; omega
    have hJl := dotGo_len (splitL (s.drop 1) 47) []
    have hJs : (joinSl (splitL (s.drop 1) 47)).length ≤ 2000 := by
      rw [splitL_eq, joinSl_spl, List.length_cons, List.length_drop]; omega
    rw [eU, eS]
    rw [dotGo_F _ _ hPn] at hJl ⊢
    generalize splitL (s.drop 1) 47 = P at *
    refine ⟨by omega, by simp only [List.length_cons]; omega, ?_⟩
    refine LoopW.adj ⟨hct, fol⟩ (by kernel_rfl) [.nv 4 8000 1 (lsF cStr [])] (fun t : Nat × List (List UInt8) => [(3, .sl P.length (lsF cStr P)), (4, .vec 8000 t.2.length), (5, .int .i64 t.1)]) (fun t => [(8000, .vec 1 t.2.length (lsF cStr t.2))]) (fun t => t.1 ≤ P.length ∧ t.2.length ≤ t.1 ∧ dotF (P.drop t.1) t.2 = dotF P []) (fun t => P.length - t.1) (0, []) ?_ fun t ht => ?_
    · push_cast (config := { maxSteps := 10000000 })
      refine ⟨Nat.zero_le _, fun j hj => ?_⟩
      show V.str (([] :: P).getD (j + 1) []) = _
      rw [List.getD_cons_succ]
    · obtain ⟨i, o⟩ := t
      obtain ⟨i1, i2, i3⟩ : i ≤ P.length ∧ o.length ≤ i ∧ dotF (P.drop i) o = dotF P [] := ht
      push_cast (config := { maxSteps := 10000000 })
      refine ⟨fun hlt => ?_, fun hge => ?_⟩
      · rw [dropG (d := []) hlt, dotF] at i3
        refine SeqW.cut ⟨hct, fol⟩ (by kernel_rfl) (by kernel_rfl) [.trim 4] (fun o' : List (List UInt8) => [(3, .sl P.length (lsF cStr P)), (4, .vec 8000 o'.length), (5, .int .i64 i)]) (fun o' => [(8000, .vec 1 o'.length (lsF cStr o'))]) (fun o' => o'.length ≤ i + 1 ∧ dotF (P.drop (i + 1)) o' = dotF P []) ?_ fun o' ho => ?_
        · push_cast (config := { maxSteps := 10000000 })
          have dl : ∀ j, j < o.length - 1 → V.str (o.getD j []) = V.str (o.dropLast.getD j []) := fun j hj => by
            rw [List.getD_eq_getElem?_getD, List.getD_eq_getElem?_getD, List.getElem?_dropLast, if_pos hj]
          refine ⟨hlt, fun h => ⟨by omega, by omega, o.dropLast, ⟨by rw [List.length_dropLast]; omega, by rw [if_pos h] at i3; exact i3⟩, by rw [List.length_dropLast]; omega, by rw [List.length_dropLast]; omega, fun j hj => dl j (by omega)⟩, fun h => ⟨hlt, fun h2 => ⟨hlt, by omega, o ++ [P.getD i []], ⟨by simp; omega, by rw [if_neg h, if_neg h2] at i3; exact i3⟩, by simp, by simp, fun j hj => ?_⟩, fun h2 => ⟨o, ⟨by omega, by rw [if_neg h, if_pos h2] at i3; exact i3⟩, rfl, rfl, fun _ _ => rfl⟩⟩⟩
          exact (LsI.app (c := cStr) (f := lsF cStr o) (g := litF [cStr.enc (P.getD i [])]) (LsI.ls o) (LsI.one (c := cStr) (a := P.getD i []) rfl) rfl).2 j hj
        · push_cast (config := { maxSteps := 10000000 })
          obtain ⟨o1, o2⟩ := ho
          exact ⟨by omega, ((i + 1, o') : Nat × List (List UInt8)), ⟨by show i + 1 ≤ _; omega, o1, o2⟩, by show P.length - (i + 1) < _; omega, ⟨rfl, by show (i : Int) + 1 = ((i + 1 : Nat) : Int); omega⟩, rfl, fun _ _ => rfl⟩
      · rw [List.drop_eq_nil_of_le (by omega), dotF] at i3
        rw [← i3] at hJl ⊢
        clear i3 eU
        refine SeqW.cut ⟨hct, fol⟩ (by kernel_rfl) (by kernel_rfl) [] (fun o' : List (List UInt8) => [(4, .vec 8000 o'.length)]) (fun o' => [(8000, .vec 1 o'.length (lsF cStr o'))]) (fun o' => o' = o ++ (if lastP P = [46] ∨ lastP P = [46, 46] then [[]] else [])) ?_ fun o' ho => ?_
        · push_cast (config := { maxSteps := 10000000 })
          rw [show (↑P.length - 1 : Int).toNat = P.length - 1 by omega, show P.getD (P.length - 1) [] = lastP P from rfl]
          have hF := dotF_len P []
          refine ⟨by omega, by omega, fun h => ⟨by omega, o ++ [[]], by rw [if_pos h], by simp, by simp, fun j hj => ?_⟩, fun h => ⟨o, by rw [if_neg (by rintro (x | x); exact h.1 x; exact h.2 x)]; simp, rfl, rfl, fun _ _ => rfl⟩⟩
          exact (LsI.app (c := cStr) (f := lsF cStr o) (g := litF [cStr.enc []]) (LsI.ls o) (LsI.one (c := cStr) (a := []) rfl) rfl).2 j hj
        · have hol : o'.length ≤ 4001 := by
            rw [ho, List.length_append]; split <;> simp <;> omega
          rw [← ho] at hJl ⊢
          have h00 : (joinSl []).length = 0 := rfl
          clear ho
          push_cast (config := { maxSteps := 10000000 })
          refine LoopW.adj ⟨hct, fol⟩ (by kernel_rfl) [] (fun k : Nat => [(4, .vec 8000 o'.length), (7, .str (joinSl (o'.take k))), (8, .int .i64 k)]) (fun k => [(8000, .vec 1 o'.length (lsF cStr o'))]) (fun k => k ≤ o'.length) (fun k => o'.length - k) 0 ?_ fun k hk => ?_
          · push_cast (config := { maxSteps := 10000000 })
            exact ⟨Nat.zero_le _, rfl⟩
          · push_cast (config := { maxSteps := 10000000 })
            refine ⟨fun hlt => ?_, fun hge => ?_⟩
            · have e1 : o'.take (k + 1) = o'.take k ++ [o'.getD k []] := by
                rw [List.getD_eq_getElem?_getD, List.getElem?_eq_getElem hlt, List.take_succ_eq_append_getElem hlt]; rfl
              have e2 : joinSl (o'.take (k + 1)) = joinSl (o'.take k) ++ 47 :: o'.getD k [] := by rw [e1, joinSl_app, joinSl_one]
              have e3 : (joinSl (o'.take (k + 1))).length ≤ (joinSl o').length := by
                conv => rhs; rw [← List.take_append_drop (k + 1) o', joinSl_app, List.length_append]
                omega
              rw [e2, List.length_append, List.length_cons] at e3
              exact ⟨hlt, hlt, by omega, by omega, by omega, k + 1, by omega, by omega, e2.symm, by omega⟩
            · have : k = o'.length := by omega
              rw [this, List.take_length]
  · cases h
attribute [push_cast] ckDots1

theorem pathL_len {a : Adr} (h : checkAdrL a = 0) : (pathL a).length ≤ 4100 := by
  obtain ⟨z1, z2, z3, z4, z5, z6, z7, z8⟩ := check_sz h
  have h1 := undotL_len (normL a.pa)
  have h2 := normL_len a.pa
  have h3 := normL_len a.qu
  have h6 : (npL a).length ≤ 2001 := by
    unfold npL
    split
    · simp
    · omega
  unfold pathL
  rw [List.length_append]
  split
  · rw [List.length_cons]; omega
  · simp; omega
def ckPathOf : Ck
  | [.agg [.str sc, .str ho, .str po, .str pa, .str qu, .bool hq, .str fr, .bool hf]] => some (checkAdrL ⟨sc, ho, po, pa, qu, hq, fr, hf⟩ = 0, .str (pathL ⟨sc, ho, po, pa, qu, hq, fr, hf⟩))
  | _ => none
attribute [push_cast] ckPathOf
def ckAtoiE : Ck
  | [.str s] => some (s.length ≤ 18 ∧ s.all isDg = true, .tup [.int .i64 (natOf s), .any])
  | _ => none
theorem conAtoiE : Con pg 108 ckAtoiE := by
  intro args q r h hq
  unfold ckAtoiE at h
  split at h
  · cases h
    rename_i s
    by_cases hs : s = []
    · subst hs
      refine pcall_shelf (by kernel_rfl) rfl fun w hw => ?_
      obtain ⟨ev, e1, e2⟩ := errSyn hw
      refine (Tryz.strconv_Atoi_syntax ⟨#[]⟩ (by decide) (by decide +kernel) ev w e1 e2).mono fun e w' h => ?_
      obtain ⟨N, he, _, _, hb⟩ := h
      exact ⟨_, he, grow_below hb, fun γ imm => .tup _ [_, _] rfl fun i hi => by
        match i, hi with
        | 0, _ => exact .pure (.int _ _)
        | 1, _ => exact .any _⟩
    · have := List.length_pos_iff.2 hs
      exact conAtoi _ _ _ rfl ⟨by omega, hq.1, hq.2⟩
  · cases h
attribute [push_cast] ckAtoiE

theorem dg_dig (s : List UInt8) : s.all digB = s.all isDg := by
  congr 1
  funext c
  unfold digB isDg isDig
  rw [Bool.eq_iff_iff]
  simp only [Bool.and_eq_true, decide_eq_true_eq]
  omega
theorem natOf_z (s : List UInt8) : natOf (trimZ s) = natOf s := by
  induction s with
  | nil => rfl
  | cons c t ih =>
    by_cases hc : c = 48
    · subst hc
      have e : trimZ (48 :: t) = trimZ t := by unfold trimZ; rw [List.dropWhile_cons, if_pos (by decide)]
      rw [e, ih]; rfl
    · have e : trimZ (c :: t) = c :: t := by unfold trimZ; rw [List.dropWhile_cons, if_neg (by simpa using hc)]
      rw [e]
theorem trimZ_head (s : List UInt8) (h : trimZ s ≠ []) : (trimZ s).getD 0 0 ≠ 48 := by
  induction s with
  | nil => exact absurd rfl h
  | cons c t ih =>
    by_cases hc : c = 48
    · subst hc
      have e : trimZ (48 :: t) = trimZ t := by unfold trimZ; rw [List.dropWhile_cons, if_pos (by decide)]
      rw [e] at h ⊢; exact ih h
    · have e : trimZ (c :: t) = c :: t := by unfold trimZ; rw [List.dropWhile_cons, if_neg (by simpa using hc)]
      rw [e]; simpa using hc
theorem trimZ_all {s : List UInt8} (h : s.all isDg = true) : (trimZ s).all isDg = true := by
  rw [List.all_eq_true] at h ⊢
  exact fun x hx => h x ((List.dropWhile_sublist _).subset hx)
theorem port_facts {s : List UInt8} (h : s = [] ∨ portN s ≠ 0) : s.length ≤ 18 ∧ s.all isDg = true ∧ natOf s ≤ 99999 ∧ (natOf s = 0 → trimZ s = []) ∧ (natOf s ≠ 0 → Lib.itoa (natOf s : Nat) = trimZ s ∧ trimZ s ≠ []) := by
  rcases h with h | h
  · subst h
    exact ⟨by decide, rfl, by decide, fun _ => rfl, fun x => absurd rfl x⟩
  · have h5 : 1 ≤ s.length ∧ s.length ≤ 5 ∧ s.all digB = true ∧ portV s ≤ 65535 := Classical.byContradiction fun x => h (by unfold portN; rw [if_neg x])
    obtain ⟨h1, h2, h3, h4⟩ := h5
    rw [dg_dig] at h3
    have hz := trimZ_all h3
    have hlt := natOf_lt s h3
    have hp : 10 ^ s.length ≤ 10 ^ 5 := Nat.pow_le_pow_right (by omega) h2
    have hne : natOf s ≠ 0 → trimZ s ≠ [] := fun h e => h (by rw [← natOf_z, e]; rfl)
    refine ⟨by omega, h3, by omega, fun e => Classical.byContradiction fun hn => ?_, fun hn => ⟨?_, hne hn⟩⟩
    · have := natOf_pos hz (List.length_pos_iff.2 hn) (trimZ_head s hn)
      rw [natOf_z] at this; omega
    · rw [itoa_nat, ← natOf_z, dec_natOf hz (List.length_pos_iff.2 (hne hn)) (.inl (trimZ_head s (hne hn)))]
theorem conNormOf : Con pg 95 ckNormA := by
  have hct := (ctA_ok conSmall (ctA_ok conCoded (ctA_ok conDots1 (ctA_ok conAtoiE (ctA_ok conItoa (ctN_ok _))))))
  intro args q r h hq
  unfold ckNormA at h
  split at h
  · cases h
    rename_i sc ho po pa qu hq1 fr hf
    refine w95 (fun _ => false) [] rfl hct rfl rfl ?_
    push_cast (config := { maxSteps := 10000000 })
    obtain ⟨z1, z2, z3, z4, z5, z6, z7, z8⟩ := check_sz hq
    obtain ⟨y1, y2⟩ := syn_wf z1
    have z9 : (po = [] ∨ portN po ≠ 0) ∧ (pa = [] ∨ pa.getD 0 0 = 47) := by
      unfold synA at z1
      simp only [Bool.and_eq_true, Bool.or_eq_true, beq_iff_eq, decide_eq_true_eq] at z1
      obtain ⟨⟨⟨⟨⟨⟨s1, s2⟩, s3⟩, s4⟩, s5⟩, s6⟩, s7⟩ := z1
      exact ⟨s3, s4.imp id fun e => UInt8.toNat_inj.1 e⟩
    simp only at z3 z4 z5 z6 z7 z8 y1 y2
    have n1 := normL_len pa
    have n2 := norm_head z9.2
    obtain ⟨p1, p2, p3, p4, p5⟩ := port_facts z9.1
    simp only [normA, portA, npL, show wHttp = [104, 116, 116, 112] from rfl, show wHttps = [104, 116, 116, 112, 115] from rfl]
    have q80 : natOf po = 80 ↔ trimZ po = [56, 48] := by
      constructor
      · intro e; rw [← (p5 (by omega)).1, e]; decide +kernel
      · intro e; rw [← natOf_z, e]; decide
    have q443 : natOf po = 443 ↔ trimZ po = [52, 52, 51] := by
      constructor
      · intro e; rw [← (p5 (by omega)).1, e]; decide +kernel
      · intro e; rw [← natOf_z, e]; decide
    generalize Lib.itoa (natOf po : Nat) = it at *
    generalize trimZ po = tz at *
    generalize natOf po = N at *
    have c80 : (N : Int) = 80 ↔ N = 80 := by omega
    have c443 : (N : Int) = 443 ↔ N = 443 := by omega
    have c0 : (N : Int) = 0 ↔ N = 0 := by omega
    simp only [c80, c443, c0]
    generalize lowL sc = lsc at *
    have n3 : normL pa = [] ∨ (normL pa).getD 0 0 = 47 := by rcases n2 with h | h; exact .inl h.2; exact .inr h.2.2
    generalize undotL (normL pa) = up at *
    generalize normL pa = np at *
    have e1 : ([47] : List UInt8) ≠ [] := by simp
    clear z1 hq
    (repeat' (first | apply And.intro | intro _)) <;> first | assumption | omega | exact trivial | grind
  · cases h
attribute [push_cast] ckNormA
attribute [push_cast] ckPathOf
def ckPathOfR : Ck
  | [.agg [.str sc, .str ho, .str po, .str pa, .str qu, .bool hq, .str fr, .bool hf]] => some (adrOk ⟨sc, ho, po, pa, qu, hq, fr, hf⟩, .tup [.str (if checkAdrL ⟨sc, ho, po, pa, qu, hq, fr, hf⟩ = 0 then pathL ⟨sc, ho, po, pa, qu, hq, fr, hf⟩ else []), .int .i64 (checkAdrL ⟨sc, ho, po, pa, qu, hq, fr, hf⟩)])
  | _ => none
attribute [push_cast] ckPathOfR
/- the normal form of any address -/
def nrmE (a : Adr) : Int := if checkAdrL a = 0 then checkAdrL (normA a) else checkAdrL a
def nrmA (a : Adr) : Adr := if checkAdrL a = 0 ∧ checkAdrL (normA a) = 0 then normA a else noAdr
def ckNormG : Ck
  | [.agg [.str sc, .str ho, .str po, .str pa, .str qu, .bool hq, .str fr, .bool hf]] => some (adrOk ⟨sc, ho, po, pa, qu, hq, fr, hf⟩, .tup [cAdr.enc (nrmA ⟨sc, ho, po, pa, qu, hq, fr, hf⟩), .int .i64 (nrmE ⟨sc, ho, po, pa, qu, hq, fr, hf⟩)])
  | _ => none
theorem conNormG : Con pg 44 ckNormG := by
  have hct := (ctA_ok conCheckAdr (ctA_ok conNormA (ctN_ok _)))
  intro args q r h hq
  unfold ckNormG at h
  split at h
  · cases h
    rename_i sc ho po pa qu hq1 fr hf
    refine w44 (fun _ => false) [] rfl hct rfl rfl ?_
    push_cast (config := { maxSteps := 10000000 })
    generalize (⟨sc, ho, po, pa, qu, hq1, fr, hf⟩ : Adr) = a at *
    rw [show (⟨(normA a).sc, (normA a).ho, (normA a).po, (normA a).pa, (normA a).qu, (normA a).hq, (normA a).fr, (normA a).hf⟩ : Adr) = normA a from rfl]
    refine ⟨hq, fun h => ?_, fun h => ⟨h, norm_ok h, fun h2 => ?_, fun h2 => ?_⟩⟩
    · unfold nrmA nrmE; rw [if_neg (fun x => h x.1), if_neg h]; exact ⟨⟨rfl, rfl, rfl, rfl, rfl, rfl, rfl, rfl⟩, rfl⟩
    · unfold nrmA nrmE; rw [if_neg (fun x => h2 x.2), if_pos h]; exact ⟨⟨rfl, rfl, rfl, rfl, rfl, rfl, rfl, rfl⟩, rfl⟩
    · unfold nrmA nrmE; rw [if_pos ⟨h, h2⟩, if_pos h]; exact ⟨⟨rfl, rfl, rfl, rfl, rfl, rfl, rfl, rfl⟩, h2.symm⟩
  · cases h
theorem conNormG1 : Con pg 49 ckNormG := by
  have hct := (ctA_ok conCheckAdr1 (ctA_ok conNormOf (ctN_ok _)))
  intro args q r h hq
  unfold ckNormG at h
  split at h
  · cases h
    rename_i sc ho po pa qu hq1 fr hf
    refine w49 (fun _ => false) [] rfl hct rfl rfl ?_
    push_cast (config := { maxSteps := 10000000 })
    generalize (⟨sc, ho, po, pa, qu, hq1, fr, hf⟩ : Adr) = a at *
    rw [show (⟨(normA a).sc, (normA a).ho, (normA a).po, (normA a).pa, (normA a).qu, (normA a).hq, (normA a).fr, (normA a).hf⟩ : Adr) = normA a from rfl]
    refine ⟨hq, fun h => ?_, fun h => ⟨h, norm_ok h, fun h2 => ?_, fun h2 => ?_⟩⟩
    · unfold nrmA nrmE; rw [if_neg (fun x => h x.1), if_neg h]; exact ⟨⟨rfl, rfl, rfl, rfl, rfl, rfl, rfl, rfl⟩, rfl⟩
    · unfold nrmA nrmE; rw [if_neg (fun x => h2 x.2), if_pos h]; exact ⟨⟨rfl, rfl, rfl, rfl, rfl, rfl, rfl, rfl⟩, rfl⟩
    · unfold nrmA nrmE; rw [if_pos ⟨h, h2⟩, if_pos h]; exact ⟨⟨rfl, rfl, rfl, rfl, rfl, rfl, rfl, rfl⟩, h2.symm⟩
  · cases h
attribute [push_cast] ckNormG

/- what a text means in a page -/
def trimA (s : List UInt8) : List UInt8 := Lib.trimS s [9, 10, 12, 13, 32]
def schC (c : UInt8) : Bool := isLet (c.toNat : Int) || isDig (c.toNat : Int) || decide (c.toNat = 43) || decide (c.toNat = 45) || decide (c.toNat = 46)
def rowN (s : List UInt8) : Nat := if isLet ((s.getD 0 0).toNat : Int) = true then 1 + runN schC (s.drop 1) else 0
def rowA (s : List UInt8) : List UInt8 := if (s.getD (rowN s) 0).toNat = 58 then s.take (rowN s) else []
def lastI (s : List UInt8) (c : UInt8) : Nat → Int
  | 0 => -1
  | n + 1 => if s.getD n 0 = c then n else lastI s c n
theorem lastI_b (s : List UInt8) (c : UInt8) : ∀ n, -1 ≤ lastI s c n ∧ lastI s c n < n
  | 0 => ⟨Int.le_refl _, by show (-1 : Int) < 0; omega⟩
  | n + 1 => by
    have := lastI_b s c n
    rw [lastI]
    split <;> omega
def meantP (b p : List UInt8) : List UInt8 :=
  if (p.getD 0 0).toNat = 47 then p
  else if ((b.take (lastI b 47 b.length + 1).toNat ++ p).getD 0 0).toNat = 47 then b.take (lastI b 47 b.length + 1).toNat ++ p else 47 :: (b.take (lastI b 47 b.length + 1).toNat ++ p)
def meantA (b : Adr) (s : List UInt8) : Adr :=
  if (Lib.cut (Lib.cut s [35]).1 [63]).1 = [] then
    (if (Lib.cut (Lib.cut s [35]).1 [63]).2.2 = true then ⟨b.sc, b.ho, b.po, b.pa, (Lib.cut (Lib.cut s [35]).1 [63]).2.1, true, (Lib.cut s [35]).2.1, (Lib.cut s [35]).2.2⟩
     else ⟨b.sc, b.ho, b.po, b.pa, b.qu, b.hq, (Lib.cut s [35]).2.1, (Lib.cut s [35]).2.2⟩)
  else ⟨b.sc, b.ho, b.po, meantP b.pa (Lib.cut (Lib.cut s [35]).1 [63]).1, (Lib.cut (Lib.cut s [35]).1 [63]).2.1, (Lib.cut (Lib.cut s [35]).1 [63]).2.2, (Lib.cut s [35]).2.1, (Lib.cut s [35]).2.2⟩
def slash2 (s : List UInt8) : Bool := decide (2 ≤ s.length) && (s.take 2 == [47, 47])
/-- what stands there, ahead of its check: the address and the fault -/
def res0 (b : Adr) (s : List UInt8) : Adr × Int :=
  if s = [] then (⟨b.sc, b.ho, b.po, b.pa, b.qu, b.hq, [], false⟩, 0)
  else if lowL (rowA s) ≠ [] then (if lowL (rowA s) ≠ wHttp ∧ lowL (rowA s) ≠ wHttps then (noAdr, 4) else ((readA s).1, (readA s).2.2))
  else if slash2 s = true then ((readA (b.sc ++ 58 :: s)).1, (readA (b.sc ++ 58 :: s)).2.2)
  else (meantA b s, 0)
def resA (b : Adr) (r : List UInt8) : Adr × Int :=
  if checkAdrL b ≠ 0 then (noAdr, checkAdrL b)
  else if 2000 < r.length then (noAdr, 2)
  else if (res0 b (trimA r)).2 ≠ 0 then (noAdr, (res0 b (trimA r)).2)
  else if checkAdrL (res0 b (trimA r)).1 ≠ 0 then (noAdr, checkAdrL (res0 b (trimA r)).1)
  else ({ (res0 b (trimA r)).1 with pa := undotL (res0 b (trimA r)).1.pa }, 0)
theorem cutS_sz (s : List UInt8) (a n : Nat) : (cutS s a n).length ≤ s.length := by
  unfold cutS; rw [List.length_take, List.length_drop]; omega
theorem plc_sz (s : List UInt8) (a : Nat) : (plcL s a).ho.length ≤ s.length ∧ (plcL s a).po.length ≤ s.length := by
  unfold plcL
  split
  · exact ⟨cutS_sz _ _ _, by simp⟩
  · split
    · split
      · exact ⟨cutS_sz _ _ _, cutS_sz _ _ _⟩
      · exact ⟨cutS_sz _ _ _, cutS_sz _ _ _⟩
    · exact ⟨cutS_sz _ _ _, by simp⟩
theorem rst_sz (s : List UInt8) (a : Nat) : (rstL s a).pa.length ≤ s.length ∧ (rstL s a).qu.length ≤ s.length ∧ (rstL s a).fr.length ≤ s.length := by
  have h3 : ∀ d pa qu hq, pa.length ≤ s.length → qu.length ≤ s.length → (rst3 s d pa qu hq).pa.length ≤ s.length ∧ (rst3 s d pa qu hq).qu.length ≤ s.length ∧ (rst3 s d pa qu hq).fr.length ≤ s.length := by
    intro d pa qu hq h1 h2
    unfold rst3
    split
    · exact ⟨h1, h2, cutS_sz _ _ _⟩
    · exact ⟨h1, h2, by simp⟩
  unfold rstL
  split
  · exact ⟨cutS_sz _ _ _, by simp, by simp⟩
  · unfold rst2
    split
    · split
      · exact ⟨cutS_sz _ _ _, cutS_sz _ _ _, by simp⟩
      · exact h3 _ _ _ _ (cutS_sz _ _ _) (cutS_sz _ _ _)
    · exact h3 _ _ _ _ (cutS_sz _ _ _) (by simp)
theorem readA_sz (s : List UInt8) : (readA s).1.sc.length ≤ 2000 ∧ (readA s).1.ho.length ≤ 2000 ∧ (readA s).1.po.length ≤ 2000 ∧ (readA s).1.pa.length ≤ 2000 ∧ (readA s).1.qu.length ≤ 2000 ∧ (readA s).1.fr.length ≤ 2000 := by
  have no : noAdr.sc.length ≤ 2000 ∧ noAdr.ho.length ≤ 2000 ∧ noAdr.po.length ≤ 2000 ∧ noAdr.pa.length ≤ 2000 ∧ noAdr.qu.length ≤ 2000 ∧ noAdr.fr.length ≤ 2000 := by unfold noAdr; simp
  unfold readA
  split
  · exact no
  · rename_i h
    split
    · exact no
    · split
      · exact no
      · split
        · exact no
        · obtain ⟨p1, p2⟩ := plc_sz s (schL s).2
          obtain ⟨r1, r2, r3⟩ := rst_sz s (plcL s (schL s).2).at'
          refine ⟨by show (s.take _).length ≤ _; rw [List.length_take]; omega, ?_, ?_, ?_, ?_, ?_⟩
          · show (plcL s _).ho.length ≤ _; omega
          · show (plcL s _).po.length ≤ _; omega
          · show (rstL s _).pa.length ≤ _; omega
          · show (rstL s _).qu.length ≤ _; omega
          · show (rstL s _).fr.length ≤ _; omega
/- where an answer leads -/
def redL (st : Int) : Bool := decide (st = 301) || decide (st = 302) || decide (st = 303) || decide (st = 307) || decide (st = 308)
def withFr (o a : Adr) : Adr := if o.hf = true then o else { o with fr := a.fr, hf := a.hf }

def ckLast : Ck
  | [.str s, .int .u8 c] => some (s.length ≤ 4611686018427387904 ∧ 0 ≤ c ∧ c < 256, .int .i64 (lastI s (UInt8.ofNat c.toNat) s.length))
  | _ => none
theorem conLast0 : Con pg 87 ckLast := by
  have hct := ctN_ok pg
  intro args q r h hq
  unfold ckLast at h
  split at h
  · cases h
    rename_i s c
    refine w87 (fun _ => false) [] rfl hct rfl rfl ?_
    push_cast (config := { maxSteps := 10000000 })
    obtain ⟨c, rfl, hc⟩ : ∃ b : UInt8, c = b.toNat ∧ b.toNat < 256 := ⟨UInt8.ofNat c.toNat, by simp [UInt8.toNat_ofNat']; omega, UInt8.toNat_lt _⟩
    rw [Int.toNat_natCast, UInt8.ofNat_toNat]
    (repeat (refine ⟨by omega, ?_⟩))
    refine LoopW.adj ⟨hct, fol⟩ (by kernel_rfl) [] (fun i : Nat => [(0, .str s), (1, .int .u8 c.toNat), (5, .int .i64 ((i : Int) - 1))]) (fun _ => []) (fun i => i ≤ s.length ∧ lastI s c i = lastI s c s.length) (fun i => i) s.length ?_ fun i hi => ?_
    · push_cast (config := { maxSteps := 10000000 })
      exact Nat.le_refl _
    · obtain ⟨i1, i2⟩ := hi
      push_cast (config := { maxSteps := 10000000 })
      refine ⟨fun h => ?_, fun h => ?_⟩
      · obtain ⟨j, rfl⟩ : ∃ j, i = j + 1 := ⟨i - 1, by omega⟩
        rw [show (((j + 1 : Nat) : Int) - 1).toNat = j by omega]
        rw [lastI] at i2
        refine ⟨by omega, fun h2 => ?_, fun h2 => ⟨by omega, j, ⟨by omega, ?_⟩, by omega, by omega⟩⟩
        · rw [if_pos (UInt8.toNat_inj.1 (by exact_mod_cast h2))] at i2
          rw [← i2]; omega
        · rw [if_neg (fun e => h2 (by rw [e]))] at i2; exact i2
      · obtain rfl : i = 0 := by omega
        rw [← i2]; rfl
  · cases h
attribute [push_cast] ckLast
theorem conLastIdx : Con pg 45 ckLast := by
  have hct := (ctA_ok conLast0 (ctN_ok _))
  intro args q r h hq
  unfold ckLast at h
  split at h
  · cases h
    rename_i s c
    refine w45 (fun _ => false) [] rfl hct rfl rfl ?_
    push_cast (config := { maxSteps := 10000000 })
    exact hq
  · cases h
attribute [push_cast] ckLast

end Go.Abs
