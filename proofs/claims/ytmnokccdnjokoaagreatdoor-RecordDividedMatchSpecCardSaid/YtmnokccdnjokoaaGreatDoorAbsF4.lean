/- what functions of this program compute: contracts, each a function's own -/
import Derived.Test.YtmnokccdnjokoaaGreatDoorAbsK2
import Derived.Test.YtmnokccdnjokoaaGreatDoorAbsFacts
import Derived.Test.YtmnokccdnjokoaaGreatDoorAbsF3
import Derived.Test.YtmnokccdnjokoaaGreatDoorAbsShelf
import Derived.Lib.SlTrimSet
import Derived.Lib.Atoi
import Derived.Lib.Itoa
import Derived.Lib.ItoaNum
import Derived.Lib.AtoiErrMem
import Derived.Lib.ItoaLen
namespace Go.Abs
open Go Go.Proofs
set_option maxHeartbeats 4000000
set_option maxRecDepth 100000
set_option linter.unusedVariables false
set_option linter.unusedSimpArgs false
def ckDividedOf : Ck
  | [.sl n f, .int .i64 m] => some (isLs cRec n f ∧ recsOk (lsOf cRec n f) ∧ checkFileL (lsOf cRec n f) = 0 ∧ 1 ≤ m ∧ m ≤ 500000, .sl (divOf m (lsOf cRec n f)).length (lsF cFile (divOf m (lsOf cRec n f))))
  | _ => none
theorem conDividedOf : Con pg 32 ckDividedOf := by
  have hct := (ctA_ok conWritten (ctN_ok _))
  intro args q r h hq
  unfold ckDividedOf at h
  split at h
  · cases h
    rename_i n f m
    refine pcall_args (args' := [.sl (lsOf cRec n f).length (lsF cRec (lsOf cRec n f)), .int .i64 m]) ⟨isLs.vle hq.1, VLe.refl _, trivial⟩ ?_
    obtain ⟨-, hl, hc, hm1, hm2⟩ := hq
    generalize lsOf cRec n f = l at hl hc ⊢
    obtain ⟨c1, c2, c3⟩ := file_ok hc
    refine w32 (fun _ => false) [.frz 8001,.frz 8000] rfl hct rfl rfl ?_
    push_cast (config := { maxSteps := 10000000 })
    refine LoopW.adj ⟨hct, fol⟩ (by kernel_rfl) [.nv 5 8000 1 (lsF cFile []), .nv 4 8001 7 (lsF cRec []), .frzIf 8001 52, .ren 52 8001] (fun t : Nat × DvT => [(0, .sl l.length (lsF cRec l)), (1, .int .i64 m), (5, .vec 8000 (dvN t.2)), (6, .int .i64 (dvK t.2)), (7, .int .i64 t.1)]) (fun t => [(8000, .vec 1 (dvN t.2) (dvF 8001 t.2)), (8001, .vec 7 (dvC t.2).length (lsF cRec (dvC t.2)))]) (fun t => t.1 ≤ l.length ∧ 0 ≤ dvK t.2 ∧ dvK t.2 ≤ t.1 * 400000 ∧ dvN t.2 ≤ t.1 ∧ (dvC t.2).length ≤ t.1 ∧ dvR m t.2 (l.drop t.1) = divOf m l) (fun t => l.length - t.1) (0, none) ?_ fun t ht => ?_
    · push_cast (config := { maxSteps := 10000000 })
      exact Nat.zero_le _
    · obtain ⟨i, s⟩ := t
      obtain ⟨i1, i2, i3, i4, i5, i6⟩ : i ≤ l.length ∧ 0 ≤ dvK s ∧ dvK s ≤ i * 400000 ∧ dvN s ≤ i ∧ (dvC s).length ≤ i ∧ dvR m s (l.drop i) = divOf m l := ht
      rcases s with _ | ⟨g, c, k⟩
      · have i6 : divOf m (l.drop i) = divOf m l := i6
        push_cast (config := { maxSteps := 10000000 })
        refine ⟨fun hi => ?_, fun hi => ?_⟩
        · rw [dropG (d := noRec) hi] at i6
          have ok := recsOk_at hl hi
          have cr : checkRecL (l.getD i noRec) = 0 := c1 _ (by rw [List.getD_eq_getElem?_getD, List.getElem?_eq_getElem hi]; exact List.getElem_mem hi)
          generalize l.getD i noRec = r at *
          have hb := recB_le cr
          refine ⟨hi, ⟨ok, cr⟩, ?_⟩
          (repeat (refine ⟨by omega, ?_⟩))
          refine ⟨((i + 1, some ([], [r], (recB r).length)) : Nat × DvT), ⟨by show i + 1 ≤ _; omega, by show (0 : Int) ≤ (recB r).length; omega, by show ((recB r).length : Int) ≤ ((i + 1 : Nat) : Int) * 400000; omega, by show 1 ≤ i + 1; omega, by show 1 ≤ i + 1; omega, i6⟩, by show l.length - (i + 1) < l.length - i; omega, ⟨rfl, by show 0 + ((recB r).length : Int) = (recB r).length; omega, by show (i : Int) + 1 = ((i + 1 : Nat) : Int); omega⟩, ⟨rfl, fun j hj => ?_⟩, rfl, fun j hj => ?_⟩
          all_goals obtain rfl : j = 0 := by omega
          · rfl
          · rfl
        · rw [List.drop_eq_nil_of_le (by omega)] at i6
          rw [← i6]; rfl
      · have i2 : 0 ≤ k := i2
        have i3 : k ≤ i * 400000 := i3
        have i4 : g.length + 1 ≤ i := i4
        have i5 : c.length ≤ i := i5
        have i6 : divGo m g c k (l.drop i) = divOf m l := i6
        push_cast (config := { maxSteps := 10000000 })
        refine ⟨fun hi => ?_, fun hi => ?_⟩
        · rw [dropG (d := noRec) hi, divGo] at i6
          have ok := recsOk_at hl hi
          have cr : checkRecL (l.getD i noRec) = 0 := c1 _ (by rw [List.getD_eq_getElem?_getD, List.getElem?_eq_getElem hi]; exact List.getElem_mem hi)
          generalize l.getD i noRec = r at *
          have hb := recB_le cr
          refine ⟨hi, ⟨ok, cr⟩, fun h0 => ⟨h0, by omega, by omega⟩, fun hx => ?_, fun hx => ?_⟩
          · rw [if_pos (by omega)] at i6
            (repeat (refine ⟨by omega, ?_⟩))
            refine ⟨((i + 1, some (g ++ [c], [r], (recB r).length)) : Nat × DvT), ⟨by show i + 1 ≤ _; omega, by show (0 : Int) ≤ (recB r).length; omega, by show ((recB r).length : Int) ≤ ((i + 1 : Nat) : Int) * 400000; omega, by show (g ++ [c]).length + 1 ≤ i + 1; simp; omega, by show 1 ≤ i + 1; omega, i6⟩, by show l.length - (i + 1) < l.length - i; omega, ⟨by show _ = (g ++ [c]).length + 1; simp, by show 0 + ((recB r).length : Int) = (recB r).length; omega, by show (i : Int) + 1 = ((i + 1 : Nat) : Int); omega⟩, ⟨by show _ = (g ++ [c]).length + 1; simp, fun j hj => ?_⟩, rfl, fun j hj => ?_⟩
            · show _ = bif decide (j = (g ++ [c]).length) then V.vec 8001 1 else lsF cFile (g ++ [c]) j
              rw [List.length_append, List.length_singleton]
              by_cases e : j = g.length + 1
              · subst e
                rw [decide_eq_true rfl]
                unfold setF
                rw [decide_eq_true rfl]
                rfl
              · rw [decide_eq_false e, cond_false, ← file_frz g c j (by omega)]
                unfold setF appF
                rw [decide_eq_false e]
                simp only [cond_false]
                rw [decide_eq_true (show j < g.length + 1 by omega)]
                simp only [cond_true]
                by_cases e2 : j = g.length
                · rw [decide_eq_true e2]
                  show V.ren 52 8001 (V.kill 8001 (frzV 8001 7 c.length _ (.vec 8001 c.length))) = frzV 8001 7 c.length _ (.vec 8001 c.length)
                  rw [frz_own, frz_own]; rfl
                · rw [decide_eq_false e2]; rfl
            · obtain rfl : j = 0 := by omega
              rfl
          · rw [if_neg (by omega)] at i6
            have app := LsI.app (c := cRec) (f := lsF cRec c) (g := litF [cRec.enc r]) (LsI.ls c) (LsI.one (c := cRec) (a := r) rfl) rfl
            (repeat (refine ⟨by omega, ?_⟩))
            refine ⟨((i + 1, some (g, c ++ [r], k + (recB r).length)) : Nat × DvT), ⟨by show i + 1 ≤ _; omega, by show (0 : Int) ≤ k + (recB r).length; omega, by show k + ((recB r).length : Int) ≤ ((i + 1 : Nat) : Int) * 400000; omega, by show g.length + 1 ≤ i + 1; omega, by show (c ++ [r]).length ≤ i + 1; simp; omega, i6⟩, by show l.length - (i + 1) < l.length - i; omega, ⟨rfl, rfl, by show (i : Int) + 1 = ((i + 1 : Nat) : Int); omega⟩, ⟨rfl, fun j hj => ?_⟩, by show _ = (c ++ [r]).length; simp, app.2⟩
            show _ = bif decide (j = g.length) then V.vec 8001 (c ++ [r]).length else lsF cFile g j
            unfold setF
            by_cases e : j = g.length
            · rw [decide_eq_true e, cond_true, cond_true, List.length_append]; rfl
            · rw [decide_eq_false e]
              simp only [cond_false]
              rw [decide_eq_false e]; rfl
        · rw [List.drop_eq_nil_of_le (by omega), div_end] at i6
          rw [← i6]
          refine ⟨fun j hj => ?_, by simp, fun j hj => file_frz g c j hj⟩
          rw [show V.sl (g.getD j []).length (lsF cRec (g.getD j [])) = lsF cFile g j from rfl, file_frz g c j hj]; rfl
  · cases h
attribute [push_cast] ckDividedOf
theorem conDivided2 : Con pg 9 ckDivided := by
  have hct := (ctA_ok conCheckFile2 (ctA_ok conWithin6 (ctA_ok conDividedOf (ctN_ok _))))
  intro args q r h hq
  unfold ckDivided at h
  split at h
  · cases h
    rename_i n f m
    refine pcall_args (args' := [.sl (lsOf cRec n f).length (lsF cRec (lsOf cRec n f)), .int .i64 m]) ⟨isLs.vle hq.1, VLe.refl _, trivial⟩ ?_
    obtain ⟨-, hl⟩ := hq
    generalize lsOf cRec n f = l at hl ⊢
    refine w9 (fun _ => false) [] rfl hct rfl rfl ?_
    push_cast (config := { maxSteps := 10000000 })
    refine ⟨hl, fun h => ?_, fun h => ⟨fun h1 => ?_, fun h1 => ⟨⟨hl, h, h1.1, h1.2⟩, ?_⟩⟩⟩
    · unfold divL divE
      rw [if_neg (fun x => h x.1), if_neg h]
      exact ⟨rfl, rfl⟩
    · unfold divL divE
      rw [if_neg (by omega), if_pos h, if_neg (by omega)]
      exact ⟨rfl, rfl⟩
    · have eL : divL l m = divOf m l := by unfold divL; rw [if_pos ⟨h, h1⟩]
      have eE : divE l m = 0 := by unfold divE; rw [if_pos h, if_pos h1]
      rw [eL, eE]
      exact ⟨⟨rfl, fun _ _ => rfl⟩, rfl⟩
  · cases h
attribute [push_cast] ckDivided

/- the names of a right file are apart -/
theorem cf_nodup' : ∀ {l : List Rcd} {s : List (List UInt8)} {m : Int}, cfGo s m l = 0 → (∀ r ∈ l, s.contains r.id = false) ∧ (l.map Rcd.id).Nodup
  | [], s, m, h => ⟨fun r hr => (by cases hr), List.nodup_nil⟩
  | r :: t, s, m, h => by
    rw [cfGo] at h
    by_cases h1 : checkRecL r = 0
    · rw [if_neg (fun x => x h1)] at h
      by_cases h2 : s.contains r.id = true
      · rw [if_pos h2] at h; omega
      · rw [if_neg h2] at h
        obtain ⟨a, b⟩ := cf_nodup' h
        refine ⟨fun x hx => ?_, ?_⟩
        · rcases List.mem_cons.1 hx with rfl | hx
          · simpa using h2
          · have := a x hx
            simp only [Bool.eq_false_iff, ne_eq, List.contains_iff_mem, List.mem_append, not_or] at this ⊢
            exact this.1
        · rw [List.map_cons, List.nodup_cons]
          refine ⟨fun hm => ?_, b⟩
          obtain ⟨x, hx, e⟩ := List.mem_map.1 hm
          have := a x hx
          simp [e] at this
    · rw [if_pos h1] at h; exact absurd h h1
theorem file_apart {l : List Rcd} (h : checkFileL l = 0) {i j : Nat} (hi : i < l.length) (hj : j < l.length) (e : (l.getD i noRec).id = (l.getD j noRec).id) : i = j := by
  have hn : (l.map Rcd.id).Nodup := by
    unfold checkFileL at h
    split at h
    · omega
    · exact (cf_nodup' h).2
  rw [List.getD_eq_getElem?_getD, List.getD_eq_getElem?_getD, List.getElem?_eq_getElem hi, List.getElem?_eq_getElem hj] at e
  have := (List.getElem_inj (i := i) (j := j) (xs := l.map Rcd.id) (h₀ := by simpa using hi) (h₁ := by simpa using hj) hn).1
  exact this (by simpa using e)
/-- one record's step -/
def woS (s : List (List UInt8)) (r : Rcd) : List (List UInt8) := if s.contains r.id = false ∧ s.contains r.ow = true then s ++ [r.id] else s
/-- once over all records -/
def woP (s : List (List UInt8)) (l : List Rcd) : List (List UInt8) := l.foldl woS s
def woN (l : List Rcd) : Nat → List (List UInt8) → List (List UInt8)
  | 0, s => s
  | n + 1, s => woN l n (woP s l)
theorem woP_cons (s : List (List UInt8)) (r : Rcd) (t : List Rcd) : woP s (r :: t) = woP (woS s r) t := rfl
theorem woS_or (s : List (List UInt8)) (r : Rcd) : woS s r = s ∨ (s.contains r.id = false ∧ woS s r = s ++ [r.id]) := by
  unfold woS
  split
  · rename_i h; exact .inr ⟨h.1, rfl⟩
  · exact .inl rfl
theorem woS_sub (s : List (List UInt8)) (r : Rcd) {x : List UInt8} (h : s.contains x = true) : (woS s r).contains x = true := by
  rcases woS_or s r with e | ⟨_, e⟩ <;> rw [e]
  · exact h
  · rw [List.contains_iff_mem] at h ⊢; exact List.mem_append_left _ h
theorem woP_sub : ∀ (t : List Rcd) (s : List (List UInt8)) {x : List UInt8}, s.contains x = true → (woP s t).contains x = true
  | [], _, _, h => h
  | r :: t, s, _, h => woP_sub t _ (woS_sub s r h)
theorem woP_len : ∀ (t : List Rcd) (s : List (List UInt8)), s.length ≤ (woP s t).length
  | [], _ => Nat.le_refl _
  | r :: t, s => by
    rw [woP_cons]
    have := woP_len t (woS s r)
    rcases woS_or s r with e | ⟨_, e⟩ <;> rw [e] at this ⊢
    · exact this
    · simp at this; omega
theorem woP_same : ∀ (t : List Rcd) (s : List (List UInt8)), (woP s t).length = s.length → woP s t = s ∧ ∀ r ∈ t, woS s r = s
  | [], s, _ => ⟨rfl, fun r hr => by cases hr⟩
  | r :: t, s, h => by
    rw [woP_cons] at h ⊢
    have h2 := woP_len t (woS s r)
    rcases woS_or s r with e | ⟨_, e⟩
    · rw [e] at h h2 ⊢
      obtain ⟨a, b⟩ := woP_same t s h
      exact ⟨a, fun x hx => by rcases List.mem_cons.1 hx with rfl | hx; exact e; exact b x hx⟩
    · rw [e] at h h2; simp at h2; omega
/-- how many are not in -/
def woC (l : List Rcd) (s : List (List UInt8)) : Nat := (l.filter fun r => !s.contains r.id).length
theorem woC_le {l : List Rcd} {s s' : List (List UInt8)} (h : ∀ x, s.contains x = true → s'.contains x = true) : woC l s' ≤ woC l s := by
  unfold woC
  induction l with
  | nil => exact Nat.le_refl _
  | cons r t ih =>
    simp only [List.filter_cons]
    cases e : s.contains r.id with
    | true => rw [h _ e]; simpa using ih
    | false =>
      cases e' : s'.contains r.id
      · simp only [Bool.not_false, if_true, List.length_cons]; omega
      · simp only [Bool.not_false, Bool.not_true, if_true, List.length_cons, Bool.false_eq_true, if_false]; omega
theorem woC_lt {l : List Rcd} {s s' : List (List UInt8)} (h : ∀ x, s.contains x = true → s'.contains x = true) {r : Rcd} (hr : r ∈ l) (h1 : s.contains r.id = false) (h2 : s'.contains r.id = true) : woC l s' < woC l s := by
  obtain ⟨a, b, rfl⟩ := List.append_of_mem hr
  have ha := woC_le (l := a) h
  have hb := woC_le (l := b) h
  unfold woC at ha hb ⊢
  rw [List.filter_append, List.filter_append, List.length_append, List.length_append, List.filter_cons, List.filter_cons, h1, h2]
  simp only [Bool.not_true, Bool.not_false, if_true, List.length_cons]
  simp only [Bool.false_eq_true, if_false]
  omega
theorem woP_new : ∀ (t : List Rcd) (s : List (List UInt8)), (woP s t).length ≠ s.length → ∃ r ∈ t, s.contains r.id = false ∧ (woP s t).contains r.id = true
  | [], s, h => absurd rfl h
  | r :: t, s, h => by
    rw [woP_cons] at h ⊢
    rcases woS_or s r with e | ⟨e0, e⟩
    · rw [e] at h ⊢
      obtain ⟨x, hx, h1, h2⟩ := woP_new t s h
      exact ⟨x, List.mem_cons_of_mem _ hx, h1, h2⟩
    · exact ⟨r, by simp, e0, woP_sub t _ (by rw [e, List.contains_iff_mem]; simp)⟩
theorem woP_dec {l : List Rcd} {s : List (List UInt8)} (h : (woP s l).length ≠ s.length) : woC l (woP s l) < woC l s := by
  obtain ⟨r, hr, h1, h2⟩ := woP_new l s h
  exact woC_lt (fun x hx => woP_sub l s hx) hr h1 h2
theorem woN_fix {l : List Rcd} {s : List (List UInt8)} (h : woP s l = s) : ∀ n, woN l n s = s
  | 0 => rfl
  | n + 1 => by rw [woN, h]; exact woN_fix h n
theorem woN_end {l : List Rcd} : ∀ (n : Nat) (s : List (List UInt8)), woC l s ≤ n → woP (woN l n s) l = woN l n s
  | 0, s, h => by
    rw [woN]
    refine (woP_same l s ?_).1
    refine Classical.byContradiction fun hne => ?_
    have := woP_dec hne
    omega
  | n + 1, s, h => by
    rw [woN]
    by_cases e : (woP s l).length = s.length
    · rw [(woP_same l s e).1, woN_fix (woP_same l s e).1, (woP_same l s e).1]
    · exact woN_end n _ (by have := woP_dec e; omega)
theorem woN_comm (l : List Rcd) : ∀ (n : Nat) (s : List (List UInt8)), woN l (n + 1) s = woP (woN l n s) l
  | 0, s => rfl
  | n + 1, s => by rw [woN, woN_comm l n, ← woN]
theorem woC_len (l : List Rcd) (s : List (List UInt8)) : woC l s ≤ l.length := List.length_filter_le _ _
/-- all that is gone -/
def woA (l : List Rcd) (s : List (List UInt8)) : List (List UInt8) := woN l l.length s
theorem woA_step (l : List Rcd) (s : List (List UInt8)) : woA l (woP s l) = woA l s := by
  show woN l (l.length + 1) s = _
  rw [woN_comm]
  exact woN_end _ _ (woC_len l s)
theorem woA_fix (l : List Rcd) (s : List (List UInt8)) : woP (woA l s) l = woA l s := woN_end _ _ (woC_len l s)
theorem woN_sub {l : List Rcd} : ∀ (n : Nat) (s : List (List UInt8)) {x : List UInt8}, s.contains x = true → (woN l n s).contains x = true
  | 0, _, _, h => h
  | n + 1, s, _, h => woN_sub n _ (woP_sub l s h)
/-- the error of names, each of a record -/
def woE (l : List Rcd) : List (List UInt8) → Int
  | [] => 0
  | x :: t => if nameL x = true then (if 0 ≤ fndL l x then woE l t else 9) else 5
def woErr (l : List Rcd) (ids : List (List UInt8)) : Int := if checkFileL l = 0 then (if 1000 < ids.length then 2 else woE l ids) else checkFileL l
def woK (l : List Rcd) (s : List (List UInt8)) : List Rcd := l.filter fun r => !s.contains r.id
def woL (l : List Rcd) (ids : List (List UInt8)) : List Rcd := if woErr l ids = 0 then woK l (woA l ids) else []
theorem woE_ok : ∀ {l : List Rcd} {t : List (List UInt8)}, woE l t = 0 → ∀ x ∈ t, nameL x = true ∧ 0 ≤ fndL l x
  | l, [], _, x, hx => by cases hx
  | l, y :: t, h, x, hx => by
    rw [woE] at h
    split at h
    · split at h
      · rcases List.mem_cons.1 hx with rfl | hx
        · exact ⟨by assumption, by assumption⟩
        · exact woE_ok h x hx
      · cases h
    · cases h
/- marks by number -/
def WoR (l : List Rcd) (s : List (List UInt8)) (g : Nat → Bool) : Prop := (∀ i, i < l.length → g i = s.contains (l.getD i noRec).id) ∧ ∀ x ∈ s, 0 ≤ fndL l x
def setB (g : Nat → Bool) (i : Nat) : Nat → Bool := fun j => bif decide (j = i) then true else g j
theorem fndL_own {l : List Rcd} {i : Nat} (hi : i < l.length) : 0 ≤ fndL l (l.getD i noRec).id := by
  rw [fndL_in, List.contains_iff_mem, List.mem_map]
  exact ⟨l.getD i noRec, by rw [List.getD_eq_getElem?_getD, List.getElem?_eq_getElem hi]; exact List.getElem_mem hi, rfl⟩
theorem wor_put {l : List Rcd} (ha : ∀ i j, i < l.length → j < l.length → (l.getD i noRec).id = (l.getD j noRec).id → i = j) {s : List (List UInt8)} {g : Nat → Bool} (h : WoR l s g) {i : Nat} (hi : i < l.length) : WoR l (s ++ [(l.getD i noRec).id]) (setB g i) := by
  refine ⟨fun j hj => ?_, fun x hx => ?_⟩
  · unfold setB
    by_cases e : j = i
    · subst e
      rw [decide_eq_true rfl]
      exact (List.contains_iff_mem.2 (by simp)).symm
    · rw [decide_eq_false e, cond_false, h.1 j hj, Bool.eq_iff_iff, List.contains_iff_mem, List.contains_iff_mem, List.mem_append, List.mem_singleton]
      exact ⟨.inl, fun x => x.elim id fun q => absurd (ha j i hj hi q) e⟩
  · rcases List.mem_append.1 hx with hx | hx
    · exact h.2 x hx
    · rw [List.mem_singleton.1 hx]; exact fndL_own hi
theorem wor_same {l : List Rcd} {s : List (List UInt8)} {g : Nat → Bool} (h : WoR l s g) {i : Nat} (hi : i < l.length) (hc : s.contains (l.getD i noRec).id = true) : WoR l s (setB g i) := by
  refine ⟨fun j hj => ?_, h.2⟩
  unfold setB
  by_cases e : j = i
  · subst e; rw [decide_eq_true rfl, hc]; rfl
  · rw [decide_eq_false e]; exact h.1 j hj
theorem wor_ow {l : List Rcd} {s : List (List UInt8)} {g : Nat → Bool} (h : WoR l s g) (x : List UInt8) : s.contains x = true ↔ 0 ≤ fndL l x ∧ g (fndL l x).toNat = true := by
  constructor
  · intro hc
    have h0 := h.2 x (List.contains_iff_mem.1 hc)
    obtain ⟨a, b, _⟩ := fndL_ok h0
    exact ⟨h0, by rw [h.1 _ a, b]; exact hc⟩
  · rintro ⟨h0, hg⟩
    obtain ⟨a, b, _⟩ := fndL_ok h0
    rw [h.1 _ a, b] at hg
    exact hg
/-- the step of marks -/
theorem wor_step {l : List Rcd} (ha : ∀ i j, i < l.length → j < l.length → (l.getD i noRec).id = (l.getD j noRec).id → i = j) {s : List (List UInt8)} {g : Nat → Bool} (h : WoR l s g) {i : Nat} (hi : i < l.length) :
    (s.contains (l.getD i noRec).ow = true → WoR l (woS s (l.getD i noRec)) (setB g i)) ∧ (¬ s.contains (l.getD i noRec).ow = true → WoR l (woS s (l.getD i noRec)) g) := by
  refine ⟨fun hc => ?_, fun hc => ?_⟩
  · unfold woS
    by_cases e : s.contains (l.getD i noRec).id = true
    · rw [if_neg (by rw [e]; simp)]; exact wor_same h hi e
    · rw [if_pos ⟨by simpa using e, hc⟩]; exact wor_put ha h hi
  · unfold woS
    rw [if_neg (fun x => hc x.2)]; exact h
theorem woP_take {l : List Rcd} {s : List (List UInt8)} {i : Nat} (hi : i < l.length) : woP s (l.take (i + 1)) = woS (woP s (l.take i)) (l.getD i noRec) := by
  rw [takeG (d := noRec) hi]
  unfold woP
  rw [List.foldl_append]; rfl
/- what is kept, step by step -/
theorem woK_take {l : List Rcd} {s : List (List UInt8)} {i : Nat} (hi : i < l.length) : woK (l.take (i + 1)) s = if s.contains (l.getD i noRec).id = true then woK (l.take i) s else woK (l.take i) s ++ [l.getD i noRec] := by
  rw [takeG (d := noRec) hi]
  unfold woK
  rw [List.filter_append, List.filter_cons]
  cases s.contains (l.getD i noRec).id <;> simp
theorem woK_len (l : List Rcd) (s : List (List UInt8)) : (woK l s).length ≤ l.length := List.length_filter_le _ _
/- what the law says -/
theorem wo_none {l : List Rcd} {ids : List (List UInt8)} {x : Rcd} (hx : x ∈ woK l (woA l ids)) : ids.contains x.id = false := by
  unfold woK at hx
  rw [List.mem_filter] at hx
  cases e : ids.contains x.id with
  | false => rfl
  | true =>
    have := woN_sub (l := l) l.length ids e
    have h2 := hx.2
    unfold woA at h2
    rw [this] at h2; cases h2
theorem wo_of {l : List Rcd} {ids : List (List UInt8)} {x : Rcd} (hx : x ∈ woK l (woA l ids)) (h : 0 ≤ fndL l x.ow) : 0 ≤ fndL (woK l (woA l ids)) x.ow := by
  rw [fndL_in, List.contains_iff_mem, List.mem_map] at h ⊢
  obtain ⟨y, hy, e⟩ := h
  refine ⟨y, ?_, e⟩
  unfold woK at hx ⊢
  rw [List.mem_filter] at hx ⊢
  refine ⟨hy, ?_⟩
  cases hc : (woA l ids).contains y.id with
  | false => rfl
  | true =>
    have hf := (woP_same l (woA l ids) (by rw [woA_fix])).2 x hx.1
    have h1 : (woA l ids).contains x.id = false := by simpa using hx.2
    unfold woS at hf
    rw [if_pos ⟨h1, by rw [← e]; exact hc⟩] at hf
    have := congrArg List.length hf
    simp at this

/- the record with a name -/
def ckFClK : List V → List Blk → Option (Prop × V × List Blk)
  | [.agg [.int .i64 ki, .str id, .str ow, .int .i64 ti, .str ke, x, y], .ptr i 0], [.cells [.str s]] => some (True, .bool (id == s), [.cells [.str s]])
  | _, _ => none
def ckFCl : Cf := ⟨fun | [_, .ptr i _] => [i] | _ => [], ckFClK⟩
theorem conFCl : FCon pg 62 ckFCl := by
  have hct := ctN_ok pg
  intro args bs q r bs' h hq
  replace h : ckFClK args bs = some (q, r, bs') := h
  unfold ckFClK at h
  split at h
  · cases h
    rename_i ki id ow ti ke x y i s
    refine ⟨rfl, by first | exact Nat.le_refl _ | exact Nat.zero_le _, ?_⟩
    show FCall pg 62 [.agg [.int .i64 ki, .str id, .str ow, .int .i64 ti, .str ke, x.shift, y.shift], .ptr (i + 9000) 0] [(i + 9000, .cells [.str s])] (.bool (id == s)) [(i + 9000, .cells [.str s])]
    refine fw62 (fun _ => false) [] rfl hct rfl (by simp) (by simp [hlIn, idsIn, Blk.menIn, V.menInL, V.menIn, V.flat, byF, lsF]) (by simp [V.menIn, V.menInL, idsIn]) ?_
    push_cast (config := { maxSteps := 10000000 })
  · cases h
attribute [push_cast] ckFClK
@[push_cast] theorem fcl_ids (x : V) (i o : Nat) : ckFCl.ids [x, .ptr i o] = [i] := rfl
@[push_cast] theorem fcl_k {id ow ke s : List UInt8} {ki ti : Int} {x y : V} (i : Nat) : ckFCl.k [.agg [.int .i64 ki, .str id, .str ow, .int .i64 ti, .str ke, x, y], .ptr i 0] [.cells [.str s]] = some (True, .bool (id == s), [.cells [.str s]]) := rfl
@[push_cast] theorem vle_fnR (f : Fn) (a b : List V) : vle (.fn f a b) (.fn f a b) = True := eq_true rfl
def ckIxRK : List V → List Blk → Option (Prop × V × List Blk)
  | [.sl n f, .fn (.func 62) [] [.ptr i 0]], [.cells [.str s]] => some (isLs cRec n f ∧ n ≤ 4611686018427387900, .int .i64 (fndL (lsOf cRec n f) s), [.cells [.str s]])
  | _, _ => none
def ckIxR : Cf := ⟨fun | [_, .fn _ _ [.ptr i _]] => [i] | _ => [], ckIxRK⟩
theorem conIxR : FCon pg 61 ckIxR := by
  have hct := (ctF_ok conFCl (ctN_ok _))
  intro args bs q r bs' h hq
  replace h : ckIxRK args bs = some (q, r, bs') := h
  unfold ckIxRK at h
  split at h
  · cases h
    rename_i n f i s
    refine ⟨rfl, by first | exact Nat.le_refl _ | exact Nat.zero_le _, ?_⟩
    refine fcall_args (args' := [.sl (lsOf cRec n f).length (lsF cRec (lsOf cRec n f)), .fn (.func 62) [] [.ptr (i + 9000) 0]]) ⟨isLs.vle hq.1, VLe.refl _, trivial⟩ ?_
    have hn : (lsOf cRec n f).length ≤ 4611686018427387900 := by rw [lsOf_len]; exact hq.2
    generalize lsOf cRec n f = l at hn ⊢
    show FCall pg 61 [.sl l.length (lsF cRec l), .fn (.func 62) [] [.ptr (i + 9000) 0]] [(i + 9000, .cells [.str s])] (.int .i64 (fndL l s)) [(i + 9000, .cells [.str s])]
    refine fw61 (fun _ => false) [] rfl hct rfl (by simp) (by simp [hlIn, idsIn, Blk.menIn, V.menInL, V.menIn, V.flat, byF, lsF]) (by simp [V.menIn, V.menInL, idsIn]) ?_
    push_cast (config := { maxSteps := 10000000 })
    refine LoopW.adj ⟨hct, fol⟩ (by kernel_rfl) [] (fun k : Nat => [(0, .sl l.length (lsF cRec l)), (1, .fn (.func 62) [] [.ptr (i + 9000) 0]), (7, .int .i64 l.length), (8, .int .i64 k)]) (fun _ => [(i + 9000, .cells [.str s])]) (fun k => k ≤ l.length ∧ ∀ j, j < k → (l.getD j noRec).id ≠ s) (fun k => l.length - k) 0 ?_ fun k hk => ?_
    · push_cast (config := { maxSteps := 10000000 })
      exact Nat.zero_le _
    · push_cast (config := { maxSteps := 10000000 })
      obtain ⟨h1, h2⟩ := hk
      refine ⟨fun h => ⟨h, fun h3 => (fndL_at h h3 h2).symm, fun h3 => ⟨⟨by omega, by omega⟩, k + 1, ⟨by omega, fun j hj => ?_⟩, by omega, by omega⟩⟩, fun h => (fndL_no fun j hj => h2 j (by omega)).symm⟩
      by_cases e : j = k
      · subst e; exact h3
      · exact h2 j (by omega)
  · cases h
attribute [push_cast] ckIxRK
@[push_cast] theorem ixR_ids (x : V) (f : Fn) (i o : Nat) : ckIxR.ids [x, .fn f [] [.ptr i o]] = [i] := rfl
@[push_cast] theorem ixR_k {n : Nat} {f : Nat → V} {s : List UInt8} (i : Nat) : ckIxR.k [.sl n f, .fn (.func 62) [] [.ptr i 0]] [.cells [.str s]] = some (isLs cRec n f ∧ n ≤ 4611686018427387900, .int .i64 (fndL (lsOf cRec n f) s), [.cells [.str s]]) := rfl
def fndR (l : List Rcd) (s : List UInt8) : Rcd := if 0 ≤ fndL l s then l.getD (fndL l s).toNat noRec else noRec
def ckFind6 : Ck
  | [.sl n f, .str s] => some (isLs cRec n f ∧ n ≤ 4611686018427387900, .tup [cRec.enc (fndR (lsOf cRec n f) s), .bool (decide (0 ≤ fndL (lsOf cRec n f) s))])
  | _ => none
theorem conFind6 : Con pg 34 ckFind6 := by
  have hct := (ctF_ok conIxR (ctN_ok _))
  intro args q r h hq
  unfold ckFind6 at h
  split at h
  · cases h
    rename_i n f s
    refine pcall_args (args' := [.sl (lsOf cRec n f).length (lsF cRec (lsOf cRec n f)), .str s]) ⟨isLs.vle hq.1, VLe.refl _, trivial⟩ ?_
    have hn : (lsOf cRec n f).length ≤ 4611686018427387900 := by rw [lsOf_len]; exact hq.2
    generalize lsOf cRec n f = l at hn ⊢
    refine w34 (fun _ => false) [] rfl hct rfl rfl ?_
    push_cast (config := { maxSteps := 10000000 })
    refine ⟨hn, fun h => ?_, fun h => ?_⟩
    · have e : fndR l s = noRec := by unfold fndR; rw [if_neg (by omega)]
      rw [e]
      exact ⟨⟨rfl, rfl, rfl, rfl, rfl, rfl, rfl⟩, (decide_eq_false (by omega)).symm⟩
    · have e : fndR l s = l.getD (fndL l s).toNat noRec := by unfold fndR; rw [if_pos (by omega)]
      rw [e]
      exact ⟨⟨by omega, (fndL_b l s).2⟩, ⟨rfl, rfl, rfl, rfl, rfl, ⟨rfl, fun _ _ => rfl⟩, rfl, fun _ _ => rfl⟩, (decide_eq_true (by omega)).symm⟩
  · cases h
attribute [push_cast] ckFind6

theorem ncall_argsW {f : FuncId} {args args' : List V} {r : V} {nb : Blk} (hv : vleL args args') (h : NCall pg f args' r nb) : NCall pg f args r nb := by
  intro S vals hs hh hlen hr
  exact h S vals hs hh (hlen.trans (vleL_len hv)) fun i hi => vleL_at hv i _ _ _ _ (hr i (by rw [vleL_len hv]; exact hi))
@[push_cast] theorem vle1_mapT (i : Nat) : vle1 (.map i) (.map i) = True := eq_true rfl
/- the closure: its map lies in a block of the caller's -/
def goneB (h : MK → Option V) (r : Rcd) : Bool := asB false (h (.str r.id))
def ckWAK : List V → List Blk → Option (Prop × V × List Blk)
  | [.agg [.int .i64 ki, .str id, .str ow, .int .i64 ti, .str ke, x, y], .ptr 9007 0], [.cells [.map 9023], .mp .str h] => some (∀ k, okB (h k), .bool (asB false (h (.str id))), [.cells [.map 9023], .mp .str h])
  | _, _ => none
def ckWA : Cf := ⟨fun | [_, .ptr 9007 _] => [9007, 9023] | _ => [], ckWAK⟩
theorem conWA : FCon pg 36 ckWA := by
  have hct := ctN_ok pg
  intro args bs q r bs' h hq
  replace h : ckWAK args bs = some (q, r, bs') := h
  unfold ckWAK at h
  split at h
  · cases h
    rename_i ki id ow ti ke x y h
    refine ⟨rfl, by first | exact Nat.le_refl _ | exact Nat.zero_le _, ?_⟩
    show FCall pg 36 [.agg [.int .i64 ki, .str id, .str ow, .int .i64 ti, .str ke, x.shift, y.shift], .ptr 18007 0] [(18007, .cells [.map 18023]), (18023, .mp .str h)] (.bool (asB false (h (.str id)))) [(18007, .cells [.map 18023]), (18023, .mp .str h)]
    refine fw36 (fun _ => false) [] rfl hct rfl (by simp) (by simp [hlIn, idsIn, Blk.menIn, V.menInL, V.menIn, V.flat, byF, lsF]) (by simp [V.menIn, V.menInL, idsIn]) ?_
    push_cast (config := { maxSteps := 10000000 })
    exact hq _
  · cases h
attribute [push_cast] ckWAK
@[push_cast] theorem wa_ids (x : V) (o : Nat) : ckWA.ids [x, .ptr 9007 o] = [9007, 9023] := rfl
@[push_cast] theorem wa_k {id ow ke : List UInt8} {ki ti : Int} {x y : V} {h : MK → Option V} : ckWA.k [.agg [.int .i64 ki, .str id, .str ow, .int .i64 ti, .str ke, x, y], .ptr 9007 0] [.cells [.map 9023], .mp .str h] = some (∀ k, okB (h k), .bool (asB false (h (.str id))), [.cells [.map 9023], .mp .str h]) := rfl
/- the same, one call deeper -/
def ckWBK : List V → List Blk → Option (Prop × V × List Blk)
  | [.agg [.int .i64 ki, .str id, .str ow, .int .i64 ti, .str ke, x, y], .ptr 18007 0], [.cells [.map 18023], .mp .str h] => some (∀ k, okB (h k), .bool (asB false (h (.str id))), [.cells [.map 18023], .mp .str h])
  | _, _ => none
def ckWB : Cf := ⟨fun | [_, .ptr 18007 _] => [18007, 18023] | _ => [], ckWBK⟩
theorem conWB : FCon pg 36 ckWB := by
  have hct := ctN_ok pg
  intro args bs q r bs' h hq
  replace h : ckWBK args bs = some (q, r, bs') := h
  unfold ckWBK at h
  split at h
  · cases h
    rename_i ki id ow ti ke x y h
    refine ⟨rfl, by first | exact Nat.le_refl _ | exact Nat.zero_le _, ?_⟩
    show FCall pg 36 [.agg [.int .i64 ki, .str id, .str ow, .int .i64 ti, .str ke, x.shift, y.shift], .ptr 27007 0] [(27007, .cells [.map 27023]), (27023, .mp .str h)] (.bool (asB false (h (.str id)))) [(27007, .cells [.map 27023]), (27023, .mp .str h)]
    refine fw36 (fun _ => false) [] rfl hct rfl (by simp) (by simp [hlIn, idsIn, Blk.menIn, V.menInL, V.menIn, V.flat, byF, lsF]) (by simp [V.menIn, V.menInL, idsIn]) ?_
    push_cast (config := { maxSteps := 10000000 })
    exact hq _
  · cases h
attribute [push_cast] ckWBK
@[push_cast] theorem wb_ids (x : V) (o : Nat) : ckWB.ids [x, .ptr 18007 o] = [18007, 18023] := rfl
@[push_cast] theorem wb_k {id ow ke : List UInt8} {ki ti : Int} {x y : V} {h : MK → Option V} : ckWB.k [.agg [.int .i64 ki, .str id, .str ow, .int .i64 ti, .str ke, x, y], .ptr 18007 0] [.cells [.map 18023], .mp .str h] = some (∀ k, okB (h k), .bool (asB false (h (.str id))), [.cells [.map 18023], .mp .str h]) := rfl
/-- the first record that is gone -/
def fstG (h : MK → Option V) (l : List Rcd) : Int := match l.findIdx? (goneB h) with
  | some k => k
  | none => -1
theorem fstG_at {h : MK → Option V} {l : List Rcd} {i : Nat} (hi : i < l.length) (hg : goneB h (l.getD i noRec) = true) (hn : ∀ j, j < i → goneB h (l.getD j noRec) = false) : fstG h l = i := by
  unfold fstG
  have : l.findIdx? (goneB h) = some i := by
    rw [List.findIdx?_eq_some_iff_getElem]
    refine ⟨hi, ?_, fun j hj => ?_⟩
    · rw [List.getD_eq_getElem?_getD, List.getElem?_eq_getElem hi] at hg; exact hg
    · have h1 := hn j hj
      rw [List.getD_eq_getElem?_getD, List.getElem?_eq_getElem (by omega)] at h1
      simpa using h1
  rw [this]
theorem fstG_no {h : MK → Option V} {l : List Rcd} (hn : ∀ j, j < l.length → goneB h (l.getD j noRec) = false) : fstG h l = -1 := by
  unfold fstG
  have : l.findIdx? (goneB h) = none := by
    rw [List.findIdx?_eq_none_iff]
    intro x hx
    obtain ⟨j, hj, rfl⟩ := List.getElem_of_mem hx
    have h1 := hn j hj
    rw [List.getD_eq_getElem?_getD, List.getElem?_eq_getElem hj] at h1
    exact h1
  rw [this]
theorem fstG_b (h : MK → Option V) (l : List Rcd) : (fstG h l = -1 ∧ ∀ x ∈ l, goneB h x = false) ∨ ∃ k : Nat, fstG h l = k ∧ k < l.length ∧ ∀ x ∈ l.take k, goneB h x = false := by
  unfold fstG
  cases e : l.findIdx? (goneB h) with
  | none => exact .inl ⟨rfl, List.findIdx?_eq_none_iff.1 e⟩
  | some k =>
    rw [List.findIdx?_eq_some_iff_getElem] at e
    obtain ⟨hk, h1, h2⟩ := e
    refine .inr ⟨k, rfl, hk, fun x hx => ?_⟩
    obtain ⟨j, hj, rfl⟩ := List.getElem_of_mem hx
    rw [List.length_take] at hj
    have := h2 j (by omega)
    rw [List.getElem_take]
    simpa using this
def ckIxWK : List V → List Blk → Option (Prop × V × List Blk)
  | [.vec 9067 n, .fn (.func 36) [] [.ptr 9007 0]], [.vec 7 k f, .cells [.map 9023], .mp .str h] => some (k = n ∧ isLs cRec n f ∧ n ≤ 1000000 ∧ ∀ k, okB (h k), .int .i64 (fstG h (lsOf cRec n f)), [.vec 7 k (lsF cRec (lsOf cRec n f)), .cells [.map 9023], .mp .str h])
  | _, _ => none
def ckIxW : Cf := ⟨fun | [.vec 9067 _, .fn _ _ [.ptr 9007 _]] => [9067, 9007, 9023] | _ => [], ckIxWK⟩
theorem conIxW : FCon pg 61 ckIxW := by
  have hct := (ctF_ok conWB (ctN_ok _))
  intro args bs q r bs' h hq
  replace h : ckIxWK args bs = some (q, r, bs') := h
  unfold ckIxWK at h
  split at h
  · cases h
    rename_i n k f h
    refine ⟨rfl, by first | exact Nat.le_refl _ | exact Nat.zero_le _, ?_⟩
    obtain ⟨rfl, hf, hn, ho⟩ := hq
    have hk := lsOf_len (c := cRec) k f
    show FCall pg 61 [.vec 18067 k, .fn (.func 36) [] [.ptr 18007 0]] [(18067, .vec 7 k fun j => V.shift (f j)), (18007, .cells [.map 18023]), (18023, .mp .str h)] (.int .i64 (fstG h (lsOf cRec k f))) [(18067, .vec 7 k fun j => V.shift (lsF cRec (lsOf cRec k f) j)), (18007, .cells [.map 18023]), (18023, .mp .str h)]
    refine fcall_blk (hm := [(18067, .vec 7 (lsOf cRec k f).length (lsF cRec (lsOf cRec k f))), (18007, .cells [.map 18023]), (18023, .mp .str h)]) ⟨rfl, ⟨rfl, hk.symm, fun j hj => by show V.shift (f j) = _; rw [hf.2 j hj]; rfl⟩, rfl, ⟨rfl, trivial⟩, rfl, ⟨rfl, fun _ => rfl⟩, trivial⟩ ?_
    generalize lsOf cRec k f = l at hk ⊢
    subst hk
    show FCall pg 61 [.vec 18067 l.length, .fn (.func 36) [] [.ptr 18007 0]] [(18067, .vec 7 l.length (lsF cRec l)), (18007, .cells [.map 18023]), (18023, .mp .str h)] (.int .i64 (fstG h l)) [(18067, .vec 7 l.length (lsF cRec l)), (18007, .cells [.map 18023]), (18023, .mp .str h)]
    refine fw61 (fun _ => false) [] rfl hct rfl (by simp) ?_ rfl ?_
    · have hm : ∀ j, V.menInL (idsIn [(18067, Blk.vec 7 l.length (lsF cRec l)), (18007, Blk.cells [V.map 18023]), (18023, Blk.mp MD.str h)]) (lsF cRec l j).flat = true := fun j => rfl
      simp [hlIn, Blk.menIn, hm]
      exact ⟨rfl, rfl, rfl, rfl⟩
    push_cast (config := { maxSteps := 10000000 })
    refine LoopW.adj ⟨hct, fol⟩ (by kernel_rfl) [] (fun k : Nat => [(0, .vec 18067 l.length), (1, .fn (.func 36) [] [.ptr 18007 0]), (7, .int .i64 l.length), (8, .int .i64 k)]) (fun _ => [(18067, .vec 7 l.length (lsF cRec l)), (18007, .cells [.map 18023]), (18023, .mp .str h)]) (fun k => k ≤ l.length ∧ ∀ j, j < k → goneB h (l.getD j noRec) = false) (fun k => l.length - k) 0 ?_ fun k hk => ?_
    · push_cast (config := { maxSteps := 10000000 })
      exact Nat.zero_le _
    · push_cast (config := { maxSteps := 10000000 })
      obtain ⟨h1, h2⟩ := hk
      refine ⟨fun h3 => ⟨h3, h3, ho, fun h4 => (fstG_at h3 h4 h2).symm, fun h4 => ⟨⟨by omega, by omega⟩, k + 1, ⟨by omega, fun j hj => ?_⟩, by omega, by omega⟩⟩, fun h3 => (fstG_no fun j hj => h2 j (by omega)).symm⟩
      by_cases e : j = k
      · subst e; exact h4
      · exact h2 j (by omega)
  · cases h
attribute [push_cast] ckIxWK
@[push_cast] theorem ixW_ids (n o : Nat) (f : Fn) : ckIxW.ids [.vec 9067 n, .fn f [] [.ptr 9007 o]] = [9067, 9007, 9023] := rfl
@[push_cast] theorem ixW_k {n k : Nat} {f : Nat → V} {h : MK → Option V} : ckIxW.k [.vec 9067 n, .fn (.func 36) [] [.ptr 9007 0]] [.vec 7 k f, .cells [.map 9023], .mp .str h] = some (k = n ∧ isLs cRec n f ∧ n ≤ 1000000 ∧ ∀ k, okB (h k), .int .i64 (fstG h (lsOf cRec n f)), [.vec 7 k (lsF cRec (lsOf cRec n f)), .cells [.map 9023], .mp .str h]) := rfl
/-- what is kept -/
def keepH (h : MK → Option V) (l : List Rcd) : List Rcd := l.filter fun r => !goneB h r
/-- the row, when so many are done -/
def delR (h : MK → Option V) (l : List Rcd) (j : Nat) : List Rcd := keepH h (l.take j) ++ l.drop (keepH h (l.take j)).length
theorem keep_le (h : MK → Option V) (l : List Rcd) (j : Nat) (hj : j ≤ l.length) : (keepH h (l.take j)).length ≤ j := by
  have := List.length_filter_le (fun r => !goneB h r) (l.take j)
  rw [List.length_take] at this
  unfold keepH; omega
theorem delR_len (h : MK → Option V) (l : List Rcd) (j : Nat) (hj : j ≤ l.length) : (delR h l j).length = l.length := by
  have := keep_le h l j hj
  unfold delR
  rw [List.length_append, List.length_drop]; omega
theorem delR_at {h : MK → Option V} {l : List Rcd} {j : Nat} (hj : j < l.length) : (delR h l j).getD j noRec = l.getD j noRec := by
  have := keep_le h l j (by omega)
  unfold delR
  rw [List.getD_eq_getElem?_getD, List.getD_eq_getElem?_getD, List.getElem?_append_right this, List.getElem?_drop]
  congr 2; omega
theorem keep_succ {h : MK → Option V} {l : List Rcd} {j : Nat} (hj : j < l.length) : keepH h (l.take (j + 1)) = if goneB h (l.getD j noRec) = true then keepH h (l.take j) else keepH h (l.take j) ++ [l.getD j noRec] := by
  rw [takeG (d := noRec) hj]
  unfold keepH
  rw [List.filter_append, List.filter_cons]
  cases goneB h (l.getD j noRec) <;> simp
theorem delR_gone {h : MK → Option V} {l : List Rcd} {j : Nat} (hj : j < l.length) (hg : goneB h (l.getD j noRec) = true) : delR h l (j + 1) = delR h l j := by
  unfold delR; rw [keep_succ hj, if_pos hg]
theorem delR_put {h : MK → Option V} {l : List Rcd} {j : Nat} (hj : j < l.length) (hg : ¬ goneB h (l.getD j noRec) = true) (i : Nat) : setF (lsF cRec (delR h l j)) (keepH h (l.take j)).length (cRec.enc (l.getD j noRec)) i = lsF cRec (delR h l (j + 1)) i := by
  have hk := keep_le h l j (by omega)
  unfold delR
  rw [keep_succ hj, if_neg hg]
  generalize keepH h (l.take j) = a at hk ⊢
  generalize l.getD j noRec = r
  unfold setF lsF
  show _ = cRec.enc _
  by_cases e : i = a.length
  · rw [decide_eq_true e, cond_true]; subst e; simp
  · rw [decide_eq_false e, cond_false]
    show cRec.enc _ = cRec.enc _
    congr 1
    rw [List.getD_eq_getElem?_getD, List.getD_eq_getElem?_getD, List.length_append, List.length_singleton]
    by_cases e2 : i < a.length
    · rw [List.getElem?_append_left e2, List.getElem?_append_left (by simp; omega), List.getElem?_append_left e2]
    · rw [List.getElem?_append_right (by omega), List.getElem?_append_right (by simp; omega), List.getElem?_drop, List.getElem?_drop, List.length_append, List.length_singleton]
      congr 2; omega
theorem keep_none {h : MK → Option V} {l : List Rcd} (hn : ∀ x ∈ l, goneB h x = false) : keepH h l = l := by
  unfold keepH
  rw [List.filter_eq_self]
  intro x hx; rw [hn x hx]; rfl
theorem delR_begin {h : MK → Option V} {l : List Rcd} {k : Nat} (hk : k ≤ l.length) (hn : ∀ x ∈ l.take k, goneB h x = false) : delR h l k = l ∧ (keepH h (l.take k)).length = k := by
  have e := keep_none hn
  unfold delR
  rw [e, List.length_take, Nat.min_eq_left hk, List.take_append_drop]
  exact ⟨rfl, rfl⟩
theorem delR_end {h : MK → Option V} {l : List Rcd} (i : Nat) (hi : i < (keepH h l).length) : lsF cRec (delR h l l.length) i = lsF cRec (keepH h l) i := by
  unfold lsF delR
  rw [List.take_length]
  show cRec.enc _ = cRec.enc _
  rw [List.getD_eq_getElem?_getD, List.getD_eq_getElem?_getD, List.getElem?_append_left hi]
def ckDelWK : List V → List Blk → Option (Prop × V × List Blk)
  | [.vec 67 n, .fn (.func 36) [] [.ptr 7 0]], [.vec 7 k f, .cells [.map 23], .mp .str h] => some (k = n ∧ isLs cRec n f ∧ n ≤ 1000000 ∧ ∀ k, okB (h k), .sl (keepH h (lsOf cRec n f)).length (lsF cRec (keepH h (lsOf cRec n f))), [])
  | _, _ => none
def ckDelW : Cf := ⟨fun | [.vec 67 _, .fn _ _ [.ptr 7 _]] => [67, 7, 23] | _ => [], ckDelWK⟩
theorem conDelW : FCon pg 35 ckDelW := by
  have hct := (ctF_ok conIxW (ctF_ok conWA (ctN_ok _)))
  intro args bs q r bs' h hq
  replace h : ckDelWK args bs = some (q, r, bs') := h
  unfold ckDelWK at h
  split at h
  · cases h
    rename_i n k f h
    refine ⟨rfl, by first | exact Nat.le_refl _ | exact Nat.zero_le _, ?_⟩
    obtain ⟨rfl, hf, hn, ho⟩ := hq
    have hk := lsOf_len (c := cRec) k f
    show FCall pg 35 [.vec 9067 k, .fn (.func 36) [] [.ptr 9007 0]] [(9067, .vec 7 k fun j => V.shift (f j)), (9007, .cells [.map 9023]), (9023, .mp .str h)] (.sl (keepH h (lsOf cRec k f)).length (lsF cRec (keepH h (lsOf cRec k f)))) []
    refine fcall_blk (hm := [(9067, .vec 7 (lsOf cRec k f).length (lsF cRec (lsOf cRec k f))), (9007, .cells [.map 9023]), (9023, .mp .str h)]) ⟨rfl, ⟨rfl, hk.symm, fun j hj => by show V.shift (f j) = _; rw [hf.2 j hj]; rfl⟩, rfl, ⟨rfl, trivial⟩, rfl, ⟨rfl, fun _ => rfl⟩, trivial⟩ ?_
    generalize lsOf cRec k f = l at hk ⊢
    subst hk
    refine fw35 (fun _ => false) [.frz 9067] rfl hct rfl (by simp) trivial rfl ?_
    push_cast (config := { maxSteps := 10000000 })
    refine ⟨⟨hn, ho⟩, fun h1 => ?_, fun h1 => ?_⟩
    · rcases fstG_b h l with ⟨_, e⟩ | ⟨k, e, _⟩
      · rw [keep_none e]; exact ⟨rfl, fun _ _ => rfl⟩
      · omega
    rcases fstG_b h l with ⟨e, _⟩ | ⟨k, e, hk, hg⟩
    · exact absurd e h1
    rw [e]
    obtain ⟨b1, b2⟩ := delR_begin (by omega : k ≤ l.length) hg
    have hg1 : goneB h (l.getD k noRec) = true := by
      unfold fstG at e
      cases e2 : l.findIdx? (goneB h) with
      | none => rw [e2] at e; have e : (-1 : Int) = k := e; omega
      | some k' =>
        rw [e2] at e
        have e : (k' : Int) = k := e
        obtain rfl : k' = k := by omega
        rw [List.findIdx?_eq_some_iff_getElem] at e2
        rw [List.getD_eq_getElem?_getD, List.getElem?_eq_getElem hk]; exact e2.2.1
    refine ⟨⟨by omega, by omega⟩, ?_⟩
    refine LoopW.adj ⟨hct, fol⟩ (by kernel_rfl) [] (fun j : Nat => [(0, .vec 9067 l.length), (1, .fn (.func 36) [] [.ptr 9007 0]), (5, .int .i64 (keepH h (l.take j)).length), (6, .int .i64 j)]) (fun j => [(9067, .vec 7 l.length (lsF cRec (delR h l j))), (9007, .cells [.map 9023]), (9023, .mp .str h)]) (fun j => j ≤ l.length) (fun j => l.length - j) (k + 1) ?_ fun j hj => ?_
    · push_cast (config := { maxSteps := 10000000 })
      have e1 : delR h l (k + 1) = l := (delR_gone hk hg1).trans b1
      rw [e1, keep_succ hk, if_pos hg1]
      exact ⟨by omega, b2.symm, fun _ _ => rfl⟩
    · have hj : j ≤ l.length := hj
      push_cast (config := { maxSteps := 10000000 })
      have hkl := keep_le h l j hj
      refine ⟨fun hlt => ⟨hlt, hlt, ho, fun hc => ?_, fun hc => ?_⟩, fun hge => ?_⟩
      · rw [delR_at hlt] at hc
        have hg : ¬ goneB h (l.getD j noRec) = true := by unfold goneB; rw [hc]; simp
        refine ⟨by omega, by omega, ⟨by omega, by omega⟩, ⟨by omega, by omega⟩, j + 1, by omega, by omega, ⟨?_, by omega⟩, fun i hi => ?_⟩
        · rw [keep_succ hlt, if_neg hg]; simp
        · refine Eq.trans ?_ (delR_put hlt hg i)
          rw [delR_at hlt]; rfl
      · rw [delR_at hlt] at hc
        have hg : goneB h (l.getD j noRec) = true := hc
        refine ⟨⟨by omega, by omega⟩, j + 1, by omega, by omega, ⟨?_, by omega⟩, fun i hi => ?_⟩
        · rw [keep_succ hlt, if_pos hg]
        · rw [delR_gone hlt hg]
      · obtain rfl : j = l.length := by omega
        rw [List.take_length] at hkl ⊢
        refine ⟨hkl, hkl, fun i hi => ?_, rfl, fun i hi => ?_⟩
        · unfold insF
          cases decide ((keepH h l).length ≤ i ∧ i < (keepH h l).length + (l.length - (keepH h l).length)) <;> rfl
        · unfold shF insF
          rw [decide_eq_false (by omega)]
          exact delR_end i hi
  · cases h
attribute [push_cast] ckDelWK
@[push_cast] theorem delW_ids (n : Nat) (o : Nat) (f : Fn) : ckDelW.ids [.vec 67 n, .fn f [] [.ptr 7 o]] = [67, 7, 23] := rfl
@[push_cast] theorem delW_k {n k : Nat} {f : Nat → V} {h : MK → Option V} : ckDelW.k [.vec 67 n, .fn (.func 36) [] [.ptr 7 0]] [.vec 7 k f, .cells [.map 23], .mp .str h] = some (k = n ∧ isLs cRec n f ∧ n ≤ 1000000 ∧ ∀ k, okB (h k), .sl (keepH h (lsOf cRec n f)).length (lsF cRec (keepH h (lsOf cRec n f))), []) := rfl
def ckCopiesN : List V → Option (Prop × V × Blk)
  | [.sl n f] => some (isLs cRec n f ∧ recsOk (lsOf cRec n f) ∧ (∀ r ∈ lsOf cRec n f, r.hd.length ≤ 1000000) ∧ n ≤ 1000000, .vec 8999 n, .vec 7 n (lsF cRec (lsOf cRec n f)))
  | _ => none
theorem conCopiesN : NCon pg 28 ckCopiesN := by
  have hct := (ctA_ok conCloneHd (ctA_ok conCloneBy (ctW_ok conCloneRec (ctN_ok _))))
  intro args q r nb h hq
  unfold ckCopiesN at h
  split at h
  · cases h
    rename_i n f
    refine ncall_argsW (args' := [.sl (lsOf cRec n f).length (lsF cRec (lsOf cRec n f))]) ⟨isLs.vle hq.1, trivial⟩ ?_
    obtain ⟨-, hl, hh, hn⟩ := hq
    have hk := lsOf_len (c := cRec) n f
    generalize lsOf cRec n f = l at hl hh hk ⊢
    subst hk
    refine nw28 (fun _ => false) [.ren 6 8999] rfl hct rfl rfl ?_ ?_
    · intro i hi; rfl
    push_cast (config := { maxSteps := 10000000 })
    refine ⟨hn, ?_⟩
    refine LoopW.adj ⟨hct, fol⟩ (by kernel_rfl) [] (fun i : Nat => [(3, .vec 6 l.length), (8, .int .i64 l.length), (9, .int .i64 i)]) (fun _ => [(6, .vec 7 l.length (lsF cRec l))]) (fun i => i ≤ l.length) (fun i => l.length - i) 0 ?_ fun i hi => ?_
    · push_cast (config := { maxSteps := 10000000 })
      exact Nat.zero_le _
    · push_cast (config := { maxSteps := 10000000 })
      intro h
      have ok := recsOk_at hl h
      have h30 : (l.getD i noRec).hd.length ≤ 1000000 := hh _ (by rw [List.getD_eq_getElem?_getD, List.getElem?_eq_getElem h]; exact List.getElem_mem h)
      refine ⟨h, h, by omega, h, h, ok.2.2.2.2.2.1, h, h, h, h, ⟨by omega, by omega⟩, i + 1, by omega, by omega, by omega, fun k hk => ?_⟩
      have e := setF_self (lsF cRec l) i
      show setF (setF (lsF cRec l) i (lsF cRec l i)) i (reV (setF (lsF cRec l) i (lsF cRec l i) i) (setR (setF (lsF cRec l) i (lsF cRec l i) i).flat 6 [V.sl (l.getD i noRec).bd.length (byF (l.getD i noRec).bd)])) k = lsF cRec l k
      rw [e]
      exact congrFun e k
  · cases h
attribute [push_cast] ckCopiesN
/- seen names -/
theorem goneB_seen (s : List (List UInt8)) (r : Rcd) : goneB (seenM s) r = s.contains r.id := asB_seen s r.id
theorem keep_seen (s : List (List UInt8)) (l : List Rcd) : keepH (seenM s) l = woK l s := by
  unfold keepH woK
  congr 1
  funext r
  rw [goneB_seen]
def ckWithout : Ck
  | [.sl n f, .sl m g] => some (isLs cRec n f ∧ recsOk (lsOf cRec n f) ∧ isLs cStr m g ∧ (∀ x ∈ lsOf cStr m g, x.length ≤ 140737488355328), .tup [.sl (woL (lsOf cRec n f) (lsOf cStr m g)).length (lsF cRec (woL (lsOf cRec n f) (lsOf cStr m g))), .int .i64 (woErr (lsOf cRec n f) (lsOf cStr m g))])
  | _ => none
theorem conWithout : Con pg 10 ckWithout := by
  have hct := (ctA_ok conCheckFile (ctA_ok conIsName (ctA_ok conFind6 (ctW_ok conCopiesN (ctF_ok conDelW (ctN_ok _))))))
  intro args q r h hq
  unfold ckWithout at h
  split at h
  · cases h
    rename_i n f m g
    refine pcall_args (args' := [.sl (lsOf cRec n f).length (lsF cRec (lsOf cRec n f)), .sl (lsOf cStr m g).length (lsF cStr (lsOf cStr m g))]) ⟨isLs.vle hq.1, isLs.vle hq.2.2.1, trivial⟩ ?_
    obtain ⟨-, hl, -, hs⟩ := hq
    generalize lsOf cRec n f = l at hl ⊢
    generalize lsOf cStr m g = s at hs ⊢
    refine w10 (fun _ => false) [] rfl hct rfl rfl ?_
    push_cast (config := { maxSteps := 10000000 })
    refine ⟨hl, fun h => ?_, fun h => ⟨fun h1 => ?_, fun h1 => ?_⟩⟩
    · have eE : woErr l s = checkFileL l := by unfold woErr; rw [if_neg h]
      unfold woL
      rw [eE, if_neg h]
      exact ⟨rfl, rfl⟩
    · have eE : woErr l s = 2 := by unfold woErr; rw [if_pos h, if_pos (by omega)]
      unfold woL
      rw [eE]
      exact ⟨rfl, rfl⟩
    have eE : woErr l s = woE l s := by unfold woErr; rw [if_pos h, if_neg (by omega)]
    unfold woL
    rw [eE]
    obtain ⟨c1, c2, c3⟩ := file_ok h
    refine ⟨rfl, ?_⟩
    refine LoopW.adj ⟨hct, fol⟩ (by kernel_rfl) [] (fun i : Nat => [(0, .sl l.length (lsF cRec l)), (1, .sl s.length (lsF cStr s)), (7, .ptr 7 0), (24, .sl s.length (lsF cStr s)), (25, .int .i64 s.length), (26, .int .i64 i)]) (fun i => [(7, .cells [.map 23]), (23, .mp .str (seenM (s.take i)))]) (fun i => i ≤ s.length ∧ woE l (s.drop i) = woE l s) (fun i => s.length - i) 0 ?_ fun i hi => ?_
    · push_cast (config := { maxSteps := 10000000 })
      exact ⟨Nat.zero_le _, seen_nil⟩
    · push_cast (config := { maxSteps := 10000000 })
      obtain ⟨i1, i2⟩ := hi
      refine ⟨fun hlt => ?_, fun hge => ?_⟩
      · rw [dropG (d := []) hlt, woE] at i2
        have et := takeG (d := []) hlt
        have hx := hs (s.getD i []) (by rw [List.getD_eq_getElem?_getD, List.getElem?_eq_getElem hlt]; exact List.getElem_mem hlt)
        refine ⟨hlt, by omega, fun g1 => ?_, fun g1 => ⟨by omega, fun g2 => ?_, fun g2 => ?_⟩⟩
        · rw [if_neg (by rw [g1]; simp)] at i2
          rw [← i2]; exact ⟨rfl, rfl⟩
        · rw [if_pos g1, if_neg g2] at i2
          rw [← i2]; exact ⟨rfl, rfl⟩
        · rw [if_pos g1, if_pos g2] at i2
          exact ⟨⟨by omega, by omega⟩, i + 1, ⟨by omega, i2⟩, by omega, by omega, fun k => by rw [putM_seen, et]⟩
      rw [List.drop_eq_nil_of_le (by omega), woE] at i2
      rw [← i2, if_pos rfl]
      refine LoopW.adj ⟨hct, fol⟩ (by kernel_rfl) [] (fun t : List (List UInt8) × Bool => [(0, .sl l.length (lsF cRec l)), (7, .ptr 7 0), (12, .bool t.2)]) (fun t => [(7, .cells [.map 23]), (23, .mp .str (seenM t.1))]) (fun t => woA l t.1 = woA l s ∧ (t.2 = false → woP t.1 l = t.1)) (fun t => 2 * woC l t.1 + t.2.toNat) (s, true) ?_ fun t ht => ?_
      · push_cast (config := { maxSteps := 10000000 })
        rw [List.take_of_length_le (by omega)]
        exact fun _ => rfl
      · obtain ⟨s1, more⟩ := t
        obtain ⟨j1, j2⟩ : woA l s1 = woA l s ∧ (more = false → woP s1 l = s1) := ht
        push_cast (config := { maxSteps := 10000000 })
        refine ⟨fun hm => ?_, fun hm => ?_⟩
        · subst hm
          refine LoopW.adj ⟨hct, fol⟩ (by kernel_rfl) [] (fun i : Nat => [(0, .sl l.length (lsF cRec l)), (7, .ptr 7 0), (12, .bool (decide ((woP s1 (l.take i)).length ≠ s1.length))), (45, .sl l.length (lsF cRec l)), (46, .int .i64 l.length), (47, .int .i64 i)]) (fun i => [(7, .cells [.map 23]), (23, .mp .str (seenM (woP s1 (l.take i))))]) (fun i => i ≤ l.length) (fun i => l.length - i) 0 ?_ fun i hi => ?_
          · push_cast (config := { maxSteps := 10000000 })
            refine ⟨Nat.zero_le _, ?_, fun _ => rfl⟩
            exact (decide_eq_false (fun x => x rfl)).symm
          · have hi : i ≤ l.length := hi
            push_cast (config := { maxSteps := 10000000 })
            refine ⟨fun hlt => ⟨hlt, fun g => ?_, fun g => ?_⟩, fun hge => ?_⟩
            · have e : woP s1 (l.take (i + 1)) = woP s1 (l.take i) ++ [(l.getD i noRec).id] := by rw [woP_take hlt]; unfold woS; rw [if_pos g]
              refine ⟨⟨by omega, by omega⟩, i + 1, by omega, by omega, ⟨?_, by omega⟩, fun k => by rw [putM_seen, e]⟩
              have := woP_len (l.take i) s1
              rw [e, List.length_append, List.length_singleton]
              exact (decide_eq_true (by omega)).symm
            · have e : woP s1 (l.take (i + 1)) = woP s1 (l.take i) := by
                rw [woP_take hlt]; unfold woS; rw [if_neg (fun x => by rw [g x.1] at x; exact absurd x.2 (by simp))]
              exact ⟨⟨by omega, by omega⟩, i + 1, by omega, by omega, ⟨by rw [e], by omega⟩, fun k => by rw [e]⟩
            · rw [List.take_of_length_le (by omega)]
              by_cases e : (woP s1 l).length = s1.length
              · have e2 := (woP_same l s1 e).1
                refine ⟨((s1, false) : List (List UInt8) × Bool), ⟨j1, fun _ => e2⟩, by show 2 * woC l s1 + 0 < 2 * woC l s1 + 1; omega, ?_, fun k => by rw [e2]⟩
                exact decide_eq_false (fun x => x e)
              · have := woP_dec e
                refine ⟨((woP s1 l, true) : List (List UInt8) × Bool), ⟨by show woA l (woP s1 l) = _; rw [woA_step]; exact j1, fun h => by cases h⟩, by show 2 * woC l (woP s1 l) + 1 < 2 * woC l s1 + 1; omega, ?_, fun k => rfl⟩
                exact decide_eq_true e
        · have e := woN_fix (j2 hm) l.length
          have e : woA l s1 = s1 := e
          rw [keep_seen, ← j1, e]
          exact ⟨⟨hl, fun r hr => by have := (rec_ok (c1 r hr)).2.2.2.2.2.2.2.1; omega, by omega⟩, by omega, rfl, fun _ _ => rfl⟩
  · cases h
attribute [push_cast] ckWithout

end Go.Abs
