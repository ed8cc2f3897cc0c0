/- what functions of this program compute: contracts, each a function's own -/
import Derived.Test.YtmnokccdnjokoaaDoorAbsK2
import Derived.Test.YtmnokccdnjokoaaDoorAbsFacts
import Derived.Test.YtmnokccdnjokoaaDoorAbsF1
import Derived.Test.YtmnokccdnjokoaaDoorAbsShelf
import Derived.Lib.SlTrimSet
import Derived.Lib.Atoi
import Derived.Lib.Itoa
import Derived.Lib.ItoaNum
import Derived.Lib.AtoiErrMem
import Derived.Lib.ItoaLen
namespace Go.Abs
open Go Go.Proofs
set_option maxHeartbeats 4000000
set_option maxRecDepth 100000
set_option linter.unusedVariables false
set_option linter.unusedSimpArgs false
/- files of records -/
def decFile : V → List Rcd
  | .sl n f => lsOf cRec n f
  | _ => []
def cFile : Cod (List Rcd) := ⟨fun l => .sl l.length (lsF cRec l), decFile, [], fun l => lsOf_ls l⟩
@[push_cast] theorem enc_file (l : List Rcd) : cFile.enc l = .sl l.length (lsF cRec l) := rfl
@[push_cast] theorem dec_file (n : Nat) (f : Nat → V) : cFile.dec (.sl n f) = lsOf cRec n f := rfl
@[push_cast] theorem lsF_file (l : List (List Rcd)) (i : Nat) : lsF cFile l i = .sl (l.getD i []).length (lsF cRec (l.getD i [])) := rfl
/-- records divided: the closed files, the open one, and its length -/
def divGo (m : Int) : List (List Rcd) → List Rcd → Int → List Rcd → List (List Rcd)
  | g, c, _, [] => g ++ [c]
  | g, c, k, r :: t => if m < k + (recB r).length then divGo m (g ++ [c]) [r] (recB r).length t else divGo m g (c ++ [r]) (k + (recB r).length) t
def divOf (m : Int) : List Rcd → List (List Rcd)
  | [] => []
  | r :: t => divGo m [] [r] (recB r).length t
def divL (l : List Rcd) (m : Int) : List (List Rcd) := if checkFileL l = 0 ∧ 1 ≤ m ∧ m ≤ 500000 then divOf m l else []
def divE (l : List Rcd) (m : Int) : Int := if checkFileL l = 0 then (if 1 ≤ m ∧ m ≤ 500000 then 0 else 1) else checkFileL l
theorem fileB_len1 (r : Rcd) : (fileB [r]).length = (recB r).length := by simp [fileB]
theorem div_flat (m : Int) : ∀ (t : List Rcd) (g : List (List Rcd)) (c : List Rcd) (k : Int), (divGo m g c k t).flatten = g.flatten ++ c ++ t
  | [], g, c, k => by simp [divGo]
  | r :: t, g, c, k => by
    rw [divGo]
    split
    · rw [div_flat]; simp
    · rw [div_flat]; simp
theorem divOf_flat (m : Int) (l : List Rcd) : (divOf m l).flatten = l := by
  cases l with
  | nil => rfl
  | cons r t => show (divGo m [] [r] _ t).flatten = _; rw [div_flat]; simp
def fitF (m : Int) (c : List Rcd) : Prop := c ≠ [] ∧ (((fileB c).length : Int) ≤ m ∨ c.length ≤ 1)
theorem div_fit (m : Int) : ∀ (t : List Rcd) (g : List (List Rcd)) (c : List Rcd) (k : Int), (∀ x ∈ g, fitF m x) → fitF m c → k = ((fileB c).length : Int) → ∀ x ∈ divGo m g c k t, fitF m x
  | [], g, c, k, hg, hc, hk => by
    intro x hx
    rw [divGo, List.mem_append, List.mem_singleton] at hx
    rcases hx with h | rfl
    · exact hg x h
    · exact hc
  | r :: t, g, c, k, hg, hc, hk => by
    rw [divGo]
    split
    · refine div_fit m t _ _ _ (fun x hx => ?_) ⟨by simp, .inr (by simp)⟩ (by rw [fileB_len1])
      rcases List.mem_append.1 hx with h | h
      · exact hg x h
      · rw [List.mem_singleton.1 h]; exact hc
    · refine div_fit m t g _ _ hg ⟨by simp, .inl ?_⟩ ?_
      · rw [fileB_app, List.length_append, fileB_len1]; omega
      · rw [fileB_app, List.length_append, fileB_len1]; omega
theorem divOf_fit (m : Int) (l : List Rcd) : ∀ x ∈ divOf m l, fitF m x := by
  cases l with
  | nil => intro x hx; cases hx
  | cons r t => exact div_fit m t [] [r] _ (fun x hx => by cases hx) ⟨by simp, .inr (by simp)⟩ (by rw [fileB_len1])
/- a piece of a right file is right -/
theorem cfGo_len : ∀ {l : List Rcd} {s : List (List UInt8)} {m : Int}, cfGo s m l = 0 → ∀ {s' : List (List UInt8)} {m' : Int}, (∀ x ∈ s', x ∈ s) → m' ≤ m → cfGo s' m' l = 0
  | [], s, m, h, s', m', hs, hm => by
    rw [cfGo] at h ⊢
    split at h
    · omega
    · rw [if_neg (by omega)]
  | r :: t, s, m, h, s', m', hs, hm => by
    rw [cfGo] at h ⊢
    by_cases h1 : checkRecL r = 0
    · rw [if_neg (fun x => x h1)] at h ⊢
      by_cases h2 : s.contains r.id = true
      · rw [if_pos h2] at h; omega
      · rw [if_neg h2] at h
        rw [if_neg (fun x => h2 (by rw [List.contains_iff_mem] at x ⊢; exact hs _ x))]
        exact cfGo_len h (fun x hx => by
          rcases List.mem_append.1 hx with a | a
          · exact List.mem_append_left _ (hs x a)
          · exact List.mem_append_right _ a) (by omega)
    · rw [if_pos h1] at h; exact absurd h h1
theorem cfGo_l : ∀ {a b : List Rcd} {s : List (List UInt8)} {m : Int}, 0 ≤ m → cfGo s m (a ++ b) = 0 → cfGo s m a = 0
  | [], b, s, m, hm, h => by
    have := (cfGo_ok h).2
    rw [cfGo, if_neg (by omega)]
  | r :: t, b, s, m, hm, h => by
    rw [List.cons_append, cfGo] at h
    rw [cfGo]
    by_cases h1 : checkRecL r = 0
    · rw [if_neg (fun x => x h1)] at h ⊢
      by_cases h2 : s.contains r.id = true
      · rw [if_pos h2] at h; omega
      · rw [if_neg h2] at h ⊢
        exact cfGo_l (by omega) h
    · rw [if_pos h1] at h; exact absurd h h1
theorem cfGo_r : ∀ {a b : List Rcd} {s : List (List UInt8)} {m : Int}, 0 ≤ m → cfGo s m (a ++ b) = 0 → cfGo [] 0 b = 0
  | [], b, s, m, hm, h => cfGo_len h (fun x hx => by cases hx) hm
  | r :: t, b, s, m, hm, h => by
    rw [List.cons_append, cfGo] at h
    by_cases h1 : checkRecL r = 0
    · rw [if_neg (fun x => x h1)] at h
      by_cases h2 : s.contains r.id = true
      · rw [if_pos h2] at h; omega
      · rw [if_neg h2] at h
        exact cfGo_r (by omega) h
    · rw [if_pos h1] at h; exact absurd h h1
theorem file_piece {a b c : List Rcd} (h : checkFileL (a ++ b ++ c) = 0) : checkFileL b = 0 := by
  unfold checkFileL at h ⊢
  split at h
  · omega
  · rename_i hl
    simp only [List.length_append] at hl
    rw [if_neg (by omega)]
    rw [List.append_assoc] at h
    have h1 := cfGo_r (by omega) h
    exact cfGo_l (by omega) h1
theorem file_part {L : List (List Rcd)} (h : checkFileL L.flatten = 0) {x : List Rcd} (hx : x ∈ L) : checkFileL x = 0 := by
  obtain ⟨a, b, rfl⟩ := List.append_of_mem hx
  refine file_piece (a := a.flatten) (c := b.flatten) ?_
  simpa using h

def ckCloneBy : Ck
  | [.sl n f] => some (isBy n f ∧ n ≤ 140737488355328, .sl n f)
  | _ => none
theorem conCloneBy : Con pg 25 ckCloneBy := by
  have hct := ctN_ok pg
  intro args q r h hq
  unfold ckCloneBy at h
  split at h
  · cases h
    rename_i n f
    by_cases hn : n = 0
    · subst hn
      refine pcall_nil1 fun a c => ?_
      refine w25 (fun d => decide (d < 9999)) [.frz 5] rfl hct rfl rfl ?_
      push_cast (config := { maxSteps := 10000000 })
      cases a
      · push_cast (config := { maxSteps := 10000000 })
      · push_cast (config := { maxSteps := 10000000 })
    · refine w25 (fun d => decide (d < 9999)) [.frz 5] rfl hct rfl rfl ?_
      push_cast (config := { maxSteps := 10000000 })
      obtain ⟨h1, h2⟩ := hq
      exact ⟨by omega, ⟨h1.flat, by omega, by omega⟩, h1.pure⟩
  · cases h
attribute [push_cast] ckCloneBy

def ckCloneHd : Ck
  | [.sl n f] => some (isLs cHd n f ∧ n ≤ 1000000000000, .sl n f)
  | _ => none
theorem conCloneHd : Con pg 24 ckCloneHd := by
  have hct := ctN_ok pg
  intro args q r h hq
  unfold ckCloneHd at h
  split at h
  · cases h
    rename_i n f
    by_cases hn : n = 0
    · subst hn
      refine pcall_nil1 fun a c => ?_
      refine w24 (fun d => decide (d < 9999)) [.frz 5] rfl hct rfl rfl ?_
      push_cast (config := { maxSteps := 10000000 })
      cases a
      · push_cast (config := { maxSteps := 10000000 })
      · push_cast (config := { maxSteps := 10000000 })
    · refine w24 (fun d => decide (d < 9999)) [.frz 5] rfl hct rfl rfl ?_
      push_cast (config := { maxSteps := 10000000 })
      obtain ⟨h1, h2⟩ := hq
      exact ⟨by omega, ⟨h1.flat (fun _ => rfl), by omega, by omega⟩, h1.pure (fun _ => rfl)⟩
  · cases h
attribute [push_cast] ckCloneHd
theorem ncall_nil1 {f : FuncId} {g : Nat → V} {r : V} {nb : Blk} (h : ∀ a c, NCall pg f [.con (.slice a 0 c)] r nb) : NCall pg f [.sl 0 g] r nb := by
  intro S vals hs hh hl hr
  match vals, hl with
  | [v], _ =>
    have h0 := hr 0 (by simp)
    simp only [List.getD_cons_zero] at h0
    obtain ⟨a, c, rfl⟩ : ∃ a c, v = .slice a 0 c := by
      cases inv_sl h0 with
      | sl0 _ a c => exact ⟨a, c, rfl⟩
      | sl _ _ b off c sz u => exact ⟨_, _, rfl⟩
    exact h a c S [.slice a 0 c] hs hh rfl fun i hi => by
      have : i = 0 := by simp at hi; omega
      subst this
      exact .pure (.con _)
def ckCloneRec : List V → Option (Prop × V × Blk)
  | [.sl n f] => some (isLs cRec n f ∧ n ≤ 1000000, .vec 8999 n, .vec 7 n f)
  | _ => none
theorem conCloneRec : NCon pg 23 ckCloneRec := by
  have hct := ctN_ok pg
  intro args q r nb h hq
  unfold ckCloneRec at h
  split at h
  · cases h
    rename_i n f
    by_cases hn : n = 0
    · subst hn
      refine ncall_nil1 fun a c => ?_
      cases a
      · refine nw23 (fun d => decide (d < 9999)) [.nv 2 8999 7 f] rfl hct rfl rfl ?_ ?_
        · simp [noIdB]
        push_cast (config := { maxSteps := 10000000 })
      · refine nw23 (fun d => decide (d < 9999)) [.ren 5 8999] rfl hct rfl rfl ?_ ?_
        · simp [noIdB]
        push_cast (config := { maxSteps := 10000000 })
    · obtain ⟨h1, h2⟩ := hq
      refine nw23 (fun d => decide (d < 9999)) [.ren 5 8999] rfl hct rfl rfl ?_ ?_
      · intro i hi; show V.noIdL (f i).flat = true; rw [h1.2 i hi]; rfl
      push_cast (config := { maxSteps := 10000000 })
      exact ⟨by omega, ⟨h1.flat (fun _ => rfl), by omega, by omega⟩, fun i hi => by rw [h1.2 i hi]; rfl⟩
  · cases h
attribute [push_cast] ckCloneRec
theorem setF_self (f : Nat → V) (i : Nat) : setF f i (f i) = f := by
  funext j
  unfold setF
  by_cases e : j = i
  · subst e; rw [decide_eq_true rfl]; rfl
  · rw [decide_eq_false e]; rfl
def ckCopies : Ck
  | [.sl n f] => some (isLs cRec n f ∧ recsOk (lsOf cRec n f) ∧ (∀ r ∈ lsOf cRec n f, r.hd.length ≤ 1000000) ∧ n ≤ 1000000, .sl (lsOf cRec n f).length (lsF cRec (lsOf cRec n f)))
  | _ => none
theorem conCopies : Con pg 13 ckCopies := by
  have hct := (ctA_ok conCloneHd (ctA_ok conCloneBy (ctW_ok conCloneRec (ctN_ok _))))
  intro args q r h hq
  unfold ckCopies at h
  split at h
  · cases h
    rename_i n f
    refine pcall_args (args' := [.sl (lsOf cRec n f).length (lsF cRec (lsOf cRec n f))]) ⟨isLs.vle hq.1, trivial⟩ ?_
    obtain ⟨-, hl, hh, hn⟩ := hq
    have hn : (lsOf cRec n f).length ≤ 1000000 := by rw [lsOf_len]; exact hn
    generalize lsOf cRec n f = l at hl hh hn ⊢
    refine w13 (fun _ => false) [.frz 6] rfl hct rfl rfl ?_
    push_cast (config := { maxSteps := 10000000 })
    refine ⟨hn, ?_⟩
    refine LoopW.adj ⟨hct, fol⟩ (by kernel_rfl) [] (fun i : Nat => [(3, .vec 6 l.length), (8, .int .i64 l.length), (9, .int .i64 i)]) (fun _ => [(6, .vec 7 l.length (lsF cRec l))]) (fun i => i ≤ l.length) (fun i => l.length - i) 0 ?_ fun i hi => ?_
    · push_cast (config := { maxSteps := 10000000 })
      exact Nat.zero_le _
    · push_cast (config := { maxSteps := 10000000 })
      intro h
      have ok := recsOk_at hl h
      have h30 : (l.getD i noRec).hd.length ≤ 1000000 := hh _ (by rw [List.getD_eq_getElem?_getD, List.getElem?_eq_getElem h]; exact List.getElem_mem h)
      refine ⟨h, h, by omega, h, h, ok.2.2.2.2.2.1, h, h, h, h, ⟨by omega, by omega⟩, i + 1, by omega, by omega, by omega, fun k hk => ?_⟩
      have e := setF_self (lsF cRec l) i
      show setF (setF (lsF cRec l) i (lsF cRec l i)) i (reV (setF (lsF cRec l) i (lsF cRec l i) i) (setR (setF (lsF cRec l) i (lsF cRec l i) i).flat 6 [V.sl (l.getD i noRec).bd.length (byF (l.getD i noRec).bd)])) k = lsF cRec l k
      rw [e]
      exact congrFun e k
  · cases h
attribute [push_cast] ckCopies

abbrev clR (r : Rcd) : Prop := r.ow = r.id ∨ (r.ow = [] ∧ (r.ki = 4 ∨ r.ki = 5)) ∨ (r.ow ≠ [] ∧ r.ki = 1)
abbrev nmR (r : Rcd) : Prop := nameL r.id = true ∧ (r.ow = [] ∨ nameL r.ow = true)
section
variable {r : Rcd}
theorem cr4 (h : r.ki < 1 ∨ 5 < r.ki) : 4 = checkRecL r := by unfold checkRecL; rw [if_pos h]
theorem cr5 (a1 : ¬ (r.ki < 1 ∨ 5 < r.ki)) (h : ¬ nmR r) : 5 = checkRecL r := by unfold checkRecL; rw [if_neg a1, if_pos h]
theorem cr12 (a1 : ¬ (r.ki < 1 ∨ 5 < r.ki)) (a2 : nmR r) (h : clR r) : 12 = checkRecL r := by unfold checkRecL; rw [if_neg a1, if_neg (fun x => x a2), if_pos h]
theorem cr1 (a1 : ¬ (r.ki < 1 ∨ 5 < r.ki)) (a2 : nmR r) (a3 : ¬ clR r) (h : ¬ (0 ≤ r.ti ∧ r.ti ≤ 253402300799)) : 1 = checkRecL r := by unfold checkRecL; rw [if_neg a1, if_neg (fun x => x a2), if_neg a3, if_pos h]
theorem cr3 (a1 : ¬ (r.ki < 1 ∨ 5 < r.ki)) (a2 : nmR r) (a3 : ¬ clR r) (a4 : 0 ≤ r.ti ∧ r.ti ≤ 253402300799) (h : ¬ targetL r.ke = true) : 3 = checkRecL r := by unfold checkRecL; rw [if_neg a1, if_neg (fun x => x a2), if_neg a3, if_neg (fun x => x a4), if_pos h]
theorem cr2 (a1 : ¬ (r.ki < 1 ∨ 5 < r.ki)) (a2 : nmR r) (a3 : ¬ clR r) (a4 : 0 ≤ r.ti ∧ r.ti ≤ 253402300799) (a5 : targetL r.ke = true) (h : 30 < r.hd.length) : 2 = checkRecL r := by unfold checkRecL; rw [if_neg a1, if_neg (fun x => x a2), if_neg a3, if_neg (fun x => x a4), if_neg (fun x => x a5), if_pos h]
theorem crh (a1 : ¬ (r.ki < 1 ∨ 5 < r.ki)) (a2 : nmR r) (a3 : ¬ clR r) (a4 : 0 ≤ r.ti ∧ r.ti ≤ 253402300799) (a5 : targetL r.ke = true) (a6 : ¬ 30 < r.hd.length) (h : ¬ checkHeadsL r.hd = 0) : checkHeadsL r.hd = checkRecL r := by unfold checkRecL; rw [if_neg a1, if_neg (fun x => x a2), if_neg a3, if_neg (fun x => x a4), if_neg (fun x => x a5), if_neg a6, if_pos h]
theorem crR (a1 : ¬ (r.ki < 1 ∨ 5 < r.ki)) (a2 : nmR r) (a3 : ¬ clR r) (a4 : 0 ≤ r.ti ∧ r.ti ≤ 253402300799) (a5 : targetL r.ke = true) (a6 : ¬ 30 < r.hd.length) (a7 : checkHeadsL r.hd = 0) : checkRecL r = if ownL r.hd = true then 12 else if 200000 < r.bd.length then 2 else if 0 < r.bd.length ∧ r.ki = 4 then 3 else 0 := by unfold checkRecL; rw [if_neg a1, if_neg (fun x => x a2), if_neg a3, if_neg (fun x => x a4), if_neg (fun x => x a5), if_neg a6, if_neg (fun x => x a7)]
end
def ckCheckRec : Ck
  | [x] => some (isC cRec x ∧ recOk (cRec.dec x), .int .i64 (checkRecL (cRec.dec x)))
  | _ => none
theorem conCheckRec : Con pg 22 ckCheckRec := by
  have hct := (ctA_ok conIsName (ctA_ok conIsMoment (ctA_ok conIsKey (ctA_ok conCheckHeads (ctA_ok conOwn (ctA_ok conSmallA (ctA_ok conHasStr (ctN_ok _))))))))
  intro args q r h hq
  unfold ckCheckRec at h
  split at h
  · cases h
    rename_i x
    refine pcall_args (args' := [cRec.enc (cRec.dec x)]) ⟨hq.1, trivial⟩ ?_
    obtain ⟨-, ha⟩ := hq
    generalize cRec.dec x = r at ha ⊢
    refine w22 (fun _ => false) [] rfl hct rfl rfl ?_
    push_cast (config := { maxSteps := 10000000 })
    have q1 := ha.2.1
    have q2 := ha.2.2.1
    have q3 := ha.2.2.2.1
    refine ⟨fun h => cr4 h, fun g => ⟨by omega, fun h => ⟨h, by omega⟩, fun h => ⟨h, fun h' => ⟨h, h'⟩⟩, fun h => ?_, fun h => ?_⟩⟩
    · refine cr5 (by omega) fun x => ?_
      rcases h with h | h
      · rw [x.1] at h; cases h
      · rcases x.2 with y | y
        · exact h.1 y
        · rw [y] at h; cases h.2
    have a1 : ¬ (r.ki < 1 ∨ 5 < r.ki) := by omega
    have a2 : nmR r := ⟨h.1, by
      by_cases e : r.ow = []
      · exact .inl e
      · exact .inr (h.2 e)⟩
    refine ⟨fun e1 => ⟨fun _ => cr12 a1 a2 (.inl e1), fun x => absurd e1 x⟩, fun e1 => ⟨fun e => ⟨e, fun e' => ⟨e, e'⟩⟩, fun e2 => ⟨fun _ => cr12 a1 a2 (.inr (.inl e2)), fun x => by rcases e2.2 with y | y; exact absurd y (x e2.1).1; exact absurd y (x e2.1).2⟩, fun e2 => ⟨fun e3 => cr12 a1 a2 (.inr (.inr e3)), fun e3 => ?_⟩⟩⟩
    have a3 : ¬ clR r := fun x => by
      rcases x with x | x | x
      · exact e1 x
      · rcases x.2 with y | y
        · exact (e2 x.1).1 y
        · exact (e2 x.1).2 y
      · exact e3 x.1 x.2
    refine ⟨fun h => cr1 a1 a2 a3 (fun x => h x.1 x.2), fun a4 => ⟨by omega, fun h => cr3 a1 a2 a3 a4 (by rw [h]; simp), fun a5 => ⟨fun h => cr2 a1 a2 a3 a4 a5 (by omega), fun h6 => ⟨ha.1, fun h => crh a1 a2 a3 a4 a5 (by omega) h, fun a7 => ?_⟩⟩⟩⟩
    have hR := crR a1 a2 a3 a4 a5 (by omega) a7
    rw [hR]
    refine LoopW.adj ⟨hct, fol⟩ (by kernel_rfl) [] (fun i : Nat => [(1, .ptr 1 0), (80, .sl r.hd.length (lsF cHd r.hd)), (81, .int .i64 r.hd.length), (82, .int .i64 i)]) (fun _ => [(1, .cells [.int .i64 r.ki, .str r.id, .str r.ow, .int .i64 r.ti, .str r.ke, .sl r.hd.length (lsF cHd r.hd), .sl r.bd.length (byF r.bd)])]) (fun i => i ≤ r.hd.length ∧ ∀ j, j < i → ownW.contains (lowL (r.hd.getD j ⟨[], []⟩).name) = false) (fun i => r.hd.length - i) 0 ?_ fun i hi => ?_
    · push_cast (config := { maxSteps := 10000000 })
      exact Nat.zero_le _
    · push_cast (config := { maxSteps := 10000000 })
      obtain ⟨i1, i2⟩ := hi
      rw [show lsOf cStr 7 (lsF cStr ownW) = ownW from lsOf_ls ownW]
      refine ⟨fun h => ⟨h, (hdsOk_at ha.1 h).1, isLs_ls ownW, fun h5 => ?_, fun h5 => ⟨⟨by omega, by omega⟩, i + 1, ⟨by omega, fun j hj => ?_⟩, by omega, by omega⟩⟩, fun h => ?_⟩
      · have : ownL r.hd = true := by
          unfold ownL
          rw [List.any_eq_true]
          refine ⟨r.hd.getD i ⟨[], []⟩, ?_, h5⟩
          rw [List.getD_eq_getElem?_getD, List.getElem?_eq_getElem h]; exact List.getElem_mem h
        rw [if_pos this]
      · by_cases e : j = i
        · subst e; exact h5
        · exact i2 j (by omega)
      · have : ownL r.hd = false := by
          unfold ownL
          rw [List.any_eq_false]
          intro x hx
          obtain ⟨j, hj, rfl⟩ := List.getElem_of_mem hx
          have h5 := i2 j (by omega)
          rw [List.getD_eq_getElem?_getD, List.getElem?_eq_getElem hj] at h5
          simp only [Option.getD_some] at h5
          rw [h5]; simp
        rw [if_neg (by rw [this]; simp)]
        exact ⟨fun g => by rw [if_pos (by omega)], fun g => ⟨fun g2 => by rw [if_neg (by omega), if_pos ⟨by omega, g2.1⟩], fun g2 => by rw [if_neg (by omega), if_neg (fun x => g2 x.2 (by omega))]⟩⟩
  · cases h
attribute [push_cast] ckCheckRec
/- record.write behind bytes that are there already: their row is block 12 of the caller's, 9012 here -/
def ckLineKb : List V → List Blk → Option (Prop × V × List Blk)
  | [.str a, .str v, .ptr 2 0], [.cells [.vec 9012 n], .vec 1 k g] => some (k = n ∧ isBy n g ∧ n ≤ 100000000 ∧ a.length ≤ 100000000 ∧ v.length ≤ 100000000, .tup [], [.cells [.vec 9012 (catL (bytesOf n g) a v).length], .vec 1 (catL (bytesOf n g) a v).length (byF (catL (bytesOf n g) a v))])
  | _, _ => none
def ckLine6b : Cf := ⟨fun | [_, _, .ptr 2 _] => [2, 9012] | _ => [], ckLineKb⟩
theorem conLine6b : FCon pg 26 ckLine6b := by
  have hct := ctN_ok pg
  intro args bs q r bs' h hq
  replace h : ckLineKb args bs = some (q, r, bs') := h
  unfold ckLineKb at h
  split at h
  · cases h
    rename_i a v n k g
    refine ⟨rfl, Nat.le_refl _, ?_⟩
    obtain ⟨rfl, hg, hk, ha, hv⟩ := hq
    show FCall pg 26 [.str a, .str v, .ptr 9002 0] [(9002, .cells [.vec 18012 k]), (18012, .vec 1 k fun i => V.shift (g i))] (.tup []) [(9002, .cells [.vec 18012 (catL (bytesOf k g) a v).length]), (18012, .vec 1 (catL (bytesOf k g) a v).length (byF (catL (bytesOf k g) a v)))]
    refine fcall_blk (hm := [(9002, .cells [.vec 18012 k]), (18012, .vec 1 k (byF (bytesOf k g)))]) ⟨rfl, ⟨⟨rfl, rfl⟩, trivial⟩, rfl, ⟨rfl, rfl, fun j hj => by show V.shift (g j) = _; rw [hg.2 j hj]; rfl⟩, trivial⟩ ?_
    have hl := bytesOf_len k g
    generalize bytesOf k g = b at hl ⊢
    subst hl
    refine fw26 (fun _ => false) [] rfl hct rfl (by simp) (by simp [hlIn, idsIn, Blk.menIn, V.menInL, V.menIn, V.flat, byF, lsF]) (by simp [V.menIn, V.menInL, idsIn]) ?_
    push_cast (config := { maxSteps := 10000000 })
    have hll : (lnB2 a v).length = a.length + 2 + v.length + 2 := by simp [lnB2]; omega
    have hcl := catL_len b a v
    have app := ByI.app (ByI.by b) (ByI.by (lnB2 a v)) rfl
    rw [hll] at app
    exact ⟨by omega, by omega, by omega, ⟨by omega, by omega⟩, by omega, by omega, app.2⟩
  · cases h
@[push_cast] theorem line6_idsb (x y : V) (o : Nat) : ckLine6b.ids [x, y, .ptr 2 o] = [2, 9012] := rfl
@[push_cast] theorem line6_kb (a v : List UInt8) (n k : Nat) (g : Nat → V) : ckLine6b.k [.str a, .str v, .ptr 2 0] [.cells [.vec 9012 n], .vec 1 k g] = some (k = n ∧ isBy n g ∧ n ≤ 100000000 ∧ a.length ≤ 100000000 ∧ v.length ≤ 100000000, .tup [], [.cells [.vec 9012 (catL (bytesOf n g) a v).length], .vec 1 (catL (bytesOf n g) a v).length (byF (catL (bytesOf n g) a v))]) := rfl
@[push_cast] theorem keptB_by (B : List UInt8) : bytesOf (B.length + 8) (appF B.length (byF B) (byF [75, 69, 80, 84, 47, 49, 13, 10])) = B ++ [75, 69, 80, 84, 47, 49, 13, 10] := (ByI.app (ByI.by B) (ByI.by [75, 69, 80, 84, 47, 49, 13, 10]) rfl).bytes
@[push_cast] theorem keptB_is (B : List UInt8) : isBy (B.length + 8) (appF B.length (byF B) (byF [75, 69, 80, 84, 47, 49, 13, 10])) = True := eq_true (ByI.app (ByI.by B) (ByI.by [75, 69, 80, 84, 47, 49, 13, 10]) rfl).is
theorem catL_B (B L a v : List UInt8) : catL (B ++ L) a v = B ++ catL L a v := by simp [catL]
theorem recP_owB (B : List UInt8) {r : Rcd} (h : ¬ r.ow = []) : catL (catL (catL (catL (catL (B ++ [75, 69, 80, 84, 47, 49, 13, 10]) [105, 100] r.id) [111, 102] r.ow) [107, 105, 110, 100] (kindW.getD (r.ki - 1).toNat [])) [100, 97, 116, 101] (dateTextL r.ti)) [107, 101, 121] r.ke = B ++ recP r := by
  rw [← recP_ow h]; simp only [catL_B]
theorem recP_noB (B : List UInt8) {r : Rcd} (h : r.ow = []) : catL (catL (catL (catL (B ++ [75, 69, 80, 84, 47, 49, 13, 10]) [105, 100] r.id) [107, 105, 110, 100] (kindW.getD (r.ki - 1).toNat [])) [100, 97, 116, 101] (dateTextL r.ti)) [107, 101, 121] r.ke = B ++ recP r := by
  rw [← recP_no h]; simp only [catL_B]
def ckWriteVK : List V → List Blk → Option (Prop × V × List Blk)
  | [.vec 12 n, .agg [.int .i64 ki, .str id, .str ow, .int .i64 ti, .str ke, .sl hn hf, .sl bn bf]], [.vec 1 k g] => some (k = n ∧ isBy n g ∧ n ≤ 50000000 ∧ isLs cHd hn hf ∧ isBy bn bf ∧ recOk ⟨ki, id, ow, ti, ke, lsOf cHd hn hf, bytesOf bn bf⟩ ∧ checkRecL ⟨ki, id, ow, ti, ke, lsOf cHd hn hf, bytesOf bn bf⟩ = 0, .vec 12 (bytesOf n g ++ recB ⟨ki, id, ow, ti, ke, lsOf cHd hn hf, bytesOf bn bf⟩).length, [.vec 1 (bytesOf n g ++ recB ⟨ki, id, ow, ti, ke, lsOf cHd hn hf, bytesOf bn bf⟩).length (byF (bytesOf n g ++ recB ⟨ki, id, ow, ti, ke, lsOf cHd hn hf, bytesOf bn bf⟩))])
  | _, _ => none
def ckWriteV : Cf := ⟨fun | [.vec 12 _, _] => [12] | _ => [], ckWriteVK⟩
theorem conWriteV : FCon pg 14 ckWriteV := by
  have hct := (ctF_ok conLine6b (ctA_ok conKinds (ctA_ok conDateText (ctA_ok conItoa (ctA_ok conDigest (ctN_ok _))))))
  intro args bs q r bs' h hq
  replace h : ckWriteVK args bs = some (q, r, bs') := h
  unfold ckWriteVK at h
  split at h
  · cases h
    rename_i n ki id ow ti ke hn hf bn bf k g
    refine ⟨rfl, by first | exact Nat.le_refl _ | exact Nat.zero_le _, ?_⟩
    obtain ⟨rfl, hg, hk, h1, h2, ha, hc⟩ := hq
    show FCall pg 14 [.vec 9012 k, .agg [.int .i64 ki, .str id, .str ow, .int .i64 ti, .str ke, .sl hn hf, .sl bn bf]] [(9012, .vec 1 k fun i => V.shift (g i))] (.vec 9012 (bytesOf k g ++ recB ⟨ki, id, ow, ti, ke, lsOf cHd hn hf, bytesOf bn bf⟩).length) [(9012, .vec 1 (bytesOf k g ++ recB ⟨ki, id, ow, ti, ke, lsOf cHd hn hf, bytesOf bn bf⟩).length (byF (bytesOf k g ++ recB ⟨ki, id, ow, ti, ke, lsOf cHd hn hf, bytesOf bn bf⟩)))]
    refine fcall_blk (hm := [(9012, .vec 1 (bytesOf k g).length (byF (bytesOf k g)))]) ⟨rfl, ⟨rfl, (bytesOf_len k g).symm, fun j hj => by show V.shift (g j) = _; rw [hg.2 j hj]; rfl⟩, trivial⟩ ?_
    refine fcall_args (args' := [.vec 9012 (bytesOf k g).length, cRec.enc ⟨ki, id, ow, ti, ke, lsOf cHd hn hf, bytesOf bn bf⟩]) ⟨VLe.of_eq (by rw [bytesOf_len]), isC_rec h1 h2, trivial⟩ ?_
    have hB : (bytesOf k g).length ≤ 50000000 := by rw [bytesOf_len]; exact hk
    generalize bytesOf k g = B at hB ⊢
    generalize (⟨ki, id, ow, ti, ke, lsOf cHd hn hf, bytesOf bn bf⟩ : Rcd) = r at ha hc ⊢
    refine fw14 (fun d => decide (d = 10006)) [] rfl hct rfl (by simp) (by simp [hlIn, idsIn, Blk.menIn, V.menInL, V.menIn, V.flat, byF, lsF]) (by simp [V.menIn, V.menInL, idsIn]) ?_
    push_cast (config := { maxSteps := 10000000 })
    obtain ⟨z1, z2, z3, z4, z5, z6, z7⟩ := rec_sz hc
    obtain ⟨y1, y2, y3, y4, y5, y6, y7, y8, y9, y10⟩ := rec_ok hc
    have zk := kindW_le (r.ki - 1).toNat
    have zp := recP_le hc
    have c8 : ([75, 69, 80, 84, 47, 49, 13, 10] : List UInt8).length = 8 := rfl
    have c2 : ([105, 100] : List UInt8).length = 2 := rfl
    rw [if_pos ⟨y5, y6⟩]
    refine ⟨⟨by omega, by omega⟩, ⟨by omega, by omega⟩, fun how => ?_, fun how => ?_⟩
    · have hP := recP_owB B how
      refine ⟨⟨by simp only [catL_len, List.length_append, List.length_cons, List.length_nil]; omega, by omega⟩, ⟨by omega, by omega⟩, ⟨by omega, by omega⟩, ⟨by simp only [catL_len, List.length_append, List.length_cons, List.length_nil]; omega, by omega⟩, ⟨by omega, by omega⟩, ⟨by simp only [catL_len, List.length_append, List.length_cons, List.length_nil]; omega, by omega⟩, ⟨by simp only [catL_len, List.length_append, List.length_cons, List.length_nil]; omega, by omega⟩, ?_⟩
      generalize catL (catL (catL (catL (catL (B ++ [75, 69, 80, 84, 47, 49, 13, 10]) [105, 100] r.id) [111, 102] r.ow) [107, 105, 110, 100] (kindW.getD (r.ki - 1).toNat [])) [100, 97, 116, 101] (dateTextL r.ti)) [107, 101, 121] r.ke = P at hP ⊢
      refine LoopW.adj ⟨hct, fol⟩ (by kernel_rfl) [] (fun t : Nat × List UInt8 => [(2, .ptr 2 0), (3, .ptr 3 0), (5, .fn (.func 26) [] [.ptr 2 0]), (46, .sl r.hd.length (lsF cHd r.hd)), (47, .int .i64 r.hd.length), (48, .int .i64 t.1)]) (fun t => [(2, .cells [.vec 9012 t.2.length]), (9012, .vec 1 t.2.length (byF t.2)), (3, .cells [.int .i64 r.ki, .str r.id, .str r.ow, .int .i64 r.ti, .str r.ke, .sl r.hd.length (lsF cHd r.hd), .sl r.bd.length (byF r.bd)])]) (fun t => t.1 ≤ r.hd.length ∧ t.2 ++ headsB (r.hd.drop t.1) = (B ++ recP r) ++ headsB r.hd) (fun t => r.hd.length - t.1) (0, P) ?_ fun t ht => ?_
      · push_cast (config := { maxSteps := 10000000 })
        exact ⟨Nat.zero_le _, congrArg (· ++ headsB r.hd) hP⟩
      · obtain ⟨i, o⟩ := t
        obtain ⟨i1, i2⟩ : i ≤ r.hd.length ∧ o ++ headsB (r.hd.drop i) = (B ++ recP r) ++ headsB r.hd := ht
        have hl := congrArg List.length i2
        simp only [List.length_append] at hl
        push_cast (config := { maxSteps := 10000000 })
        refine ⟨fun h => ?_, fun h => ?_⟩
        · have e := dropG (d := ⟨[], []⟩) h
          rw [e, headsB] at i2 hl
          have hx : (headB (r.hd.getD i ⟨[], []⟩)).length = (r.hd.getD i ⟨[], []⟩).name.length + 2 + (r.hd.getD i ⟨[], []⟩).value.length + 2 := by simp [headB]; omega
          simp only [List.length_append] at hl
          exact ⟨h, ⟨by omega, by omega, by omega⟩, ⟨by omega, by omega⟩, (i + 1, catL o (r.hd.getD i ⟨[], []⟩).name (r.hd.getD i ⟨[], []⟩).value), ⟨by show i + 1 ≤ r.hd.length; omega, by rw [← i2]; simp [catL, lnB2, headB]⟩, by show r.hd.length - (i + 1) < r.hd.length - i; omega, by show (i : Int) + 1 = ((i + 1 : Nat) : Int); omega, rfl, rfl, fun _ _ => rfl⟩
        · rw [List.drop_eq_nil_of_le (by omega)] at i2 hl
          simp only [headsB, List.append_nil, List.length_nil, Nat.add_zero] at i2 hl
          have hi6 := itoa_len (n := r.bd.length) (by omega)
          have hdg : (digestL r.bd).length = 16 := hex16_len _
          have hq1 := catL_len o [108, 101, 110, 103, 116, 104] (Lib.itoa r.bd.length)
          have hq2 := catL_len (catL o [108, 101, 110, 103, 116, 104] (Lib.itoa r.bd.length)) [100, 105, 103, 101, 115, 116] (digestL r.bd)
          have cl1 : ([108, 101, 110, 103, 116, 104] : List UInt8).length = 6 := rfl
          have cl2 : ([100, 105, 103, 101, 115, 116] : List UInt8).length = 6 := rfl
          have eq : catL (catL o [108, 101, 110, 103, 116, 104] (Lib.itoa r.bd.length)) [100, 105, 103, 101, 115, 116] (digestL r.bd) ++ [13, 10] ++ r.bd ++ [13, 10, 13, 10] = B ++ recB r := by
            rw [i2]; simp [recB, recQ, catL]
          generalize catL (catL o [108, 101, 110, 103, 116, 104] (Lib.itoa r.bd.length)) [100, 105, 103, 101, 115, 116] (digestL r.bd) = Q at hq2 eq ⊢
          have app : ByI (Q.length + 2 + r.bd.length + 4) (appF (Q.length + 2 + r.bd.length) (appF (Q.length + 2) (appF Q.length (byF Q) (byF [13, 10])) (byF r.bd)) (byF [13, 10, 13, 10])) (B ++ recB r) := (ByI.app (ByI.app (ByI.app (ByI.by Q) (ByI.by [13, 10]) rfl) (ByI.by r.bd) rfl) (ByI.by [13, 10, 13, 10]) rfl).eq eq
          exact ⟨⟨by omega, by omega⟩, ⟨by omega, by omega⟩, by omega, ⟨by omega, by omega⟩, ⟨by omega, by omega⟩, ⟨by omega, by omega⟩, ⟨by omega, by omega⟩, app.1.trans List.length_append, app.1.trans List.length_append, app.2⟩
    · have hP := recP_noB B how
      refine ⟨⟨by omega, by omega⟩, ⟨by omega, by omega⟩, ⟨by simp only [catL_len, List.length_append, List.length_cons, List.length_nil]; omega, by omega⟩, ⟨by omega, by omega⟩, ⟨by simp only [catL_len, List.length_append, List.length_cons, List.length_nil]; omega, by omega⟩, ⟨by simp only [catL_len, List.length_append, List.length_cons, List.length_nil]; omega, by omega⟩, ?_⟩
      generalize catL (catL (catL (catL (B ++ [75, 69, 80, 84, 47, 49, 13, 10]) [105, 100] r.id) [107, 105, 110, 100] (kindW.getD (r.ki - 1).toNat [])) [100, 97, 116, 101] (dateTextL r.ti)) [107, 101, 121] r.ke = P at hP ⊢
      refine LoopW.adj ⟨hct, fol⟩ (by kernel_rfl) [] (fun t : Nat × List UInt8 => [(2, .ptr 2 0), (3, .ptr 3 0), (5, .fn (.func 26) [] [.ptr 2 0]), (46, .sl r.hd.length (lsF cHd r.hd)), (47, .int .i64 r.hd.length), (48, .int .i64 t.1)]) (fun t => [(2, .cells [.vec 9012 t.2.length]), (9012, .vec 1 t.2.length (byF t.2)), (3, .cells [.int .i64 r.ki, .str r.id, .str r.ow, .int .i64 r.ti, .str r.ke, .sl r.hd.length (lsF cHd r.hd), .sl r.bd.length (byF r.bd)])]) (fun t => t.1 ≤ r.hd.length ∧ t.2 ++ headsB (r.hd.drop t.1) = (B ++ recP r) ++ headsB r.hd) (fun t => r.hd.length - t.1) (0, P) ?_ fun t ht => ?_
      · push_cast (config := { maxSteps := 10000000 })
        exact ⟨Nat.zero_le _, congrArg (· ++ headsB r.hd) hP⟩
      · obtain ⟨i, o⟩ := t
        obtain ⟨i1, i2⟩ : i ≤ r.hd.length ∧ o ++ headsB (r.hd.drop i) = (B ++ recP r) ++ headsB r.hd := ht
        have hl := congrArg List.length i2
        simp only [List.length_append] at hl
        push_cast (config := { maxSteps := 10000000 })
        refine ⟨fun h => ?_, fun h => ?_⟩
        · have e := dropG (d := ⟨[], []⟩) h
          rw [e, headsB] at i2 hl
          have hx : (headB (r.hd.getD i ⟨[], []⟩)).length = (r.hd.getD i ⟨[], []⟩).name.length + 2 + (r.hd.getD i ⟨[], []⟩).value.length + 2 := by simp [headB]; omega
          simp only [List.length_append] at hl
          exact ⟨h, ⟨by omega, by omega, by omega⟩, ⟨by omega, by omega⟩, (i + 1, catL o (r.hd.getD i ⟨[], []⟩).name (r.hd.getD i ⟨[], []⟩).value), ⟨by show i + 1 ≤ r.hd.length; omega, by rw [← i2]; simp [catL, lnB2, headB]⟩, by show r.hd.length - (i + 1) < r.hd.length - i; omega, by show (i : Int) + 1 = ((i + 1 : Nat) : Int); omega, rfl, rfl, fun _ _ => rfl⟩
        · rw [List.drop_eq_nil_of_le (by omega)] at i2 hl
          simp only [headsB, List.append_nil, List.length_nil, Nat.add_zero] at i2 hl
          have hi6 := itoa_len (n := r.bd.length) (by omega)
          have hdg : (digestL r.bd).length = 16 := hex16_len _
          have hq1 := catL_len o [108, 101, 110, 103, 116, 104] (Lib.itoa r.bd.length)
          have hq2 := catL_len (catL o [108, 101, 110, 103, 116, 104] (Lib.itoa r.bd.length)) [100, 105, 103, 101, 115, 116] (digestL r.bd)
          have cl1 : ([108, 101, 110, 103, 116, 104] : List UInt8).length = 6 := rfl
          have cl2 : ([100, 105, 103, 101, 115, 116] : List UInt8).length = 6 := rfl
          have eq : catL (catL o [108, 101, 110, 103, 116, 104] (Lib.itoa r.bd.length)) [100, 105, 103, 101, 115, 116] (digestL r.bd) ++ [13, 10] ++ r.bd ++ [13, 10, 13, 10] = B ++ recB r := by
            rw [i2]; simp [recB, recQ, catL]
          generalize catL (catL o [108, 101, 110, 103, 116, 104] (Lib.itoa r.bd.length)) [100, 105, 103, 101, 115, 116] (digestL r.bd) = Q at hq2 eq ⊢
          have app : ByI (Q.length + 2 + r.bd.length + 4) (appF (Q.length + 2 + r.bd.length) (appF (Q.length + 2) (appF Q.length (byF Q) (byF [13, 10])) (byF r.bd)) (byF [13, 10, 13, 10])) (B ++ recB r) := (ByI.app (ByI.app (ByI.app (ByI.by Q) (ByI.by [13, 10]) rfl) (ByI.by r.bd) rfl) (ByI.by [13, 10, 13, 10]) rfl).eq eq
          exact ⟨⟨by omega, by omega⟩, ⟨by omega, by omega⟩, by omega, ⟨by omega, by omega⟩, ⟨by omega, by omega⟩, ⟨by omega, by omega⟩, ⟨by omega, by omega⟩, app.1.trans List.length_append, app.1.trans List.length_append, app.2⟩
  · cases h
attribute [push_cast] ckWriteVK
@[push_cast] theorem writeV_ids (n : Nat) (x : V) : ckWriteV.ids [.vec 12 n, x] = [12] := rfl
@[push_cast] theorem writeV_k (n k hn bn : Nat) (ki ti : Int) (id ow ke : List UInt8) (g hf bf : Nat → V) : ckWriteV.k [.vec 12 n, .agg [.int .i64 ki, .str id, .str ow, .int .i64 ti, .str ke, .sl hn hf, .sl bn bf]] [.vec 1 k g] = some (k = n ∧ isBy n g ∧ n ≤ 50000000 ∧ isLs cHd hn hf ∧ isBy bn bf ∧ recOk ⟨ki, id, ow, ti, ke, lsOf cHd hn hf, bytesOf bn bf⟩ ∧ checkRecL ⟨ki, id, ow, ti, ke, lsOf cHd hn hf, bytesOf bn bf⟩ = 0, .vec 12 (bytesOf n g ++ recB ⟨ki, id, ow, ti, ke, lsOf cHd hn hf, bytesOf bn bf⟩).length, [.vec 1 (bytesOf n g ++ recB ⟨ki, id, ow, ti, ke, lsOf cHd hn hf, bytesOf bn bf⟩).length (byF (bytesOf n g ++ recB ⟨ki, id, ow, ti, ke, lsOf cHd hn hf, bytesOf bn bf⟩))]) := rfl

def ckCheckFile : Ck
  | [.sl n f] => some (isLs cRec n f ∧ recsOk (lsOf cRec n f), .int .i64 (checkFileL (lsOf cRec n f)))
  | _ => none
theorem conCheckFile : Con pg 12 ckCheckFile := by
  have hct := (ctA_ok conCheckRec (ctA_ok conWrite (ctN_ok _)))
  intro args q r h hq
  unfold ckCheckFile at h
  split at h
  · cases h
    rename_i n f
    refine pcall_args (args' := [.sl (lsOf cRec n f).length (lsF cRec (lsOf cRec n f))]) ⟨isLs.vle hq.1, trivial⟩ ?_
    obtain ⟨-, hl⟩ := hq
    generalize lsOf cRec n f = l at hl ⊢
    refine w12 (fun _ => false) [] rfl hct rfl rfl ?_
    push_cast (config := { maxSteps := 10000000 })
    refine ⟨fun h => by unfold checkFileL; rw [if_pos (by omega)], fun h => ?_⟩
    have e0 : checkFileL l = cfGo [] 0 l := by unfold checkFileL; rw [if_neg (by omega)]
    rw [e0]
    refine LoopW.adj ⟨hct, fol⟩ (by kernel_rfl) [] (fun t : Nat × Int => [(3, .map 11), (4, .int .i64 t.2), (12, .sl l.length (lsF cRec l)), (13, .int .i64 l.length), (14, .int .i64 t.1)]) (fun t => [(11, .mp .str (seenM ((l.take t.1).map Rcd.id)))]) (fun t => t.1 ≤ l.length ∧ 0 ≤ t.2 ∧ t.2 ≤ t.1 * 400000 ∧ cfGo ((l.take t.1).map Rcd.id) t.2 (l.drop t.1) = cfGo [] 0 l) (fun t => l.length - t.1) (0, 0) ?_ fun t ht => ?_
    · push_cast (config := { maxSteps := 10000000 })
      exact ⟨Nat.zero_le _, seen_nil⟩
    · obtain ⟨i, m⟩ := t
      obtain ⟨h1, h2, h3, h4⟩ : i ≤ l.length ∧ 0 ≤ m ∧ m ≤ i * 400000 ∧ cfGo ((l.take i).map Rcd.id) m (l.drop i) = cfGo [] 0 l := ht
      push_cast (config := { maxSteps := 10000000 })
      refine ⟨fun hi => ?_, fun hi => ?_⟩
      · rw [dropG (d := noRec) hi, cfGo] at h4
        have ea := cf_app hi
        have ok := recsOk_at hl hi
        generalize l.getD i noRec = r at *
        refine ⟨hi, ok, fun g => ?_, fun g => ⟨fun g2 => ?_, fun g2 => ⟨⟨ok, g⟩, ?_⟩⟩⟩
        · rw [if_pos g] at h4; exact h4
        · rw [if_neg (fun x => x g), if_pos g2] at h4; exact h4
        · rw [if_neg (fun x => x g), if_neg (by rw [g2]; simp)] at h4
          have hb := recB_le g
          exact ⟨⟨by omega, by omega⟩, ⟨by omega, by omega⟩, ((i + 1, m + (recB r).length) : Nat × Int), ⟨by show i + 1 ≤ _; omega, by show 0 ≤ m + _; omega, by show m + _ ≤ ((i + 1 : Nat) : Int) * 400000; omega, by rw [ea]; exact h4⟩, by show l.length - (i + 1) < l.length - i; omega, ⟨rfl, by show (i : Int) + 1 = ((i + 1 : Nat) : Int); omega⟩, fun k => by rw [putM_seen, ← ea]⟩
      · rw [List.drop_eq_nil_of_le (by omega), cfGo] at h4
        exact ⟨fun g => by rw [if_pos g] at h4; exact h4, fun g => by rw [if_neg g] at h4; exact h4⟩
  · cases h
attribute [push_cast] ckCheckFile
def fileR (l : List Rcd) : List UInt8 := if checkFileL l = 0 then fileB l else []
def ckFileBytes : Ck
  | [.sl n f] => some (isLs cRec n f ∧ recsOk (lsOf cRec n f), .tup [.sl (fileR (lsOf cRec n f)).length (byF (fileR (lsOf cRec n f))), .int .i64 (checkFileL (lsOf cRec n f))])
  | _ => none
theorem conFileBytes : Con pg 7 ckFileBytes := by
  have hct := (ctA_ok conCheckFile (ctF_ok conWriteV (ctN_ok _)))
  intro args q r h hq
  unfold ckFileBytes at h
  split at h
  · cases h
    rename_i n f
    refine pcall_args (args' := [.sl (lsOf cRec n f).length (lsF cRec (lsOf cRec n f))]) ⟨isLs.vle hq.1, trivial⟩ ?_
    obtain ⟨-, hl⟩ := hq
    generalize lsOf cRec n f = l at hl ⊢
    refine w7 (fun _ => false) [.frz 12] rfl hct rfl rfl ?_
    push_cast (config := { maxSteps := 10000000 })
    refine ⟨hl, fun h => by unfold fileR; rw [if_neg h]; rfl, fun h => ?_⟩
    have e0 : fileR l = fileB l := by unfold fileR; rw [if_pos h]
    rw [e0]
    obtain ⟨c1, c2, c3⟩ := file_ok h
    refine LoopW.adj ⟨hct, fol⟩ (by kernel_rfl) [.nv 5 12 1 (byF [])] (fun t : Nat × List UInt8 => [(5, .vec 12 t.2.length), (13, .sl l.length (lsF cRec l)), (14, .int .i64 l.length), (15, .int .i64 t.1)]) (fun t => [(12, .vec 1 t.2.length (byF t.2))]) (fun t => t.1 ≤ l.length ∧ t.2 ++ fileB (l.drop t.1) = fileB l) (fun t => l.length - t.1) (0, []) ?_ fun t ht => ?_
    · push_cast (config := { maxSteps := 10000000 })
      exact Nat.zero_le _
    · obtain ⟨i, o⟩ := t
      obtain ⟨h1, h2⟩ : i ≤ l.length ∧ o ++ fileB (l.drop i) = fileB l := ht
      have hlen := congrArg List.length h2
      simp only [List.length_append] at hlen
      push_cast (config := { maxSteps := 10000000 })
      refine ⟨fun hi => ?_, fun hi => ?_⟩
      · rw [dropG (d := noRec) hi, fileB] at h2
        have ok := recsOk_at hl hi
        have cr : checkRecL (l.getD i noRec) = 0 := by
          refine c1 _ ?_
          rw [List.getD_eq_getElem?_getD, List.getElem?_eq_getElem hi]; exact List.getElem_mem hi
        generalize l.getD i noRec = r at *
        exact ⟨hi, ⟨by omega, ok, cr⟩, ⟨by omega, by omega⟩, ((i + 1, o ++ recB r) : Nat × List UInt8), ⟨by show i + 1 ≤ _; omega, by show o ++ recB r ++ _ = _; rw [List.append_assoc]; exact h2⟩, by show l.length - (i + 1) < l.length - i; omega, ⟨by simp, by show (i : Int) + 1 = ((i + 1 : Nat) : Int); omega⟩, by simp, fun _ _ => rfl⟩
      · rw [List.drop_eq_nil_of_le (by omega), fileB, List.append_nil] at h2
        subst h2
        exact ⟨⟨rfl, fun _ _ => rfl⟩, h.symm⟩
  · cases h
attribute [push_cast] ckFileBytes

@[push_cast] theorem nvO_any (t d sz : Nat) (f : Nat → V) (s : St) : nvO t d sz f s .any = s := rfl
abbrev DvT := Option (List (List Rcd) × List Rcd × Int)
def dvR (m : Int) : DvT → List Rcd → List (List Rcd)
  | none, t => divOf m t
  | some (g, c, k), t => divGo m g c k t
def dvN : DvT → Nat
  | none => 0
  | some (g, _, _) => g.length + 1
def dvC : DvT → List Rcd
  | none => []
  | some (_, c, _) => c
def dvK : DvT → Int
  | none => 0
  | some (_, _, k) => k
def dvF (id : Nat) : DvT → Nat → V
  | none => lsF cFile []
  | some (g, c, _) => fun i => bif decide (i = g.length) then .vec id c.length else lsF cFile g i
section
variable (m k : Int) (g : List (List Rcd)) (c t : List Rcd) (id : Nat)
@[push_cast] theorem dvN_0 : dvN none = 0 := rfl
@[push_cast] theorem dvN_1 : dvN (some (g, c, k)) = g.length + 1 := rfl
@[push_cast] theorem dvC_0 : dvC none = [] := rfl
@[push_cast] theorem dvC_1 : dvC (some (g, c, k)) = c := rfl
@[push_cast] theorem dvK_0 : dvK none = 0 := rfl
@[push_cast] theorem dvK_1 : dvK (some (g, c, k)) = k := rfl
@[push_cast] theorem dvF_0 : dvF id none = lsF cFile [] := rfl
@[push_cast] theorem dvF_1 : dvF id (some (g, c, k)) = fun i => bif decide (i = g.length) then .vec id c.length else lsF cFile g i := rfl
@[push_cast] theorem dvR_0 : dvR m none t = divOf m t := rfl
@[push_cast] theorem dvR_1 : dvR m (some (g, c, k)) t = divGo m g c k t := rfl
end
@[push_cast] theorem toN1 (n : Nat) : ((n : Int) + 1 - 1).toNat = n := by omega
@[push_cast] theorem toN2 (n : Nat) : ((n : Int) + 1 + 1 - 1).toNat = n + 1 := by omega
@[push_cast] theorem appF_end (n : Nat) (f g : Nat → V) : appF n f g n = g 0 := by unfold appF; rw [decide_eq_false (Nat.lt_irrefl n), cond_false, Nat.sub_self]
theorem frz_own (id z n : Nat) (f : Nat → V) : frzV id z n f (.vec id n) = .sl n f := by simp [frzV]
theorem file_end (g : List (List Rcd)) (c : List Rcd) (i : Nat) (h : i < g.length + 1) : lsF cFile (g ++ [c]) i = if i = g.length then .sl c.length (lsF cRec c) else lsF cFile g i := by
  unfold lsF
  by_cases e : i = g.length
  · subst e; rw [if_pos rfl]; simp [cFile]; rfl
  · rw [if_neg e]
    show cFile.enc _ = cFile.enc _
    rw [List.getD_eq_getElem?_getD, List.getD_eq_getElem?_getD, List.getElem?_append_left (by omega)]
/-- the files, closed -/
theorem file_frz (g : List (List Rcd)) (c : List Rcd) (i : Nat) (h : i < g.length + 1) : frzV 8001 7 c.length (lsF cRec c) (bif decide (i = g.length) then V.vec 8001 c.length else lsF cFile g i) = lsF cFile (g ++ [c]) i := by
  rw [file_end g c i h]
  by_cases e : i = g.length
  · rw [if_pos e, decide_eq_true e, cond_true, frz_own]
  · rw [if_neg e, decide_eq_false e]; rfl
theorem div_end (m : Int) (g : List (List Rcd)) (c : List Rcd) (k : Int) : divGo m g c k [] = g ++ [c] := rfl
def ckDivided : Ck
  | [.sl n f, .int .i64 m] => some (isLs cRec n f ∧ recsOk (lsOf cRec n f), .tup [.sl (divL (lsOf cRec n f) m).length (lsF cFile (divL (lsOf cRec n f) m)), .int .i64 (divE (lsOf cRec n f) m)])
  | _ => none
theorem conDivided : Con pg 5 ckDivided := by
  have hct := (ctA_ok conCheckFile (ctA_ok conCopies (ctA_ok conWrite (ctN_ok _))))
  intro args q r h hq
  unfold ckDivided at h
  split at h
  · cases h
    rename_i n f m
    refine pcall_args (args' := [.sl (lsOf cRec n f).length (lsF cRec (lsOf cRec n f)), .int .i64 m]) ⟨isLs.vle hq.1, VLe.refl _, trivial⟩ ?_
    obtain ⟨-, hl⟩ := hq
    generalize lsOf cRec n f = l at hl ⊢
    refine w5 (fun _ => false) [.frz 8001,.frz 8000] rfl hct rfl rfl ?_
    push_cast (config := { maxSteps := 10000000 })
    refine ⟨hl, fun h => ?_, fun h => ⟨fun h1 => ?_, fun h1 => ?_⟩⟩
    · unfold divL divE
      rw [if_neg (fun x => h x.1), if_neg h]
      exact ⟨rfl, rfl⟩
    · unfold divL divE
      rw [if_neg (by omega), if_pos h, if_neg (by omega)]
      exact ⟨rfl, rfl⟩
    have eL : divL l m = divOf m l := by unfold divL; rw [if_pos ⟨h, by omega, by omega⟩]
    have eE : divE l m = 0 := by unfold divE; rw [if_pos h, if_pos (by omega)]
    rw [eL, eE]
    obtain ⟨c1, c2, c3⟩ := file_ok h
    refine ⟨⟨hl, fun r hr => by have := (rec_ok (c1 r hr)).2.2.2.2.2.2.2.1; omega, by omega⟩, ?_⟩
    refine LoopW.adj ⟨hct, fol⟩ (by kernel_rfl) [.nv 7 8000 1 (lsF cFile []), .nv 4 8001 7 (lsF cRec []), .frzIf 8001 58, .ren 58 8001] (fun t : Nat × DvT => [(1, .int .i64 m), (7, .vec 8000 (dvN t.2)), (8, .int .i64 (dvK t.2)), (25, .sl l.length (lsF cRec l)), (26, .int .i64 l.length), (27, .int .i64 t.1)]) (fun t => [(8000, .vec 1 (dvN t.2) (dvF 8001 t.2)), (8001, .vec 7 (dvC t.2).length (lsF cRec (dvC t.2)))]) (fun t => t.1 ≤ l.length ∧ 0 ≤ dvK t.2 ∧ dvK t.2 ≤ t.1 * 400000 ∧ dvN t.2 ≤ t.1 ∧ (dvC t.2).length ≤ t.1 ∧ dvR m t.2 (l.drop t.1) = divOf m l) (fun t => l.length - t.1) (0, none) ?_ fun t ht => ?_
    · push_cast (config := { maxSteps := 10000000 })
      exact Nat.zero_le _
    · obtain ⟨i, s⟩ := t
      obtain ⟨i1, i2, i3, i4, i5, i6⟩ : i ≤ l.length ∧ 0 ≤ dvK s ∧ dvK s ≤ i * 400000 ∧ dvN s ≤ i ∧ (dvC s).length ≤ i ∧ dvR m s (l.drop i) = divOf m l := ht
      rcases s with _ | ⟨g, c, k⟩
      · have i6 : divOf m (l.drop i) = divOf m l := i6
        push_cast (config := { maxSteps := 10000000 })
        refine ⟨fun hi => ?_, fun hi => ?_⟩
        · rw [dropG (d := noRec) hi] at i6
          have ok := recsOk_at hl hi
          have cr : checkRecL (l.getD i noRec) = 0 := c1 _ (by rw [List.getD_eq_getElem?_getD, List.getElem?_eq_getElem hi]; exact List.getElem_mem hi)
          generalize l.getD i noRec = r at *
          have hb := recB_le cr
          refine ⟨hi, ⟨ok, cr⟩, ⟨by omega, by omega⟩, ⟨by omega, by omega⟩, ((i + 1, some ([], [r], (recB r).length)) : Nat × DvT), ⟨by show i + 1 ≤ _; omega, by show (0 : Int) ≤ (recB r).length; omega, by show ((recB r).length : Int) ≤ ((i + 1 : Nat) : Int) * 400000; omega, by show 1 ≤ i + 1; omega, by show 1 ≤ i + 1; omega, i6⟩, by show l.length - (i + 1) < l.length - i; omega, ⟨rfl, by show 0 + ((recB r).length : Int) = (recB r).length; omega, by show (i : Int) + 1 = ((i + 1 : Nat) : Int); omega⟩, ⟨rfl, fun j hj => ?_⟩, rfl, fun j hj => ?_⟩
          all_goals obtain rfl : j = 0 := by omega
          · rfl
          · rfl
        · rw [List.drop_eq_nil_of_le (by omega)] at i6
          rw [← i6]; rfl
      · have i2 : 0 ≤ k := i2
        have i3 : k ≤ i * 400000 := i3
        have i4 : g.length + 1 ≤ i := i4
        have i5 : c.length ≤ i := i5
        have i6 : divGo m g c k (l.drop i) = divOf m l := i6
        push_cast (config := { maxSteps := 10000000 })
        refine ⟨fun hi => ?_, fun hi => ?_⟩
        · rw [dropG (d := noRec) hi, divGo] at i6
          have ok := recsOk_at hl hi
          have cr : checkRecL (l.getD i noRec) = 0 := c1 _ (by rw [List.getD_eq_getElem?_getD, List.getElem?_eq_getElem hi]; exact List.getElem_mem hi)
          generalize l.getD i noRec = r at *
          have hb := recB_le cr
          refine ⟨hi, ⟨ok, cr⟩, fun h0 => ⟨h0, by omega, by omega⟩, fun hx => ?_, fun hx => ?_⟩
          · rw [if_pos (by omega)] at i6
            refine ⟨⟨by omega, by omega⟩, ⟨by omega, by omega⟩, ⟨by omega, by omega⟩, by omega, ⟨by omega, by omega⟩, ⟨by omega, by omega⟩, by omega, ⟨by omega, by omega⟩, ((i + 1, some (g ++ [c], [r], (recB r).length)) : Nat × DvT), ⟨by show i + 1 ≤ _; omega, by show (0 : Int) ≤ (recB r).length; omega, by show ((recB r).length : Int) ≤ ((i + 1 : Nat) : Int) * 400000; omega, by show (g ++ [c]).length + 1 ≤ i + 1; simp; omega, by show 1 ≤ i + 1; omega, i6⟩, by show l.length - (i + 1) < l.length - i; omega, ⟨by show _ = (g ++ [c]).length + 1; simp, by show 0 + ((recB r).length : Int) = (recB r).length; omega, by show (i : Int) + 1 = ((i + 1 : Nat) : Int); omega⟩, ⟨by show _ = (g ++ [c]).length + 1; simp, fun j hj => ?_⟩, rfl, fun j hj => ?_⟩
            · show _ = bif decide (j = (g ++ [c]).length) then V.vec 8001 1 else lsF cFile (g ++ [c]) j
              rw [List.length_append, List.length_singleton]
              by_cases e : j = g.length + 1
              · subst e
                rw [decide_eq_true rfl]
                unfold setF
                rw [decide_eq_true rfl]
                rfl
              · rw [decide_eq_false e, cond_false, ← file_frz g c j (by omega)]
                unfold setF appF
                rw [decide_eq_false e]
                simp only [cond_false]
                rw [decide_eq_true (show j < g.length + 1 by omega)]
                simp only [cond_true]
                by_cases e2 : j = g.length
                · rw [decide_eq_true e2]
                  show V.ren 58 8001 (V.kill 8001 (frzV 8001 7 c.length _ (.vec 8001 c.length))) = frzV 8001 7 c.length _ (.vec 8001 c.length)
                  rw [frz_own, frz_own]; rfl
                · rw [decide_eq_false e2]; rfl
            · obtain rfl : j = 0 := by omega
              rfl
          · rw [if_neg (by omega)] at i6
            have app := LsI.app (c := cRec) (f := lsF cRec c) (g := litF [cRec.enc r]) (LsI.ls c) (LsI.one (c := cRec) (a := r) rfl) rfl
            refine ⟨⟨by omega, by omega⟩, ⟨by omega, by omega⟩, by omega, ⟨by omega, by omega⟩, ⟨by omega, by omega⟩, ⟨by omega, by omega⟩, by omega, ⟨by omega, by omega⟩, ((i + 1, some (g, c ++ [r], k + (recB r).length)) : Nat × DvT), ⟨by show i + 1 ≤ _; omega, by show (0 : Int) ≤ k + (recB r).length; omega, by show k + ((recB r).length : Int) ≤ ((i + 1 : Nat) : Int) * 400000; omega, by show g.length + 1 ≤ i + 1; omega, by show (c ++ [r]).length ≤ i + 1; simp; omega, i6⟩, by show l.length - (i + 1) < l.length - i; omega, ⟨rfl, rfl, by show (i : Int) + 1 = ((i + 1 : Nat) : Int); omega⟩, ⟨rfl, fun j hj => ?_⟩, by show _ = (c ++ [r]).length; simp, app.2⟩
            show _ = bif decide (j = g.length) then V.vec 8001 (c ++ [r]).length else lsF cFile g j
            unfold setF
            by_cases e : j = g.length
            · rw [decide_eq_true e, cond_true, cond_true, List.length_append]; rfl
            · rw [decide_eq_false e]
              simp only [cond_false]
              rw [decide_eq_false e]; rfl
        · rw [List.drop_eq_nil_of_le (by omega), div_end] at i6
          rw [← i6]
          refine ⟨fun j hj => ?_, by simp, fun j hj => file_frz g c j hj⟩
          rw [show V.sl (g.getD j []).length (lsF cRec (g.getD j [])) = lsF cFile g j from rfl, file_frz g c j hj]; rfl
  · cases h
attribute [push_cast] ckDivided

theorem divOf_ok {l : List Rcd} {m : Int} (h : checkFileL l = 0) : (divOf m l).length ≤ 1000 ∧ ∀ x ∈ divOf m l, x.length ≤ 1000 ∧ checkFileL x = 0 := by
  have hf := divOf_flat m l
  refine ⟨?_, fun x hx => ?_⟩
  · have h1 : ∀ L : List (List Rcd), (∀ x ∈ L, x ≠ []) → L.length ≤ L.flatten.length := by
      intro L
      induction L with
      | nil => intro _; simp
      | cons a t ih =>
        intro hx
        have h0 := hx a (by simp)
        have := ih fun x h => hx x (List.mem_cons_of_mem _ h)
        have := List.length_pos_iff.2 h0
        simp only [List.length_cons, List.flatten_cons, List.length_append]
        omega
    have h2 := h1 (divOf m l) fun x hx => (divOf_fit m l x hx).1
    rw [hf] at h2
    have := (file_ok h).2.2
    omega
  · have hp := file_part (L := divOf m l) (by rw [hf]; exact h) hx
    exact ⟨(file_ok hp).2.2, hp⟩
theorem divL_ok (l : List Rcd) (m : Int) : (divL l m).length ≤ 1000 ∧ ∀ x ∈ divL l m, x.length ≤ 1000 ∧ checkFileL x = 0 := by
  unfold divL
  split
  · rename_i h; exact divOf_ok h.1
  · exact ⟨by simp, fun x hx => by cases hx⟩

/- the calendar, by ranges -/
theorem daysI_next (y : Int) : daysI (y + 1) 1 = daysI y 1 + yearLong y := by
  rw [daysI_1, daysI_1]
  unfold yearLong leapB
  split
  · rename_i h; simp only [decide_eq_true_eq] at h; omega
  · rename_i h; simp only [decide_eq_true_eq] at h; omega
theorem daysI_month {y : Int} {m : Int} (h : 1 ≤ m) : daysI y (m + 1) = daysI y m + monthLongI y m := by
  unfold daysI
  obtain ⟨k, rfl⟩ : ∃ k : Nat, m = k + 1 := ⟨(m - 1).toNat, by omega⟩
  rw [show ((k : Int) + 1 + 1 - 1).toNat = k + 1 by omega, show ((k : Int) + 1 - 1).toNat = k by omega]
  simp only [monthsSum]; omega
theorem monthsSum_12 (y : Int) : monthsSum y 12 = yearLong y := by
  simp only [monthsSum]
  unfold monthLongI yearLong leapB
  by_cases h : y % 4 = 0 ∧ (y % 100 ≠ 0 ∨ y % 400 = 0)
  · simp [h]
  · simp [h]
theorem daysI_13 (y : Int) : daysI y 13 = daysI (y + 1) 1 := by
  rw [daysI_next, daysI_1]
  unfold daysI
  rw [show ((13 : Int) - 1).toNat = 12 from rfl, monthsSum_12]; 
theorem daysI_mono {y z : Int} (h : y < z) : daysI (y + 1) 1 ≤ daysI z 1 := by
  rw [daysI_1, daysI_1]; omega
theorem yearF_up (d : Int) : ∀ (n : Nat) (y : Int), d < daysI (yearF d n y + 1) 1 ∨ yearF d n y = y + n
  | 0, y => .inr (by simp [yearF])
  | n + 1, y => by
    simp only [yearF]
    split
    · rcases yearF_up d n (y + 1) with h | h
      · exact .inl h
      · exact .inr (by omega)
    · exact .inl (by omega)
theorem monthF_up (y d : Int) : ∀ (n : Nat) (m : Int), (12 ≤ monthF y d n m ∨ d < daysI y (monthF y d n m + 1)) ∨ monthF y d n m = m + n
  | 0, m => .inr (by simp [monthF])
  | n + 1, m => by
    simp only [monthF]
    split
    · rcases monthF_up y d n (m + 1) with h | h
      · exact .inl h
      · exact .inr (by omega)
    · exact .inl (by omega)
theorem yearI_up {d : Int} (h0 : 0 ≤ d) (h1 : d ≤ 2932896) : d < daysI (yearI d + 1) 1 := by
  have b := date_b h0 h1
  rcases yearF_up d 1000 (1970 + d / 366) with h | h
  · exact h
  · have hb := yearF_b d 1000 _ (daysI_y0 d h0 h1)
    have := daysI_step hb.2 hb.1 h0 h1
    omega
theorem yearI_is {d y : Int} (h0 : 0 ≤ d) (h1 : d ≤ 2932896) (a : daysI y 1 ≤ d) (b : d < daysI (y + 1) 1) : yearI d = y := by
  have hb := yearF_b d 1000 _ (daysI_y0 d h0 h1)
  have hu := yearI_up h0 h1
  have hl : daysI (yearI d) 1 ≤ d := hb.2
  rcases Int.lt_trichotomy (yearI d) y with h | h | h
  · have := daysI_mono h; omega
  · exact h
  · have := daysI_mono h; omega
theorem monthsSum_mono (y : Int) {i j : Nat} (h : i ≤ j) : monthsSum y i ≤ monthsSum y j := by
  induction h with
  | refl => exact Int.le_refl _
  | step _ ih => have := monthLongI_b y ((‹Nat› : Nat) + 1 : Int); simp only [monthsSum]; have := monthLongI_b y; omega
theorem daysI_mmono {y m k : Int} (h1 : 1 ≤ m) (h : m ≤ k) : daysI y m ≤ daysI y k := by
  have := monthsSum_mono y (i := (m - 1).toNat) (j := (k - 1).toNat) (by omega)
  unfold daysI; omega
theorem monthI_is {d m : Int} (h0 : 0 ≤ d) (h1 : d ≤ 2932896) (m1 : 1 ≤ m) (m2 : m ≤ 12) (a : daysI (yearI d) m ≤ d) (b : d < daysI (yearI d) (m + 1)) : monthI d = m := by
  have hd : daysI (yearI d) 1 ≤ d := (yearF_b d 1000 _ (daysI_y0 d h0 h1)).2
  have hb := monthF_b (yearI d) d 12 1 (by omega) (by omega) hd
  have hu : 12 ≤ monthI d ∨ d < daysI (yearI d) (monthI d + 1) := by
    rcases monthF_up (yearI d) d 12 1 with h | h
    · exact h
    · exact .inl (by unfold monthI; omega)
  change 1 ≤ monthI d ∧ monthI d ≤ 12 ∧ daysI (yearI d) (monthI d) ≤ d at hb
  rcases Int.lt_trichotomy (monthI d) m with h | h | h
  · rcases hu with hu | hu
    · omega
    · have := daysI_mmono (y := yearI d) (m := monthI d + 1) (k := m) (by omega) (by omega); omega
  · exact h
  · have := daysI_mmono (y := yearI d) (m := m + 1) (k := monthI d) (by omega) (by omega); omega
theorem monthI_up {d : Int} (h0 : 0 ≤ d) (h1 : d ≤ 2932896) : d < daysI (yearI d) (monthI d + 1) := by
  have hd : daysI (yearI d) 1 ≤ d := (yearF_b d 1000 _ (daysI_y0 d h0 h1)).2
  have hb := monthF_b (yearI d) d 12 1 (by omega) (by omega) hd
  change 1 ≤ monthI d ∧ monthI d ≤ 12 ∧ daysI (yearI d) (monthI d) ≤ d at hb
  rcases monthF_up (yearI d) d 12 1 with h | h
  · change 12 ≤ monthI d ∨ d < daysI (yearI d) (monthI d + 1) at h
    rcases h with h | h
    · rw [show monthI d = 12 by omega, show (12 : Int) + 1 = 13 from rfl, daysI_13]; exact yearI_up h0 h1
    · exact h
  · change monthI d = 1 + ((12 : Nat) : Int) at h; omega
theorem yearI_9999 {d : Int} (h0 : 0 ≤ d) (h1 : d ≤ 2932896) : yearI d ≤ 9999 := by
  have hd : daysI (yearI d) 1 ≤ d := (yearF_b d 1000 _ (daysI_y0 d h0 h1)).2
  rw [daysI_1] at hd; omega

theorem u8n {a b : Int} (h : a = b) : UInt8.ofNat a.toNat = UInt8.ofNat b.toNat := by rw [h]
theorem padded2 {n : Int} (h0 : 0 ≤ n) (h1 : n ≤ 99) : paddedL n 2 = twoL n := by
  obtain ⟨k, rfl⟩ : ∃ k : Nat, n = k := ⟨n.toNat, by omega⟩
  unfold paddedL twoL
  rw [itoa_nat]
  by_cases h : k < 10
  · rw [dec_small h]
    rw [show (48 + (k : Int) / 10 % 10).toNat = 48 by omega, show (48 + (k : Int) % 10).toNat = 48 + k by omega]
    rfl
  · rw [dec_step (by omega), dec_small (by omega)]
    rw [show (48 + (k : Int) / 10 % 10).toNat = 48 + k / 10 by omega, show (48 + (k : Int) % 10).toNat = 48 + k % 10 by omega]
    rfl
theorem padded4 {n : Int} (h0 : 1000 ≤ n) (h1 : n ≤ 9999) : paddedL n 4 = twoL (n / 100) ++ twoL n := by
  obtain ⟨k, rfl⟩ : ∃ k : Nat, n = k := ⟨n.toNat, by omega⟩
  unfold paddedL twoL
  rw [itoa_nat, dec_step (by omega), dec_step (n := k / 10) (by omega), dec_step (n := k / 10 / 10) (by omega), dec_small (by omega)]
  rw [show (48 + (k : Int) / 100 / 10 % 10).toNat = 48 + k / 10 / 10 / 10 by omega, show (48 + (k : Int) / 100 % 10).toNat = 48 + k / 10 / 10 % 10 by omega, show (48 + (k : Int) / 10 % 10).toNat = 48 + k / 10 % 10 by omega, show (48 + (k : Int) % 10).toNat = 48 + k % 10 by omega]
  rfl
theorem dayName (d : Int) : List.take ((3 * ((d + 4) % 7) + 3).toNat - (3 * ((d + 4) % 7)).toNat) (List.drop (3 * ((d + 4) % 7)).toNat ([83, 117, 110, 77, 111, 110, 84, 117, 101, 87, 101, 100, 84, 104, 117, 70, 114, 105, 83, 97, 116] : List UInt8)) = wdN.getD ((d + 3) % 7).toNat [] := by
  rcases (by omega : d % 7 = 0 ∨ d % 7 = 1 ∨ d % 7 = 2 ∨ d % 7 = 3 ∨ d % 7 = 4 ∨ d % 7 = 5 ∨ d % 7 = 6) with h | h | h | h | h | h | h
  · rw [show (d + 4) % 7 = 4 by omega, show (d + 3) % 7 = 3 by omega]; rfl
  · rw [show (d + 4) % 7 = 5 by omega, show (d + 3) % 7 = 4 by omega]; rfl
  · rw [show (d + 4) % 7 = 6 by omega, show (d + 3) % 7 = 5 by omega]; rfl
  · rw [show (d + 4) % 7 = 0 by omega, show (d + 3) % 7 = 6 by omega]; rfl
  · rw [show (d + 4) % 7 = 1 by omega, show (d + 3) % 7 = 0 by omega]; rfl
  · rw [show (d + 4) % 7 = 2 by omega, show (d + 3) % 7 = 1 by omega]; rfl
  · rw [show (d + 4) % 7 = 3 by omega, show (d + 3) % 7 = 2 by omega]; rfl
def ckWritten : Ck
  | [x] => some (isC cRec x ∧ recOk (cRec.dec x) ∧ checkRecL (cRec.dec x) = 0, .sl (recB (cRec.dec x)).length (byF (recB (cRec.dec x))))
  | _ => none
attribute [push_cast] ckWritten
end Go.Abs
