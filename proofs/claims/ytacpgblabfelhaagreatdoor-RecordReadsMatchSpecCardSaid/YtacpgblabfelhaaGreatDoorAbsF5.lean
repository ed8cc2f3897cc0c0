/- what functions of this program compute: contracts, each a function's own -/
import Derived.Test.YtacpgblabfelhaaGreatDoorAbsK2
import Derived.Test.YtacpgblabfelhaaGreatDoorAbsFacts
import Derived.Test.YtacpgblabfelhaaGreatDoorAbsF4
import Derived.Test.YtacpgblabfelhaaGreatDoorAbsShelf
import Derived.Lib.SlTrimSet
import Derived.Lib.Atoi
import Derived.Lib.Itoa
import Derived.Lib.ItoaNum
import Derived.Lib.AtoiErrMem
import Derived.Lib.ItoaLen
import Derived.Lib.SplitLaws
import Derived.Shelf.Bytes.SlIndexWhole
import Derived.Lib.Index
import Derived.Lib.IndexBytes
namespace Go.Abs
open Go Go.Proofs
set_option maxHeartbeats 4000000
set_option maxRecDepth 100000
set_option linter.unusedVariables false
set_option linter.unusedSimpArgs false
abbrev clR (r : Rcd) : Prop := r.ow = r.id ∨ (r.ow = [] ∧ (r.ki = 4 ∨ r.ki = 5)) ∨ (r.ow ≠ [] ∧ r.ki = 1)
abbrev nmR (r : Rcd) : Prop := nameL r.id = true ∧ (r.ow = [] ∨ nameL r.ow = true)
section
variable {r : Rcd}
theorem cr4 (h : r.ki < 1 ∨ 5 < r.ki) : 4 = checkRecL r := by unfold checkRecL; rw [if_pos h]
theorem cr5 (a1 : ¬ (r.ki < 1 ∨ 5 < r.ki)) (h : ¬ nmR r) : 5 = checkRecL r := by unfold checkRecL; rw [if_neg a1, if_pos h]
theorem cr12 (a1 : ¬ (r.ki < 1 ∨ 5 < r.ki)) (a2 : nmR r) (h : clR r) : 12 = checkRecL r := by unfold checkRecL; rw [if_neg a1, if_neg (fun x => x a2), if_pos h]
theorem cr1 (a1 : ¬ (r.ki < 1 ∨ 5 < r.ki)) (a2 : nmR r) (a3 : ¬ clR r) (h : ¬ (0 ≤ r.ti ∧ r.ti ≤ 253402300799)) : 1 = checkRecL r := by unfold checkRecL; rw [if_neg a1, if_neg (fun x => x a2), if_neg a3, if_pos h]
theorem cr3 (a1 : ¬ (r.ki < 1 ∨ 5 < r.ki)) (a2 : nmR r) (a3 : ¬ clR r) (a4 : 0 ≤ r.ti ∧ r.ti ≤ 253402300799) (h : ¬ targetL r.ke = true) : 3 = checkRecL r := by unfold checkRecL; rw [if_neg a1, if_neg (fun x => x a2), if_neg a3, if_neg (fun x => x a4), if_pos h]
theorem cr2 (a1 : ¬ (r.ki < 1 ∨ 5 < r.ki)) (a2 : nmR r) (a3 : ¬ clR r) (a4 : 0 ≤ r.ti ∧ r.ti ≤ 253402300799) (a5 : targetL r.ke = true) (h : 30 < r.hd.length) : 2 = checkRecL r := by unfold checkRecL; rw [if_neg a1, if_neg (fun x => x a2), if_neg a3, if_neg (fun x => x a4), if_neg (fun x => x a5), if_pos h]
theorem crh (a1 : ¬ (r.ki < 1 ∨ 5 < r.ki)) (a2 : nmR r) (a3 : ¬ clR r) (a4 : 0 ≤ r.ti ∧ r.ti ≤ 253402300799) (a5 : targetL r.ke = true) (a6 : ¬ 30 < r.hd.length) (h : ¬ checkHeadsL r.hd = 0) : checkHeadsL r.hd = checkRecL r := by unfold checkRecL; rw [if_neg a1, if_neg (fun x => x a2), if_neg a3, if_neg (fun x => x a4), if_neg (fun x => x a5), if_neg a6, if_pos h]
theorem crR (a1 : ¬ (r.ki < 1 ∨ 5 < r.ki)) (a2 : nmR r) (a3 : ¬ clR r) (a4 : 0 ≤ r.ti ∧ r.ti ≤ 253402300799) (a5 : targetL r.ke = true) (a6 : ¬ 30 < r.hd.length) (a7 : checkHeadsL r.hd = 0) : checkRecL r = if ownL r.hd = true then 12 else if 200000 < r.bd.length then 2 else if 0 < r.bd.length ∧ r.ki = 4 then 3 else 0 := by unfold checkRecL; rw [if_neg a1, if_neg (fun x => x a2), if_neg a3, if_neg (fun x => x a4), if_neg (fun x => x a5), if_neg a6, if_neg (fun x => x a7)]
end
def ckCheckRec : Ck
  | [x] => some (isC cRec x ∧ recOk (cRec.dec x), .int .i64 (checkRecL (cRec.dec x)))
  | _ => none
theorem conCheckRec : Con pg 64 ckCheckRec := by
  have hct := (ctA_ok conIsName (ctA_ok conIsMoment (ctA_ok conIsKey (ctA_ok conCheckHeads (ctA_ok conOwn (ctA_ok conSmallA (ctA_ok conHasStr (ctN_ok _))))))))
  intro args q r h hq
  unfold ckCheckRec at h
  split at h
  · cases h
    rename_i x
    refine pcall_args (args' := [cRec.enc (cRec.dec x)]) ⟨hq.1, trivial⟩ ?_
    obtain ⟨-, ha⟩ := hq
    generalize cRec.dec x = r at ha ⊢
    refine w64 (fun _ => false) [] rfl hct rfl rfl ?_
    push_cast (config := { maxSteps := 10000000 })
    have q1 := ha.2.1
    have q2 := ha.2.2.1
    have q3 := ha.2.2.2.1
    refine ⟨fun h => cr4 h, fun g => ⟨by omega, fun h => ⟨h, by omega⟩, fun h => ⟨h, fun h' => ⟨h, h'⟩⟩, fun h => ?_, fun h => ?_⟩⟩
    · refine cr5 (by omega) fun x => ?_
      rcases h with h | h
      · rw [x.1] at h; cases h
      · rcases x.2 with y | y
        · exact h.1 y
        · rw [y] at h; cases h.2
    have a1 : ¬ (r.ki < 1 ∨ 5 < r.ki) := by omega
    have a2 : nmR r := ⟨h.1, by
      by_cases e : r.ow = []
      · exact .inl e
      · exact .inr (h.2 e)⟩
    refine ⟨fun e1 => ⟨fun _ => cr12 a1 a2 (.inl e1), fun x => absurd e1 x⟩, fun e1 => ⟨fun e => ⟨e, fun e' => ⟨e, e'⟩⟩, fun e2 => ⟨fun _ => cr12 a1 a2 (.inr (.inl e2)), fun x => by rcases e2.2 with y | y; exact absurd y (x e2.1).1; exact absurd y (x e2.1).2⟩, fun e2 => ⟨fun e3 => cr12 a1 a2 (.inr (.inr e3)), fun e3 => ?_⟩⟩⟩
    have a3 : ¬ clR r := fun x => by
      rcases x with x | x | x
      · exact e1 x
      · rcases x.2 with y | y
        · exact (e2 x.1).1 y
        · exact (e2 x.1).2 y
      · exact e3 x.1 x.2
    refine ⟨fun h => cr1 a1 a2 a3 (fun x => h x.1 x.2), fun a4 => ⟨by omega, fun h => cr3 a1 a2 a3 a4 (by rw [h]; simp), fun a5 => ⟨fun h => cr2 a1 a2 a3 a4 a5 (by omega), fun h6 => ⟨ha.1, fun h => crh a1 a2 a3 a4 a5 (by omega) h, fun a7 => ?_⟩⟩⟩⟩
    have hR := crR a1 a2 a3 a4 a5 (by omega) a7
    rw [hR]
    refine LoopW.adj ⟨hct, fol⟩ (by kernel_rfl) [] (fun i : Nat => [(1, .ptr 1 0), (80, .sl r.hd.length (lsF cHd r.hd)), (81, .int .i64 r.hd.length), (82, .int .i64 i)]) (fun _ => [(1, .cells [.int .i64 r.ki, .str r.id, .str r.ow, .int .i64 r.ti, .str r.ke, .sl r.hd.length (lsF cHd r.hd), .sl r.bd.length (byF r.bd)])]) (fun i => i ≤ r.hd.length ∧ ∀ j, j < i → ownW.contains (lowL (r.hd.getD j ⟨[], []⟩).name) = false) (fun i => r.hd.length - i) 0 ?_ fun i hi => ?_
    · push_cast (config := { maxSteps := 10000000 })
      exact Nat.zero_le _
    · push_cast (config := { maxSteps := 10000000 })
      obtain ⟨i1, i2⟩ := hi
      rw [show lsOf cStr 7 (lsF cStr ownW) = ownW from lsOf_ls ownW]
      refine ⟨fun h => ⟨h, (hdsOk_at ha.1 h).1, isLs_ls ownW, fun h5 => ?_, fun h5 => ⟨⟨by omega, by omega⟩, i + 1, ⟨by omega, fun j hj => ?_⟩, by omega, by omega⟩⟩, fun h => ?_⟩
      · have : ownL r.hd = true := by
          unfold ownL
          rw [List.any_eq_true]
          refine ⟨r.hd.getD i ⟨[], []⟩, ?_, h5⟩
          rw [List.getD_eq_getElem?_getD, List.getElem?_eq_getElem h]; exact List.getElem_mem h
        rw [if_pos this]
      · by_cases e : j = i
        · subst e; exact h5
        · exact i2 j (by omega)
      · have : ownL r.hd = false := by
          unfold ownL
          rw [List.any_eq_false]
          intro x hx
          obtain ⟨j, hj, rfl⟩ := List.getElem_of_mem hx
          have h5 := i2 j (by omega)
          rw [List.getD_eq_getElem?_getD, List.getElem?_eq_getElem hj] at h5
          simp only [Option.getD_some] at h5
          rw [h5]; simp
        rw [if_neg (by rw [this]; simp)]
        exact ⟨fun g => by rw [if_pos (by omega)], fun g => ⟨fun g2 => by rw [if_neg (by omega), if_pos ⟨by omega, g2.1⟩], fun g2 => by rw [if_neg (by omega), if_neg (fun x => g2 x.2 (by omega))]⟩⟩
  · cases h
attribute [push_cast] ckCheckRec
theorem conCheckRec2 : Con pg 72 ckCheckRec := by
  have hct := (ctA_ok conWithin6 (ctA_ok conIsName2 (ctA_ok conIsKey2 (ctA_ok conCheckHeads2 (ctA_ok conValues2 (ctN_ok _))))))
  intro args q r h hq
  unfold ckCheckRec at h
  split at h
  · cases h
    rename_i x
    refine pcall_args (args' := [cRec.enc (cRec.dec x)]) ⟨hq.1, trivial⟩ ?_
    obtain ⟨-, ha⟩ := hq
    generalize cRec.dec x = r at ha ⊢
    refine w72 (fun _ => false) [] rfl hct rfl rfl ?_
    push_cast (config := { maxSteps := 10000000 })
    have q1 := ha.2.1
    have q2 := ha.2.2.1
    have q3 := ha.2.2.2.1
    refine ⟨fun h => cr4 (Classical.byContradiction fun x => h (by omega) (by omega)), fun g => ⟨by omega, fun h => ⟨h, by omega⟩, fun h => ⟨h, fun h' => ⟨h, h'⟩⟩, fun h => ?_, fun h => ?_⟩⟩
    · refine cr5 (by omega) fun x => ?_
      rcases h with h | h
      · rw [x.1] at h; cases h
      · rcases x.2 with y | y
        · exact h.1 y
        · rw [y] at h; cases h.2
    have a1 : ¬ (r.ki < 1 ∨ 5 < r.ki) := by omega
    have a2 : nmR r := ⟨h.1, by
      by_cases e : r.ow = []
      · exact .inl e
      · exact .inr (h.2 e)⟩
    refine ⟨fun e => ⟨e, fun e' => ⟨e, e'⟩⟩, fun e => ⟨e, fun e' => ⟨e, e'⟩⟩, fun e => cr12 a1 a2 (by rcases e with (e | e) | e; exact .inl e; exact .inr (.inl e); exact .inr (.inr e)), fun e => ?_⟩
    have a3 : ¬ clR r := fun x => by
      rcases x with x | x | x
      · exact e.1.1 x
      · rcases x.2 with y | y
        · exact (e.1.2 x.1).1 y
        · exact (e.1.2 x.1).2 y
      · exact e.2 x.1 x.2
    refine ⟨fun h => cr1 a1 a2 a3 (fun x => h x.1 x.2), fun a4 => ⟨by omega, fun h => cr3 a1 a2 a3 a4 (by rw [h]; simp), fun a5 => ⟨fun h => cr2 a1 a2 a3 a4 a5 (by omega), fun h6 => ⟨ha.1, fun h => crh a1 a2 a3 a4 a5 (by omega) h, fun a7 => ?_⟩⟩⟩⟩
    have hR := crR a1 a2 a3 a4 a5 (by omega) a7
    rw [hR]
    refine LoopW.adj ⟨hct, fol⟩ (by kernel_rfl) [] (fun i : Nat => [(1, .ptr 1 0), (75, .sl 7 (lsF cStr ownW)), (76, .int .i64 7), (77, .int .i64 i)]) (fun _ => [(1, .cells [.int .i64 r.ki, .str r.id, .str r.ow, .int .i64 r.ti, .str r.ke, .sl r.hd.length (lsF cHd r.hd), .sl r.bd.length (byF r.bd)])]) (fun i => i ≤ 7 ∧ ∀ j, j < i → ¬ 0 < ((valuesL r.hd (ownW.getD j [])).length : Int)) (fun i => 7 - i) 0 ?_ fun i hi => ?_
    · push_cast (config := { maxSteps := 10000000 })
      intro i hi
      rcases (by omega : i = 0 ∨ i = 1 ∨ i = 2 ∨ i = 3 ∨ i = 4 ∨ i = 5 ∨ i = 6) with rfl | rfl | rfl | rfl | rfl | rfl | rfl <;> rfl
    · push_cast (config := { maxSteps := 10000000 })
      obtain ⟨i1, i2⟩ := hi
      refine ⟨fun h => ⟨h, ⟨ha.1, by omega⟩, fun h5 => ?_, fun h5 => ⟨⟨by omega, by omega⟩, i + 1, ⟨by omega, fun j hj => ?_⟩, by omega, by omega⟩⟩, fun h => ?_⟩
      · have : ownL r.hd = true := own_iff.2 ⟨ownW.getD i [], by
          rw [List.getD_eq_getElem?_getD, List.getElem?_eq_getElem (show i < ownW.length by show i < 7; omega)]; exact List.getElem_mem _, h5⟩
        rw [if_pos this]
      · by_cases e : j = i
        · subst e; exact h5
        · exact i2 j (by omega)
      · have : ¬ ownL r.hd = true := fun x => by
          obtain ⟨w, hw, h5⟩ := own_iff.1 x
          obtain ⟨j, hj, rfl⟩ := List.getElem_of_mem hw
          have h6 := i2 j (by have : ownW.length = 7 := rfl; omega)
          rw [List.getD_eq_getElem?_getD, List.getElem?_eq_getElem hj] at h6
          exact h6 h5
        rw [if_neg this]
        exact ⟨fun g => by rw [if_pos (by omega)], fun g => ⟨fun g2 => by rw [if_neg (by omega), if_pos ⟨by omega, g2.2⟩], fun g2 => by rw [if_neg (by omega), if_neg (fun x => g2 (by omega) x.2)]⟩⟩
  · cases h

/-- the parts of a string between a byte, part by part -/
def spl (c : UInt8) : List UInt8 → List (List UInt8)
  | [] => [[]]
  | x :: t => if x = c then [] :: spl c t else (x :: (spl c t).headD []) :: (spl c t).tail
theorem spl_ne (c : UInt8) (s : List UInt8) : spl c s ≠ [] := by
  cases s with
  | nil => simp [spl]
  | cons x t => rw [spl]; split <;> simp
theorem splitK_spl (c : UInt8) : ∀ s : List UInt8, Lib.splitK [c] 0 (s.count c) s = spl c s
  | [] => rfl
  | x :: t => by
    have ih := splitK_spl c t
    by_cases h : x = c
    · subst h
      have hix : Lib.index (x :: t) [x] = 0 := by rw [Lib.index]; simp [List.isPrefixOf]
      rw [show (x :: t).count x = t.count x + 1 by simp, Lib.splitK, hix]
      rw [spl, if_pos rfl, ← ih]
      rfl
    · have hp : ([c] : List UInt8).isPrefixOf (x :: t) = false := by simp [List.isPrefixOf, Ne.symm h]
      have hix : Lib.index (x :: t) [c] = if Lib.index t [c] == -1 then -1 else Lib.index t [c] + 1 := by rw [Lib.index, hp]; simp
      rw [show (x :: t).count c = t.count c by rw [List.count_cons_of_ne (by simpa using h)]]
      rw [spl, if_neg h]
      cases hk : t.count c with
      | zero =>
        rw [hk] at ih
        rw [← ih]; rfl
      | succ k =>
        rw [hk] at ih
        rw [← ih]
        simp only [Lib.splitK]
        rw [hix]
        by_cases hm : (Lib.index t [c] == -1) = true
        · simp only [hm, if_true]; rfl
        · have hge := Lib.index_ge t [c]
          have hn : Lib.index t [c] ≠ -1 := fun e => hm (beq_iff_eq.2 e)
          have hm2 : (Lib.index t [c] + 1 == -1) = false := by rw [beq_eq_false_iff_ne]; omega
          simp only [hm, if_false, Bool.false_eq_true, hm2]
          rw [show (Lib.index t [c] + 1).toNat = (Lib.index t [c]).toNat + 1 by omega]
          simp
theorem splitL_eq (s : List UInt8) (c : UInt8) : splitL s c = spl c s := by
  unfold splitL
  rw [Lib.splitB_data]
  have e : Lib.countB ⟨s.toArray⟩ ⟨#[c]⟩ = s.count c := by
    unfold Lib.countB
    rw [show (⟨s.toArray⟩ : ByteArray).data.toList = s by simp]
    exact Lib.count_one c s
  rw [e]
  simpa using splitK_spl c s
theorem spl_len (c : UInt8) : ∀ s : List UInt8, ∀ p ∈ spl c s, p.length ≤ s.length
  | [], p, h => by simp [spl] at h; simp [h]
  | x :: t, p, h => by
    have ih := spl_len c t
    rw [spl] at h
    split at h
    · rcases List.mem_cons.1 h with rfl | h
      · simp
      · have := ih p h; simp only [List.length_cons]; omega
    · rcases List.mem_cons.1 h with rfl | h
      · cases hs : spl c t with
        | nil => exact absurd hs (spl_ne c t)
        | cons a r =>
          have := ih a (by rw [hs]; simp)
          simp only [List.headD_cons, List.length_cons]; omega
      · have := ih p (List.mem_of_mem_tail h); simp only [List.length_cons]; omega
/-- the parts, joined again -/
theorem spl_join (c : UInt8) : ∀ s : List UInt8, List.intercalate [c] (spl c s) = s
  | [] => rfl
  | x :: t => by
    have ih := spl_join c t
    have hne := spl_ne c t
    rw [spl]
    cases hs : spl c t with
    | nil => exact absurd hs hne
    | cons a r =>
      rw [hs] at ih
      split
      · rename_i h; subst h
        rw [← ih]
        simp [List.intercalate, List.intersperse]
      · rw [← ih]
        cases r <;> simp [List.intercalate, List.intersperse]

def noInq : Inq := ⟨[], [], [], []⟩
@[push_cast] theorem noInq_me : noInq.me = [] := rfl
@[push_cast] theorem noInq_tg : noInq.tg = [] := rfl
@[push_cast] theorem noInq_hd : noInq.hd = [] := rfl
@[push_cast] theorem noInq_bd : noInq.bd = [] := rfl
def wWeb : List UInt8 := [87, 69, 66, 47, 49]
/-- the three words of a request's first line -/
def rqW (b : List UInt8) : List (List UInt8) := splitL (lnS b 0) 32
def rqOk (b : List UInt8) : Bool := lnB b 0 && decide ((rqW b).length = 3) && ((rqW b).getD 0 [] != []) && ((rqW b).getD 1 [] != []) && ((rqW b).getD 2 [] == wWeb)
def rqH (b : List UInt8) : List Hd × Nat × Bool := rhL b (b.length + 1) (lnN b 0) []
def rqI (b : List UInt8) : Inq := ⟨(rqW b).getD 0 [], (rqW b).getD 1 [], (rqH b).1, b.drop (rqH b).2.1⟩
/-- a request, read: it, the place of an error, the error -/
def rqL (b : List UInt8) : Inq × Nat × Int := if 400000 < b.length then (noInq, 0, 2) else if rqOk b = true then (if (rqH b).2.2 = true then (if checkInqL (rqI b) = 0 then (rqI b, 0, 0) else (noInq, 0, checkInqL (rqI b))) else (noInq, (rqH b).2.1, 10)) else (noInq, 0, 10)
def hdsLe (n : Nat) (l : List Hd) : Prop := ∀ h ∈ l, h.name.length ≤ n ∧ h.value.length ≤ n
theorem hdV_le (s : List UInt8) : (hdV s).name.length ≤ s.length ∧ (hdV s).value.length ≤ s.length := by
  unfold hdV
  split
  · unfold hdCut Lib.cut
    split <;> simp <;> omega
  · simp
theorem lnS_le (b : List UInt8) {a : Nat} (ha : a ≤ b.length) : (lnS b a).length ≤ b.length := by
  cases h : lnB b a with
  | true => have := ln_fit ha h; omega
  | false =>
    unfold lnB at h
    unfold lnS
    cases hs : lineS (b.drop a) with
    | none => simp
    | some s => rw [hs] at h; cases h
theorem rh_fit {b : List UInt8} : ∀ (k a : Nat) (out : List Hd), a ≤ b.length → hdsLe b.length out → (rhL b k a out).2.1 ≤ b.length ∧ hdsLe b.length (rhL b k a out).1 ∧ (rhL b k a out).1.length ≤ out.length + k
  | 0, a, out, ha, ho => by simp [rhL, hdsLe]
  | k + 1, a, out, ha, ho => by
    rw [rhL]
    split
    · simp [hdsLe]
    split
    · simp [hdsLe]; omega
    rename_i h1 h2
    have hB : lnB b a = true := by simpa using h2
    have hf := ln_fit ha hB
    split
    · refine ⟨hf.2.1, ho, by simp⟩
    split
    · simp [hdsLe]; omega
    · have := rh_fit k (lnN b a) (out ++ [hdV (lnS b a)]) hf.2.1 (fun h hh => by
        rcases List.mem_append.1 hh with hh | hh
        · exact ho h hh
        · rw [List.mem_singleton] at hh; subst hh
          have h3 := hdV_le (lnS b a)
          have h4 := lnS_le b ha
          omega)
      refine ⟨this.1, this.2.1, ?_⟩
      have h5 := this.2.2
      simp only [List.length_append, List.length_singleton] at h5; omega
theorem drop_by {b : List UInt8} {p : Nat} (hp : p ≤ b.length) : ByI (b.length - p) (fun i => shF (byF b) p i) (b.drop p) := by
  have h := ByI.sh (ByI.by b) (l := p) (k := b.length - p) (by omega)
  rw [List.take_of_length_le (by simp)] at h
  exact h
@[push_cast] theorem kill_shby (d p : Nat) (s : List UInt8) (i : Nat) : V.kill d (shF (byF s) p i) = shF (byF s) p i := rfl
@[push_cast] theorem men_shby (d p : Nat) (s : List UInt8) (i : Nat) : V.men d (shF (byF s) p i) = false := rfl
def ckReadReq : Ck
  | [.sl n f] => some (isBy n f ∧ n ≤ 4611686018427387900, .tup [cInq.enc (rqL (bytesOf n f)).1, .int .i64 (rqL (bytesOf n f)).2.1, .int .i64 (rqL (bytesOf n f)).2.2])
  | _ => none
attribute [push_cast] ckReadReq
theorem kindI_b (v : List UInt8) : 0 ≤ kindI v ∧ kindI v ≤ 5 := by
  have := idxL_b kindW v
  have hk : kindW.length = 5 := rfl
  unfold kindI; omega
theorem rdV_b (v : List UInt8) : 0 ≤ rdV v ∧ rdV v ≤ 253402300799 := by
  unfold rdV
  split
  · rename_i h
    have := of_decide_eq_true h
    exact ⟨this.1, this.2.1⟩
  · omega
/-- a state of the reader whose parts are small -/
structure RpOk (n : Nat) (x : Rp) : Prop where
  pl : x.pl ≤ n
  ki : 0 ≤ x.ki ∧ x.ki ≤ 5
  id : x.id.length ≤ n
  ow : x.ow.length ≤ n
  ti : 0 ≤ x.ti ∧ x.ti ≤ 253402300799
  ke : x.ke.length ≤ n
  ln : 0 ≤ x.ln ∧ x.ln ≤ 999999999
theorem lnA_le {B : List UInt8} {a : Nat} (w : List UInt8) (acc : List UInt8 → Bool) (h : a ≤ B.length) : lnA B a w acc ≤ B.length := by
  unfold lnA lnR lineOk
  split
  · rename_i g
    simp only [Bool.and_eq_true] at g
    exact (ln_fit h g.1.1).2.1
  · exact h
theorem wholeA_le {B : List UInt8} {a : Nat} (w : List UInt8) (h : a ≤ B.length) : wholeA B a w ≤ B.length := by
  unfold wholeA wholeB
  split
  · rename_i g
    simp only [Bool.and_eq_true] at g
    exact (ln_fit h g.1).2.1
  · exact h
theorem lineV_le {B : List UInt8} {a : Nat} (w : List UInt8) (h : a ≤ B.length) : (lineV B a w).length ≤ B.length := by
  unfold lineV
  rw [List.length_drop]
  have := lnS_le B h
  omega
theorem lnF_str {B : List UInt8} {a : Nat} (w : List UInt8) {old : List UInt8} (h : a ≤ B.length) (ho : old.length ≤ B.length) : (lnF B a w (fun v => v) old).length ≤ B.length := by
  unfold lnF
  split
  · exact lineV_le w h
  · exact ho
theorem digL9 {v : List UInt8} (h : digL v 9 = true) : natOf v ≤ 999999999 := by
  have := digL_all h
  have := natOf_le this.2.2.1 (k := 9) (by omega)
  omega
theorem hds_le {B : List UInt8} : ∀ (k : Nat) (a : Nat) (l : List Hd), a ≤ B.length → hdsLe B.length l → l.length ≤ a → (hdsR B k a l).2.1 ≤ B.length ∧ hdsLe B.length (hdsR B k a l).2.2 ∧ (hdsR B k a l).2.2.length ≤ (hdsR B k a l).2.1
  | 0, a, l, h, hl, hn => ⟨h, hl, hn⟩
  | k + 1, a, l, h, hl, hn => by
    rw [hdsR]
    split
    · exact ⟨h, hl, hn⟩
    · split
      · rename_i g
        simp only [Bool.and_eq_true] at g
        have hf := ln_fit h g.1
        refine hds_le k _ _ hf.2.1 (fun x hx => ?_) (by simp only [List.length_append, List.length_singleton]; omega)
        rcases List.mem_append.1 hx with hx | hx
        · exact hl x hx
        · rw [List.mem_singleton] at hx; subst hx
          have h3 := hdV_le (lnS B a)
          have h4 := lnS_le B h
          omega
      · exact ⟨h, hl, hn⟩
theorem linesD_ok {B : List UInt8} {x : Rp} {h : List Hd} (hx : RpOk B.length x) : RpOk B.length (linesD B x h).2.1 ∧ (linesD B x h).2.2 = h := by
  obtain ⟨a1, a2, a3, a4, a5, a6, a7⟩ := hx
  have b1 := lnA_le wLng (fun v => digL v 9) a1
  have b2 := lnA_le wDig dgB b1
  have b3 := wholeA_le [] b2
  have b4 : 0 ≤ lnF B x.pl wLng (fun v => if digL v 9 = true then (natOf v : Int) else x.ln) x.ln ∧ lnF B x.pl wLng (fun v => if digL v 9 = true then (natOf v : Int) else x.ln) x.ln ≤ 999999999 := by
    unfold lnF
    split
    · dsimp only
      split
      · rename_i g
        have := digL9 g
        omega
      · exact a7
    · exact a7
  unfold linesD
  split
  · exact ⟨⟨b1, a2, a3, a4, a5, a6, b4⟩, rfl⟩
  split
  · exact ⟨⟨b2, a2, a3, a4, a5, a6, b4⟩, rfl⟩
  · exact ⟨⟨b3, a2, a3, a4, a5, a6, b4⟩, rfl⟩
theorem lnF_b {B : List UInt8} {a : Nat} (w : List UInt8) (g : List UInt8 → Int) {old p q : Int} (hg : ∀ v, p ≤ g v ∧ g v ≤ q) (ho : p ≤ old ∧ old ≤ q) : p ≤ lnF B a w g old ∧ lnF B a w g old ≤ q := by
  unfold lnF
  split
  · exact hg _
  · exact ho
theorem nohds (n : Nat) : hdsLe n [] := fun _ h => (by cases h)
theorem linesC_ok {B : List UInt8} {x : Rp} (hx : RpOk B.length x) : RpOk B.length (linesC B B.length x).2.1 ∧ hdsLe B.length (linesC B B.length x).2.2 ∧ (linesC B B.length x).2.2.length ≤ B.length := by
  obtain ⟨a1, a2, a3, a4, a5, a6, a7⟩ := hx
  have b1 := lnA_le wKind kindB a1
  have c1 := lnF_b (B := B) (a := x.pl) wKind kindI kindI_b a2
  unfold linesC
  dsimp only
  split
  · exact ⟨⟨b1, c1, a3, a4, a5, a6, a7⟩, nohds _, Nat.zero_le _⟩
  have b2 := lnA_le wDate rdB b1
  have c2 := lnF_b (B := B) (a := lnA B x.pl wKind kindB) wDate rdV rdV_b a5
  split
  · exact ⟨⟨b2, c1, a3, a4, c2, a6, a7⟩, nohds _, Nat.zero_le _⟩
  have b3 := lnA_le wKey (fun _ => true) b2
  have c3 := lnF_str wKey b2 a6
  split
  · exact ⟨⟨b3, c1, a3, a4, c2, c3, a7⟩, nohds _, Nat.zero_le _⟩
  obtain ⟨d1, d2, d3⟩ := hds_le (B := B) (B.length + 1) _ [] b3 (nohds _) (Nat.zero_le _)
  have d4 := Nat.le_trans d3 d1
  split
  · exact ⟨⟨d1, c1, a3, a4, c2, c3, a7⟩, d2, d4⟩
  · generalize hdsR B (B.length + 1) (lnA B (lnA B (lnA B x.pl wKind kindB) wDate rdB) wKey (fun _ => true)) [] = H at *
    generalize lnF B (lnA B (lnA B x.pl wKind kindB) wDate rdB) wKey (fun v => v) x.ke = F3 at *
    generalize lnF B (lnA B x.pl wKind kindB) wDate rdV x.ti = F2 at *
    generalize lnF B x.pl wKind kindI x.ki = F1 at *
    obtain ⟨e1, e2⟩ := linesD_ok (B := B) (x := ⟨H.2.1, F1, x.id, x.ow, F2, F3, x.ln, x.dg⟩) (h := H.2.2) ⟨d1, c1, a3, a4, c2, c3, a7⟩
    refine ⟨e1, ?_, ?_⟩
    · rw [e2]; exact d2
    · rw [e2]; exact d4
theorem linesL_ok {B : List UInt8} {x : Rp} (hx : RpOk B.length x) : RpOk B.length (linesL B B.length x).2.1 ∧ hdsLe B.length (linesL B B.length x).2.2 ∧ (linesL B B.length x).2.2.length ≤ B.length := by
  obtain ⟨a1, a2, a3, a4, a5, a6, a7⟩ := hx
  have b1 := wholeA_le wKept0 a1
  unfold linesL
  dsimp only
  split
  · exact ⟨⟨b1, a2, a3, a4, a5, a6, a7⟩, nohds _, Nat.zero_le _⟩
  have b2 := lnA_le wId (fun _ => true) b1
  have c2 := lnF_str wId b1 a3
  split
  · exact ⟨⟨b2, a2, c2, a4, a5, a6, a7⟩, nohds _, Nat.zero_le _⟩
  split
  · have b3 := lnA_le wOf ofB b2
    have c3 := lnF_str wOf b2 a4
    split
    · exact ⟨⟨b3, a2, c2, c3, a5, a6, a7⟩, nohds _, Nat.zero_le _⟩
    · exact linesC_ok ⟨b3, a2, c2, c3, a5, a6, a7⟩
  · exact linesC_ok ⟨b2, a2, c2, a4, a5, a6, a7⟩
theorem lnR_ok {B : List UInt8} {a : Nat} {w : List UInt8} {acc : List UInt8 → Bool} (h : lnR B a w acc = true) : lineOk B a w = true ∧ acc (lineV B a w) = true ∧ lnA B a w acc = lnN B a := by
  unfold lnA
  rw [if_pos h]
  unfold lnR at h
  simp only [Bool.and_eq_true] at h
  exact ⟨h.1, h.2, rfl⟩
theorem lnR_no {B : List UInt8} {a : Nat} {w : List UInt8} {acc : List UInt8 → Bool} (h : lnR B a w acc = false) : lnA B a w acc = a ∧ (lineOk B a w = false ∨ (lineOk B a w = true ∧ acc (lineV B a w) = false)) := by
  unfold lnA
  rw [if_neg (by rw [h]; simp)]
  unfold lnR at h
  refine ⟨rfl, ?_⟩
  cases e : lineOk B a w with
  | false => exact .inl rfl
  | true => rw [e] at h; exact .inr ⟨rfl, h⟩
theorem lnF_ok {α : Type} {B : List UInt8} {a : Nat} {w : List UInt8} {g : List UInt8 → α} {old : α} (h : lineOk B a w = true) : lnF B a w g old = g (lineV B a w) := by unfold lnF; rw [if_pos h]
def rp0 (a : Nat) : Rp := ⟨a, 0, [], [], 0, [], 0, []⟩
theorem rp0_ok {n a : Nat} (h : a ≤ n) : RpOk n (rp0 a) := ⟨h, ⟨Int.le_refl 0, by show (0 : Int) ≤ 5; decide⟩, Nat.zero_le _, Nat.zero_le _, ⟨Int.le_refl 0, by show (0 : Int) ≤ 253402300799; decide⟩, Nat.zero_le _, ⟨Int.le_refl 0, by show (0 : Int) ≤ 999999999; decide⟩⟩
def crlf2 : List UInt8 := [13, 10, 13, 10]
/-- the record at a place, the place that is told, the error -/
def rdOne (B : List UInt8) (a : Nat) : Rcd × Int × Int :=
  let L := linesL B B.length (rp0 a)
  let e : Int := L.2.1.pl + L.2.1.ln
  let blk := (B.drop L.2.1.pl).take L.2.1.ln.toNat
  let r : Rcd := ⟨L.2.1.ki, L.2.1.id, L.2.1.ow, L.2.1.ti, L.2.1.ke, L.2.2, blk⟩
  if L.1 = false then (noRec, L.2.1.pl, 10) else
  if (B.length : Int) < e + 4 then (noRec, B.length, 10) else
  if (B.drop e.toNat).take 4 ≠ crlf2 then (noRec, e, 10) else
  if digestL blk ≠ L.2.1.dg then (noRec, L.2.1.pl, 15) else
  if checkRecL r ≠ 0 then (noRec, a, checkRecL r) else (r, e + 4, 0)
def ckReadOne0 : Ck
  | [.sl n f, .int .i64 a] => some (isBy n f ∧ n ≤ 500000 ∧ 0 ≤ a ∧ a ≤ n, .tup [cRec.enc (rdOne (bytesOf n f) a.toNat).1, .int .i64 (rdOne (bytesOf n f) a.toNat).2.1, .int .i64 (rdOne (bytesOf n f) a.toNat).2.2])
  | _ => none
def rdOneR (B : List UInt8) (a : Int) : Rcd × Int × Int := if (500000 < B.length ∨ a < 0) ∨ (B.length : Int) < a then (noRec, 0, 1) else rdOne B a.toNat
def ckReadOne : Ck
  | [.sl n f, .int .i64 a] => some (isBy n f ∧ n ≤ 140737488355328, .tup [cRec.enc (rdOneR (bytesOf n f) a).1, .int .i64 (rdOneR (bytesOf n f) a).2.1, .int .i64 (rdOneR (bytesOf n f) a).2.2])
  | _ => none
attribute [push_cast] ckReadOne0 ckReadOne

def ckCloneBy : Ck
  | [.sl n f] => some (isBy n f ∧ n ≤ 140737488355328, .sl n f)
  | _ => none
theorem conCloneBy : Con pg 48 ckCloneBy := by
  have hct := ctN_ok pg
  intro args q r h hq
  unfold ckCloneBy at h
  split at h
  · cases h
    rename_i n f
    by_cases hn : n = 0
    · subst hn
      refine pcall_nil1 fun a c => ?_
      refine w48 (fun d => decide (d < 9999)) [.frz 5] rfl hct rfl rfl ?_
      push_cast (config := { maxSteps := 10000000 })
      cases a
      · push_cast (config := { maxSteps := 10000000 })
      · push_cast (config := { maxSteps := 10000000 })
    · refine w48 (fun d => decide (d < 9999)) [.frz 5] rfl hct rfl rfl ?_
      push_cast (config := { maxSteps := 10000000 })
      obtain ⟨h1, h2⟩ := hq
      exact ⟨by omega, ⟨h1.flat, by omega, by omega⟩, h1.pure⟩
  · cases h
attribute [push_cast] ckCloneBy

@[push_cast] theorem linesR_ids (o : Nat) : ckLinesR.ids [.ptr 13 o] = [13] := rfl
@[push_cast] theorem linesR_k (n : Nat) (f : Nat → V) (a ki ti ln : Int) (id ow ke dg : List UInt8) : ckLinesR.k [.ptr 13 0] [.cells [.sl n f, .int .i64 a, .int .i64 ki, .str id, .str ow, .int .i64 ti, .str ke, .nilsl, .nilsl, .int .i64 ln, .str dg]] = some (isBy n f ∧ n ≤ 1000000000 ∧ 0 ≤ a ∧ a ≤ n, .bool (linesL (bytesOf n f) n ⟨a.toNat, ki, id, ow, ti, ke, ln, dg⟩).1, [.cells [.sl n f, .int .i64 (linesL (bytesOf n f) n ⟨a.toNat, ki, id, ow, ti, ke, ln, dg⟩).2.1.pl, .int .i64 (linesL (bytesOf n f) n ⟨a.toNat, ki, id, ow, ti, ke, ln, dg⟩).2.1.ki, .str (linesL (bytesOf n f) n ⟨a.toNat, ki, id, ow, ti, ke, ln, dg⟩).2.1.id, .str (linesL (bytesOf n f) n ⟨a.toNat, ki, id, ow, ti, ke, ln, dg⟩).2.1.ow, .int .i64 (linesL (bytesOf n f) n ⟨a.toNat, ki, id, ow, ti, ke, ln, dg⟩).2.1.ti, .str (linesL (bytesOf n f) n ⟨a.toNat, ki, id, ow, ti, ke, ln, dg⟩).2.1.ke, .sl (linesL (bytesOf n f) n ⟨a.toNat, ki, id, ow, ti, ke, ln, dg⟩).2.2.length (lsF cHd (linesL (bytesOf n f) n ⟨a.toNat, ki, id, ow, ti, ke, ln, dg⟩).2.2), .nilsl, .int .i64 (linesL (bytesOf n f) n ⟨a.toNat, ki, id, ow, ti, ke, ln, dg⟩).2.1.ln, .str (linesL (bytesOf n f) n ⟨a.toNat, ki, id, ow, ti, ke, ln, dg⟩).2.1.dg]]) := rfl
theorem conReadOne0 : Con pg 78 ckReadOne0 := by
  have hct := (ctF_ok conLinesR (ctA_ok conCloneBy (ctA_ok conDigest (ctA_ok conCheckRec (ctN_ok _)))))
  intro args q r h hq
  unfold ckReadOne0 at h
  split at h
  · cases h
    rename_i n f a
    refine pcall_args (args' := [.sl (bytesOf n f).length (byF (bytesOf n f)), .int .i64 a]) ⟨isBy.vle hq.1, VLe.refl _, trivial⟩ ?_
    obtain ⟨-, hn, h0, h1⟩ := hq
    have hl := bytesOf_len n f
    rw [← hl] at hn h1
    generalize bytesOf n f = B at hn h1 ⊢
    clear hl
    obtain ⟨a, rfl⟩ : ∃ k : Nat, a = k := ⟨a.toNat, by omega⟩
    rw [Int.toNat_natCast]
    refine w78 (fun _ => false) [] rfl hct rfl rfl ?_
    push_cast (config := { maxSteps := 10000000 })
    have h1 : a ≤ B.length := by omega
    have lk := linesL_ok (B := B) (rp0_ok (n := B.length) (a := a) h1)
    generalize hR : rdOne B a = R
    unfold rdOne at hR
    generalize hL : linesL B B.length (rp0 a) = L at lk hR
    have hL' : linesL B B.length ⟨a, 0, [], [], 0, [], 0, []⟩ = L := hL
    simp only [hL']
    clear hL hL'
    obtain ⟨ok, ⟨pl, ki, id, ow, ti, ke, ln, dg⟩, hs⟩ := L
    obtain ⟨⟨p1, ⟨p2, p2'⟩, p3, p4, ⟨p5, p5'⟩, p6, ⟨p7, p7'⟩⟩, p8, p9⟩ := lk
    simp only at hR p1 p2 p2' p3 p4 p5 p5' p6 p7 p7' p8 p9 ⊢
    obtain ⟨ln, rfl⟩ : ∃ k : Nat, ln = k := ⟨ln.toNat, by omega⟩
    refine ⟨⟨by omega, h1⟩, fun h => ?_, fun h => ⟨⟨by omega, by omega⟩, ⟨by omega, by omega⟩, fun h2 => ?_, fun h2 => ⟨⟨by omega, by omega⟩, ⟨⟨by omega, by omega⟩, ⟨by omega, by omega⟩, by omega⟩, ?_⟩⟩⟩
    · rw [if_pos h] at hR
      rw [← hR]
      exact ⟨⟨rfl, rfl, rfl, rfl, rfl, rfl, rfl⟩, rfl, rfl⟩
    · rw [if_neg (by rw [h]; simp), if_pos (by omega)] at hR
      rw [← hR]
      exact ⟨⟨rfl, rfl, rfl, rfl, rfl, rfl, rfl⟩, rfl, rfl⟩
    rw [if_neg (by rw [h]; simp), if_neg (by omega)] at hR
    have e1 : ((pl : Int) + ln).toNat = pl + ln := by omega
    have e2 : ((pl : Int) + ln + 4).toNat = pl + ln + 4 := by omega
    simp only [e1, e2, Int.toNat_natCast, Nat.add_sub_cancel_left] at hR ⊢
    have b4 := ByI.sh (ByI.by B) (l := pl + ln) (k := 4) (by omega)
    have bb := ByI.sh (ByI.by B) (l := pl) (k := ln) (by omega)
    have b4' : bytesOf 4 (shF (byF B) (pl + ln)) = (B.drop (pl + ln)).take 4 := b4.bytes
    have bb' : bytesOf ln (shF (byF B) pl) = (B.drop pl).take ln := bb.bytes
    simp only [b4', bb']
    refine ⟨b4.bytesP, fun h3 => ?_, fun h3 => ⟨⟨⟨by omega, by omega⟩, p1, by omega⟩, ⟨bb.is, by omega⟩, ⟨bb.is, by omega⟩, fun h4 => ?_, fun h4 => ⟨⟨isC_rec (isLs_ls hs) bb.is, ?_⟩, fun h5 => ?_, fun h5 => ⟨⟨by omega, by omega⟩, ?_⟩⟩⟩⟩
    · rw [if_pos (show _ ≠ crlf2 from h3)] at hR
      rw [← hR]
      exact ⟨⟨rfl, rfl, rfl, rfl, rfl, rfl, rfl⟩, rfl, rfl⟩
    · rw [if_neg (show ¬ (List.take 4 (List.drop (pl + ln) B) ≠ crlf2) from fun x => x h3), if_pos h4] at hR
      rw [← hR]
      exact ⟨⟨rfl, rfl, rfl, rfl, rfl, rfl, rfl⟩, rfl, rfl⟩
    · have := bb.1
      refine ⟨fun x hx => ?_, ?_, ?_, ?_, ?_, ?_, ?_, ?_, ?_, ?_⟩
      · have := p8 x hx
        omega
      all_goals simp only
      all_goals omega
    · rw [if_neg (show ¬ (List.take 4 (List.drop (pl + ln) B) ≠ crlf2) from fun x => x h3), if_neg (fun x => x h4), if_pos h5] at hR
      rw [← hR]
      exact ⟨⟨rfl, rfl, rfl, rfl, rfl, rfl, rfl⟩, rfl, rfl⟩
    · rw [if_neg (show ¬ (List.take 4 (List.drop (pl + ln) B) ≠ crlf2) from fun x => x h3), if_neg (fun x => x h4), if_neg (fun x => x h5)] at hR
      rw [← hR]
      exact ⟨⟨rfl, rfl, rfl, rfl, rfl, ⟨rfl, fun _ _ => rfl⟩, bb.1, bb.2⟩, rfl, rfl⟩
  · cases h
theorem conReadOne : Con pg 37 ckReadOne := by
  have hct := (ctA_ok conReadOne0 (ctN_ok _))
  intro args q r h hq
  unfold ckReadOne at h
  split at h
  · cases h
    rename_i n f a
    refine pcall_args (args' := [.sl (bytesOf n f).length (byF (bytesOf n f)), .int .i64 a]) ⟨isBy.vle hq.1, VLe.refl _, trivial⟩ ?_
    obtain ⟨-, hn⟩ := hq
    have hl := bytesOf_len n f
    rw [← hl] at hn
    generalize bytesOf n f = B at hn ⊢
    clear hl
    refine w37 (fun _ => false) [] rfl hct rfl rfl ?_
    push_cast (config := { maxSteps := 10000000 })
    generalize hR : rdOneR B a = R
    unfold rdOneR at hR
    refine ⟨fun h => ?_, fun h => ⟨⟨by omega, by omega, by omega⟩, ?_⟩⟩
    · rw [if_pos (by omega)] at hR
      rw [← hR]
      exact ⟨⟨rfl, rfl, rfl, rfl, rfl, rfl, rfl⟩, rfl, rfl⟩
    · rw [if_neg (by omega)] at hR
      rw [← hR]
      exact ⟨⟨rfl, rfl, rfl, rfl, rfl, ⟨rfl, fun _ _ => rfl⟩, rfl, fun _ _ => rfl⟩, rfl, rfl⟩
  · cases h

def ckBIndex : Ck
  | [.sl n f, .sl m g] => some (isBy n f ∧ isBy m g ∧ n < 4294967281 ∧ 2 ≤ m ∧ m ≤ 4611686018427387904, .int .i64 (Lib.index (bytesOf n f) (bytesOf m g)))
  | _ => none
theorem libBytes (a : List UInt8) : Lib.bytesOf (a.map fun x => (x.toNat : Int)) = a := by
  unfold Lib.bytesOf
  rw [List.map_map]
  conv => rhs; rw [← List.map_id a]
  refine List.map_congr_left fun x _ => ?_
  simp
theorem nums_byte (a : List UInt8) : ∀ x ∈ a.map (fun x => (x.toNat : Int)), 0 ≤ x ∧ x < 256 := by
  intro x hx
  obtain ⟨y, _, rfl⟩ := List.mem_map.1 hx
  have := UInt8.toNat_lt y
  omega
theorem nums_at (a : List UInt8) (i : Nat) : (a.map (fun x => (x.toNat : Int))).getD i 0 = ((a.getD i 0).toNat : Int) := by
  rw [List.getD_eq_getElem?_getD, List.getD_eq_getElem?_getD, List.getElem?_map]
  cases a[i]? <;> rfl
theorem conBIndex : Con pg 83 ckBIndex := by
  intro args q r h hq
  unfold ckBIndex at h
  split at h
  · cases h
    rename_i n f m g
    obtain ⟨q1, q2, q3, q4, q5⟩ := hq
    refine pcall_args (args' := [.sl (bytesOf n f).length (byF (bytesOf n f)), .sl (bytesOf m g).length (byF (bytesOf m g))]) ⟨q1.vle, q2.vle, trivial⟩ ?_
    rw [← bytesOf_len n f] at q3
    rw [← bytesOf_len m g] at q4 q5
    generalize bytesOf n f = a at q3 ⊢
    generalize bytesOf m g = b at q4 q5 ⊢
    refine pcall_rep (by kernel_rfl) fun S vals hw hl hr => ?_
    obtain ⟨u, v, rfl⟩ := vals2 hl
    obtain ⟨a1, c1, rfl, k1, k2, k3⟩ := inv_bytes (b := a) (by simpa using hr 0 (by simp))
    obtain ⟨a2, c2, rfl, l1, l2, l3⟩ := inv_bytes (b := b) (by simpa using hr 1 (by simp))
    obtain ⟨mx, hmx⟩ := maxLen hw
    cases a2 with
    | none => have := l2 rfl; omega
    | some A2 =>
      cases a1 with
      | none =>
        have h0 := k2 rfl
        refine (Any.bytes_Index_longer (Tryz.lays185) none (some A2) a.length c1 b.length c2 S.w (by omega) (by omega) (by omega)).mono fun e w' h => ?_
        obtain ⟨he, rfl⟩ := h
        refine ⟨_, he, grow_eq rfl, fun γ imm _ _ => .pure ?_⟩
        have : a = [] := List.length_eq_zero_iff.1 h0
        subst this
        have e : Lib.index [] b = -1 := by
          rw [Lib.index]
          match b, q4 with
          | x :: t, _ => rfl
        rw [e]; exact .int _ _
      | some A1 =>
        refine (Any.bytes_Index_at (Tryz.lays185) A1 A2 a.length c1 b.length c2 (a.map fun x => (x.toNat : Int)) (b.map fun x => (x.toNat : Int)) mx S.w (by simp) (by simp) (nums_byte a) (nums_byte b) (fun i hi => by rw [nums_at]; exact k3 A1 rfl i hi) (fun i hi => by rw [nums_at]; exact l3 A2 rfl i hi) k1 q3 (by omega) hmx).mono fun e w' h => ?_
        obtain ⟨he, n, rfl⟩ := h
        rw [libBytes, libBytes] at he
        exact ⟨_, he, grow_drewN _ _, fun γ imm _ _ => .pure (.int _ _)⟩
  · cases h
attribute [push_cast] ckBIndex

def bareL (s : List UInt8) : Bool := s.all fun c => decide (c ≠ 13) && decide (c ≠ 10)
theorem crlf_pre (c : UInt8) (t : List UInt8) : crlf.isPrefixOf (c :: t) = true ↔ c = 13 ∧ t.getD 0 0 = 10 ∧ 0 < t.length := by
  cases t with
  | nil => simp [crlf, List.isPrefixOf]
  | cons d t => simp [crlf, List.isPrefixOf]; exact ⟨fun h => ⟨h.1.symm, h.2.symm⟩, fun h => ⟨h.1.symm, h.2.symm⟩⟩
theorem lineS_idx : ∀ r : List UInt8, lineS r = if 0 ≤ Lib.index r crlf ∧ bareL (r.take (Lib.index r crlf).toNat) = true then some (r.take (Lib.index r crlf).toNat) else none
  | [] => by
    have e : Lib.index [] crlf = -1 := by rw [Lib.index]; rfl
    rw [e, if_neg (by omega)]; rfl
  | c :: t => by
    have ih := lineS_idx t
    have hp := crlf_pre c t
    have hge := Lib.index_ge t crlf
    rw [lineS, Lib.index]
    by_cases h : crlf.isPrefixOf (c :: t) = true
    · obtain ⟨h1, h2, h3⟩ := hp.1 h
      rw [if_pos h, if_pos h1, if_pos ⟨h2, h3⟩, if_pos ⟨by omega, rfl⟩]
      rfl
    · rw [if_neg h]
      by_cases hm : (Lib.index t crlf == -1) = true
      · rw [if_pos hm]
        rw [show (if 0 ≤ (-1 : Int) ∧ bareL ((c :: t).take (-1 : Int).toNat) = true then some ((c :: t).take (-1 : Int).toNat) else none) = none from if_neg (fun x => by have := x.1; omega)]
        rw [beq_iff_eq] at hm
        rw [if_neg (fun x => by have := x.1; omega)] at ih
        by_cases h1 : c = 13
        · rw [if_pos h1, if_neg (fun x => h (hp.2 ⟨h1, x.1, x.2⟩))]
        rw [if_neg h1, ih]
        by_cases h2 : c = 10
        · rw [if_pos h2]
        · rw [if_neg h2]; rfl
      · rw [if_neg hm]
        have hn : Lib.index t crlf ≠ -1 := fun e => hm (beq_iff_eq.2 e)
        rw [show (Lib.index t crlf + 1).toNat = (Lib.index t crlf).toNat + 1 by omega, List.take_succ_cons]
        by_cases h1 : c = 13
        · rw [if_pos h1, if_neg (fun x => h (hp.2 ⟨h1, x.1, x.2⟩)), if_neg]
          rintro ⟨_, x⟩
          unfold bareL at x
          rw [List.all_cons, Bool.and_eq_true] at x
          subst h1
          exact absurd x.1 (by decide)
        rw [if_neg h1]
        by_cases h2 : c = 10
        · rw [if_pos h2, if_neg]
          rintro ⟨_, x⟩
          unfold bareL at x
          rw [List.all_cons, Bool.and_eq_true] at x
          subst h2
          exact absurd x.1 (by decide)
        rw [if_neg h2, ih]
        have eb : bareL (c :: t.take (Lib.index t crlf).toNat) = bareL (t.take (Lib.index t crlf).toNat) := by
          unfold bareL
          rw [List.all_cons, decide_eq_true h1, decide_eq_true h2]; rfl
        rw [eb]
        by_cases hb : bareL (t.take (Lib.index t crlf).toNat) = true
        · rw [if_pos ⟨by omega, hb⟩, if_pos ⟨by omega, hb⟩]; rfl
        · rw [if_neg (fun x => hb x.2), if_neg (fun x => hb x.2)]; rfl

theorem idx_none (c : UInt8) : ∀ s : List UInt8, decide (Lib.indexByte s c < 0) = s.all fun x => decide (x ≠ c)
  | [] => rfl
  | x :: t => by
    have ih := idx_none c t
    have hge := Lib.indexByte_ge t c
    unfold Lib.indexByte
    rw [List.all_cons, ← ih]
    by_cases h : x = c
    · subst h; simp
    · by_cases h1 : Lib.indexByte t c = -1
      · simp [h, h1]
      · have : ¬ Lib.indexByte t c < 0 := by omega
        have h2 : ¬ Lib.indexByte t c + 1 < 0 := by omega
        simp [h, h1, this, h2]
theorem all_and (s : List UInt8) (p q : UInt8 → Bool) : (s.all p && s.all q) = s.all fun c => p c && q c := by
  induction s with
  | nil => rfl
  | cons x t ih => simp only [List.all_cons, ← ih]; cases p x <;> cases q x <;> simp
def ckBare : Ck
  | [.str s] => some (s.length ≤ 4611686018427387904, .bool (bareL s))
  | _ => none
attribute [push_cast] ckBare
/-- where the line from a place on ends, it, and the place behind it -/
def laK (b : List UInt8) (a : Nat) : Int := Lib.index (b.drop a) crlf
def laS (b : List UInt8) (a : Nat) : List UInt8 := if laK b a < 0 then b.drop a else (b.drop a).take (laK b a).toNat
def laN (b : List UInt8) (a : Nat) : Int := if laK b a < 0 then -1 else a + laK b a + 2
theorem idx_fit (s : List UInt8) : Lib.index s crlf = -1 ∨ (0 ≤ Lib.index s crlf ∧ Lib.index s crlf + 2 ≤ s.length) := by
  rcases Lib.index_spec s crlf with ⟨h, _⟩ | ⟨i, h1, h2, h3, _⟩
  · exact .inl h
  · refine .inr ⟨by omega, ?_⟩
    unfold Lib.occAt at h3
    obtain ⟨t, ht⟩ := List.isPrefixOf_iff_prefix.1 h3
    have := congrArg List.length ht
    simp only [List.length_append, List.length_drop] at this
    have hl : crlf.length = 2 := rfl
    omega
theorem laK_fit (b : List UInt8) (a : Nat) : laK b a = -1 ∨ (0 ≤ laK b a ∧ laK b a + 2 ≤ ((b.length - a : Nat) : Int)) := by
  have := idx_fit (b.drop a)
  rw [List.length_drop] at this
  exact this
theorem la_line (b : List UInt8) (a : Nat) : (lnB b a = true ↔ 0 ≤ laN b a ∧ bareL (laS b a) = true) ∧ (lnB b a = true → lnS b a = laS b a ∧ (lnN b a : Int) = laN b a) := by
  have e := lineS_idx (b.drop a)
  change lineS (b.drop a) = if 0 ≤ laK b a ∧ bareL ((b.drop a).take (laK b a).toNat) = true then some ((b.drop a).take (laK b a).toNat) else none at e
  have hk := laK_fit b a
  unfold lnB lnS lnN laS laN
  by_cases h0 : laK b a < 0
  · rw [if_pos h0, if_pos h0]
    rw [if_neg (fun x => by have := x.1; omega)] at e
    rw [e]
    exact ⟨⟨fun h => (by cases h), fun h => absurd h.1 (by omega)⟩, fun h => (by cases h)⟩
  · rw [if_neg h0, if_neg h0]
    by_cases hb : bareL ((b.drop a).take (laK b a).toNat) = true
    · rw [if_pos ⟨by omega, hb⟩] at e
      rw [e]
      refine ⟨⟨fun _ => ⟨by omega, hb⟩, fun _ => rfl⟩, fun _ => ⟨rfl, ?_⟩⟩
      have hl : ((b.drop a).take (laK b a).toNat).length = (laK b a).toNat := by rw [List.length_take, List.length_drop]; omega
      simp only [hl]
      omega
    · rw [if_neg (fun x => hb x.2)] at e
      rw [e]
      exact ⟨⟨fun h => (by cases h), fun h => absurd h.2 hb⟩, fun h => (by cases h)⟩
theorem la_le (b : List UInt8) {a : Nat} (ha : a ≤ b.length) : (laS b a).length ≤ b.length ∧ laN b a ≤ b.length ∧ (0 ≤ laN b a → (a : Int) + 2 ≤ laN b a) ∧ -1 ≤ laN b a := by
  have hk := laK_fit b a
  unfold laS laN
  split
  · rw [List.length_drop]; omega
  · rw [List.length_take, List.length_drop]; omega
def ckLineAt : Ck
  | [.sl n f, .int .i64 a] => some (isBy n f ∧ 0 ≤ a ∧ a ≤ n ∧ n ≤ 4000000, .tup [.str (laS (bytesOf n f) a.toNat), .int .i64 (laN (bytesOf n f) a.toNat)])
  | _ => none
attribute [push_cast] ckLineAt
end Go.Abs
