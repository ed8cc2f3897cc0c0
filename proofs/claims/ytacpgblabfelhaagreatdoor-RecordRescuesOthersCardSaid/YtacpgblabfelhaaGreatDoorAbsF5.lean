/- what functions of this program compute: contracts, each a function's own -/
import Derived.Test.YtacpgblabfelhaaGreatDoorAbsK2
import Derived.Test.YtacpgblabfelhaaGreatDoorAbsFacts
import Derived.Test.YtacpgblabfelhaaGreatDoorAbsF4
import Derived.Test.YtacpgblabfelhaaGreatDoorAbsShelf
import Derived.Lib.SlTrimSet
import Derived.Lib.Atoi
import Derived.Lib.Itoa
import Derived.Lib.ItoaNum
import Derived.Lib.AtoiErrMem
import Derived.Lib.ItoaLen
import Derived.Lib.SplitLaws
import Derived.Lib.Index
import Derived.Lib.IndexBytes
import Derived.Shelf.Bytes.SlIndexWhole
namespace Go.Abs
open Go Go.Proofs
set_option maxHeartbeats 4000000
set_option maxRecDepth 100000
set_option linter.unusedVariables false
set_option linter.unusedSimpArgs false
abbrev clR (r : Rcd) : Prop := r.ow = r.id ∨ (r.ow = [] ∧ (r.ki = 4 ∨ r.ki = 5)) ∨ (r.ow ≠ [] ∧ r.ki = 1)
abbrev nmR (r : Rcd) : Prop := nameL r.id = true ∧ (r.ow = [] ∨ nameL r.ow = true)
section
variable {r : Rcd}
theorem cr4 (h : r.ki < 1 ∨ 5 < r.ki) : 4 = checkRecL r := by unfold checkRecL; rw [if_pos h]
theorem cr5 (a1 : ¬ (r.ki < 1 ∨ 5 < r.ki)) (h : ¬ nmR r) : 5 = checkRecL r := by unfold checkRecL; rw [if_neg a1, if_pos h]
theorem cr12 (a1 : ¬ (r.ki < 1 ∨ 5 < r.ki)) (a2 : nmR r) (h : clR r) : 12 = checkRecL r := by unfold checkRecL; rw [if_neg a1, if_neg (fun x => x a2), if_pos h]
theorem cr1 (a1 : ¬ (r.ki < 1 ∨ 5 < r.ki)) (a2 : nmR r) (a3 : ¬ clR r) (h : ¬ (0 ≤ r.ti ∧ r.ti ≤ 253402300799)) : 1 = checkRecL r := by unfold checkRecL; rw [if_neg a1, if_neg (fun x => x a2), if_neg a3, if_pos h]
theorem cr3 (a1 : ¬ (r.ki < 1 ∨ 5 < r.ki)) (a2 : nmR r) (a3 : ¬ clR r) (a4 : 0 ≤ r.ti ∧ r.ti ≤ 253402300799) (h : ¬ targetL r.ke = true) : 3 = checkRecL r := by unfold checkRecL; rw [if_neg a1, if_neg (fun x => x a2), if_neg a3, if_neg (fun x => x a4), if_pos h]
theorem cr2 (a1 : ¬ (r.ki < 1 ∨ 5 < r.ki)) (a2 : nmR r) (a3 : ¬ clR r) (a4 : 0 ≤ r.ti ∧ r.ti ≤ 253402300799) (a5 : targetL r.ke = true) (h : 30 < r.hd.length) : 2 = checkRecL r := by unfold checkRecL; rw [if_neg a1, if_neg (fun x => x a2), if_neg a3, if_neg (fun x => x a4), if_neg (fun x => x a5), if_pos h]
theorem crh (a1 : ¬ (r.ki < 1 ∨ 5 < r.ki)) (a2 : nmR r) (a3 : ¬ clR r) (a4 : 0 ≤ r.ti ∧ r.ti ≤ 253402300799) (a5 : targetL r.ke = true) (a6 : ¬ 30 < r.hd.length) (h : ¬ checkHeadsL r.hd = 0) : checkHeadsL r.hd = checkRecL r := by unfold checkRecL; rw [if_neg a1, if_neg (fun x => x a2), if_neg a3, if_neg (fun x => x a4), if_neg (fun x => x a5), if_neg a6, if_pos h]
theorem crR (a1 : ¬ (r.ki < 1 ∨ 5 < r.ki)) (a2 : nmR r) (a3 : ¬ clR r) (a4 : 0 ≤ r.ti ∧ r.ti ≤ 253402300799) (a5 : targetL r.ke = true) (a6 : ¬ 30 < r.hd.length) (a7 : checkHeadsL r.hd = 0) : checkRecL r = if ownL r.hd = true then 12 else if 200000 < r.bd.length then 2 else if 0 < r.bd.length ∧ r.ki = 4 then 3 else 0 := by unfold checkRecL; rw [if_neg a1, if_neg (fun x => x a2), if_neg a3, if_neg (fun x => x a4), if_neg (fun x => x a5), if_neg a6, if_neg (fun x => x a7)]
end
def ckCheckRec : Ck
  | [x] => some (isC cRec x ∧ recOk (cRec.dec x), .int .i64 (checkRecL (cRec.dec x)))
  | _ => none
theorem conCheckRec : Con pg 64 ckCheckRec := by
  have hct := (ctA_ok conIsName (ctA_ok conIsMoment (ctA_ok conIsKey (ctA_ok conCheckHeads (ctA_ok conOwn (ctA_ok conSmallA (ctA_ok conHasStr (ctN_ok _))))))))
  intro args q r h hq
  unfold ckCheckRec at h
  split at h
  · cases h
    rename_i x
    refine pcall_args (args' := [cRec.enc (cRec.dec x)]) ⟨hq.1, trivial⟩ ?_
    obtain ⟨-, ha⟩ := hq
    generalize cRec.dec x = r at ha ⊢
    refine w64 (fun _ => false) [] rfl hct rfl rfl ?_
    push_cast (config := { maxSteps := 10000000 })
    have q1 := ha.2.1
    have q2 := ha.2.2.1
    have q3 := ha.2.2.2.1
    refine ⟨fun h => cr4 h, fun g => ⟨by omega, fun h => ⟨h, by omega⟩, fun h => ⟨h, fun h' => ⟨h, h'⟩⟩, fun h => ?_, fun h => ?_⟩⟩
    · refine cr5 (by omega) fun x => ?_
      rcases h with h | h
      · rw [x.1] at h; cases h
      · rcases x.2 with y | y
        · exact h.1 y
        · rw [y] at h; cases h.2
    have a1 : ¬ (r.ki < 1 ∨ 5 < r.ki) := by omega
    have a2 : nmR r := ⟨h.1, by
      by_cases e : r.ow = []
      · exact .inl e
      · exact .inr (h.2 e)⟩
    refine ⟨fun e1 => ⟨fun _ => cr12 a1 a2 (.inl e1), fun x => absurd e1 x⟩, fun e1 => ⟨fun e => ⟨e, fun e' => ⟨e, e'⟩⟩, fun e2 => ⟨fun _ => cr12 a1 a2 (.inr (.inl e2)), fun x => by rcases e2.2 with y | y; exact absurd y (x e2.1).1; exact absurd y (x e2.1).2⟩, fun e2 => ⟨fun e3 => cr12 a1 a2 (.inr (.inr e3)), fun e3 => ?_⟩⟩⟩
    have a3 : ¬ clR r := fun x => by
      rcases x with x | x | x
      · exact e1 x
      · rcases x.2 with y | y
        · exact (e2 x.1).1 y
        · exact (e2 x.1).2 y
      · exact e3 x.1 x.2
    refine ⟨fun h => cr1 a1 a2 a3 (fun x => h x.1 x.2), fun a4 => ⟨by omega, fun h => cr3 a1 a2 a3 a4 (by rw [h]; simp), fun a5 => ⟨fun h => cr2 a1 a2 a3 a4 a5 (by omega), fun h6 => ⟨ha.1, fun h => crh a1 a2 a3 a4 a5 (by omega) h, fun a7 => ?_⟩⟩⟩⟩
    have hR := crR a1 a2 a3 a4 a5 (by omega) a7
    rw [hR]
    refine LoopW.adj ⟨hct, fol⟩ (by kernel_rfl) [] (fun i : Nat => [(1, .ptr 1 0), (80, .sl r.hd.length (lsF cHd r.hd)), (81, .int .i64 r.hd.length), (82, .int .i64 i)]) (fun _ => [(1, .cells [.int .i64 r.ki, .str r.id, .str r.ow, .int .i64 r.ti, .str r.ke, .sl r.hd.length (lsF cHd r.hd), .sl r.bd.length (byF r.bd)])]) (fun i => i ≤ r.hd.length ∧ ∀ j, j < i → ownW.contains (lowL (r.hd.getD j ⟨[], []⟩).name) = false) (fun i => r.hd.length - i) 0 ?_ fun i hi => ?_
    · push_cast (config := { maxSteps := 10000000 })
      exact Nat.zero_le _
    · push_cast (config := { maxSteps := 10000000 })
      obtain ⟨i1, i2⟩ := hi
      rw [show lsOf cStr 7 (lsF cStr ownW) = ownW from lsOf_ls ownW]
      refine ⟨fun h => ⟨h, (hdsOk_at ha.1 h).1, isLs_ls ownW, fun h5 => ?_, fun h5 => ⟨⟨by omega, by omega⟩, i + 1, ⟨by omega, fun j hj => ?_⟩, by omega, by omega⟩⟩, fun h => ?_⟩
      · have : ownL r.hd = true := by
          unfold ownL
          rw [List.any_eq_true]
          refine ⟨r.hd.getD i ⟨[], []⟩, ?_, h5⟩
          rw [List.getD_eq_getElem?_getD, List.getElem?_eq_getElem h]; exact List.getElem_mem h
        rw [if_pos this]
      · by_cases e : j = i
        · subst e; exact h5
        · exact i2 j (by omega)
      · have : ownL r.hd = false := by
          unfold ownL
          rw [List.any_eq_false]
          intro x hx
          obtain ⟨j, hj, rfl⟩ := List.getElem_of_mem hx
          have h5 := i2 j (by omega)
          rw [List.getD_eq_getElem?_getD, List.getElem?_eq_getElem hj] at h5
          simp only [Option.getD_some] at h5
          rw [h5]; simp
        rw [if_neg (by rw [this]; simp)]
        exact ⟨fun g => by rw [if_pos (by omega)], fun g => ⟨fun g2 => by rw [if_neg (by omega), if_pos ⟨by omega, g2.1⟩], fun g2 => by rw [if_neg (by omega), if_neg (fun x => g2 x.2 (by omega))]⟩⟩
  · cases h
attribute [push_cast] ckCheckRec
theorem conCheckRec2 : Con pg 72 ckCheckRec := by
  have hct := (ctA_ok conWithin6 (ctA_ok conIsName2 (ctA_ok conIsKey2 (ctA_ok conCheckHeads2 (ctA_ok conValues2 (ctN_ok _))))))
  intro args q r h hq
  unfold ckCheckRec at h
  split at h
  · cases h
    rename_i x
    refine pcall_args (args' := [cRec.enc (cRec.dec x)]) ⟨hq.1, trivial⟩ ?_
    obtain ⟨-, ha⟩ := hq
    generalize cRec.dec x = r at ha ⊢
    refine w72 (fun _ => false) [] rfl hct rfl rfl ?_
    push_cast (config := { maxSteps := 10000000 })
    have q1 := ha.2.1
    have q2 := ha.2.2.1
    have q3 := ha.2.2.2.1
    refine ⟨fun h => cr4 (Classical.byContradiction fun x => h (by omega) (by omega)), fun g => ⟨by omega, fun h => ⟨h, by omega⟩, fun h => ⟨h, fun h' => ⟨h, h'⟩⟩, fun h => ?_, fun h => ?_⟩⟩
    · refine cr5 (by omega) fun x => ?_
      rcases h with h | h
      · rw [x.1] at h; cases h
      · rcases x.2 with y | y
        · exact h.1 y
        · rw [y] at h; cases h.2
    have a1 : ¬ (r.ki < 1 ∨ 5 < r.ki) := by omega
    have a2 : nmR r := ⟨h.1, by
      by_cases e : r.ow = []
      · exact .inl e
      · exact .inr (h.2 e)⟩
    refine ⟨fun e => ⟨e, fun e' => ⟨e, e'⟩⟩, fun e => ⟨e, fun e' => ⟨e, e'⟩⟩, fun e => cr12 a1 a2 (by rcases e with (e | e) | e; exact .inl e; exact .inr (.inl e); exact .inr (.inr e)), fun e => ?_⟩
    have a3 : ¬ clR r := fun x => by
      rcases x with x | x | x
      · exact e.1.1 x
      · rcases x.2 with y | y
        · exact (e.1.2 x.1).1 y
        · exact (e.1.2 x.1).2 y
      · exact e.2 x.1 x.2
    refine ⟨fun h => cr1 a1 a2 a3 (fun x => h x.1 x.2), fun a4 => ⟨by omega, fun h => cr3 a1 a2 a3 a4 (by rw [h]; simp), fun a5 => ⟨fun h => cr2 a1 a2 a3 a4 a5 (by omega), fun h6 => ⟨ha.1, fun h => crh a1 a2 a3 a4 a5 (by omega) h, fun a7 => ?_⟩⟩⟩⟩
    have hR := crR a1 a2 a3 a4 a5 (by omega) a7
    rw [hR]
    refine LoopW.adj ⟨hct, fol⟩ (by kernel_rfl) [] (fun i : Nat => [(1, .ptr 1 0), (75, .sl 7 (lsF cStr ownW)), (76, .int .i64 7), (77, .int .i64 i)]) (fun _ => [(1, .cells [.int .i64 r.ki, .str r.id, .str r.ow, .int .i64 r.ti, .str r.ke, .sl r.hd.length (lsF cHd r.hd), .sl r.bd.length (byF r.bd)])]) (fun i => i ≤ 7 ∧ ∀ j, j < i → ¬ 0 < ((valuesL r.hd (ownW.getD j [])).length : Int)) (fun i => 7 - i) 0 ?_ fun i hi => ?_
    · push_cast (config := { maxSteps := 10000000 })
      intro i hi
      rcases (by omega : i = 0 ∨ i = 1 ∨ i = 2 ∨ i = 3 ∨ i = 4 ∨ i = 5 ∨ i = 6) with rfl | rfl | rfl | rfl | rfl | rfl | rfl <;> rfl
    · push_cast (config := { maxSteps := 10000000 })
      obtain ⟨i1, i2⟩ := hi
      refine ⟨fun h => ⟨h, ⟨ha.1, by omega⟩, fun h5 => ?_, fun h5 => ⟨⟨by omega, by omega⟩, i + 1, ⟨by omega, fun j hj => ?_⟩, by omega, by omega⟩⟩, fun h => ?_⟩
      · have : ownL r.hd = true := own_iff.2 ⟨ownW.getD i [], by
          rw [List.getD_eq_getElem?_getD, List.getElem?_eq_getElem (show i < ownW.length by show i < 7; omega)]; exact List.getElem_mem _, h5⟩
        rw [if_pos this]
      · by_cases e : j = i
        · subst e; exact h5
        · exact i2 j (by omega)
      · have : ¬ ownL r.hd = true := fun x => by
          obtain ⟨w, hw, h5⟩ := own_iff.1 x
          obtain ⟨j, hj, rfl⟩ := List.getElem_of_mem hw
          have h6 := i2 j (by have : ownW.length = 7 := rfl; omega)
          rw [List.getD_eq_getElem?_getD, List.getElem?_eq_getElem hj] at h6
          exact h6 h5
        rw [if_neg this]
        exact ⟨fun g => by rw [if_pos (by omega)], fun g => ⟨fun g2 => by rw [if_neg (by omega), if_pos ⟨by omega, g2.2⟩], fun g2 => by rw [if_neg (by omega), if_neg (fun x => g2 (by omega) x.2)]⟩⟩
  · cases h

/-- the parts of a string between a byte, part by part -/
def spl (c : UInt8) : List UInt8 → List (List UInt8)
  | [] => [[]]
  | x :: t => if x = c then [] :: spl c t else (x :: (spl c t).headD []) :: (spl c t).tail
theorem spl_ne (c : UInt8) (s : List UInt8) : spl c s ≠ [] := by
  cases s with
  | nil => simp [spl]
  | cons x t => rw [spl]; split <;> simp
theorem splitK_spl (c : UInt8) : ∀ s : List UInt8, Lib.splitK [c] 0 (s.count c) s = spl c s
  | [] => rfl
  | x :: t => by
    have ih := splitK_spl c t
    by_cases h : x = c
    · subst h
      have hix : Lib.index (x :: t) [x] = 0 := by rw [Lib.index]; simp [List.isPrefixOf]
      rw [show (x :: t).count x = t.count x + 1 by simp, Lib.splitK, hix]
      rw [spl, if_pos rfl, ← ih]
      rfl
    · have hp : ([c] : List UInt8).isPrefixOf (x :: t) = false := by simp [List.isPrefixOf, Ne.symm h]
      have hix : Lib.index (x :: t) [c] = if Lib.index t [c] == -1 then -1 else Lib.index t [c] + 1 := by rw [Lib.index, hp]; simp
      rw [show (x :: t).count c = t.count c by rw [List.count_cons_of_ne (by simpa using h)]]
      rw [spl, if_neg h]
      cases hk : t.count c with
      | zero =>
        rw [hk] at ih
        rw [← ih]; rfl
      | succ k =>
        rw [hk] at ih
        rw [← ih]
        simp only [Lib.splitK]
        rw [hix]
        by_cases hm : (Lib.index t [c] == -1) = true
        · simp only [hm, if_true]; rfl
        · have hge := Lib.index_ge t [c]
          have hn : Lib.index t [c] ≠ -1 := fun e => hm (beq_iff_eq.2 e)
          have hm2 : (Lib.index t [c] + 1 == -1) = false := by rw [beq_eq_false_iff_ne]; omega
          simp only [hm, if_false, Bool.false_eq_true, hm2]
          rw [show (Lib.index t [c] + 1).toNat = (Lib.index t [c]).toNat + 1 by omega]
          simp
theorem splitL_eq (s : List UInt8) (c : UInt8) : splitL s c = spl c s := by
  unfold splitL
  rw [Lib.splitB_data]
  have e : Lib.countB ⟨s.toArray⟩ ⟨#[c]⟩ = s.count c := by
    unfold Lib.countB
    rw [show (⟨s.toArray⟩ : ByteArray).data.toList = s by simp]
    exact Lib.count_one c s
  rw [e]
  simpa using splitK_spl c s
theorem spl_len (c : UInt8) : ∀ s : List UInt8, ∀ p ∈ spl c s, p.length ≤ s.length
  | [], p, h => by simp [spl] at h; simp [h]
  | x :: t, p, h => by
    have ih := spl_len c t
    rw [spl] at h
    split at h
    · rcases List.mem_cons.1 h with rfl | h
      · simp
      · have := ih p h; simp only [List.length_cons]; omega
    · rcases List.mem_cons.1 h with rfl | h
      · cases hs : spl c t with
        | nil => exact absurd hs (spl_ne c t)
        | cons a r =>
          have := ih a (by rw [hs]; simp)
          simp only [List.headD_cons, List.length_cons]; omega
      · have := ih p (List.mem_of_mem_tail h); simp only [List.length_cons]; omega
/-- the parts, joined again -/
theorem spl_join (c : UInt8) : ∀ s : List UInt8, List.intercalate [c] (spl c s) = s
  | [] => rfl
  | x :: t => by
    have ih := spl_join c t
    have hne := spl_ne c t
    rw [spl]
    cases hs : spl c t with
    | nil => exact absurd hs hne
    | cons a r =>
      rw [hs] at ih
      split
      · rename_i h; subst h
        rw [← ih]
        simp [List.intercalate, List.intersperse]
      · rw [← ih]
        cases r <;> simp [List.intercalate, List.intersperse]

def noInq : Inq := ⟨[], [], [], []⟩
@[push_cast] theorem noInq_me : noInq.me = [] := rfl
@[push_cast] theorem noInq_tg : noInq.tg = [] := rfl
@[push_cast] theorem noInq_hd : noInq.hd = [] := rfl
@[push_cast] theorem noInq_bd : noInq.bd = [] := rfl
def wWeb : List UInt8 := [87, 69, 66, 47, 49]
/-- the three words of a request's first line -/
def rqW (b : List UInt8) : List (List UInt8) := splitL (lnS b 0) 32
def rqOk (b : List UInt8) : Bool := lnB b 0 && decide ((rqW b).length = 3) && ((rqW b).getD 0 [] != []) && ((rqW b).getD 1 [] != []) && ((rqW b).getD 2 [] == wWeb)
def rqH (b : List UInt8) : List Hd × Nat × Bool := rhL b (b.length + 1) (lnN b 0) []
def rqI (b : List UInt8) : Inq := ⟨(rqW b).getD 0 [], (rqW b).getD 1 [], (rqH b).1, b.drop (rqH b).2.1⟩
/-- a request, read: it, the place of an error, the error -/
def rqL (b : List UInt8) : Inq × Nat × Int := if 400000 < b.length then (noInq, 0, 2) else if rqOk b = true then (if (rqH b).2.2 = true then (if checkInqL (rqI b) = 0 then (rqI b, 0, 0) else (noInq, 0, checkInqL (rqI b))) else (noInq, (rqH b).2.1, 10)) else (noInq, 0, 10)
def hdsLe (n : Nat) (l : List Hd) : Prop := ∀ h ∈ l, h.name.length ≤ n ∧ h.value.length ≤ n
theorem hdV_le (s : List UInt8) : (hdV s).name.length ≤ s.length ∧ (hdV s).value.length ≤ s.length := by
  unfold hdV
  split
  · unfold hdCut Lib.cut
    split <;> simp <;> omega
  · simp
theorem lnS_le (b : List UInt8) {a : Nat} (ha : a ≤ b.length) : (lnS b a).length ≤ b.length := by
  cases h : lnB b a with
  | true => have := ln_fit ha h; omega
  | false =>
    unfold lnB at h
    unfold lnS
    cases hs : lineS (b.drop a) with
    | none => simp
    | some s => rw [hs] at h; cases h
theorem rh_fit {b : List UInt8} : ∀ (k a : Nat) (out : List Hd), a ≤ b.length → hdsLe b.length out → (rhL b k a out).2.1 ≤ b.length ∧ hdsLe b.length (rhL b k a out).1 ∧ (rhL b k a out).1.length ≤ out.length + k
  | 0, a, out, ha, ho => by simp [rhL, hdsLe]
  | k + 1, a, out, ha, ho => by
    rw [rhL]
    split
    · simp [hdsLe]
    split
    · simp [hdsLe]; omega
    rename_i h1 h2
    have hB : lnB b a = true := by simpa using h2
    have hf := ln_fit ha hB
    split
    · refine ⟨hf.2.1, ho, by simp⟩
    split
    · simp [hdsLe]; omega
    · have := rh_fit k (lnN b a) (out ++ [hdV (lnS b a)]) hf.2.1 (fun h hh => by
        rcases List.mem_append.1 hh with hh | hh
        · exact ho h hh
        · rw [List.mem_singleton] at hh; subst hh
          have h3 := hdV_le (lnS b a)
          have h4 := lnS_le b ha
          omega)
      refine ⟨this.1, this.2.1, ?_⟩
      have h5 := this.2.2
      simp only [List.length_append, List.length_singleton] at h5; omega
theorem drop_by {b : List UInt8} {p : Nat} (hp : p ≤ b.length) : ByI (b.length - p) (fun i => shF (byF b) p i) (b.drop p) := by
  have h := ByI.sh (ByI.by b) (l := p) (k := b.length - p) (by omega)
  rw [List.take_of_length_le (by simp)] at h
  exact h
@[push_cast] theorem kill_shby (d p : Nat) (s : List UInt8) (i : Nat) : V.kill d (shF (byF s) p i) = shF (byF s) p i := rfl
@[push_cast] theorem men_shby (d p : Nat) (s : List UInt8) (i : Nat) : V.men d (shF (byF s) p i) = false := rfl
def ckReadReq : Ck
  | [.sl n f] => some (isBy n f ∧ n ≤ 4611686018427387900, .tup [cInq.enc (rqL (bytesOf n f)).1, .int .i64 (rqL (bytesOf n f)).2.1, .int .i64 (rqL (bytesOf n f)).2.2])
  | _ => none
attribute [push_cast] ckReadReq
theorem kindI_b (v : List UInt8) : 0 ≤ kindI v ∧ kindI v ≤ 5 := by
  have := idxL_b kindW v
  have hk : kindW.length = 5 := rfl
  unfold kindI; omega
theorem rdV_b (v : List UInt8) : 0 ≤ rdV v ∧ rdV v ≤ 253402300799 := by
  unfold rdV
  split
  · rename_i h
    have := of_decide_eq_true h
    exact ⟨this.1, this.2.1⟩
  · omega
/-- a state of the reader whose parts are small -/
structure RpOk (n : Nat) (x : Rp) : Prop where
  pl : x.pl ≤ n
  ki : 0 ≤ x.ki ∧ x.ki ≤ 5
  id : x.id.length ≤ n
  ow : x.ow.length ≤ n
  ti : 0 ≤ x.ti ∧ x.ti ≤ 253402300799
  ke : x.ke.length ≤ n
  ln : 0 ≤ x.ln ∧ x.ln ≤ 999999999
theorem lnA_le {B : List UInt8} {a : Nat} (w : List UInt8) (acc : List UInt8 → Bool) (h : a ≤ B.length) : lnA B a w acc ≤ B.length := by
  unfold lnA lnR lineOk
  split
  · rename_i g
    simp only [Bool.and_eq_true] at g
    exact (ln_fit h g.1.1).2.1
  · exact h
theorem wholeA_le {B : List UInt8} {a : Nat} (w : List UInt8) (h : a ≤ B.length) : wholeA B a w ≤ B.length := by
  unfold wholeA wholeB
  split
  · rename_i g
    simp only [Bool.and_eq_true] at g
    exact (ln_fit h g.1).2.1
  · exact h
theorem lineV_le {B : List UInt8} {a : Nat} (w : List UInt8) (h : a ≤ B.length) : (lineV B a w).length ≤ B.length := by
  unfold lineV
  rw [List.length_drop]
  have := lnS_le B h
  omega
theorem lnF_str {B : List UInt8} {a : Nat} (w : List UInt8) {old : List UInt8} (h : a ≤ B.length) (ho : old.length ≤ B.length) : (lnF B a w (fun v => v) old).length ≤ B.length := by
  unfold lnF
  split
  · exact lineV_le w h
  · exact ho
theorem digL9 {v : List UInt8} (h : digL v 9 = true) : natOf v ≤ 999999999 := by
  have := digL_all h
  have := natOf_le this.2.2.1 (k := 9) (by omega)
  omega
theorem hds_le {B : List UInt8} : ∀ (k : Nat) (a : Nat) (l : List Hd), a ≤ B.length → hdsLe B.length l → l.length ≤ a → (hdsR B k a l).2.1 ≤ B.length ∧ hdsLe B.length (hdsR B k a l).2.2 ∧ (hdsR B k a l).2.2.length ≤ (hdsR B k a l).2.1
  | 0, a, l, h, hl, hn => ⟨h, hl, hn⟩
  | k + 1, a, l, h, hl, hn => by
    rw [hdsR]
    split
    · exact ⟨h, hl, hn⟩
    · split
      · rename_i g
        simp only [Bool.and_eq_true] at g
        have hf := ln_fit h g.1
        refine hds_le k _ _ hf.2.1 (fun x hx => ?_) (by simp only [List.length_append, List.length_singleton]; omega)
        rcases List.mem_append.1 hx with hx | hx
        · exact hl x hx
        · rw [List.mem_singleton] at hx; subst hx
          have h3 := hdV_le (lnS B a)
          have h4 := lnS_le B h
          omega
      · exact ⟨h, hl, hn⟩
theorem linesD_ok {B : List UInt8} {x : Rp} {h : List Hd} (hx : RpOk B.length x) : RpOk B.length (linesD B x h).2.1 ∧ (linesD B x h).2.2 = h := by
  obtain ⟨a1, a2, a3, a4, a5, a6, a7⟩ := hx
  have b1 := lnA_le wLng (fun v => digL v 9) a1
  have b2 := lnA_le wDig dgB b1
  have b3 := wholeA_le [] b2
  have b4 : 0 ≤ lnF B x.pl wLng (fun v => if digL v 9 = true then (natOf v : Int) else x.ln) x.ln ∧ lnF B x.pl wLng (fun v => if digL v 9 = true then (natOf v : Int) else x.ln) x.ln ≤ 999999999 := by
    unfold lnF
    split
    · dsimp only
      split
      · rename_i g
        have := digL9 g
        omega
      · exact a7
    · exact a7
  unfold linesD
  split
  · exact ⟨⟨b1, a2, a3, a4, a5, a6, b4⟩, rfl⟩
  split
  · exact ⟨⟨b2, a2, a3, a4, a5, a6, b4⟩, rfl⟩
  · exact ⟨⟨b3, a2, a3, a4, a5, a6, b4⟩, rfl⟩
theorem lnF_b {B : List UInt8} {a : Nat} (w : List UInt8) (g : List UInt8 → Int) {old p q : Int} (hg : ∀ v, p ≤ g v ∧ g v ≤ q) (ho : p ≤ old ∧ old ≤ q) : p ≤ lnF B a w g old ∧ lnF B a w g old ≤ q := by
  unfold lnF
  split
  · exact hg _
  · exact ho
theorem nohds (n : Nat) : hdsLe n [] := fun _ h => (by cases h)
theorem linesC_ok {B : List UInt8} {x : Rp} (hx : RpOk B.length x) : RpOk B.length (linesC B B.length x).2.1 ∧ hdsLe B.length (linesC B B.length x).2.2 ∧ (linesC B B.length x).2.2.length ≤ B.length := by
  obtain ⟨a1, a2, a3, a4, a5, a6, a7⟩ := hx
  have b1 := lnA_le wKind kindB a1
  have c1 := lnF_b (B := B) (a := x.pl) wKind kindI kindI_b a2
  unfold linesC
  dsimp only
  split
  · exact ⟨⟨b1, c1, a3, a4, a5, a6, a7⟩, nohds _, Nat.zero_le _⟩
  have b2 := lnA_le wDate rdB b1
  have c2 := lnF_b (B := B) (a := lnA B x.pl wKind kindB) wDate rdV rdV_b a5
  split
  · exact ⟨⟨b2, c1, a3, a4, c2, a6, a7⟩, nohds _, Nat.zero_le _⟩
  have b3 := lnA_le wKey (fun _ => true) b2
  have c3 := lnF_str wKey b2 a6
  split
  · exact ⟨⟨b3, c1, a3, a4, c2, c3, a7⟩, nohds _, Nat.zero_le _⟩
  obtain ⟨d1, d2, d3⟩ := hds_le (B := B) (B.length + 1) _ [] b3 (nohds _) (Nat.zero_le _)
  have d4 := Nat.le_trans d3 d1
  split
  · exact ⟨⟨d1, c1, a3, a4, c2, c3, a7⟩, d2, d4⟩
  · generalize hdsR B (B.length + 1) (lnA B (lnA B (lnA B x.pl wKind kindB) wDate rdB) wKey (fun _ => true)) [] = H at *
    generalize lnF B (lnA B (lnA B x.pl wKind kindB) wDate rdB) wKey (fun v => v) x.ke = F3 at *
    generalize lnF B (lnA B x.pl wKind kindB) wDate rdV x.ti = F2 at *
    generalize lnF B x.pl wKind kindI x.ki = F1 at *
    obtain ⟨e1, e2⟩ := linesD_ok (B := B) (x := ⟨H.2.1, F1, x.id, x.ow, F2, F3, x.ln, x.dg⟩) (h := H.2.2) ⟨d1, c1, a3, a4, c2, c3, a7⟩
    refine ⟨e1, ?_, ?_⟩
    · rw [e2]; exact d2
    · rw [e2]; exact d4
theorem linesL_ok {B : List UInt8} {x : Rp} (hx : RpOk B.length x) : RpOk B.length (linesL B B.length x).2.1 ∧ hdsLe B.length (linesL B B.length x).2.2 ∧ (linesL B B.length x).2.2.length ≤ B.length := by
  obtain ⟨a1, a2, a3, a4, a5, a6, a7⟩ := hx
  have b1 := wholeA_le wKept0 a1
  unfold linesL
  dsimp only
  split
  · exact ⟨⟨b1, a2, a3, a4, a5, a6, a7⟩, nohds _, Nat.zero_le _⟩
  have b2 := lnA_le wId (fun _ => true) b1
  have c2 := lnF_str wId b1 a3
  split
  · exact ⟨⟨b2, a2, c2, a4, a5, a6, a7⟩, nohds _, Nat.zero_le _⟩
  split
  · have b3 := lnA_le wOf ofB b2
    have c3 := lnF_str wOf b2 a4
    split
    · exact ⟨⟨b3, a2, c2, c3, a5, a6, a7⟩, nohds _, Nat.zero_le _⟩
    · exact linesC_ok ⟨b3, a2, c2, c3, a5, a6, a7⟩
  · exact linesC_ok ⟨b2, a2, c2, a4, a5, a6, a7⟩
theorem lnR_ok {B : List UInt8} {a : Nat} {w : List UInt8} {acc : List UInt8 → Bool} (h : lnR B a w acc = true) : lineOk B a w = true ∧ acc (lineV B a w) = true ∧ lnA B a w acc = lnN B a := by
  unfold lnA
  rw [if_pos h]
  unfold lnR at h
  simp only [Bool.and_eq_true] at h
  exact ⟨h.1, h.2, rfl⟩
theorem lnR_no {B : List UInt8} {a : Nat} {w : List UInt8} {acc : List UInt8 → Bool} (h : lnR B a w acc = false) : lnA B a w acc = a ∧ (lineOk B a w = false ∨ (lineOk B a w = true ∧ acc (lineV B a w) = false)) := by
  unfold lnA
  rw [if_neg (by rw [h]; simp)]
  unfold lnR at h
  refine ⟨rfl, ?_⟩
  cases e : lineOk B a w with
  | false => exact .inl rfl
  | true => rw [e] at h; exact .inr ⟨rfl, h⟩
theorem lnF_ok {α : Type} {B : List UInt8} {a : Nat} {w : List UInt8} {g : List UInt8 → α} {old : α} (h : lineOk B a w = true) : lnF B a w g old = g (lineV B a w) := by unfold lnF; rw [if_pos h]
def rp0 (a : Nat) : Rp := ⟨a, 0, [], [], 0, [], 0, []⟩
theorem rp0_ok {n a : Nat} (h : a ≤ n) : RpOk n (rp0 a) := ⟨h, ⟨Int.le_refl 0, by show (0 : Int) ≤ 5; decide⟩, Nat.zero_le _, Nat.zero_le _, ⟨Int.le_refl 0, by show (0 : Int) ≤ 253402300799; decide⟩, Nat.zero_le _, ⟨Int.le_refl 0, by show (0 : Int) ≤ 999999999; decide⟩⟩
def crlf2 : List UInt8 := [13, 10, 13, 10]
/-- the record at a place, the place that is told, the error -/
def rdOne (B : List UInt8) (a : Nat) : Rcd × Int × Int :=
  let L := linesL B B.length (rp0 a)
  let e : Int := L.2.1.pl + L.2.1.ln
  let blk := (B.drop L.2.1.pl).take L.2.1.ln.toNat
  let r : Rcd := ⟨L.2.1.ki, L.2.1.id, L.2.1.ow, L.2.1.ti, L.2.1.ke, L.2.2, blk⟩
  if L.1 = false then (noRec, L.2.1.pl, 10) else
  if (B.length : Int) < e + 4 then (noRec, B.length, 10) else
  if (B.drop e.toNat).take 4 ≠ crlf2 then (noRec, e, 10) else
  if digestL blk ≠ L.2.1.dg then (noRec, L.2.1.pl, 15) else
  if checkRecL r ≠ 0 then (noRec, a, checkRecL r) else (r, e + 4, 0)
def ckReadOne0 : Ck
  | [.sl n f, .int .i64 a] => some (isBy n f ∧ n ≤ 500000 ∧ 0 ≤ a ∧ a ≤ n, .tup [cRec.enc (rdOne (bytesOf n f) a.toNat).1, .int .i64 (rdOne (bytesOf n f) a.toNat).2.1, .int .i64 (rdOne (bytesOf n f) a.toNat).2.2])
  | _ => none
def rdOneR (B : List UInt8) (a : Int) : Rcd × Int × Int := if (500000 < B.length ∨ a < 0) ∨ (B.length : Int) < a then (noRec, 0, 1) else rdOne B a.toNat
def ckReadOne : Ck
  | [.sl n f, .int .i64 a] => some (isBy n f ∧ n ≤ 140737488355328, .tup [cRec.enc (rdOneR (bytesOf n f) a).1, .int .i64 (rdOneR (bytesOf n f) a).2.1, .int .i64 (rdOneR (bytesOf n f) a).2.2])
  | _ => none
attribute [push_cast] ckReadOne0 ckReadOne

/-- a mark -/
structure Mk where
  id : List UInt8
  fr : Int
  en : Int
deriving DecidableEq
def noMk : Mk := ⟨[], 0, 0⟩
def decMk : V → Mk
  | .agg [.str id, .int _ fr, .int _ en] => ⟨id, fr, en⟩
  | _ => noMk
def cMk : Cod Mk := ⟨fun a => .agg [.str a.id, .int .i64 a.fr, .int .i64 a.en], decMk, noMk, fun a => rfl⟩
@[push_cast] theorem enc_mk (a : Mk) : cMk.enc a = .agg [.str a.id, .int .i64 a.fr, .int .i64 a.en] := rfl
@[push_cast] theorem dec_mk (k k' : IntKind) (fr en : Int) (id : List UInt8) : cMk.dec (.agg [.str id, .int k fr, .int k' en]) = ⟨id, fr, en⟩ := rfl
@[push_cast] theorem lsF_mk (l : List Mk) (i : Nat) : lsF cMk l i = .agg [.str (l.getD i noMk).id, .int .i64 (l.getD i noMk).fr, .int .i64 (l.getD i noMk).en] := rfl
theorem lnA_ge {B : List UInt8} {a : Nat} (w : List UInt8) (acc : List UInt8 → Bool) (h : a ≤ B.length) : a ≤ lnA B a w acc := by
  unfold lnA lnR lineOk
  split
  · rename_i g
    simp only [Bool.and_eq_true] at g
    have := ln_fit h g.1.1; omega
  · exact Nat.le_refl _
theorem wholeA_ge {B : List UInt8} {a : Nat} (w : List UInt8) (h : a ≤ B.length) : a ≤ wholeA B a w := by
  unfold wholeA wholeB
  split
  · rename_i g
    simp only [Bool.and_eq_true] at g
    have := ln_fit h g.1; omega
  · exact Nat.le_refl _
theorem hds_ge {B : List UInt8} : ∀ (k : Nat) (a : Nat) (l : List Hd), a ≤ B.length → a ≤ (hdsR B k a l).2.1
  | 0, a, l, h => Nat.le_refl _
  | k + 1, a, l, h => by
    rw [hdsR]
    split
    · exact Nat.le_refl _
    · split
      · rename_i g
        simp only [Bool.and_eq_true] at g
        have hf := ln_fit h g.1
        have := hds_ge k (lnN B a) (l ++ [hdV (lnS B a)]) hf.2.1
        omega
      · exact Nat.le_refl _
theorem linesD_ge {B : List UInt8} {x : Rp} {h : List Hd} (hx : x.pl ≤ B.length) : x.pl ≤ (linesD B x h).2.1.pl := by
  have b1 := lnA_ge wLng (fun v => digL v 9) hx
  have c1 := lnA_le wLng (fun v => digL v 9) hx
  have b2 := lnA_ge wDig dgB c1
  have c2 := lnA_le wDig dgB c1
  have b3 := wholeA_ge [] c2
  unfold linesD
  split
  · exact b1
  split
  · exact Nat.le_trans b1 b2
  · exact Nat.le_trans b1 (Nat.le_trans b2 b3)
theorem linesC_ge {B : List UInt8} {x : Rp} (hx : x.pl ≤ B.length) : x.pl ≤ (linesC B B.length x).2.1.pl := by
  have b1 := lnA_ge wKind kindB hx
  have c1 := lnA_le wKind kindB hx
  have b2 := lnA_ge wDate rdB c1
  have c2 := lnA_le wDate rdB c1
  have b3 := lnA_ge wKey (fun _ => true) c2
  have c3 := lnA_le wKey (fun _ => true) c2
  have b4 := hds_ge (B.length + 1) _ [] c3
  have c4 := (hds_le (B := B) (B.length + 1) _ [] c3 (nohds _) (Nat.zero_le _)).1
  unfold linesC
  dsimp only
  split
  · exact b1
  split
  · exact Nat.le_trans b1 b2
  split
  · exact Nat.le_trans b1 (Nat.le_trans b2 b3)
  split
  · exact Nat.le_trans b1 (Nat.le_trans b2 (Nat.le_trans b3 b4))
  · exact Nat.le_trans b1 (Nat.le_trans b2 (Nat.le_trans b3 (Nat.le_trans b4 (linesD_ge (x := ⟨_, _, _, _, _, _, _, _⟩) c4))))
theorem linesL_ge {B : List UInt8} {x : Rp} (hx : x.pl ≤ B.length) : x.pl ≤ (linesL B B.length x).2.1.pl := by
  have b1 := wholeA_ge wKept0 hx
  have c1 := wholeA_le wKept0 hx
  have b2 := lnA_ge wId (fun _ => true) c1
  have c2 := lnA_le wId (fun _ => true) c1
  have b3 := lnA_ge wOf ofB c2
  have c3 := lnA_le wOf ofB c2
  unfold linesL
  dsimp only
  split
  · exact b1
  split
  · exact Nat.le_trans b1 b2
  split
  · split
    · exact Nat.le_trans b1 (Nat.le_trans b2 b3)
    · exact Nat.le_trans b1 (Nat.le_trans b2 (Nat.le_trans b3 (linesC_ge (x := ⟨_, _, _, _, _, _, _, _⟩) c3)))
  · exact Nat.le_trans b1 (Nat.le_trans b2 (linesC_ge (x := ⟨_, _, _, _, _, _, _, _⟩) c2))
/-- what is read is small, and lies behind the place -/
theorem rdOne_fit {B : List UInt8} {a : Nat} (hB : B.length ≤ 500000) (ha : a ≤ B.length) : recOk (rdOne B a).1 ∧ ((rdOne B a).2.2 = 0 → (a : Int) + 4 ≤ (rdOne B a).2.1 ∧ (rdOne B a).2.1 ≤ B.length ∧ checkRecL (rdOne B a).1 = 0) := by
  have lk := linesL_ok (B := B) (rp0_ok (n := B.length) (a := a) ha)
  have lg : a ≤ (linesL B B.length (rp0 a)).2.1.pl := linesL_ge (x := rp0 a) ha
  unfold rdOne
  generalize linesL B B.length (rp0 a) = L at lk lg
  obtain ⟨ok, ⟨pl, ki, id, ow, ti, ke, ln, dg⟩, hs⟩ := L
  obtain ⟨⟨p1, ⟨p2, p2'⟩, p3, p4, ⟨p5, p5'⟩, p6, ⟨p7, p7'⟩⟩, p8, p9⟩ := lk
  simp only at lg p1 p2 p2' p3 p4 p5 p5' p6 p7 p7' p8 p9
  have no : recOk noRec := ⟨fun x hx => (by cases hx), by decide, by decide, by decide, by decide, by decide, by decide, by decide, by decide, by decide⟩
  dsimp only
  split
  · exact ⟨no, fun h => (by simp at h)⟩
  split
  · exact ⟨no, fun h => (by simp at h)⟩
  split
  · exact ⟨no, fun h => (by simp at h)⟩
  split
  · exact ⟨no, fun h => (by simp at h)⟩
  split
  · rename_i h
    exact ⟨no, fun h' => absurd h' h⟩
  · rename_i h1 h2 h3 h4 h5
    refine ⟨⟨fun x hx => ?_, ?_, ?_, ?_, ?_, ?_, ?_, ?_, ?_, ?_⟩, fun _ => ⟨?_, ?_, Classical.not_not.1 h5⟩⟩
    · have := p8 x hx
      omega
    all_goals simp only
    all_goals (try (rw [List.length_take, List.length_drop]))
    all_goals omega
/-- a file, read -/
def rfGo (B : List UInt8) : Nat → Nat → List Rcd → List Mk → List Rcd × List Mk × Int × Int
  | 0, _, _, _ => ([], [], 0, 0)
  | k + 1, a, l, m => if a < B.length then (if (rdOne B a).2.2 = 0 then rfGo B k (rdOne B a).2.1.toNat (l ++ [(rdOne B a).1]) (m ++ [⟨(rdOne B a).1.id, a, (rdOne B a).2.1⟩]) else ([], [], (rdOne B a).2.1, (rdOne B a).2.2)) else if checkFileL l = 0 then (l, m, 0, 0) else ([], [], 0, checkFileL l)
def readFileL (B : List UInt8) : List Rcd × List Mk × Int × Int := if 500000 < B.length then ([], [], 0, 2) else rfGo B (B.length + 1) 0 [] []
def ckReadFile0 : Ck
  | [.sl n f] => some (isBy n f ∧ n ≤ 140737488355328, .tup [.sl (readFileL (bytesOf n f)).1.length (lsF cRec (readFileL (bytesOf n f)).1), .sl (readFileL (bytesOf n f)).2.1.length (lsF cMk (readFileL (bytesOf n f)).2.1), .int .i64 (readFileL (bytesOf n f)).2.2.1, .int .i64 (readFileL (bytesOf n f)).2.2.2])
  | _ => none
def ckReadFile : Ck
  | [.sl n f] => some (isBy n f ∧ n ≤ 140737488355328, .tup [.sl (readFileL (bytesOf n f)).1.length (lsF cRec (readFileL (bytesOf n f)).1), .int .i64 (readFileL (bytesOf n f)).2.2.1, .int .i64 (readFileL (bytesOf n f)).2.2.2])
  | _ => none
def ckMarks : Ck
  | [.sl n f] => some (isBy n f ∧ n ≤ 140737488355328, .tup [.sl (readFileL (bytesOf n f)).2.1.length (lsF cMk (readFileL (bytesOf n f)).2.1), .int .i64 (readFileL (bytesOf n f)).2.2.2])
  | _ => none
attribute [push_cast] ckReadFile0 ckReadFile ckMarks

/-- harmed bytes -/
structure Hm where
  fr : Int
  en : Int
deriving DecidableEq
def noHm : Hm := ⟨0, 0⟩
def decHm : V → Hm
  | .agg [.int _ fr, .int _ en] => ⟨fr, en⟩
  | _ => noHm
def cHm : Cod Hm := ⟨fun a => .agg [.int .i64 a.fr, .int .i64 a.en], decHm, noHm, fun a => rfl⟩
@[push_cast] theorem enc_hm (a : Hm) : cHm.enc a = .agg [.int .i64 a.fr, .int .i64 a.en] := rfl
@[push_cast] theorem dec_hm (k k' : IntKind) (fr en : Int) : cHm.dec (.agg [.int k fr, .int k' en]) = ⟨fr, en⟩ := rfl
@[push_cast] theorem lsF_hm (l : List Hm) (i : Nat) : lsF cHm l i = .agg [.int .i64 (l.getD i noHm).fr, .int .i64 (l.getD i noHm).en] := rfl
def harmL (h : List Hm) (a b : Int) : List Hm := if a < b then h ++ [⟨a, b⟩] else h
/-- the records of any bytes, and what is harmed -/
def rsGo (B : List UInt8) : Nat → Nat → Nat → List Rcd → List Hm → List Rcd × List Hm
  | 0, _, _, l, h => (l, h)
  | k + 1, a, f, l, h => if a < B.length then (if (rdOne B a).2.2 = 0 ∧ (l.map Rcd.id).contains (rdOne B a).1.id = false then rsGo B k (rdOne B a).2.1.toNat (rdOne B a).2.1.toNat (l ++ [(rdOne B a).1]) (harmL h f a) else rsGo B k (a + 1) f l h) else (l, harmL h f a)
def rescL (B : List UInt8) : List Rcd × List Hm × Int := if 500000 < B.length then ([], [], 2) else if 1000 < (rsGo B (B.length + 1) 0 0 [] []).1.length then ([], [], 2) else ((rsGo B (B.length + 1) 0 0 [] []).1, (rsGo B (B.length + 1) 0 0 [] []).2, 0)
theorem rsGo_ge {B : List UInt8} : ∀ (k a f : Nat) (l : List Rcd) (h : List Hm), l.length ≤ (rsGo B k a f l h).1.length
  | 0, a, f, l, h => Nat.le_refl _
  | k + 1, a, f, l, h => by
    rw [rsGo]
    split
    · split
      · have := rsGo_ge k (rdOne B a).2.1.toNat (rdOne B a).2.1.toNat (l ++ [(rdOne B a).1]) (harmL h f a) (B := B)
        simp only [List.length_append, List.length_singleton] at this
        omega
      · exact rsGo_ge k (a + 1) f l h
    · exact Nat.le_refl _
theorem harmL_le (h : List Hm) (a b : Int) : (harmL h a b).length ≤ h.length + 1 := by
  unfold harmL; split <;> simp
def ckRescued : Ck
  | [.sl n f] => some (isBy n f ∧ n ≤ 140737488355328, .tup [.sl (rescL (bytesOf n f)).1.length (lsF cRec (rescL (bytesOf n f)).1), .sl (rescL (bytesOf n f)).2.1.length (lsF cHm (rescL (bytesOf n f)).2.1), .int .i64 (rescL (bytesOf n f)).2.2])
  | _ => none
attribute [push_cast] ckRescued

def ckCloneBy : Ck
  | [.sl n f] => some (isBy n f ∧ n ≤ 140737488355328, .sl n f)
  | _ => none
theorem conCloneBy : Con pg 48 ckCloneBy := by
  have hct := ctN_ok pg
  intro args q r h hq
  unfold ckCloneBy at h
  split at h
  · cases h
    rename_i n f
    by_cases hn : n = 0
    · subst hn
      refine pcall_nil1 fun a c => ?_
      refine w48 (fun d => decide (d < 9999)) [.frz 5] rfl hct rfl rfl ?_
      push_cast (config := { maxSteps := 10000000 })
      cases a
      · push_cast (config := { maxSteps := 10000000 })
      · push_cast (config := { maxSteps := 10000000 })
    · refine w48 (fun d => decide (d < 9999)) [.frz 5] rfl hct rfl rfl ?_
      push_cast (config := { maxSteps := 10000000 })
      obtain ⟨h1, h2⟩ := hq
      exact ⟨by omega, ⟨h1.flat, by omega, by omega⟩, h1.pure⟩
  · cases h
attribute [push_cast] ckCloneBy

@[push_cast] theorem linesR_ids (o : Nat) : ckLinesR.ids [.ptr 13 o] = [13] := rfl
@[push_cast] theorem linesR_k (n : Nat) (f : Nat → V) (a ki ti ln : Int) (id ow ke dg : List UInt8) : ckLinesR.k [.ptr 13 0] [.cells [.sl n f, .int .i64 a, .int .i64 ki, .str id, .str ow, .int .i64 ti, .str ke, .nilsl, .nilsl, .int .i64 ln, .str dg]] = some (isBy n f ∧ n ≤ 1000000000 ∧ 0 ≤ a ∧ a ≤ n, .bool (linesL (bytesOf n f) n ⟨a.toNat, ki, id, ow, ti, ke, ln, dg⟩).1, [.cells [.sl n f, .int .i64 (linesL (bytesOf n f) n ⟨a.toNat, ki, id, ow, ti, ke, ln, dg⟩).2.1.pl, .int .i64 (linesL (bytesOf n f) n ⟨a.toNat, ki, id, ow, ti, ke, ln, dg⟩).2.1.ki, .str (linesL (bytesOf n f) n ⟨a.toNat, ki, id, ow, ti, ke, ln, dg⟩).2.1.id, .str (linesL (bytesOf n f) n ⟨a.toNat, ki, id, ow, ti, ke, ln, dg⟩).2.1.ow, .int .i64 (linesL (bytesOf n f) n ⟨a.toNat, ki, id, ow, ti, ke, ln, dg⟩).2.1.ti, .str (linesL (bytesOf n f) n ⟨a.toNat, ki, id, ow, ti, ke, ln, dg⟩).2.1.ke, .sl (linesL (bytesOf n f) n ⟨a.toNat, ki, id, ow, ti, ke, ln, dg⟩).2.2.length (lsF cHd (linesL (bytesOf n f) n ⟨a.toNat, ki, id, ow, ti, ke, ln, dg⟩).2.2), .nilsl, .int .i64 (linesL (bytesOf n f) n ⟨a.toNat, ki, id, ow, ti, ke, ln, dg⟩).2.1.ln, .str (linesL (bytesOf n f) n ⟨a.toNat, ki, id, ow, ti, ke, ln, dg⟩).2.1.dg]]) := rfl
theorem conReadOne0 : Con pg 78 ckReadOne0 := by
  have hct := (ctF_ok conLinesR (ctA_ok conCloneBy (ctA_ok conDigest (ctA_ok conCheckRec (ctN_ok _)))))
  intro args q r h hq
  unfold ckReadOne0 at h
  split at h
  · cases h
    rename_i n f a
    refine pcall_args (args' := [.sl (bytesOf n f).length (byF (bytesOf n f)), .int .i64 a]) ⟨isBy.vle hq.1, VLe.refl _, trivial⟩ ?_
    obtain ⟨-, hn, h0, h1⟩ := hq
    have hl := bytesOf_len n f
    rw [← hl] at hn h1
    generalize bytesOf n f = B at hn h1 ⊢
    clear hl
    obtain ⟨a, rfl⟩ : ∃ k : Nat, a = k := ⟨a.toNat, by omega⟩
    rw [Int.toNat_natCast]
    refine w78 (fun _ => false) [] rfl hct rfl rfl ?_
    push_cast (config := { maxSteps := 10000000 })
    have h1 : a ≤ B.length := by omega
    have lk := linesL_ok (B := B) (rp0_ok (n := B.length) (a := a) h1)
    generalize hR : rdOne B a = R
    unfold rdOne at hR
    generalize hL : linesL B B.length (rp0 a) = L at lk hR
    have hL' : linesL B B.length ⟨a, 0, [], [], 0, [], 0, []⟩ = L := hL
    simp only [hL']
    clear hL hL'
    obtain ⟨ok, ⟨pl, ki, id, ow, ti, ke, ln, dg⟩, hs⟩ := L
    obtain ⟨⟨p1, ⟨p2, p2'⟩, p3, p4, ⟨p5, p5'⟩, p6, ⟨p7, p7'⟩⟩, p8, p9⟩ := lk
    simp only at hR p1 p2 p2' p3 p4 p5 p5' p6 p7 p7' p8 p9 ⊢
    obtain ⟨ln, rfl⟩ : ∃ k : Nat, ln = k := ⟨ln.toNat, by omega⟩
    refine ⟨⟨by omega, h1⟩, fun h => ?_, fun h => ⟨⟨by omega, by omega⟩, ⟨by omega, by omega⟩, fun h2 => ?_, fun h2 => ⟨⟨by omega, by omega⟩, ⟨⟨by omega, by omega⟩, ⟨by omega, by omega⟩, by omega⟩, ?_⟩⟩⟩
    · rw [if_pos h] at hR
      rw [← hR]
      exact ⟨⟨rfl, rfl, rfl, rfl, rfl, rfl, rfl⟩, rfl, rfl⟩
    · rw [if_neg (by rw [h]; simp), if_pos (by omega)] at hR
      rw [← hR]
      exact ⟨⟨rfl, rfl, rfl, rfl, rfl, rfl, rfl⟩, rfl, rfl⟩
    rw [if_neg (by rw [h]; simp), if_neg (by omega)] at hR
    have e1 : ((pl : Int) + ln).toNat = pl + ln := by omega
    have e2 : ((pl : Int) + ln + 4).toNat = pl + ln + 4 := by omega
    simp only [e1, e2, Int.toNat_natCast, Nat.add_sub_cancel_left] at hR ⊢
    have b4 := ByI.sh (ByI.by B) (l := pl + ln) (k := 4) (by omega)
    have bb := ByI.sh (ByI.by B) (l := pl) (k := ln) (by omega)
    have b4' : bytesOf 4 (shF (byF B) (pl + ln)) = (B.drop (pl + ln)).take 4 := b4.bytes
    have bb' : bytesOf ln (shF (byF B) pl) = (B.drop pl).take ln := bb.bytes
    simp only [b4', bb']
    refine ⟨b4.bytesP, fun h3 => ?_, fun h3 => ⟨⟨⟨by omega, by omega⟩, p1, by omega⟩, ⟨bb.is, by omega⟩, ⟨bb.is, by omega⟩, fun h4 => ?_, fun h4 => ⟨⟨isC_rec (isLs_ls hs) bb.is, ?_⟩, fun h5 => ?_, fun h5 => ⟨⟨by omega, by omega⟩, ?_⟩⟩⟩⟩
    · rw [if_pos (show _ ≠ crlf2 from h3)] at hR
      rw [← hR]
      exact ⟨⟨rfl, rfl, rfl, rfl, rfl, rfl, rfl⟩, rfl, rfl⟩
    · rw [if_neg (show ¬ (List.take 4 (List.drop (pl + ln) B) ≠ crlf2) from fun x => x h3), if_pos h4] at hR
      rw [← hR]
      exact ⟨⟨rfl, rfl, rfl, rfl, rfl, rfl, rfl⟩, rfl, rfl⟩
    · have := bb.1
      refine ⟨fun x hx => ?_, ?_, ?_, ?_, ?_, ?_, ?_, ?_, ?_, ?_⟩
      · have := p8 x hx
        omega
      all_goals simp only
      all_goals omega
    · rw [if_neg (show ¬ (List.take 4 (List.drop (pl + ln) B) ≠ crlf2) from fun x => x h3), if_neg (fun x => x h4), if_pos h5] at hR
      rw [← hR]
      exact ⟨⟨rfl, rfl, rfl, rfl, rfl, rfl, rfl⟩, rfl, rfl⟩
    · rw [if_neg (show ¬ (List.take 4 (List.drop (pl + ln) B) ≠ crlf2) from fun x => x h3), if_neg (fun x => x h4), if_neg (fun x => x h5)] at hR
      rw [← hR]
      exact ⟨⟨rfl, rfl, rfl, rfl, rfl, ⟨rfl, fun _ _ => rfl⟩, bb.1, bb.2⟩, rfl, rfl⟩
  · cases h
theorem conReadOne : Con pg 37 ckReadOne := by
  have hct := (ctA_ok conReadOne0 (ctN_ok _))
  intro args q r h hq
  unfold ckReadOne at h
  split at h
  · cases h
    rename_i n f a
    refine pcall_args (args' := [.sl (bytesOf n f).length (byF (bytesOf n f)), .int .i64 a]) ⟨isBy.vle hq.1, VLe.refl _, trivial⟩ ?_
    obtain ⟨-, hn⟩ := hq
    have hl := bytesOf_len n f
    rw [← hl] at hn
    generalize bytesOf n f = B at hn ⊢
    clear hl
    refine w37 (fun _ => false) [] rfl hct rfl rfl ?_
    push_cast (config := { maxSteps := 10000000 })
    generalize hR : rdOneR B a = R
    unfold rdOneR at hR
    refine ⟨fun h => ?_, fun h => ⟨⟨by omega, by omega, by omega⟩, ?_⟩⟩
    · rw [if_pos (by omega)] at hR
      rw [← hR]
      exact ⟨⟨rfl, rfl, rfl, rfl, rfl, rfl, rfl⟩, rfl, rfl⟩
    · rw [if_neg (by omega)] at hR
      rw [← hR]
      exact ⟨⟨rfl, rfl, rfl, rfl, rfl, ⟨rfl, fun _ _ => rfl⟩, rfl, fun _ _ => rfl⟩, rfl, rfl⟩
  · cases h

/- record.write behind bytes that are there already: their row is block 12 of the caller's, 9012 here -/
def ckLineKb : List V → List Blk → Option (Prop × V × List Blk)
  | [.str a, .str v, .ptr 2 0], [.cells [.vec 9012 n], .vec 1 k g] => some (k = n ∧ isBy n g ∧ n ≤ 100000000 ∧ a.length ≤ 100000000 ∧ v.length ≤ 100000000, .tup [], [.cells [.vec 9012 (catL (bytesOf n g) a v).length], .vec 1 (catL (bytesOf n g) a v).length (byF (catL (bytesOf n g) a v))])
  | _, _ => none
def ckLine6b : Cf := ⟨fun | [_, _, .ptr 2 _] => [2, 9012] | _ => [], ckLineKb⟩
theorem conLine6b : FCon pg 84 ckLine6b := by
  have hct := ctN_ok pg
  intro args bs q r bs' h hq
  replace h : ckLineKb args bs = some (q, r, bs') := h
  unfold ckLineKb at h
  split at h
  · cases h
    rename_i a v n k g
    refine ⟨rfl, Nat.le_refl _, ?_⟩
    obtain ⟨rfl, hg, hk, ha, hv⟩ := hq
    show FCall pg 84 [.str a, .str v, .ptr 9002 0] [(9002, .cells [.vec 18012 k]), (18012, .vec 1 k fun i => V.shift (g i))] (.tup []) [(9002, .cells [.vec 18012 (catL (bytesOf k g) a v).length]), (18012, .vec 1 (catL (bytesOf k g) a v).length (byF (catL (bytesOf k g) a v)))]
    refine fcall_blk (hm := [(9002, .cells [.vec 18012 k]), (18012, .vec 1 k (byF (bytesOf k g)))]) ⟨rfl, ⟨⟨rfl, rfl⟩, trivial⟩, rfl, ⟨rfl, rfl, fun j hj => by show V.shift (g j) = _; rw [hg.2 j hj]; rfl⟩, trivial⟩ ?_
    have hl := bytesOf_len k g
    generalize bytesOf k g = b at hl ⊢
    subst hl
    refine fw84 (fun _ => false) [] rfl hct rfl (by simp) (by simp [hlIn, idsIn, Blk.menIn, V.menInL, V.menIn, V.flat, byF, lsF]) (by simp [V.menIn, V.menInL, idsIn]) ?_
    push_cast (config := { maxSteps := 10000000 })
    have hll : (lnB2 a v).length = a.length + 2 + v.length + 2 := by simp [lnB2]; omega
    have hcl := catL_len b a v
    have app := ByI.app (ByI.by b) (ByI.by (lnB2 a v)) rfl
    rw [hll] at app
    exact ⟨by omega, by omega, by omega, ⟨by omega, by omega⟩, by omega, by omega, app.2⟩
  · cases h
@[push_cast] theorem line6_idsb (x y : V) (o : Nat) : ckLine6b.ids [x, y, .ptr 2 o] = [2, 9012] := rfl
@[push_cast] theorem line6_kb (a v : List UInt8) (n k : Nat) (g : Nat → V) : ckLine6b.k [.str a, .str v, .ptr 2 0] [.cells [.vec 9012 n], .vec 1 k g] = some (k = n ∧ isBy n g ∧ n ≤ 100000000 ∧ a.length ≤ 100000000 ∧ v.length ≤ 100000000, .tup [], [.cells [.vec 9012 (catL (bytesOf n g) a v).length], .vec 1 (catL (bytesOf n g) a v).length (byF (catL (bytesOf n g) a v))]) := rfl
@[push_cast] theorem keptB_by (B : List UInt8) : bytesOf (B.length + 8) (appF B.length (byF B) (byF [75, 69, 80, 84, 47, 49, 13, 10])) = B ++ [75, 69, 80, 84, 47, 49, 13, 10] := (ByI.app (ByI.by B) (ByI.by [75, 69, 80, 84, 47, 49, 13, 10]) rfl).bytes
@[push_cast] theorem keptB_is (B : List UInt8) : isBy (B.length + 8) (appF B.length (byF B) (byF [75, 69, 80, 84, 47, 49, 13, 10])) = True := eq_true (ByI.app (ByI.by B) (ByI.by [75, 69, 80, 84, 47, 49, 13, 10]) rfl).is
theorem catL_B (B L a v : List UInt8) : catL (B ++ L) a v = B ++ catL L a v := by simp [catL]
theorem recP_owB (B : List UInt8) {r : Rcd} (h : ¬ r.ow = []) : catL (catL (catL (catL (catL (B ++ [75, 69, 80, 84, 47, 49, 13, 10]) [105, 100] r.id) [111, 102] r.ow) [107, 105, 110, 100] (kindW.getD (r.ki - 1).toNat [])) [100, 97, 116, 101] (dateTextL r.ti)) [107, 101, 121] r.ke = B ++ recP r := by
  rw [← recP_ow h]; simp only [catL_B]
theorem recP_noB (B : List UInt8) {r : Rcd} (h : r.ow = []) : catL (catL (catL (catL (B ++ [75, 69, 80, 84, 47, 49, 13, 10]) [105, 100] r.id) [107, 105, 110, 100] (kindW.getD (r.ki - 1).toNat [])) [100, 97, 116, 101] (dateTextL r.ti)) [107, 101, 121] r.ke = B ++ recP r := by
  rw [← recP_no h]; simp only [catL_B]
def ckWriteVK : List V → List Blk → Option (Prop × V × List Blk)
  | [.vec 12 n, .agg [.int .i64 ki, .str id, .str ow, .int .i64 ti, .str ke, .sl hn hf, .sl bn bf]], [.vec 1 k g] => some (k = n ∧ isBy n g ∧ n ≤ 50000000 ∧ isLs cHd hn hf ∧ isBy bn bf ∧ recOk ⟨ki, id, ow, ti, ke, lsOf cHd hn hf, bytesOf bn bf⟩ ∧ checkRecL ⟨ki, id, ow, ti, ke, lsOf cHd hn hf, bytesOf bn bf⟩ = 0, .vec 12 (bytesOf n g ++ recB ⟨ki, id, ow, ti, ke, lsOf cHd hn hf, bytesOf bn bf⟩).length, [.vec 1 (bytesOf n g ++ recB ⟨ki, id, ow, ti, ke, lsOf cHd hn hf, bytesOf bn bf⟩).length (byF (bytesOf n g ++ recB ⟨ki, id, ow, ti, ke, lsOf cHd hn hf, bytesOf bn bf⟩))])
  | _, _ => none
def ckWriteV : Cf := ⟨fun | [.vec 12 _, _] => [12] | _ => [], ckWriteVK⟩
theorem conWriteV : FCon pg 53 ckWriteV := by
  have hct := (ctF_ok conLine6b (ctA_ok conKinds (ctA_ok conDateText (ctA_ok conItoa (ctA_ok conDigest (ctN_ok _))))))
  intro args bs q r bs' h hq
  replace h : ckWriteVK args bs = some (q, r, bs') := h
  unfold ckWriteVK at h
  split at h
  · cases h
    rename_i n ki id ow ti ke hn hf bn bf k g
    refine ⟨rfl, by first | exact Nat.le_refl _ | exact Nat.zero_le _, ?_⟩
    obtain ⟨rfl, hg, hk, h1, h2, ha, hc⟩ := hq
    show FCall pg 53 [.vec 9012 k, .agg [.int .i64 ki, .str id, .str ow, .int .i64 ti, .str ke, .sl hn hf, .sl bn bf]] [(9012, .vec 1 k fun i => V.shift (g i))] (.vec 9012 (bytesOf k g ++ recB ⟨ki, id, ow, ti, ke, lsOf cHd hn hf, bytesOf bn bf⟩).length) [(9012, .vec 1 (bytesOf k g ++ recB ⟨ki, id, ow, ti, ke, lsOf cHd hn hf, bytesOf bn bf⟩).length (byF (bytesOf k g ++ recB ⟨ki, id, ow, ti, ke, lsOf cHd hn hf, bytesOf bn bf⟩)))]
    refine fcall_blk (hm := [(9012, .vec 1 (bytesOf k g).length (byF (bytesOf k g)))]) ⟨rfl, ⟨rfl, (bytesOf_len k g).symm, fun j hj => by show V.shift (g j) = _; rw [hg.2 j hj]; rfl⟩, trivial⟩ ?_
    refine fcall_args (args' := [.vec 9012 (bytesOf k g).length, cRec.enc ⟨ki, id, ow, ti, ke, lsOf cHd hn hf, bytesOf bn bf⟩]) ⟨VLe.of_eq (by rw [bytesOf_len]), isC_rec h1 h2, trivial⟩ ?_
    have hB : (bytesOf k g).length ≤ 50000000 := by rw [bytesOf_len]; exact hk
    generalize bytesOf k g = B at hB ⊢
    generalize (⟨ki, id, ow, ti, ke, lsOf cHd hn hf, bytesOf bn bf⟩ : Rcd) = r at ha hc ⊢
    refine fw53 (fun d => decide (d = 10006)) [] rfl hct rfl (by simp) (by simp [hlIn, idsIn, Blk.menIn, V.menInL, V.menIn, V.flat, byF, lsF]) (by simp [V.menIn, V.menInL, idsIn]) ?_
    push_cast (config := { maxSteps := 10000000 })
    obtain ⟨z1, z2, z3, z4, z5, z6, z7⟩ := rec_sz hc
    obtain ⟨y1, y2, y3, y4, y5, y6, y7, y8, y9, y10⟩ := rec_ok hc
    have zk := kindW_le (r.ki - 1).toNat
    have zp := recP_le hc
    have c8 : ([75, 69, 80, 84, 47, 49, 13, 10] : List UInt8).length = 8 := rfl
    have c2 : ([105, 100] : List UInt8).length = 2 := rfl
    rw [if_pos ⟨y5, y6⟩]
    refine ⟨⟨by omega, by omega⟩, ⟨by omega, by omega⟩, fun how => ?_, fun how => ?_⟩
    · have hP := recP_owB B how
      refine ⟨⟨by simp only [catL_len, List.length_append, List.length_cons, List.length_nil]; omega, by omega⟩, ⟨by omega, by omega⟩, ⟨by omega, by omega⟩, ⟨by simp only [catL_len, List.length_append, List.length_cons, List.length_nil]; omega, by omega⟩, ⟨by omega, by omega⟩, ⟨by simp only [catL_len, List.length_append, List.length_cons, List.length_nil]; omega, by omega⟩, ⟨by simp only [catL_len, List.length_append, List.length_cons, List.length_nil]; omega, by omega⟩, ?_⟩
      generalize catL (catL (catL (catL (catL (B ++ [75, 69, 80, 84, 47, 49, 13, 10]) [105, 100] r.id) [111, 102] r.ow) [107, 105, 110, 100] (kindW.getD (r.ki - 1).toNat [])) [100, 97, 116, 101] (dateTextL r.ti)) [107, 101, 121] r.ke = P at hP ⊢
      refine LoopW.adj ⟨hct, fol⟩ (by kernel_rfl) [] (fun t : Nat × List UInt8 => [(2, .ptr 2 0), (3, .ptr 3 0), (5, .fn (.func 84) [] [.ptr 2 0]), (46, .sl r.hd.length (lsF cHd r.hd)), (47, .int .i64 r.hd.length), (48, .int .i64 t.1)]) (fun t => [(2, .cells [.vec 9012 t.2.length]), (9012, .vec 1 t.2.length (byF t.2)), (3, .cells [.int .i64 r.ki, .str r.id, .str r.ow, .int .i64 r.ti, .str r.ke, .sl r.hd.length (lsF cHd r.hd), .sl r.bd.length (byF r.bd)])]) (fun t => t.1 ≤ r.hd.length ∧ t.2 ++ headsB (r.hd.drop t.1) = (B ++ recP r) ++ headsB r.hd) (fun t => r.hd.length - t.1) (0, P) ?_ fun t ht => ?_
      · push_cast (config := { maxSteps := 10000000 })
        exact ⟨Nat.zero_le _, congrArg (· ++ headsB r.hd) hP⟩
      · obtain ⟨i, o⟩ := t
        obtain ⟨i1, i2⟩ : i ≤ r.hd.length ∧ o ++ headsB (r.hd.drop i) = (B ++ recP r) ++ headsB r.hd := ht
        have hl := congrArg List.length i2
        simp only [List.length_append] at hl
        push_cast (config := { maxSteps := 10000000 })
        refine ⟨fun h => ?_, fun h => ?_⟩
        · have e := dropG (d := ⟨[], []⟩) h
          rw [e, headsB] at i2 hl
          have hx : (headB (r.hd.getD i ⟨[], []⟩)).length = (r.hd.getD i ⟨[], []⟩).name.length + 2 + (r.hd.getD i ⟨[], []⟩).value.length + 2 := by simp [headB]; omega
          simp only [List.length_append] at hl
          exact ⟨h, ⟨by omega, by omega, by omega⟩, ⟨by omega, by omega⟩, (i + 1, catL o (r.hd.getD i ⟨[], []⟩).name (r.hd.getD i ⟨[], []⟩).value), ⟨by show i + 1 ≤ r.hd.length; omega, by rw [← i2]; simp [catL, lnB2, headB]⟩, by show r.hd.length - (i + 1) < r.hd.length - i; omega, by show (i : Int) + 1 = ((i + 1 : Nat) : Int); omega, rfl, rfl, fun _ _ => rfl⟩
        · rw [List.drop_eq_nil_of_le (by omega)] at i2 hl
          simp only [headsB, List.append_nil, List.length_nil, Nat.add_zero] at i2 hl
          have hi6 := itoa_len (n := r.bd.length) (by omega)
          have hdg : (digestL r.bd).length = 16 := hex16_len _
          have hq1 := catL_len o [108, 101, 110, 103, 116, 104] (Lib.itoa r.bd.length)
          have hq2 := catL_len (catL o [108, 101, 110, 103, 116, 104] (Lib.itoa r.bd.length)) [100, 105, 103, 101, 115, 116] (digestL r.bd)
          have cl1 : ([108, 101, 110, 103, 116, 104] : List UInt8).length = 6 := rfl
          have cl2 : ([100, 105, 103, 101, 115, 116] : List UInt8).length = 6 := rfl
          have eq : catL (catL o [108, 101, 110, 103, 116, 104] (Lib.itoa r.bd.length)) [100, 105, 103, 101, 115, 116] (digestL r.bd) ++ [13, 10] ++ r.bd ++ [13, 10, 13, 10] = B ++ recB r := by
            rw [i2]; simp [recB, recQ, catL]
          generalize catL (catL o [108, 101, 110, 103, 116, 104] (Lib.itoa r.bd.length)) [100, 105, 103, 101, 115, 116] (digestL r.bd) = Q at hq2 eq ⊢
          have app : ByI (Q.length + 2 + r.bd.length + 4) (appF (Q.length + 2 + r.bd.length) (appF (Q.length + 2) (appF Q.length (byF Q) (byF [13, 10])) (byF r.bd)) (byF [13, 10, 13, 10])) (B ++ recB r) := (ByI.app (ByI.app (ByI.app (ByI.by Q) (ByI.by [13, 10]) rfl) (ByI.by r.bd) rfl) (ByI.by [13, 10, 13, 10]) rfl).eq eq
          exact ⟨⟨by omega, by omega⟩, ⟨by omega, by omega⟩, by omega, ⟨by omega, by omega⟩, ⟨by omega, by omega⟩, ⟨by omega, by omega⟩, ⟨by omega, by omega⟩, app.1.trans List.length_append, app.1.trans List.length_append, app.2⟩
    · have hP := recP_noB B how
      refine ⟨⟨by omega, by omega⟩, ⟨by omega, by omega⟩, ⟨by simp only [catL_len, List.length_append, List.length_cons, List.length_nil]; omega, by omega⟩, ⟨by omega, by omega⟩, ⟨by simp only [catL_len, List.length_append, List.length_cons, List.length_nil]; omega, by omega⟩, ⟨by simp only [catL_len, List.length_append, List.length_cons, List.length_nil]; omega, by omega⟩, ?_⟩
      generalize catL (catL (catL (catL (B ++ [75, 69, 80, 84, 47, 49, 13, 10]) [105, 100] r.id) [107, 105, 110, 100] (kindW.getD (r.ki - 1).toNat [])) [100, 97, 116, 101] (dateTextL r.ti)) [107, 101, 121] r.ke = P at hP ⊢
      refine LoopW.adj ⟨hct, fol⟩ (by kernel_rfl) [] (fun t : Nat × List UInt8 => [(2, .ptr 2 0), (3, .ptr 3 0), (5, .fn (.func 84) [] [.ptr 2 0]), (46, .sl r.hd.length (lsF cHd r.hd)), (47, .int .i64 r.hd.length), (48, .int .i64 t.1)]) (fun t => [(2, .cells [.vec 9012 t.2.length]), (9012, .vec 1 t.2.length (byF t.2)), (3, .cells [.int .i64 r.ki, .str r.id, .str r.ow, .int .i64 r.ti, .str r.ke, .sl r.hd.length (lsF cHd r.hd), .sl r.bd.length (byF r.bd)])]) (fun t => t.1 ≤ r.hd.length ∧ t.2 ++ headsB (r.hd.drop t.1) = (B ++ recP r) ++ headsB r.hd) (fun t => r.hd.length - t.1) (0, P) ?_ fun t ht => ?_
      · push_cast (config := { maxSteps := 10000000 })
        exact ⟨Nat.zero_le _, congrArg (· ++ headsB r.hd) hP⟩
      · obtain ⟨i, o⟩ := t
        obtain ⟨i1, i2⟩ : i ≤ r.hd.length ∧ o ++ headsB (r.hd.drop i) = (B ++ recP r) ++ headsB r.hd := ht
        have hl := congrArg List.length i2
        simp only [List.length_append] at hl
        push_cast (config := { maxSteps := 10000000 })
        refine ⟨fun h => ?_, fun h => ?_⟩
        · have e := dropG (d := ⟨[], []⟩) h
          rw [e, headsB] at i2 hl
          have hx : (headB (r.hd.getD i ⟨[], []⟩)).length = (r.hd.getD i ⟨[], []⟩).name.length + 2 + (r.hd.getD i ⟨[], []⟩).value.length + 2 := by simp [headB]; omega
          simp only [List.length_append] at hl
          exact ⟨h, ⟨by omega, by omega, by omega⟩, ⟨by omega, by omega⟩, (i + 1, catL o (r.hd.getD i ⟨[], []⟩).name (r.hd.getD i ⟨[], []⟩).value), ⟨by show i + 1 ≤ r.hd.length; omega, by rw [← i2]; simp [catL, lnB2, headB]⟩, by show r.hd.length - (i + 1) < r.hd.length - i; omega, by show (i : Int) + 1 = ((i + 1 : Nat) : Int); omega, rfl, rfl, fun _ _ => rfl⟩
        · rw [List.drop_eq_nil_of_le (by omega)] at i2 hl
          simp only [headsB, List.append_nil, List.length_nil, Nat.add_zero] at i2 hl
          have hi6 := itoa_len (n := r.bd.length) (by omega)
          have hdg : (digestL r.bd).length = 16 := hex16_len _
          have hq1 := catL_len o [108, 101, 110, 103, 116, 104] (Lib.itoa r.bd.length)
          have hq2 := catL_len (catL o [108, 101, 110, 103, 116, 104] (Lib.itoa r.bd.length)) [100, 105, 103, 101, 115, 116] (digestL r.bd)
          have cl1 : ([108, 101, 110, 103, 116, 104] : List UInt8).length = 6 := rfl
          have cl2 : ([100, 105, 103, 101, 115, 116] : List UInt8).length = 6 := rfl
          have eq : catL (catL o [108, 101, 110, 103, 116, 104] (Lib.itoa r.bd.length)) [100, 105, 103, 101, 115, 116] (digestL r.bd) ++ [13, 10] ++ r.bd ++ [13, 10, 13, 10] = B ++ recB r := by
            rw [i2]; simp [recB, recQ, catL]
          generalize catL (catL o [108, 101, 110, 103, 116, 104] (Lib.itoa r.bd.length)) [100, 105, 103, 101, 115, 116] (digestL r.bd) = Q at hq2 eq ⊢
          have app : ByI (Q.length + 2 + r.bd.length + 4) (appF (Q.length + 2 + r.bd.length) (appF (Q.length + 2) (appF Q.length (byF Q) (byF [13, 10])) (byF r.bd)) (byF [13, 10, 13, 10])) (B ++ recB r) := (ByI.app (ByI.app (ByI.app (ByI.by Q) (ByI.by [13, 10]) rfl) (ByI.by r.bd) rfl) (ByI.by [13, 10, 13, 10]) rfl).eq eq
          exact ⟨⟨by omega, by omega⟩, ⟨by omega, by omega⟩, by omega, ⟨by omega, by omega⟩, ⟨by omega, by omega⟩, ⟨by omega, by omega⟩, ⟨by omega, by omega⟩, app.1.trans List.length_append, app.1.trans List.length_append, app.2⟩
  · cases h
attribute [push_cast] ckWriteVK
@[push_cast] theorem writeV_ids (n : Nat) (x : V) : ckWriteV.ids [.vec 12 n, x] = [12] := rfl
@[push_cast] theorem writeV_k (n k hn bn : Nat) (ki ti : Int) (id ow ke : List UInt8) (g hf bf : Nat → V) : ckWriteV.k [.vec 12 n, .agg [.int .i64 ki, .str id, .str ow, .int .i64 ti, .str ke, .sl hn hf, .sl bn bf]] [.vec 1 k g] = some (k = n ∧ isBy n g ∧ n ≤ 50000000 ∧ isLs cHd hn hf ∧ isBy bn bf ∧ recOk ⟨ki, id, ow, ti, ke, lsOf cHd hn hf, bytesOf bn bf⟩ ∧ checkRecL ⟨ki, id, ow, ti, ke, lsOf cHd hn hf, bytesOf bn bf⟩ = 0, .vec 12 (bytesOf n g ++ recB ⟨ki, id, ow, ti, ke, lsOf cHd hn hf, bytesOf bn bf⟩).length, [.vec 1 (bytesOf n g ++ recB ⟨ki, id, ow, ti, ke, lsOf cHd hn hf, bytesOf bn bf⟩).length (byF (bytesOf n g ++ recB ⟨ki, id, ow, ti, ke, lsOf cHd hn hf, bytesOf bn bf⟩))]) := rfl

end Go.Abs
