/- what functions of this program compute: contracts, each a function's own -/
import Derived.Test.YtoahlpjghbhbaaaGreatDoorAbsK3
import Derived.Test.YtoahlpjghbhbaaaGreatDoorAbsFacts
import Derived.Test.YtoahlpjghbhbaaaGreatDoorAbsF3
import Derived.Test.YtoahlpjghbhbaaaGreatDoorAbsShelf
import Derived.Lib.SplitLaws
import Derived.Lib.Overlaps
import Derived.Deep.AppendSrc
import Derived.Laws.NewBlocks
import Derived.WalkKit
import Derived.Lib.Walk
import Derived.Lib.AppendStr
import Derived.Lib.AppendZeros
import Derived.Lib.UnsafeStr
import Derived.Lib.Builder
import Derived.Laws.Externs
import Derived.Lib.Repeat
import Derived.Lib.ItoaLen
import Derived.Lib.SlTrimSet
import Derived.Lib.Atoi
import Derived.Lib.Itoa
import Derived.Lib.ItoaNum
import Derived.Lib.AtoiErrMem
import Derived.Lib.Replace
import Derived.Lib.ReplaceLaws
namespace Go.Abs
open Go Go.Proofs
set_option maxHeartbeats 4000000
set_option maxRecDepth 100000
set_option linter.unusedVariables false
set_option linter.unusedSimpArgs false
/-- the weight that a text says, of those below k; -1: none -/
def wtK (s : List UInt8) : Nat → Int
  | 0 => -1
  | k + 1 => if wtL k = s then k else wtK s k
def wtI (s : List UInt8) : Int := wtK s 11
/-- how a field is read, and what it makes of an entry -/
def clO (k : Nat) (s : List UInt8) : Bool := match k with
  | 1 => (rdL s).isSome
  | 2 => dyB s
  | _ => decide (0 ≤ wtI s)
def clX (k : Nat) (s : List UInt8) (x : Ent) : Ent := match k with
  | 1 => ⟨(rdL s).getD [], x.day, x.wt⟩
  | 2 => ⟨x.loc, dyV s, x.wt⟩
  | _ => ⟨x.loc, x.day, wtI s⟩
def ckEn1K : List V → List Blk → Option (Prop × V × List Blk)
  | [.str s, .ptr i 0], [.cells [.str l, .int .i64 d, .int .i64 w]] => some (s.length ≤ 4000000, .bool (clO 1 s), [.cells [.str ((rdL s).getD []), .int .i64 d, .int .i64 w]])
  | _, _ => none
def ckEn1 : Cf := ⟨fun | [_, .ptr i _] => [i] | _ => [], ckEn1K⟩
theorem conEn1 : FCon pg 35 ckEn1 := by
  have hct := (ctA_ok conReadLoc (ctN_ok _))
  intro args bs q r bs' h hq
  replace h : ckEn1K args bs = some (q, r, bs') := h
  unfold ckEn1K at h
  split at h
  · cases h
    rename_i s i l d w
    refine ⟨rfl, by first | exact Nat.le_refl _ | exact Nat.zero_le _, ?_⟩
    show FCall pg 35 [.str s, .ptr (i + 9000) 0] [(i + 9000, .cells [.str l, .int .i64 d, .int .i64 w])] (.bool (clO 1 s)) [(i + 9000, .cells [.str ((rdL s).getD []), .int .i64 d, .int .i64 w])]
    refine fw35 (fun _ => false) [] rfl hct rfl (by simp) (by simp [hlIn, idsIn, Blk.menIn, V.menInL, V.menIn, V.flat, byF, lsF]) (by simp [V.menIn, V.menInL, idsIn]) ?_
    push_cast (config := { maxSteps := 10000000 })
    exact ⟨hq, rfl⟩
  · cases h
attribute [push_cast] ckEn1K
@[push_cast] theorem en1_ids (x : V) (i o : Nat) : ckEn1.ids [x, .ptr i o] = [i] := rfl
@[push_cast] theorem en1_k (i : Nat) (s l : List UInt8) (d w : Int) : ckEn1.k [.str s, .ptr i 0] [.cells [.str l, .int .i64 d, .int .i64 w]] = some (s.length ≤ 4000000, .bool (clO 1 s), [.cells [.str ((rdL s).getD []), .int .i64 d, .int .i64 w]]) := rfl
def ckEn2K : List V → List Blk → Option (Prop × V × List Blk)
  | [.str s, .ptr i 0], [.cells [.str l, .int .i64 d, .int .i64 w]] => some (s.length ≤ 4000000, .bool (clO 2 s), [.cells [.str l, .int .i64 (dyV s), .int .i64 w]])
  | _, _ => none
def ckEn2 : Cf := ⟨fun | [_, .ptr i _] => [i] | _ => [], ckEn2K⟩
theorem conEn2 : FCon pg 37 ckEn2 := by
  have hct := (ctA_ok conReadDay (ctN_ok _))
  intro args bs q r bs' h hq
  replace h : ckEn2K args bs = some (q, r, bs') := h
  unfold ckEn2K at h
  split at h
  · cases h
    rename_i s i l d w
    refine ⟨rfl, by first | exact Nat.le_refl _ | exact Nat.zero_le _, ?_⟩
    show FCall pg 37 [.str s, .ptr (i + 9000) 0] [(i + 9000, .cells [.str l, .int .i64 d, .int .i64 w])] (.bool (clO 2 s)) [(i + 9000, .cells [.str l, .int .i64 (dyV s), .int .i64 w])]
    refine fw37 (fun _ => false) [] rfl hct rfl (by simp) (by simp [hlIn, idsIn, Blk.menIn, V.menInL, V.menIn, V.flat, byF, lsF]) (by simp [V.menIn, V.menInL, idsIn]) ?_
    push_cast (config := { maxSteps := 10000000 })
    exact ⟨hq, rfl⟩
  · cases h
attribute [push_cast] ckEn2K
@[push_cast] theorem en2_ids (x : V) (i o : Nat) : ckEn2.ids [x, .ptr i o] = [i] := rfl
@[push_cast] theorem en2_k (i : Nat) (s l : List UInt8) (d w : Int) : ckEn2.k [.str s, .ptr i 0] [.cells [.str l, .int .i64 d, .int .i64 w]] = some (s.length ≤ 4000000, .bool (clO 2 s), [.cells [.str l, .int .i64 (dyV s), .int .i64 w]]) := rfl
def ckEn3K : List V → List Blk → Option (Prop × V × List Blk)
  | [.str s, .ptr i 0], [.cells [.str l, .int .i64 d, .int .i64 w]] => some (s.length ≤ 4000000 ∧ w = -1, .bool (clO 3 s), [.cells [.str l, .int .i64 d, .int .i64 (wtI s)]])
  | _, _ => none
def ckEn3 : Cf := ⟨fun | [_, .ptr i _] => [i] | _ => [], ckEn3K⟩
theorem conEn3 : FCon pg 39 ckEn3 := by
  have hct := (ctA_ok conWt (ctN_ok _))
  intro args bs q r bs' h hq
  replace h : ckEn3K args bs = some (q, r, bs') := h
  unfold ckEn3K at h
  split at h
  · cases h
    rename_i s i l d w
    refine ⟨rfl, by first | exact Nat.le_refl _ | exact Nat.zero_le _, ?_⟩
    show FCall pg 39 [.str s, .ptr (i + 9000) 0] [(i + 9000, .cells [.str l, .int .i64 d, .int .i64 w])] (.bool (clO 3 s)) [(i + 9000, .cells [.str l, .int .i64 d, .int .i64 (wtI s)])]
    obtain ⟨q1, rfl⟩ := hq
    refine fw39 (fun _ => false) [] rfl hct rfl (by simp) (by simp [hlIn, idsIn, Blk.menIn, V.menInL, V.menIn, V.flat, byF, lsF]) (by simp [V.menIn, V.menInL, idsIn]) ?_
    push_cast (config := { maxSteps := 10000000 })
    refine LoopW.adj ⟨hct, fol⟩ (by kernel_rfl) [] (fun k : Nat => [(0, .str s), (1, .ptr (i + 9000) 0), (5, .int .i64 k)]) (fun k => [(i + 9000, .cells [.str l, .int .i64 d, .int .i64 (wtK s k)])]) (fun k => k ≤ 11) (fun k => 11 - k) 0 ?_ fun k hk => ?_
    · push_cast (config := { maxSteps := 10000000 })
      rfl
    · push_cast (config := { maxSteps := 10000000 })
      refine ⟨fun h => ⟨by omega, fun h2 => ⟨⟨by omega, by omega⟩, k + 1, by omega, by omega, by omega, by simp only [wtK]; rw [if_pos h2]⟩, fun h2 => ⟨⟨by omega, by omega⟩, k + 1, by omega, by omega, by omega, by simp only [wtK]; rw [if_neg h2]⟩⟩, fun h => ?_⟩
      obtain rfl : k = 11 := by omega
      exact ⟨rfl, rfl⟩
  · cases h
attribute [push_cast] ckEn3K
@[push_cast] theorem en3_ids (x : V) (i o : Nat) : ckEn3.ids [x, .ptr i o] = [i] := rfl
@[push_cast] theorem en3_k (i : Nat) (s l : List UInt8) (d w : Int) : ckEn3.k [.str s, .ptr i 0] [.cells [.str l, .int .i64 d, .int .i64 w]] = some (s.length ≤ 4000000 ∧ w = -1, .bool (clO 3 s), [.cells [.str l, .int .i64 d, .int .i64 (wtI s)]]) := rfl
/-- a field: whether it is right, the place then, the entry then -/
def fdE (s : List UInt8) (a : Nat) : Bool := decide (a + txN s a = s.length)
def fdB (k : Nat) (s e : List UInt8) (a : Nat) : Bool := !fdE s a && clO k (cutS s a (txN s a)) && decide (mtN e (s.drop (a + txN s a)) = e.length)
def fdA (k : Nat) (s e : List UInt8) (a : Nat) : Nat := bif fdE s a then s.length else bif clO k (cutS s a (txN s a)) then a + txN s a + mtN e (s.drop (a + txN s a)) else a
def fdX (k : Nat) (s : List UInt8) (a : Nat) (x : Ent) : Ent := bif fdE s a then x else clX k (cutS s a (txN s a)) x
theorem fld1 {i j : Nat} (hij : i ≠ j) {e s l : List UInt8} {a : Nat} {d w : Int} (he : e.length ≤ 4000000) (h1 : s.length ≤ 4000000) (h3 : a ≤ s.length) (hw : w = -1) :
    FCall pg 34 [.ptr (i + 9000) 0, .str e, .fn (.func 35) [] [.ptr (j + 9000) 0]] [(i + 9000, .cells [.str s, .int .i64 a]), (j + 9000, .cells [.str l, .int .i64 d, .int .i64 w])] (.bool (fdB 1 s e a)) [(i + 9000, .cells [.str s, .int .i64 (fdA 1 s e a : Nat)]), (j + 9000, .cells [.str (fdX 1 s a ⟨l, d, w⟩).loc, .int .i64 (fdX 1 s a ⟨l, d, w⟩).day, .int .i64 (fdX 1 s a ⟨l, d, w⟩).wt])] := by
  have hct := ctF_ok conTx (ctF_ok conEn1 (ctN_ok _))
  have ht := txN_le h3
  refine fw34 (fun _ => false) [] rfl hct rfl (by simp [idsIn, hij]) (by simp [hlIn, idsIn, Blk.menIn, V.menInL, V.menIn, V.flat, byF, lsF]) (by simp [V.menIn, V.menInL, idsIn]) ?_
  have hb1 : (i + 9000 = j + 9000) = False := eq_false (by omega)
  have hb2 : (j + 9000 = i + 9000) = False := eq_false (by omega)
  have hb3 : (i = j) = False := eq_false hij
  have hb4 : (j = i) = False := eq_false (Ne.symm hij)
  push_cast (config := { maxSteps := 10000000 }) [hb1, hb2, hb3, hb4]
  have ec : (cutS s a (txN s a)).length = txN s a := cutS_len ht
  have eF : fdE s a = decide (a + txN s a = s.length) := rfl
  generalize hc : cutS s a (txN s a) = c at *
  refine ⟨⟨h1, h3⟩, ⟨by omega, by omega⟩, fun h => ?_, fun h => ⟨by omega, fun ho => ?_, fun ho => ⟨⟨by omega, by omega⟩, ?_⟩⟩⟩
  · have e1 : fdE s a = true := by rw [eF]; exact decide_eq_true (by omega)
    unfold fdB fdA fdX
    rw [e1]
    exact ⟨rfl, rfl, rfl, rfl, rfl⟩
  · have e1 : fdE s a = false := by rw [eF]; exact decide_eq_false (by omega)
    unfold fdB fdA fdX
    rw [e1, hc, ho]
    exact ⟨rfl, rfl, rfl, rfl, rfl⟩
  · have e1 : fdE s a = false := by rw [eF]; exact decide_eq_false (by omega)
    have eB : fdB 1 s e a = decide (mtN e (s.drop (a + txN s a)) = e.length) := by unfold fdB; rw [e1, hc, ho]; simp
    have eA : fdA 1 s e a = a + txN s a + mtN e (s.drop (a + txN s a)) := by unfold fdA; rw [e1, hc, ho]; rfl
    have eX : fdX 1 s a ⟨l, d, w⟩ = clX 1 c ⟨l, d, w⟩ := by unfold fdX; rw [e1, hc]; rfl
    rw [eB, eA, eX, ec]
    generalize txN s a = x at *
    refine LoopW.adj ⟨hct, fol⟩ (by kernel_rfl) [] (fun n : Nat => [(0, .ptr (i + 9000) 0), (1, .str e), (8, .int .i64 n)]) (fun n => [(i + 9000, .cells [.str s, .int .i64 ((a + x : Nat) : Int)]), (j + 9000, .cells [.str (clX 1 c ⟨l, d, w⟩).loc, .int .i64 (clX 1 c ⟨l, d, w⟩).day, .int .i64 (clX 1 c ⟨l, d, w⟩).wt])]) (fun n => n ≤ e.length ∧ n ≤ (s.drop (a + x)).length ∧ ∀ j, j < n → (s.drop (a + x)).getD j 0 = e.getD j 0) (fun n => e.length - n) 0 ?_ fun n hn => ?_
    · push_cast (config := { maxSteps := 10000000 }) [hb1, hb2, hb3, hb4]
      exact ⟨⟨Nat.zero_le _, Nat.zero_le _⟩, rfl, rfl, rfl⟩
    · obtain ⟨n1, n2, n3⟩ := hn
      push_cast (config := { maxSteps := 10000000 }) [hb1, hb2, hb3, hb4]
      rw [List.length_drop] at n2
      have e1 : ((a : Int) + (x : Int) + (n : Int)).toNat = a + x + n := by omega
      have e7 : (s.drop (a + x)).getD n 0 = s.getD (a + x + n) 0 := by rw [List.getD_eq_getElem?_getD, List.getD_eq_getElem?_getD, List.getElem?_drop]
      rw [e1]
      refine ⟨fun h => ⟨h, by omega, by omega⟩, fun h => ⟨h, by omega, by omega⟩, fun h => ⟨h, by omega, h.2⟩, fun h => ⟨h, h.1⟩, fun h => ⟨⟨by omega, by omega⟩, n + 1, ⟨by omega, by omega, fun j hj => ?_⟩, by omega, by omega⟩, fun h => ?_⟩
      · by_cases e : j = n
        · subst e; rw [e7]; exact UInt8.toNat_inj.1 h.2
        · exact n3 j (by omega)
      · have eN : mtN e (s.drop (a + x)) = n := mtN_at n1 (by rw [List.length_drop]; exact n2) n3 fun p1 p2 => by
          rw [List.length_drop] at p2
          rw [e7]
          exact fun q => h ⟨p1, by omega⟩ (congrArg UInt8.toNat q)
        rw [eN]
        refine ⟨⟨by omega, by omega⟩, ?_, by omega⟩
        rw [Bool.eq_iff_iff, beq_iff_eq, decide_eq_true_eq]; omega
theorem fld2 {i j : Nat} (hij : i ≠ j) {e s l : List UInt8} {a : Nat} {d w : Int} (he : e.length ≤ 4000000) (h1 : s.length ≤ 4000000) (h3 : a ≤ s.length) (hw : w = -1) :
    FCall pg 34 [.ptr (i + 9000) 0, .str e, .fn (.func 37) [] [.ptr (j + 9000) 0]] [(i + 9000, .cells [.str s, .int .i64 a]), (j + 9000, .cells [.str l, .int .i64 d, .int .i64 w])] (.bool (fdB 2 s e a)) [(i + 9000, .cells [.str s, .int .i64 (fdA 2 s e a : Nat)]), (j + 9000, .cells [.str (fdX 2 s a ⟨l, d, w⟩).loc, .int .i64 (fdX 2 s a ⟨l, d, w⟩).day, .int .i64 (fdX 2 s a ⟨l, d, w⟩).wt])] := by
  have hct := ctF_ok conTx (ctF_ok conEn2 (ctN_ok _))
  have ht := txN_le h3
  refine fw34 (fun _ => false) [] rfl hct rfl (by simp [idsIn, hij]) (by simp [hlIn, idsIn, Blk.menIn, V.menInL, V.menIn, V.flat, byF, lsF]) (by simp [V.menIn, V.menInL, idsIn]) ?_
  have hb1 : (i + 9000 = j + 9000) = False := eq_false (by omega)
  have hb2 : (j + 9000 = i + 9000) = False := eq_false (by omega)
  have hb3 : (i = j) = False := eq_false hij
  have hb4 : (j = i) = False := eq_false (Ne.symm hij)
  push_cast (config := { maxSteps := 10000000 }) [hb1, hb2, hb3, hb4]
  have ec : (cutS s a (txN s a)).length = txN s a := cutS_len ht
  have eF : fdE s a = decide (a + txN s a = s.length) := rfl
  generalize hc : cutS s a (txN s a) = c at *
  refine ⟨⟨h1, h3⟩, ⟨by omega, by omega⟩, fun h => ?_, fun h => ⟨by omega, fun ho => ?_, fun ho => ⟨⟨by omega, by omega⟩, ?_⟩⟩⟩
  · have e1 : fdE s a = true := by rw [eF]; exact decide_eq_true (by omega)
    unfold fdB fdA fdX
    rw [e1]
    exact ⟨rfl, rfl, rfl, rfl, rfl⟩
  · have e1 : fdE s a = false := by rw [eF]; exact decide_eq_false (by omega)
    unfold fdB fdA fdX
    rw [e1, hc, ho]
    exact ⟨rfl, rfl, rfl, rfl, rfl⟩
  · have e1 : fdE s a = false := by rw [eF]; exact decide_eq_false (by omega)
    have eB : fdB 2 s e a = decide (mtN e (s.drop (a + txN s a)) = e.length) := by unfold fdB; rw [e1, hc, ho]; simp
    have eA : fdA 2 s e a = a + txN s a + mtN e (s.drop (a + txN s a)) := by unfold fdA; rw [e1, hc, ho]; rfl
    have eX : fdX 2 s a ⟨l, d, w⟩ = clX 2 c ⟨l, d, w⟩ := by unfold fdX; rw [e1, hc]; rfl
    rw [eB, eA, eX, ec]
    generalize txN s a = x at *
    refine LoopW.adj ⟨hct, fol⟩ (by kernel_rfl) [] (fun n : Nat => [(0, .ptr (i + 9000) 0), (1, .str e), (8, .int .i64 n)]) (fun n => [(i + 9000, .cells [.str s, .int .i64 ((a + x : Nat) : Int)]), (j + 9000, .cells [.str (clX 2 c ⟨l, d, w⟩).loc, .int .i64 (clX 2 c ⟨l, d, w⟩).day, .int .i64 (clX 2 c ⟨l, d, w⟩).wt])]) (fun n => n ≤ e.length ∧ n ≤ (s.drop (a + x)).length ∧ ∀ j, j < n → (s.drop (a + x)).getD j 0 = e.getD j 0) (fun n => e.length - n) 0 ?_ fun n hn => ?_
    · push_cast (config := { maxSteps := 10000000 }) [hb1, hb2, hb3, hb4]
      exact ⟨⟨Nat.zero_le _, Nat.zero_le _⟩, rfl, rfl, rfl⟩
    · obtain ⟨n1, n2, n3⟩ := hn
      push_cast (config := { maxSteps := 10000000 }) [hb1, hb2, hb3, hb4]
      rw [List.length_drop] at n2
      have e1 : ((a : Int) + (x : Int) + (n : Int)).toNat = a + x + n := by omega
      have e7 : (s.drop (a + x)).getD n 0 = s.getD (a + x + n) 0 := by rw [List.getD_eq_getElem?_getD, List.getD_eq_getElem?_getD, List.getElem?_drop]
      rw [e1]
      refine ⟨fun h => ⟨h, by omega, by omega⟩, fun h => ⟨h, by omega, by omega⟩, fun h => ⟨h, by omega, h.2⟩, fun h => ⟨h, h.1⟩, fun h => ⟨⟨by omega, by omega⟩, n + 1, ⟨by omega, by omega, fun j hj => ?_⟩, by omega, by omega⟩, fun h => ?_⟩
      · by_cases e : j = n
        · subst e; rw [e7]; exact UInt8.toNat_inj.1 h.2
        · exact n3 j (by omega)
      · have eN : mtN e (s.drop (a + x)) = n := mtN_at n1 (by rw [List.length_drop]; exact n2) n3 fun p1 p2 => by
          rw [List.length_drop] at p2
          rw [e7]
          exact fun q => h ⟨p1, by omega⟩ (congrArg UInt8.toNat q)
        rw [eN]
        refine ⟨⟨by omega, by omega⟩, ?_, by omega⟩
        rw [Bool.eq_iff_iff, beq_iff_eq, decide_eq_true_eq]; omega
theorem fld3 {i j : Nat} (hij : i ≠ j) {e s l : List UInt8} {a : Nat} {d w : Int} (he : e.length ≤ 4000000) (h1 : s.length ≤ 4000000) (h3 : a ≤ s.length) (hw : w = -1) :
    FCall pg 34 [.ptr (i + 9000) 0, .str e, .fn (.func 39) [] [.ptr (j + 9000) 0]] [(i + 9000, .cells [.str s, .int .i64 a]), (j + 9000, .cells [.str l, .int .i64 d, .int .i64 w])] (.bool (fdB 3 s e a)) [(i + 9000, .cells [.str s, .int .i64 (fdA 3 s e a : Nat)]), (j + 9000, .cells [.str (fdX 3 s a ⟨l, d, w⟩).loc, .int .i64 (fdX 3 s a ⟨l, d, w⟩).day, .int .i64 (fdX 3 s a ⟨l, d, w⟩).wt])] := by
  have hct := ctF_ok conTx (ctF_ok conEn3 (ctN_ok _))
  have ht := txN_le h3
  refine fw34 (fun _ => false) [] rfl hct rfl (by simp [idsIn, hij]) (by simp [hlIn, idsIn, Blk.menIn, V.menInL, V.menIn, V.flat, byF, lsF]) (by simp [V.menIn, V.menInL, idsIn]) ?_
  have hb1 : (i + 9000 = j + 9000) = False := eq_false (by omega)
  have hb2 : (j + 9000 = i + 9000) = False := eq_false (by omega)
  have hb3 : (i = j) = False := eq_false hij
  have hb4 : (j = i) = False := eq_false (Ne.symm hij)
  push_cast (config := { maxSteps := 10000000 }) [hb1, hb2, hb3, hb4]
  have ec : (cutS s a (txN s a)).length = txN s a := cutS_len ht
  have eF : fdE s a = decide (a + txN s a = s.length) := rfl
  generalize hc : cutS s a (txN s a) = c at *
  refine ⟨⟨h1, h3⟩, ⟨by omega, by omega⟩, fun h => ?_, fun h => ⟨by omega, fun ho => ?_, fun ho => ⟨⟨by omega, by omega⟩, ?_⟩⟩⟩
  · have e1 : fdE s a = true := by rw [eF]; exact decide_eq_true (by omega)
    unfold fdB fdA fdX
    rw [e1]
    exact ⟨rfl, rfl, rfl, rfl, rfl⟩
  · have e1 : fdE s a = false := by rw [eF]; exact decide_eq_false (by omega)
    unfold fdB fdA fdX
    rw [e1, hc, ho]
    exact ⟨rfl, rfl, rfl, rfl, rfl⟩
  · have e1 : fdE s a = false := by rw [eF]; exact decide_eq_false (by omega)
    have eB : fdB 3 s e a = decide (mtN e (s.drop (a + txN s a)) = e.length) := by unfold fdB; rw [e1, hc, ho]; simp
    have eA : fdA 3 s e a = a + txN s a + mtN e (s.drop (a + txN s a)) := by unfold fdA; rw [e1, hc, ho]; rfl
    have eX : fdX 3 s a ⟨l, d, w⟩ = clX 3 c ⟨l, d, w⟩ := by unfold fdX; rw [e1, hc]; rfl
    rw [eB, eA, eX, ec]
    generalize txN s a = x at *
    refine LoopW.adj ⟨hct, fol⟩ (by kernel_rfl) [] (fun n : Nat => [(0, .ptr (i + 9000) 0), (1, .str e), (8, .int .i64 n)]) (fun n => [(i + 9000, .cells [.str s, .int .i64 ((a + x : Nat) : Int)]), (j + 9000, .cells [.str (clX 3 c ⟨l, d, w⟩).loc, .int .i64 (clX 3 c ⟨l, d, w⟩).day, .int .i64 (clX 3 c ⟨l, d, w⟩).wt])]) (fun n => n ≤ e.length ∧ n ≤ (s.drop (a + x)).length ∧ ∀ j, j < n → (s.drop (a + x)).getD j 0 = e.getD j 0) (fun n => e.length - n) 0 ?_ fun n hn => ?_
    · push_cast (config := { maxSteps := 10000000 }) [hb1, hb2, hb3, hb4]
      exact ⟨⟨Nat.zero_le _, Nat.zero_le _⟩, rfl, rfl, rfl⟩
    · obtain ⟨n1, n2, n3⟩ := hn
      push_cast (config := { maxSteps := 10000000 }) [hb1, hb2, hb3, hb4]
      rw [List.length_drop] at n2
      have e1 : ((a : Int) + (x : Int) + (n : Int)).toNat = a + x + n := by omega
      have e7 : (s.drop (a + x)).getD n 0 = s.getD (a + x + n) 0 := by rw [List.getD_eq_getElem?_getD, List.getD_eq_getElem?_getD, List.getElem?_drop]
      rw [e1]
      refine ⟨fun h => ⟨h, by omega, by omega⟩, fun h => ⟨h, by omega, by omega⟩, fun h => ⟨h, by omega, h.2⟩, fun h => ⟨h, h.1⟩, fun h => ⟨⟨by omega, by omega⟩, n + 1, ⟨by omega, by omega, fun j hj => ?_⟩, by omega, by omega⟩, fun h => ?_⟩
      · by_cases e : j = n
        · subst e; rw [e7]; exact UInt8.toNat_inj.1 h.2
        · exact n3 j (by omega)
      · have eN : mtN e (s.drop (a + x)) = n := mtN_at n1 (by rw [List.length_drop]; exact n2) n3 fun p1 p2 => by
          rw [List.length_drop] at p2
          rw [e7]
          exact fun q => h ⟨p1, by omega⟩ (congrArg UInt8.toNat q)
        rw [eN]
        refine ⟨⟨by omega, by omega⟩, ?_, by omega⟩
        rw [Bool.eq_iff_iff, beq_iff_eq, decide_eq_true_eq]; omega
/- the closure says how the field is read -/
def clK (f : Nat) : Option Nat := if f = 35 then some 1 else if f = 37 then some 2 else if f = 39 then some 3 else none
def ckFdK : List V → List Blk → Option (Prop × V × List Blk)
  | [.ptr i 0, .str e, .fn (.func f) [] [.ptr j 0]], [.cells [.str s, .int .i64 a], .cells [.str l, .int .i64 d, .int .i64 w]] => match clK f with
    | some k => some (i ≠ j ∧ e.length ≤ 4000000 ∧ s.length ≤ 4000000 ∧ 0 ≤ a ∧ a ≤ s.length ∧ w = -1, .bool (fdB k s e a.toNat), [.cells [.str s, .int .i64 (fdA k s e a.toNat : Nat)], .cells [.str (fdX k s a.toNat ⟨l, d, w⟩).loc, .int .i64 (fdX k s a.toNat ⟨l, d, w⟩).day, .int .i64 (fdX k s a.toNat ⟨l, d, w⟩).wt]])
    | none => none
  | _, _ => none
def ckFd : Cf := ⟨fun | [.ptr i _, _, .fn _ _ [.ptr j _]] => [i, j] | _ => [], ckFdK⟩
theorem conFd : FCon pg 34 ckFd := by
  intro args bs q r bs' h hq
  replace h : ckFdK args bs = some (q, r, bs') := h
  unfold ckFdK at h
  split at h
  · rename_i i e f j s a l d w
    unfold clK at h
    split at h
    · rename_i k hk
      cases h
      obtain ⟨q1, q2, q3, q4, q5, q6⟩ := hq
      refine ⟨rfl, Nat.le_refl _, ?_⟩
      obtain ⟨a, rfl⟩ : ∃ k : Nat, a = k := ⟨a.toNat, by omega⟩
      rw [Int.toNat_natCast]
      split at hk
      · rename_i e1
        cases hk; subst e1
        exact fld1 q1 q2 q3 (by omega) q6
      · split at hk
        · rename_i e1
          cases hk; subst e1
          exact fld2 q1 q2 q3 (by omega) q6
        · split at hk
          · rename_i e1
            cases hk; subst e1
            exact fld3 q1 q2 q3 (by omega) q6
          · cases hk
    · cases h
  · cases h
@[push_cast] theorem fd_ids (i j o p : Nat) (x : V) (f : Fn) : ckFd.ids [.ptr i o, x, .fn f [] [.ptr j p]] = [i, j] := rfl
@[push_cast] theorem fd_k1 (i j : Nat) (e s l : List UInt8) (a d w : Int) : ckFd.k [.ptr i 0, .str e, .fn (.func 35) [] [.ptr j 0]] [.cells [.str s, .int .i64 a], .cells [.str l, .int .i64 d, .int .i64 w]] = some (i ≠ j ∧ e.length ≤ 4000000 ∧ s.length ≤ 4000000 ∧ 0 ≤ a ∧ a ≤ s.length ∧ w = -1, .bool (fdB 1 s e a.toNat), [.cells [.str s, .int .i64 (fdA 1 s e a.toNat : Nat)], .cells [.str (fdX 1 s a.toNat ⟨l, d, w⟩).loc, .int .i64 (fdX 1 s a.toNat ⟨l, d, w⟩).day, .int .i64 (fdX 1 s a.toNat ⟨l, d, w⟩).wt]]) := rfl
@[push_cast] theorem fd_k2 (i j : Nat) (e s l : List UInt8) (a d w : Int) : ckFd.k [.ptr i 0, .str e, .fn (.func 37) [] [.ptr j 0]] [.cells [.str s, .int .i64 a], .cells [.str l, .int .i64 d, .int .i64 w]] = some (i ≠ j ∧ e.length ≤ 4000000 ∧ s.length ≤ 4000000 ∧ 0 ≤ a ∧ a ≤ s.length ∧ w = -1, .bool (fdB 2 s e a.toNat), [.cells [.str s, .int .i64 (fdA 2 s e a.toNat : Nat)], .cells [.str (fdX 2 s a.toNat ⟨l, d, w⟩).loc, .int .i64 (fdX 2 s a.toNat ⟨l, d, w⟩).day, .int .i64 (fdX 2 s a.toNat ⟨l, d, w⟩).wt]]) := rfl
@[push_cast] theorem fd_k3 (i j : Nat) (e s l : List UInt8) (a d w : Int) : ckFd.k [.ptr i 0, .str e, .fn (.func 39) [] [.ptr j 0]] [.cells [.str s, .int .i64 a], .cells [.str l, .int .i64 d, .int .i64 w]] = some (i ≠ j ∧ e.length ≤ 4000000 ∧ s.length ≤ 4000000 ∧ 0 ≤ a ∧ a ≤ s.length ∧ w = -1, .bool (fdB 3 s e a.toNat), [.cells [.str s, .int .i64 (fdA 3 s e a.toNat : Nat)], .cells [.str (fdX 3 s a.toNat ⟨l, d, w⟩).loc, .int .i64 (fdX 3 s a.toNat ⟨l, d, w⟩).day, .int .i64 (fdX 3 s a.toNat ⟨l, d, w⟩).wt]]) := rfl

@[push_cast] theorem lsOf_lit1 (a : List UInt8) : lsOf cStr 1 (litF [V.str a]) = [a] := rfl
@[push_cast] theorem lsOf_lit2 (a b : List UInt8) : lsOf cStr 2 (litF [V.str a, V.str b]) = [a, b] := rfl
@[push_cast] theorem lsOf_lit3 (a b c : List UInt8) : lsOf cStr 3 (litF [V.str a, V.str b, V.str c]) = [a, b, c] := rfl
@[push_cast] theorem isLs_lit1 (a : List UInt8) : isLs cStr 1 (litF [V.str a]) = True := eq_true (LsI.is (l := [a]) ⟨rfl, fun i hi => by
  obtain rfl : i = 0 := Nat.lt_one_iff.1 hi
  rfl⟩)
@[push_cast] theorem isLs_lit2 (a b : List UInt8) : isLs cStr 2 (litF [V.str a, V.str b]) = True := eq_true (LsI.is (l := [a, b]) ⟨rfl, fun i hi => by
  have hi : i < 2 := hi
  obtain rfl | rfl : i = 0 ∨ i = 1 := by omega
  · rfl
  · rfl⟩)
@[push_cast] theorem isLs_lit3 (a b c : List UInt8) : isLs cStr 3 (litF [V.str a, V.str b, V.str c]) = True := eq_true (LsI.is (l := [a, b, c]) ⟨rfl, fun i hi => by
  have hi : i < 3 := hi
  obtain rfl | rfl | rfl : i = 0 ∨ i = 1 ∨ i = 2 := by omega
  · rfl
  · rfl
  · rfl⟩)
@[push_cast] theorem ent_eta (x : Ent) : (⟨x.loc, x.day, x.wt⟩ : Ent) = x := rfl
theorem fdA_le {k : Nat} {s e : List UInt8} {a : Nat} (h : a ≤ s.length) : a ≤ fdA k s e a ∧ fdA k s e a ≤ s.length := by
  have h1 := txN_le h
  have h2 := mtN_le e (s.drop (a + txN s a))
  rw [List.length_drop] at h2
  unfold fdA
  cases fdE s a
  · rw [cond_false]
    cases clO k (cutS s a (txN s a))
    · rw [cond_false]; omega
    · rw [cond_true]; omega
  · rw [cond_true]; omega
theorem fdX_w1 (s : List UInt8) (a : Nat) (x : Ent) : (fdX 1 s a x).wt = x.wt := by unfold fdX; cases fdE s a <;> rfl
theorem fdX_w2 (s : List UInt8) (a : Nat) (x : Ent) : (fdX 2 s a x).wt = x.wt := by unfold fdX; cases fdE s a <;> rfl
def wLoc : List UInt8 := [60, 108, 111, 99, 62]
def wLoc' : List UInt8 := [60, 47, 108, 111, 99, 62]
def wDay : List UInt8 := [60, 108, 97, 115, 116, 109, 111, 100, 62]
def wDay' : List UInt8 := [60, 47, 108, 97, 115, 116, 109, 111, 100, 62]
def wWt : List UInt8 := [60, 112, 114, 105, 111, 114, 105, 116, 121, 62]
def wWt' : List UInt8 := [60, 47, 112, 114, 105, 111, 114, 105, 116, 121, 62]
def wEnd (one : List UInt8) : List UInt8 := [60, 47] ++ one ++ [62]
/-- an entry from where its weight may be -/
def enT (s one : List UInt8) (how : Int) (a : Nat) (x : Ent) : Bool × Nat × Ent :=
  if how = 1 then
    if fdB 3 s wWt' a = true then (decide (0 ≤ (whL s (fdA 3 s wWt' a) [wEnd one]).1), (whL s (fdA 3 s wWt' a) [wEnd one]).2, fdX 3 s a x)
    else (false, fdA 3 s wWt' a, fdX 3 s a x)
  else (decide (0 ≤ how), a, x)
/-- from where its day may be -/
def enD (s one : List UInt8) (a : Nat) (x : Ent) : Bool × Nat × Ent :=
  if (whL s a [wDay, wWt, wEnd one]).1 = 0 then
    if fdB 2 s wDay' (whL s a [wDay, wWt, wEnd one]).2 = true then
      enT s one (let h := (whL s (fdA 2 s wDay' (whL s a [wDay, wWt, wEnd one]).2) [wWt, wEnd one]).1; if 0 ≤ h then h + 1 else h) (whL s (fdA 2 s wDay' (whL s a [wDay, wWt, wEnd one]).2) [wWt, wEnd one]).2 (fdX 2 s (whL s a [wDay, wWt, wEnd one]).2 x)
    else (false, fdA 2 s wDay' (whL s a [wDay, wWt, wEnd one]).2, fdX 2 s (whL s a [wDay, wWt, wEnd one]).2 x)
  else enT s one (whL s a [wDay, wWt, wEnd one]).1 (whL s a [wDay, wWt, wEnd one]).2 x
def x00 : Ent := ⟨[], 0, -1⟩
def enL (s one : List UInt8) (a : Nat) : Bool × Nat × Ent :=
  if (whL s a [wLoc]).1 < 0 then (false, (whL s a [wLoc]).2, x00)
  else if fdB 1 s wLoc' (whL s a [wLoc]).2 = true then enD s one (fdA 1 s wLoc' (whL s a [wLoc]).2) (fdX 1 s (whL s a [wLoc]).2 x00)
  else (false, fdA 1 s wLoc' (whL s a [wLoc]).2, fdX 1 s (whL s a [wLoc]).2 x00)
theorem ent_step {s one : List UInt8} {how : Int} {a : Nat} {x : Ent} (h1 : s.length ≤ 4000000) (ha : a ≤ s.length) (hx : x.wt = -1) {R : Bool × Nat × Ent} (hR : R = enT s one how a x) :
    (how = 1 → (s.length ≤ 4000000 ∧ a ≤ s.length ∧ x.wt = -1) ∧
      (fdB 3 s wWt' a = false → (((fdX 3 s a x).loc = R.2.2.loc ∧ (fdX 3 s a x).day = R.2.2.day ∧ (fdX 3 s a x).wt = R.2.2.wt) ∧ false = R.1) ∧ fdA 3 s wWt' a = R.2.1) ∧
      (fdB 3 s wWt' a = true → (s.length ≤ 4000000 ∧ fdA 3 s wWt' a ≤ s.length) ∧ (((fdX 3 s a x).loc = R.2.2.loc ∧ (fdX 3 s a x).day = R.2.2.day ∧ (fdX 3 s a x).wt = R.2.2.wt) ∧ decide (0 ≤ (whL s (fdA 3 s wWt' a) [wEnd one]).1) = R.1) ∧ (whL s (fdA 3 s wWt' a) [wEnd one]).2 = R.2.1)) ∧
    (¬how = 1 → ((x.loc = R.2.2.loc ∧ x.day = R.2.2.day ∧ x.wt = R.2.2.wt) ∧ decide (0 ≤ how) = R.1) ∧ a = R.2.1) := by
  subst hR
  unfold enT
  refine ⟨fun g => ⟨⟨h1, ha, hx⟩, fun h => ?_, fun h => ⟨⟨h1, (fdA_le ha).2⟩, ?_⟩⟩, fun g => ?_⟩
  · rw [if_pos g, if_neg (by rw [h]; exact Bool.false_ne_true)]
    exact ⟨⟨⟨rfl, rfl, rfl⟩, rfl⟩, rfl⟩
  · rw [if_pos g, if_pos h]
    exact ⟨⟨⟨rfl, rfl, rfl⟩, rfl⟩, rfl⟩
  · rw [if_neg g]
    exact ⟨⟨⟨rfl, rfl, rfl⟩, rfl⟩, rfl⟩
def ckEnK : List V → List Blk → Option (Prop × V × List Blk)
  | [.ptr _ 0, .str one], [.cells [.str s, .int .i64 a]] => some (one.length ≤ 1000 ∧ s.length ≤ 4000000 ∧ 0 ≤ a ∧ a ≤ s.length, .tup [cEnt.enc (enL s one a.toNat).2.2, .bool (enL s one a.toNat).1], [.cells [.str s, .int .i64 ((enL s one a.toNat).2.1 : Nat)]])
  | _, _ => none
def ckEn : Cf := ⟨fun | .ptr i _ :: _ => [i] | _ => [], ckEnK⟩
theorem conEn : FCon pg 15 ckEn := by
  have hct := (ctF_ok conWh (ctF_ok conFd (ctN_ok _)))
  intro args bs q r bs' h hq
  replace h : ckEnK args bs = some (q, r, bs') := h
  unfold ckEnK at h
  split at h
  · cases h
    rename_i i one s a
    refine ⟨rfl, by first | exact Nat.le_refl _ | exact Nat.zero_le _, ?_⟩
    obtain ⟨h0, h1, h2, h3⟩ := hq
    obtain ⟨a, rfl⟩ : ∃ k : Nat, a = k := ⟨a.toNat, by omega⟩
    rw [Int.toNat_natCast]
    show FCall pg 15 [.ptr (i + 9000) 0, .str one] [(i + 9000, .cells [.str s, .int .i64 a])] (.tup [cEnt.enc (enL s one a).2.2, .bool (enL s one a).1]) [(i + 9000, .cells [.str s, .int .i64 ((enL s one a).2.1 : Nat)])]
    refine fw15 (fun _ => false) [] rfl hct rfl (by simp) (by simp [hlIn, idsIn, Blk.menIn, V.menInL, V.menIn, V.flat, byF, lsF]) rfl ?_
    push_cast (config := { maxSteps := 10000000 })
    have h3 : a ≤ s.length := by omega
    rw [show (60 :: 47 :: (one ++ [62]) : List UInt8) = wEnd one from rfl, show ([60, 108, 111, 99, 62] : List UInt8) = wLoc from rfl, show ([60, 47, 108, 111, 99, 62] : List UInt8) = wLoc' from rfl, show ([60, 108, 97, 115, 116, 109, 111, 100, 62] : List UInt8) = wDay from rfl, show ([60, 47, 108, 97, 115, 116, 109, 111, 100, 62] : List UInt8) = wDay' from rfl, show ([60, 112, 114, 105, 111, 114, 105, 116, 121, 62] : List UInt8) = wWt from rfl, show ([60, 47, 112, 114, 105, 111, 114, 105, 116, 121, 62] : List UInt8) = wWt' from rfl, show (⟨[], 0, -1⟩ : Ent) = x00 from rfl]
    have b1 := whL_le h3 [wLoc]
    have eL : enL s one a = (if (whL s a [wLoc]).1 < 0 then (false, (whL s a [wLoc]).2, x00) else if fdB 1 s wLoc' (whL s a [wLoc]).2 = true then enD s one (fdA 1 s wLoc' (whL s a [wLoc]).2) (fdX 1 s (whL s a [wLoc]).2 x00) else (false, fdA 1 s wLoc' (whL s a [wLoc]).2, fdX 1 s (whL s a [wLoc]).2 x00)) := rfl
    rw [eL]
    clear eL
    generalize whL s a [wLoc] = W1 at *
    refine ⟨⟨h1, h3⟩, fun g => ?_, fun g => ?_⟩
    · rw [if_neg g]
      have b2 := fdA_le (k := 1) (e := wLoc') b1.2.1
      have x2 : (fdX 1 s W1.2 x00).wt = -1 := fdX_w1 _ _ _
      refine ⟨g, ⟨h1, b1.2.1⟩, fun h => ?_, fun h => ?_⟩
      · rw [if_neg (by rw [h.resolve_left g]; exact Bool.false_ne_true)]
        exact ⟨⟨⟨rfl, rfl, rfl⟩, rfl⟩, rfl⟩
      · rw [if_pos h.2]
        have a2 := b2.2
        clear h b2 g b1
        generalize fdA 1 s wLoc' W1.2 = A1 at *
        generalize fdX 1 s W1.2 x00 = X1 at *
        clear W1
        have b3 := whL_le a2 [wDay, wWt, wEnd one]
        have eD : enD s one A1 X1 = if (whL s A1 [wDay, wWt, wEnd one]).1 = 0 then (if fdB 2 s wDay' (whL s A1 [wDay, wWt, wEnd one]).2 = true then enT s one (if 0 ≤ (whL s (fdA 2 s wDay' (whL s A1 [wDay, wWt, wEnd one]).2) [wWt, wEnd one]).1 then (whL s (fdA 2 s wDay' (whL s A1 [wDay, wWt, wEnd one]).2) [wWt, wEnd one]).1 + 1 else (whL s (fdA 2 s wDay' (whL s A1 [wDay, wWt, wEnd one]).2) [wWt, wEnd one]).1) (whL s (fdA 2 s wDay' (whL s A1 [wDay, wWt, wEnd one]).2) [wWt, wEnd one]).2 (fdX 2 s (whL s A1 [wDay, wWt, wEnd one]).2 X1) else (false, fdA 2 s wDay' (whL s A1 [wDay, wWt, wEnd one]).2, fdX 2 s (whL s A1 [wDay, wWt, wEnd one]).2 X1)) else enT s one (whL s A1 [wDay, wWt, wEnd one]).1 (whL s A1 [wDay, wWt, wEnd one]).2 X1 := rfl
        rw [eD]
        clear eD
        generalize whL s A1 [wDay, wWt, wEnd one] = W2 at *
        have x3 : (fdX 2 s W2.2 X1).wt = -1 := by rw [fdX_w2]; exact x2
        have b4 := fdA_le (k := 2) (e := wDay') b3.2.1
        refine ⟨by omega, by omega, ⟨h1, a2⟩, fun g => ⟨⟨h1, b3.2.1, x2⟩, fun h => ?_, fun h => ⟨⟨h1, b4.2⟩, ?_⟩⟩, ?_⟩
        · rw [if_pos g, if_neg (by rw [h]; exact Bool.false_ne_true)]
          exact ⟨⟨⟨rfl, rfl, rfl⟩, rfl⟩, rfl⟩
        · rw [if_pos g, if_pos h]
          have a4 := b4.2
          clear h b4 g b3
          generalize fdA 2 s wDay' W2.2 = A2 at *
          generalize fdX 2 s W2.2 X1 = X2 at *
          clear W2
          have b5 := whL_le a4 [wWt, wEnd one]
          generalize whL s A2 [wWt, wEnd one] = W3 at *
          have l3 : ([wWt, wEnd one] : List (List UInt8)).length = 2 := rfl
          refine ⟨fun g => ⟨⟨by omega, by omega⟩, ?_⟩, fun g => ?_⟩
          · exact ent_step h1 b5.2.1 x3 (by rw [if_pos g])
          · exact ent_step h1 b5.2.1 x3 (by rw [if_neg g])
        · intro g
          exact ent_step h1 b3.2.1 x2 (by rw [if_neg g])
    · rw [if_pos g]
      exact ⟨fun h => h g, ⟨⟨rfl, rfl, rfl⟩, rfl⟩, rfl⟩
  · cases h
attribute [push_cast] ckEnK
@[push_cast] theorem en_ids (i o : Nat) (l : List V) : ckEn.ids (.ptr i o :: l) = [i] := rfl
@[push_cast] theorem en_k (i : Nat) (s one : List UInt8) (a : Int) : ckEn.k [.ptr i 0, .str one] [.cells [.str s, .int .i64 a]] = some (one.length ≤ 1000 ∧ s.length ≤ 4000000 ∧ 0 ≤ a ∧ a ≤ s.length, .tup [cEnt.enc (enL s one a.toNat).2.2, .bool (enL s one a.toNat).1], [.cells [.str s, .int .i64 ((enL s one a.toNat).2.1 : Nat)]]) := rfl

theorem isAt_iff (s : List UInt8) (a c : Nat) : isAt s a c = true ↔ a < s.length ∧ (s.getD a 0).toNat = c := by
  unfold isAt; rw [Bool.and_eq_true, decide_eq_true_eq, decide_eq_true_eq]
def ckHostEnd : Ck
  | [.str s] => some (s.length ≤ 4611686018427387900, .int .i64 (runN hostB s))
  | _ => none
theorem conHostEnd : Con pg 85 ckHostEnd := by
  have hct := (ctA_ok conIsLet (ctA_ok conIsDig (ctN_ok _)))
  intro args q r h hq
  unfold ckHostEnd at h
  split at h
  · cases h
    rename_i s
    refine w85 (fun _ => false) [] rfl hct rfl rfl ?_
    push_cast (config := { maxSteps := 10000000 })
    refine LoopW.adj ⟨hct, fol⟩ (by kernel_rfl) [] (fun i : Nat => [(0, .str s), (3, .int .i64 i)]) (fun _ => []) (fun i => i ≤ s.length ∧ ∀ j, j < i → hostB (s.getD j 0) = true) (fun i => s.length - i) 0 ?_ fun i hi => ?_
    · push_cast (config := { maxSteps := 10000000 })
      exact Nat.zero_le _
    · push_cast (config := { maxSteps := 10000000 })
      obtain ⟨h1, h2⟩ := hi
      have hb : hostB (s.getD i 0) = true ↔ ((isLet ((s.getD i 0).toNat : Int) = true ∨ isDig ((s.getD i 0).toNat : Int) = true) ∨ ((s.getD i 0).toNat : Int) = 45) ∨ ((s.getD i 0).toNat : Int) = 46 := by
        unfold hostB
        simp only [Bool.or_eq_true, decide_eq_true_eq]
        have e5 : ((s.getD i 0).toNat : Int) = 45 ↔ (s.getD i 0).toNat = 45 := by omega
        have e6 : ((s.getD i 0).toNat : Int) = 46 ↔ (s.getD i 0).toNat = 46 := by omega
        rw [e5, e6]
      refine ⟨fun h => ⟨h, h.1⟩, fun h => ⟨h, fun x => ⟨h, x⟩⟩, fun h => ⟨h, h.1⟩, fun h => ⟨h, fun x => ⟨h, x⟩⟩, fun h => ⟨h, h.1⟩, fun h => ⟨h, fun x => ⟨h, x⟩⟩, fun h => ?_, fun h => ?_⟩
      · have hc := hb.2 h.2
        refine ⟨⟨by omega, by omega⟩, i + 1, ⟨by omega, fun j hj => ?_⟩, by omega, by omega⟩
        by_cases e : j = i
        · subst e; exact hc
        · exact h2 j (by omega)
      · rw [runN_at h1 h2 fun hlt => ?_]
        have := h hlt
        cases hc : hostB (s.getD i 0) with
        | false => rfl
        | true =>
          rcases hb.1 hc with ((x | x) | x) | x
          · rw [this.1.1.1] at x; cases x
          · rw [this.1.1.2] at x; cases x
          · exact absurd x this.1.2
          · exact absurd x this.2
  · cases h
attribute [push_cast] ckHostEnd
theorem dig_dg (s : List UInt8) : s.all digB = s.all isDg := by
  congr 1
  funext c
  have key : ∀ n, n < 256 → digB (UInt8.ofNat n) = isDg (UInt8.ofNat n) := by decide +kernel
  have := key c.toNat (UInt8.toNat_lt c)
  simpa using this
def ckPortOf : Ck
  | [.str s] => some (s.length ≤ 4611686018427387900, .int .i64 (portN s))
  | _ => none
theorem conPortOf : Con pg 88 ckPortOf := by
  have hct := (ctA_ok conTrim (ctN_ok _))
  intro args q r h hq
  unfold ckPortOf at h
  split at h
  · cases h
    rename_i s
    refine w88 (fun _ => false) [] rfl hct rfl rfl ?_
    push_cast (config := { maxSteps := 10000000 })
    have e := trim_dig s
    unfold digs at e
    rw [← dig_dg] at e
    refine ⟨fun h => ⟨h, by omega⟩, fun h => ?_, fun h => ?_⟩
    · unfold portN
      rw [if_neg fun x => ?_]
      rcases h with h | h
      · omega
      · exact h (e.2 x.2.2.1)
    have ha := e.1 h.2
    have hd : ∀ j, j < s.length → 48 ≤ (s.getD j 0).toNat ∧ (s.getD j 0).toNat ≤ 57 := fun j hj => by
      have := List.all_eq_true.1 ha (s.getD j 0) (by rw [List.getD_eq_getElem?_getD, List.getElem?_eq_getElem hj]; exact List.getElem_mem hj)
      unfold digB isDig at this
      simp only [Bool.and_eq_true, decide_eq_true_eq] at this
      omega
    have hN : portN s = if portV s ≤ 65535 then portV s else 0 := by
      unfold portN
      by_cases hv : portV s ≤ 65535
      · rw [if_pos ⟨by omega, by omega, ha, hv⟩, if_pos hv]
      · rw [if_neg (fun x => hv x.2.2.2), if_neg hv]
    rw [hN]
    have hS : ∀ i, i < s.length → portV (s.take (i + 1)) = 10 * portV (s.take i) + (((s.getD i 0).toNat : Int) - 48) := fun i hi => by
      rw [takeG (d := 0) hi]
      unfold portV
      rw [List.foldl_append]; rfl
    refine LoopW.adj ⟨hct, fol⟩ (by kernel_rfl) [] (fun i : Nat => [(0, .str s), (3, .int .i64 (portV (s.take i))), (19, .int .i64 s.length), (20, .int .i64 i)]) (fun _ => []) (fun i => i ≤ s.length ∧ 0 ≤ portV (s.take i) ∧ portV (s.take i) < 10 ^ i) (fun i => s.length - i) 0 ?_ fun i hi => ?_
    · push_cast (config := { maxSteps := 10000000 })
      exact ⟨⟨Nat.zero_le _, by decide, by decide⟩, rfl⟩
    · push_cast (config := { maxSteps := 10000000 })
      obtain ⟨h1, h2, h3⟩ := hi
      refine ⟨fun hlt => ?_, fun hge => ?_⟩
      · have hd1 := hd i hlt
        have hs1 := hS i hlt
        have p5 : (10 : Int) ^ i ≤ 10000 := by
          rcases (by omega : i = 0 ∨ i = 1 ∨ i = 2 ∨ i = 3 ∨ i = 4) with rfl | rfl | rfl | rfl | rfl <;> decide
        have e1 : (((s.getD i 0).toNat : Int) - 48) % 256 = ((s.getD i 0).toNat : Int) - 48 := by omega
        rw [e1]
        exact ⟨⟨by omega, by omega⟩, hlt, ⟨by omega, by omega⟩, ⟨by omega, by omega⟩, ⟨by omega, by omega⟩, i + 1, ⟨by omega, by omega, by rw [hs1, Int.pow_succ]; omega⟩, by omega, by rw [hs1], by omega⟩
      · rw [List.take_of_length_le (by omega)]
        exact ⟨fun h => by rw [if_neg (by omega)], fun h => by rw [if_pos (by omega)]⟩
  · cases h
attribute [push_cast] ckPortOf
theorem low1 {s w : List UInt8} {n : Nat} (h1 : n < s.length) (h2 : n < w.length) : lowL ((s.drop n).take 1) = (w.drop n).take 1 ↔ lowB (s.getD n 0) = w.getD n 0 := by
  rw [dropG (d := 0) h1, dropG (d := 0) h2]
  simp [lowL]
def ckScheme : Ck
  | [.str s] => some (s.length ≤ 2000, .tup [.str (if (schL s).1 = true then s.take ((schL s).2 - 3) else []), .int .i64 (schL s).2, .bool (schL s).1])
  | _ => none
theorem conScheme : Con pg 57 ckScheme := by
  have hct := (ctA_ok conSmallA (ctN_ok _))
  intro args q r h hq
  unfold ckScheme at h
  split at h
  · cases h
    rename_i s
    refine w57 (fun _ => false) [] rfl hct rfl rfl ?_
    push_cast (config := { maxSteps := 10000000 })
    refine LoopW.adj ⟨hct, fol⟩ (by kernel_rfl) [] (fun t : Nat × Nat => [(0, .str s), (3, .int .i64 t.2), (8, .sl 2 (litF [.str (wHttp ++ wSep), .str (wHttps ++ wSep)])), (9, .int .i64 2), (10, .int .i64 t.1)]) (fun _ => []) (fun t => (t.1 = 0 ∧ t.2 = 0) ∨ (t.1 = 1 ∧ t.2 = mt s (wHttp ++ wSep) ∧ t.2 ≠ 7) ∨ (t.1 = 2 ∧ schL s = (false, t.2))) (fun t => 2 - t.1) (0, 0) ?_ fun t ht => ?_
    · push_cast (config := { maxSteps := 10000000 })
      intro i _; rfl
    · obtain ⟨i, m⟩ := t
      have e4 : wHttp.length = 4 := rfl
      have e5 : wHttps.length = 5 := rfl
      have e3 : wSep.length = 3 := rfl
      have e7 : (wHttp ++ wSep).length = 7 := rfl
      have e8 : (wHttps ++ wSep).length = 8 := rfl
      rcases ht with ⟨h1, h2⟩ | ⟨h1, hm, h7'⟩ | ⟨h1, hm⟩
      · obtain rfl : i = 0 := h1
        obtain rfl : m = 0 := h2
        push_cast (config := { maxSteps := 10000000 })
        refine LoopW.adj ⟨hct, fol⟩ (by kernel_rfl) [] (fun n : Nat => [(0, .str s), (3, .int .i64 0), (6, .str (wHttp ++ wSep)), (7, .int .i64 n), (8, .sl 2 (litF [.str (wHttp ++ wSep), .str (wHttps ++ wSep)])), (9, .int .i64 2), (10, .int .i64 0)]) (fun _ => []) (fun n => n ≤ s.length ∧ n ≤ 7 ∧ ∀ j, j < n → lowB (s.getD j 0) = (wHttp ++ wSep).getD j 0) (fun n => 7 - n) 0 ?_ fun n hn => ?_
        · push_cast (config := { maxSteps := 10000000 })
          exact Nat.zero_le _
        · push_cast (config := { maxSteps := 10000000 })
          obtain ⟨n1, n2, n3⟩ := hn
          refine ⟨fun h => ⟨h, by omega, by omega⟩, fun h => ⟨h, ⟨by omega, by omega⟩, by omega, by omega⟩, fun h => ⟨h, by omega⟩, fun h => ⟨h, by omega, by omega⟩, fun h => ⟨h, ⟨by omega, by omega⟩, by omega, by omega⟩, fun h => ?_, fun h => ?_⟩
          · have hc := (low1 (w := wHttp ++ wSep) h.1.2 (by omega)).1 h.2
            refine ⟨⟨by omega, by omega⟩, n + 1, ⟨by omega, by omega, fun j hj => ?_⟩, by omega, by omega⟩
            by_cases e : j = n
            · subst e; exact hc
            · exact n3 j (by omega)
          · have hmt : mt s (wHttp ++ wSep) = n := mt_at n1 (by omega) n3 fun a b x => h ⟨by omega, a⟩ ((low1 (w := wHttp ++ wSep) a b).2 x)
            refine ⟨fun h7 => ?_, fun h7 => ?_⟩
            · have hn : n = 7 := by omega
              subst hn
              have hs : schL s = (true, 7) := by unfold schL; rw [if_pos hmt]
              rw [hs]
              exact ⟨⟨by omega, by omega⟩, ⟨⟨by omega, by omega⟩, by omega⟩, rfl, rfl, rfl⟩
            · exact ⟨((1, n) : Nat × Nat), .inr (.inl ⟨rfl, hmt.symm, by omega⟩), by show 2 - 1 < 2; omega, by show max (0 : Int) n = (n : Int); omega, rfl⟩
      · obtain rfl : i = 1 := h1
        have hm : m = mt s (wHttp ++ wSep) := hm
        have h7' : m ≠ 7 := h7'
        push_cast (config := { maxSteps := 10000000 })
        refine LoopW.adj ⟨hct, fol⟩ (by kernel_rfl) [] (fun n : Nat => [(0, .str s), (3, .int .i64 m), (6, .str (wHttps ++ wSep)), (7, .int .i64 n), (8, .sl 2 (litF [.str (wHttp ++ wSep), .str (wHttps ++ wSep)])), (9, .int .i64 2), (10, .int .i64 1)]) (fun _ => []) (fun n => n ≤ s.length ∧ n ≤ 8 ∧ ∀ j, j < n → lowB (s.getD j 0) = (wHttps ++ wSep).getD j 0) (fun n => 8 - n) 0 ?_ fun n hn => ?_
        · push_cast (config := { maxSteps := 10000000 })
          exact Nat.zero_le _
        · push_cast (config := { maxSteps := 10000000 })
          obtain ⟨n1, n2, n3⟩ := hn
          refine ⟨fun h => ⟨h, by omega, by omega⟩, fun h => ⟨h, ⟨by omega, by omega⟩, by omega, by omega⟩, fun h => ⟨h, by omega⟩, fun h => ⟨h, by omega, by omega⟩, fun h => ⟨h, ⟨by omega, by omega⟩, by omega, by omega⟩, fun h => ?_, fun h => ?_⟩
          · have hc := (low1 (w := wHttps ++ wSep) h.1.2 (by omega)).1 h.2
            refine ⟨⟨by omega, by omega⟩, n + 1, ⟨by omega, by omega, fun j hj => ?_⟩, by omega, by omega⟩
            by_cases e : j = n
            · subst e; exact hc
            · exact n3 j (by omega)
          · have hmt : mt s (wHttps ++ wSep) = n := mt_at n1 (by omega) n3 fun a b x => h ⟨by omega, a⟩ ((low1 (w := wHttps ++ wSep) a b).2 x)
            refine ⟨fun h7 => ?_, fun h7 => ?_⟩
            · have hn : n = 8 := by omega
              subst hn
              have hs : schL s = (true, 8) := by unfold schL; rw [if_neg (by rw [← hm]; exact h7'), if_pos hmt]
              rw [hs]
              exact ⟨⟨by omega, by omega⟩, ⟨⟨by omega, by omega⟩, by omega⟩, rfl, rfl, rfl⟩
            · have hs : schL s = (false, max m n) := by unfold schL; rw [if_neg (by rw [← hm]; exact h7'), if_neg (by rw [hmt]; omega), hmt, ← hm]
              exact ⟨((2, max m n) : Nat × Nat), .inr (.inr ⟨rfl, hs⟩), by show 2 - 2 < 1; omega, by show max (m : Int) n = ((max m n : Nat) : Int); omega, rfl⟩
      · obtain rfl : i = 2 := h1
        have hm : schL s = (false, m) := hm
        push_cast (config := { maxSteps := 10000000 })
        rw [hm]
        exact ⟨rfl, rfl, rfl⟩
  · cases h
attribute [push_cast] ckScheme

end Go.Abs
