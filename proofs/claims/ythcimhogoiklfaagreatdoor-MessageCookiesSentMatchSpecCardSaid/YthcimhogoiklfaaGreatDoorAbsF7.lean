/- what functions of this program compute: contracts, each a function's own -/
import Derived.Test.YthcimhogoiklfaaGreatDoorAbsK2
import Derived.Test.YthcimhogoiklfaaGreatDoorAbsFacts
import Derived.Test.YthcimhogoiklfaaGreatDoorAbsF6
import Derived.Test.YthcimhogoiklfaaGreatDoorAbsShelf
import Derived.Lib.SplitLaws
import Derived.Lib.SlTrimSet
import Derived.Lib.IndexMore
import Derived.Lib.Atoi
import Derived.Lib.Itoa
import Derived.Lib.ItoaNum
import Derived.Lib.AtoiErrMem
import Derived.Lib.Join
import Derived.Lib.Repeat
import Derived.Lib.ItoaLen
import Derived.Lib.Walk
import Derived.Deep.RegionLaw
import Derived.Lib.SliceRun
import Derived.Shelf.RegionOpenPlain
namespace Go.Abs
open Go Go.Proofs
set_option maxHeartbeats 4000000
set_option maxRecDepth 100000
set_option linter.unusedVariables false
set_option linter.unusedSimpArgs false
def ckNaN : Ck
  | [.int .i64 _] => some (True, .bool false)
  | _ => none
theorem conNaN : Con pg 80 ckNaN := by
  have hct := ctN_ok pg
  intro args q r h hq
  unfold ckNaN at h
  split at h
  · cases h
    rename_i x
    refine w80 (fun _ => false) [] rfl hct rfl rfl ?_
    push_cast (config := { maxSteps := 10000000 })
    done
  · cases h
attribute [push_cast] ckNaN
def cmpI (x y : Int) : Int := if x < y then -1 else if y < x then 1 else 0
def ckCmpI : Ck
  | [.int .i64 x, .int .i64 y] => some (True, .int .i64 (cmpI x y))
  | _ => none
theorem conCmpI : Con pg 28 ckCmpI := by
  have hct := (ctA_ok conNaN (ctN_ok _))
  intro args q r h hq
  unfold ckCmpI at h
  split at h
  · cases h
    rename_i x y
    refine w28 (fun _ => false) [] rfl hct rfl rfl ?_
    push_cast (config := { maxSteps := 10000000 })
    unfold cmpI
    exact ⟨fun h => by rw [if_pos h], fun h => ⟨fun g => by rw [if_neg h, if_pos g], fun g => by rw [if_neg h, if_neg g]⟩⟩
  · cases h
attribute [push_cast] ckCmpI
def orL : List Int → Int
  | [] => 0
  | x :: t => if x = 0 then orL t else x
def ckOr : Ck
  | [.sl n f] => some (isLs cInt n f ∧ n ≤ 1000000, .int .i64 (orL (lsOf cInt n f)))
  | _ => none
theorem conOr : Con pg 27 ckOr := by
  have hct := ctN_ok pg
  intro args q r h hq
  unfold ckOr at h
  split at h
  · cases h
    rename_i n f
    refine pcall_args (args' := [.sl (lsOf cInt n f).length (lsF cInt (lsOf cInt n f))]) ⟨isLs.vle hq.1, trivial⟩ ?_
    have hn : (lsOf cInt n f).length ≤ 1000000 := by rw [lsOf_len]; exact hq.2
    generalize lsOf cInt n f = l at hn ⊢
    refine w27 (fun _ => false) [] rfl hct rfl rfl ?_
    push_cast (config := { maxSteps := 10000000 })
    refine LoopW.adj ⟨hct, fol⟩ (by kernel_rfl) [] (fun i : Nat => [(3, .int .i64 0), (6, .sl l.length (lsF cInt l)), (7, .int .i64 l.length), (8, .int .i64 i)]) (fun _ => []) (fun i => i ≤ l.length ∧ orL (l.drop i) = orL l) (fun i => l.length - i) 0 ?_ fun i hi => ?_
    · push_cast (config := { maxSteps := 10000000 })
      exact Nat.zero_le _
    · obtain ⟨i1, i2⟩ := hi
      push_cast (config := { maxSteps := 10000000 })
      refine ⟨fun h => ?_, fun h => ?_⟩
      · rw [dropG (d := 0) h, orL] at i2
        exact ⟨h, fun z => by rw [if_neg z] at i2; exact i2, fun z => ⟨by omega, i + 1, ⟨by omega, by rw [if_pos z] at i2; exact i2⟩, by omega, by omega⟩⟩
      · rw [List.drop_eq_nil_of_le (by omega)] at i2
        exact i2
  · cases h
attribute [push_cast] ckOr
def ckCmpC : Ck
  | [.agg [.str a1, .str a2, .str a3, .bool a4, .str a5, .bool a6, .int .i64 a7, .int .i64 a8], .agg [.str b1, .str b2, .str b3, .bool b4, .str b5, .bool b6, .int .i64 b7, .int .i64 b8]] => some (True, .int .i64 (cmpC ⟨a1, a2, a3, a4, a5, a6, a7, a8⟩ ⟨b1, b2, b3, b4, b5, b6, b7, b8⟩))
  | _ => none
theorem conCmpC : Con pg 26 ckCmpC := by
  have hct := (ctA_ok conCmpI (ctA_ok conOr (ctN_ok _)))
  intro args q r h hq
  unfold ckCmpC at h
  split at h
  · cases h
    rename_i a1 a2 a3 a4 a5 a6 a7 a8 b1 b2 b3 b4 b5 b6 b7 b8
    refine w26 (fun _ => false) [] rfl hct rfl rfl ?_
    push_cast (config := { maxSteps := 10000000 })
    have e : LsI cInt 2 (litF [V.int IntKind.i64 (cmpI ↑b5.length ↑a5.length), V.int IntKind.i64 (cmpI a8 b8)]) [cmpI b5.length a5.length, cmpI a8 b8] := ⟨rfl, fun j hj => by
      match j, hj with
      | 0, _ => rfl
      | 1, _ => rfl⟩
    refine ⟨e.is, ?_⟩
    rw [e.of]
    unfold orL orL orL cmpC cmpI
    simp only [ltC_iff]
    split <;> split <;> split <;> (try split) <;> (try split) <;> (try split) <;> omega
  · cases h
attribute [push_cast] ckCmpC

def setC (D : List Coo) (a : Nat) (x : Coo) (i : Nat) : Coo := if i = a then x else D.getD i noCoo
@[push_cast] theorem setF_coo (D : List Coo) (a : Nat) (x : Coo) (i : Nat) : setF (lsF cCoo D) a (.agg [.str x.na, .str x.va, .str x.ho, .bool x.wi, .str x.pa, .bool x.se, .int .i64 x.un, .int .i64 x.si]) i = .agg [.str (setC D a x i).na, .str (setC D a x i).va, .str (setC D a x i).ho, .bool (setC D a x i).wi, .str (setC D a x i).pa, .bool (setC D a x i).se, .int .i64 (setC D a x i).un, .int .i64 (setC D a x i).si] := by
  show _ = cCoo.enc (setC D a x i)
  unfold setF setC
  by_cases e : i = a
  · rw [decide_eq_true e, cond_true, if_pos e]; rfl
  · rw [decide_eq_false e, cond_false, if_neg e]; rfl
theorem lamF_coo (D : List Coo) : (fun i => V.agg [.str (D.getD i noCoo).na, .str (D.getD i noCoo).va, .str (D.getD i noCoo).ho, .bool (D.getD i noCoo).wi, .str (D.getD i noCoo).pa, .bool (D.getD i noCoo).se, .int .i64 (D.getD i noCoo).un, .int .i64 (D.getD i noCoo).si]) = lsF cCoo D := rfl
theorem men_coo (ids : Nat → Bool) (D : List Coo) (j : Nat) : V.menInL ids (lsF cCoo D j).flat = true := rfl
theorem swF_at {D : List Coo} {a b i : Nat} (hi : i < D.length) : setF (setF (lsF cCoo D) a (cCoo.enc (D.getD b noCoo))) b (cCoo.enc (D.getD a noCoo)) i = lsF cCoo (swp noCoo D a b) i := by
  show _ = cCoo.enc ((swp noCoo D a b).getD i noCoo)
  unfold setF swp
  rw [List.getD_eq_getElem?_getD (l := List.set _ _ _), List.getElem?_set, List.getElem?_set]
  by_cases e1 : i = b
  · subst e1
    rw [decide_eq_true rfl, cond_true, if_pos rfl, if_pos (by rw [List.length_set]; exact hi)]; rfl
  · rw [decide_eq_false e1, cond_false, if_neg (Ne.symm e1)]
    by_cases e2 : i = a
    · subst e2
      rw [decide_eq_true rfl, cond_true, if_pos rfl, if_pos hi]; rfl
    · rw [decide_eq_false e2, cond_false, if_neg (Ne.symm e2), ← List.getD_eq_getElem?_getD]; rfl
def ckSwRK : List V → List Blk → Option (Prop × V × List Blk)
  | [.vec _ n, .int .i64 a, .int .i64 b, .int .i64 c, .fn (.func 26) [] []], [.vec 8 k f] => some (k = n ∧ isLs cCoo n f ∧ n ≤ 1000000 ∧ 0 ≤ a ∧ 0 ≤ c ∧ a + c ≤ b ∧ b + c ≤ n, .tup [], [.vec 8 n (lsF cCoo (swR noCoo (lsOf cCoo n f) a.toNat b.toNat c.toNat))])
  | _, _ => none
def ckSwR : Cf := ⟨fun | .vec i _ :: _ => [i] | _ => [], ckSwRK⟩
theorem conSwR : FCon pg 208 ckSwR := by
  have hct := ctN_ok pg
  intro args bs q r bs' h hq
  replace h : ckSwRK args bs = some (q, r, bs') := h
  unfold ckSwRK at h
  split at h
  · cases h
    rename_i i n a b c k f
    refine ⟨rfl, by first | exact Nat.le_refl _ | exact Nat.zero_le _, ?_⟩
    obtain ⟨rfl, hf, hn, ha, hc, hab, hbc⟩ := hq
    obtain ⟨a, rfl⟩ : ∃ z : Nat, a = z := ⟨a.toNat, by omega⟩
    obtain ⟨b, rfl⟩ : ∃ z : Nat, b = z := ⟨b.toNat, by omega⟩
    obtain ⟨c, rfl⟩ : ∃ z : Nat, c = z := ⟨c.toNat, by omega⟩
    simp only [Int.toNat_natCast]
    have hk : k = (lsOf cCoo k f).length := (lsOf_len k f).symm
    refine fcall_blk (hm := [(i + 9000, .vec 8 (lsOf cCoo k f).length (lsF cCoo (lsOf cCoo k f)))]) ⟨rfl, ⟨rfl, hk, fun j hj => by show V.shift (f j) = _; rw [hf.2 j hj]; rfl⟩, trivial⟩ ?_
    have hlen : (lsOf cCoo k f).length = k := lsOf_len k f
    generalize lsOf cCoo k f = D at hlen ⊢
    subst hlen
    show FCall pg 208 [.vec (i + 9000) D.length, .int .i64 a, .int .i64 b, .int .i64 c, .fn (.func 26) [] []] [(i + 9000, .vec 8 D.length (lsF cCoo D))] (.tup []) [(i + 9000, .vec 8 D.length (lsF cCoo (swR noCoo D a b c)))]
    refine fw208 (fun _ => false) [] rfl hct rfl (by simp) ?_ rfl ?_
    · simp [hlIn, Blk.menIn, men_coo, idsIn]
    push_cast (config := { maxSteps := 10000000 })
    refine LoopW.adj ⟨hct, fol⟩ (by kernel_rfl) [] (fun t : Nat × List Coo => [(0, .vec (i + 9000) D.length), (1, .int .i64 a), (2, .int .i64 b), (3, .int .i64 c), (10, .int .i64 t.1)]) (fun t => [(i + 9000, .vec 8 D.length (lsF cCoo t.2))]) (fun t => t.1 ≤ c ∧ t.2.length = D.length ∧ swR noCoo t.2 (a + t.1) (b + t.1) (c - t.1) = swR noCoo D a b c) (fun t => c - t.1) (0, D) ?_ fun t ht => ?_
    · push_cast (config := { maxSteps := 10000000 })
      exact ⟨Nat.zero_le _, rfl⟩
    · obtain ⟨j, E⟩ := t
      obtain ⟨i1, i2, i3⟩ : j ≤ c ∧ E.length = D.length ∧ swR noCoo E (a + j) (b + j) (c - j) = swR noCoo D a b c := ht
      push_cast (config := { maxSteps := 10000000 })
      have ea : ((a : Int) + j).toNat = a + j := by omega
      have eb : ((b : Int) + j).toNat = b + j := by omega
      rw [ea, eb]
      refine ⟨fun h => ?_, fun h => ?_⟩
      · (repeat (refine ⟨by omega, ?_⟩))
        exact ⟨(j + 1, swp noCoo E (a + j) (b + j)), ⟨by show j + 1 ≤ c; omega, by show (swp noCoo E (a + j) (b + j)).length = _; rw [swp_len]; exact i2, by rw [← i3, show c - j = (c - (j + 1)) + 1 by omega, swR]; rfl⟩, by show c - (j + 1) < c - j; omega, by show (j : Int) + 1 = ((j + 1 : Nat) : Int); omega, fun i hi => swF_at (by omega)⟩
      · rw [show c - j = 0 by omega, swR] at i3
        subst i3
        exact fun i hi => rfl
  · cases h
attribute [push_cast] ckSwRK
@[push_cast] theorem swR_ids (i n : Nat) (l : List V) : ckSwR.ids (.vec i n :: l) = [i] := rfl
@[push_cast] theorem swR_k {i n k : Nat} {a b c : Int} {f : Nat → V} : ckSwR.k [.vec i n, .int .i64 a, .int .i64 b, .int .i64 c, .fn (.func 26) [] []] [.vec 8 k f] = some (k = n ∧ isLs cCoo n f ∧ n ≤ 1000000 ∧ 0 ≤ a ∧ 0 ≤ c ∧ a + c ≤ b ∧ b + c ≤ n, .tup [], [.vec 8 n (lsF cCoo (swR noCoo (lsOf cCoo n f) a.toNat b.toNat c.toNat))]) := rfl

def ckRotK : List V → List Blk → Option (Prop × V × List Blk)
  | [.vec _ n, .int .i64 a, .int .i64 b, .int .i64 c, .fn (.func 26) [] []], [.vec 8 k f] => some (k = n ∧ isLs cCoo n f ∧ n ≤ 1000000 ∧ 0 ≤ a ∧ a < b ∧ b < c ∧ c ≤ n, .tup [], [.vec 8 n (lsF cCoo (rotL (lsOf cCoo n f) a.toNat b.toNat c.toNat))])
  | _, _ => none
def ckRot : Cf := ⟨fun | .vec i _ :: _ => [i] | _ => [], ckRotK⟩
theorem conRot : FCon pg 176 ckRot := by
  have hct := (ctF_ok conSwR (ctN_ok _))
  intro args bs q r bs' h hq
  replace h : ckRotK args bs = some (q, r, bs') := h
  unfold ckRotK at h
  split at h
  · cases h
    rename_i i n a b c k f
    refine ⟨rfl, by first | exact Nat.le_refl _ | exact Nat.zero_le _, ?_⟩
    obtain ⟨rfl, hf, hn, ha, hab, hbc, hcn⟩ := hq
    obtain ⟨a, rfl⟩ : ∃ z : Nat, a = z := ⟨a.toNat, by omega⟩
    obtain ⟨b, rfl⟩ : ∃ z : Nat, b = z := ⟨b.toNat, by omega⟩
    obtain ⟨c, rfl⟩ : ∃ z : Nat, c = z := ⟨c.toNat, by omega⟩
    simp only [Int.toNat_natCast]
    have hk : k = (lsOf cCoo k f).length := (lsOf_len k f).symm
    refine fcall_blk (hm := [(i + 9000, .vec 8 (lsOf cCoo k f).length (lsF cCoo (lsOf cCoo k f)))]) ⟨rfl, ⟨rfl, hk, fun j hj => by show V.shift (f j) = _; rw [hf.2 j hj]; rfl⟩, trivial⟩ ?_
    have hlen : (lsOf cCoo k f).length = k := lsOf_len k f
    generalize lsOf cCoo k f = D at hlen ⊢
    subst hlen
    show FCall pg 176 [.vec (i + 9000) D.length, .int .i64 a, .int .i64 b, .int .i64 c, .fn (.func 26) [] []] [(i + 9000, .vec 8 D.length (lsF cCoo D))] (.tup []) [(i + 9000, .vec 8 D.length (lsF cCoo (rotL D a b c)))]
    refine fw176 (fun _ => false) [] rfl hct rfl (by simp) ?_ rfl ?_
    · simp [hlIn, Blk.menIn, men_coo, idsIn]
    push_cast (config := { maxSteps := 10000000 })
    (repeat (refine ⟨by omega, ?_⟩))
    refine LoopW.adj ⟨hct, fol⟩ (by kernel_rfl) [] (fun t : Nat × Nat × List Coo => [(0, .vec (i + 9000) D.length), (2, .int .i64 b), (4, .fn (.func 26) [] []), (10, .int .i64 t.1), (11, .int .i64 t.2.1)]) (fun t => [(i + 9000, .vec 8 D.length (lsF cCoo t.2.2))]) (fun t => t.1 ≤ b ∧ b + t.2.1 ≤ D.length ∧ 0 < t.1 ∧ 0 < t.2.1 ∧ t.2.2.length = D.length ∧ rotL t.2.2 (b - t.1) b (b + t.2.1) = rotL D a b c) (fun t => t.1 + t.2.1) (b - a, c - b, D) ?_ fun t ht => ?_
    · push_cast (config := { maxSteps := 10000000 })
      exact ⟨⟨by omega, by omega, by omega, by omega, by rw [show b - (b - a) = a by omega, show b + (c - b) = c by omega]⟩, by omega, by omega⟩
    · obtain ⟨p, q, E⟩ := t
      obtain ⟨i1, i2, i3, i4, i5, i6⟩ : p ≤ b ∧ b + q ≤ D.length ∧ 0 < p ∧ 0 < q ∧ E.length = D.length ∧ rotL E (b - p) b (b + q) = rotL D a b c := ht
      have e1 : lsOf cCoo D.length (lsF cCoo E) = E := by rw [← i5]; exact lsOf_ls E
      have e2 : isLs cCoo D.length (lsF cCoo E) := by rw [← i5]; exact isLs_ls E
      push_cast (config := { maxSteps := 10000000 })
      rw [e1]
      refine ⟨fun h => ⟨fun h2 => ?_, fun h2 => ?_⟩, fun h => ?_⟩
      · refine ⟨by omega, ⟨e2, by omega⟩, by omega, (p - q, q, swR noCoo E (b - p) b q), ⟨by show p - q ≤ b; omega, by show b + q ≤ _; omega, by show 0 < p - q; omega, by show 0 < q; omega, by show (swR noCoo E (b - p) b q).length = _; rw [swR_len]; exact i5, ?_⟩, by show p - q + q < p + q; omega, ⟨by show (p : Int) - q = ((p - q : Nat) : Int); omega, rfl⟩, fun i hi => rfl⟩
        rw [← i6]
        have r := rot_hi noCoo E (a := b - p) (m := b) (b := b + q) (by omega) (by omega) (by omega) (by omega)
        rw [show b + q - b = q by omega, show b - p + q = b - (p - q) by omega] at r
        exact r
      · rw [show ((b : Int) + q - p).toNat = b + q - p by omega]
        refine ⟨by omega, by omega, by omega, ⟨e2, by omega⟩, by omega, (p, q - p, swR noCoo E (b - p) (b + q - p) p), ⟨by show p ≤ b; omega, by show b + (q - p) ≤ _; omega, by show 0 < p; omega, by show 0 < q - p; omega, by show (swR noCoo E (b - p) (b + q - p) p).length = _; rw [swR_len]; exact i5, ?_⟩, by show p + (q - p) < p + q; omega, ⟨rfl, by show (q : Int) - p = ((q - p : Nat) : Int); omega⟩, fun i hi => rfl⟩
        rw [← i6]
        have r := rot_lo noCoo E (a := b - p) (m := b) (b := b + q) (by omega) (by omega) (by omega) (by omega)
        rw [show b - (b - p) = p by omega, show b + q - p = b + (q - p) by omega] at r
        rw [show b + q - p = b + (q - p) by omega]
        exact r
      · obtain rfl : p = q := by omega
        refine ⟨by omega, ⟨e2, by omega⟩, fun i hi => ?_⟩
        have r := rot_eq noCoo E (a := b - p) (m := b) (b := b + p) (by omega) (by omega) (by omega) (by omega)
        rw [show b + p - b = p by omega] at r
        rw [r, i6]
  · cases h
attribute [push_cast] ckRotK
@[push_cast] theorem rot_ids (i n : Nat) (l : List V) : ckRot.ids (.vec i n :: l) = [i] := rfl
@[push_cast] theorem rot_k {i n k : Nat} {a b c : Int} {f : Nat → V} : ckRot.k [.vec i n, .int .i64 a, .int .i64 b, .int .i64 c, .fn (.func 26) [] []] [.vec 8 k f] = some (k = n ∧ isLs cCoo n f ∧ n ≤ 1000000 ∧ 0 ≤ a ∧ a < b ∧ b < c ∧ c ≤ n, .tup [], [.vec 8 n (lsF cCoo (rotL (lsOf cCoo n f) a.toNat b.toNat c.toNat))]) := rfl
def ckInsK : List V → List Blk → Option (Prop × V × List Blk)
  | [.vec _ n, .int .i64 a, .int .i64 b, .fn (.func 26) [] []], [.vec 8 k f] => some (k = n ∧ isLs cCoo n f ∧ n ≤ 1000000 ∧ 0 ≤ a ∧ a ≤ b ∧ b ≤ n, .tup [], [.vec 8 n (lsF cCoo (insD ltC noCoo (lsOf cCoo n f) a.toNat b.toNat))])
  | _, _ => none
def ckIns : Cf := ⟨fun | .vec i _ :: _ => [i] | _ => [], ckInsK⟩
theorem conIns : FCon pg 133 ckIns := by
  have hct := (ctA_ok conCmpC (ctN_ok _))
  intro args bs q r bs' h hq
  replace h : ckInsK args bs = some (q, r, bs') := h
  unfold ckInsK at h
  split at h
  · cases h
    rename_i i n a b k f
    refine ⟨rfl, by first | exact Nat.le_refl _ | exact Nat.zero_le _, ?_⟩
    obtain ⟨rfl, hf, hn, ha, hab, hbn⟩ := hq
    obtain ⟨a, rfl⟩ : ∃ z : Nat, a = z := ⟨a.toNat, by omega⟩
    obtain ⟨b, rfl⟩ : ∃ z : Nat, b = z := ⟨b.toNat, by omega⟩
    simp only [Int.toNat_natCast]
    have hk : k = (lsOf cCoo k f).length := (lsOf_len k f).symm
    refine fcall_blk (hm := [(i + 9000, .vec 8 (lsOf cCoo k f).length (lsF cCoo (lsOf cCoo k f)))]) ⟨rfl, ⟨rfl, hk, fun j hj => by show V.shift (f j) = _; rw [hf.2 j hj]; rfl⟩, trivial⟩ ?_
    have hlen : (lsOf cCoo k f).length = k := lsOf_len k f
    generalize lsOf cCoo k f = D at hlen ⊢
    subst hlen
    show FCall pg 133 [.vec (i + 9000) D.length, .int .i64 a, .int .i64 b, .fn (.func 26) [] []] [(i + 9000, .vec 8 D.length (lsF cCoo D))] (.tup []) [(i + 9000, .vec 8 D.length (lsF cCoo (insD ltC noCoo D a b)))]
    refine fw133 (fun _ => false) [] rfl hct rfl (by simp) ?_ rfl ?_
    · simp [hlIn, Blk.menIn, men_coo, idsIn]
    push_cast (config := { maxSteps := 10000000 })
    (repeat (refine ⟨by omega, ?_⟩))
    refine LoopW.adj ⟨hct, fol⟩ (by kernel_rfl) [] (fun t : Nat × List Coo => [(0, .vec (i + 9000) D.length), (1, .int .i64 a), (2, .int .i64 b), (3, .fn (.func 26) [] []), (8, .int .i64 t.1)]) (fun t => [(i + 9000, .vec 8 D.length (lsF cCoo t.2))]) (fun t => a < t.1 ∧ t.1 ≤ max (a + 1) b ∧ t.2.length = D.length ∧ (t.1 ≤ b → t.2 = insD ltC noCoo D a t.1) ∧ (b < t.1 → t.2 = D)) (fun t => b - t.1) (a + 1, D) ?_ fun t ht => ?_
    · push_cast (config := { maxSteps := 10000000 })
      exact ⟨by omega, by omega, fun h => (insD_one keyC noCoo D (by omega) (by omega) (by omega)).symm⟩
    · obtain ⟨p, E⟩ := t
      obtain ⟨i1, i2, i3, i4, i5⟩ : a < p ∧ p ≤ max (a + 1) b ∧ E.length = D.length ∧ (p ≤ b → E = insD ltC noCoo D a p) ∧ (b < p → E = D) := ht
      have hr : a = b ∨ a < b := by omega
      push_cast (config := { maxSteps := 10000000 })
      refine ⟨fun hlt => ?_, fun hge => ?_⟩
      · have i4 := i4 (by omega)
        have hS : (srtL ltC noCoo (sgL D a p)).length = p - a := by rw [srtL_len, sgL_len D (by omega)]
        generalize hc : D.getD p noCoo = c at *
        refine LoopW.adj ⟨hct, fol⟩ (by kernel_rfl) [] (fun t : Nat × List Coo => [(0, .vec (i + 9000) D.length), (1, .int .i64 a), (2, .int .i64 b), (3, .fn (.func 26) [] []), (8, .int .i64 p), (9, .int .i64 ((a + t.1 : Nat) : Int))]) (fun t => [(i + 9000, .vec 8 D.length (lsF cCoo t.2))]) (fun t => t.1 ≤ p - a ∧ posK ltC noCoo (srtL ltC noCoo (sgL D a p)) c t.1 = posK ltC noCoo (srtL ltC noCoo (sgL D a p)) c (p - a) ∧ t.2 = insE ltC noCoo D a p t.1 ∧ t.2.length = D.length) (fun t => t.1) (p - a, E) ?_ fun t ht => ?_
        · push_cast (config := { maxSteps := 10000000 })
          exact ⟨⟨by omega, by rw [i4, insE_top ltC noCoo D (by omega) (by omega)], i3⟩, by omega⟩
        · obtain ⟨q, F⟩ := t
          obtain ⟨j1, j2, j3, j4⟩ : q ≤ p - a ∧ posK ltC noCoo (srtL ltC noCoo (sgL D a p)) c q = posK ltC noCoo (srtL ltC noCoo (sgL D a p)) c (p - a) ∧ F = insE ltC noCoo D a p q ∧ F.length = D.length := ht
          push_cast (config := { maxSteps := 10000000 })
          rw [lamF_coo F]
          simp only [setF_coo]
          have e1 : ((a : Int) + q).toNat = a + q := by omega
          have e2 : ((a : Int) + q - 1).toNat = a + q - 1 := by omega
          rw [e1, e2]
          have g1 : F.getD (a + q) noCoo = c := by rw [j3, insE_at ltC noCoo D (by omega) (by omega) j1, hc]
          have g2 : ∀ k, q = k + 1 → F.getD (a + q - 1) noCoo = (srtL ltC noCoo (sgL D a p)).getD k noCoo := fun k hk => by
            subst hk
            rw [j3]
            exact insE_pre ltC noCoo D (by omega) (by omega) j1
          have g3 : ∀ k, q = k + 1 → swp noCoo F (a + q) (a + q - 1) = insE ltC noCoo D a p k := fun k hk => by
            subst hk
            rw [j3]
            exact insE_swp ltC noCoo D (by omega) (by omega) j1
          refine ⟨fun h => ⟨h, by omega⟩, fun h => ⟨h, by omega⟩, fun h => ⟨h, by omega⟩, fun h => ⟨h, by omega⟩, fun h => ⟨h, by omega⟩, fun h => ?_, fun h => ?_⟩
          · obtain ⟨k, rfl⟩ : ∃ k, q = k + 1 := ⟨q - 1, by omega⟩
            have h2 := h.2
            rw [g1, g2 k rfl] at h2
            rw [posK, if_pos h2] at j2
            (repeat (refine ⟨by omega, ?_⟩))
            exact ⟨(k, swp noCoo F (a + (k + 1)) (a + (k + 1) - 1)), ⟨by show k ≤ p - a; omega, j2, g3 k rfl, by show (swp noCoo F (a + (k + 1)) (a + (k + 1) - 1)).length = _; rw [swp_len]; exact j4⟩, by show k < k + 1; omega, by show (a : Int) + (k + 1 : Nat) - 1 = (a : Int) + (k : Nat); omega, fun i hi => swF_at (by omega)⟩
          · have hk : posK ltC noCoo (srtL ltC noCoo (sgL D a p)) c (p - a) = q := by
              rw [← j2]
              cases q with
              | zero => rfl
              | succ k =>
                rw [posK, if_neg]
                intro h2
                rw [g1, g2 k rfl] at h
                first | exact h (by omega) h2 | (have := h (by omega); rw [this] at h2; cases h2)
            have hE : F = insD ltC noCoo D a (p + 1) := by
              rw [j3, ← insE_end ltC noCoo D (by omega) (by omega), hc, hk]
            exact ⟨by omega, (p + 1, F), ⟨by show a < p + 1; omega, by show p + 1 ≤ _; omega, j4, fun _ => hE, fun hb => absurd hb (by show ¬ b < p + 1; omega)⟩, by show b - (p + 1) < b - p; omega, by show (p : Int) + 1 = ((p + 1 : Nat) : Int); omega, fun i hi => rfl⟩
      · by_cases hb : p ≤ b
        · obtain rfl : p = b := by omega
          rw [i4 (by omega)]
          exact fun i hi => rfl
        · rw [i5 (by omega), insD_one keyC noCoo D (by omega) (by omega) (by omega)]
          exact fun i hi => rfl
  · cases h
attribute [push_cast] ckInsK
@[push_cast] theorem ins_ids (i n : Nat) (l : List V) : ckIns.ids (.vec i n :: l) = [i] := rfl
@[push_cast] theorem ins_k {i n k : Nat} {a b : Int} {f : Nat → V} : ckIns.k [.vec i n, .int .i64 a, .int .i64 b, .fn (.func 26) [] []] [.vec 8 k f] = some (k = n ∧ isLs cCoo n f ∧ n ≤ 1000000 ∧ 0 ≤ a ∧ a ≤ b ∧ b ≤ n, .tup [], [.vec 8 n (lsF cCoo (insD ltC noCoo (lsOf cCoo n f) a.toNat b.toNat))]) := rfl

def ckSymK (N : Int) : List V → List Blk → Option (Prop × V × List Blk)
  | [.vec _ n, .int .i64 a, .int .i64 m, .int .i64 b, .fn (.func 26) [] []], [.vec 8 k f] => some (k = n ∧ isLs cCoo n f ∧ n ≤ 1000000 ∧ 0 ≤ a ∧ a < m ∧ m < b ∧ b ≤ n ∧ b - a < N ∧ SrtK ltC (sgL (lsOf cCoo n f) a.toNat m.toNat) ∧ SrtK ltC (sgL (lsOf cCoo n f) m.toNat b.toNat), .tup [], [.vec 8 n (lsF cCoo (insD ltC noCoo (lsOf cCoo n f) a.toNat b.toNat))])
  | _, _ => none
def ckSym (N : Int) : Cf := ⟨fun | .vec i _ :: _ => [i] | _ => [], ckSymK N⟩
@[push_cast] theorem sym_ids (N : Int) (i n : Nat) (l : List V) : (ckSym N).ids (.vec i n :: l) = [i] := rfl
@[push_cast] theorem sym_k {N : Int} {i n k : Nat} {a m b : Int} {f : Nat → V} : (ckSym N).k [.vec i n, .int .i64 a, .int .i64 m, .int .i64 b, .fn (.func 26) [] []] [.vec 8 k f] = some (k = n ∧ isLs cCoo n f ∧ n ≤ 1000000 ∧ 0 ≤ a ∧ a < m ∧ m < b ∧ b ≤ n ∧ b - a < N ∧ SrtK ltC (sgL (lsOf cCoo n f) a.toNat m.toNat) ∧ SrtK ltC (sgL (lsOf cCoo n f) m.toNat b.toNat), .tup [], [.vec 8 n (lsF cCoo (insD ltC noCoo (lsOf cCoo n f) a.toNat b.toNat))]) := rfl
theorem half_eq (p q : Nat) (h : p + q ≤ 1000000000) : (((p : Int) + q) % 18446744073709551616).fdiv (2 ^ min 1 IntKind.u64.bits) = (((p + q) / 2 : Nat) : Int) := by
  rw [show (2 : Int) ^ min 1 IntKind.u64.bits = 2 from rfl, Int.fdiv_eq_ediv_of_nonneg _ (by decide)]
  omega
theorem conSym0 : FCon pg 134 (ckSym 0) := by
  intro args bs q r bs' h hq
  replace h : ckSymK 0 args bs = some (q, r, bs') := h
  unfold ckSymK at h
  split at h
  · cases h
    exact absurd hq.2.2.2.2.2.2.2.1 (by omega)
  · cases h
theorem conSymS (N : Int) (hN : FCon pg 134 (ckSym N)) : FCon pg 134 (ckSym (N + 1)) := by
  have hct := ctF_ok hN (ctF_ok conRot (ctA_ok conCmpC (ctN_ok pg)))
  intro args bs q r bs' h hq
  replace h : ckSymK (N + 1) args bs = some (q, r, bs') := h
  unfold ckSymK at h
  split at h
  · cases h
    rename_i i n a m b k f
    refine ⟨rfl, by first | exact Nat.le_refl _ | exact Nat.zero_le _, ?_⟩
    obtain ⟨rfl, hf, hn, ha, ham, hmb, hbn, hbN, hX, hY⟩ := hq
    obtain ⟨a, rfl⟩ : ∃ z : Nat, a = z := ⟨a.toNat, by omega⟩
    obtain ⟨m, rfl⟩ : ∃ z : Nat, m = z := ⟨m.toNat, by omega⟩
    obtain ⟨b, rfl⟩ : ∃ z : Nat, b = z := ⟨b.toNat, by omega⟩
    simp only [Int.toNat_natCast] at hX hY ⊢
    have hk : k = (lsOf cCoo k f).length := (lsOf_len k f).symm
    refine fcall_blk (hm := [(i + 9000, .vec 8 (lsOf cCoo k f).length (lsF cCoo (lsOf cCoo k f)))]) ⟨rfl, ⟨rfl, hk, fun j hj => by show V.shift (f j) = _; rw [hf.2 j hj]; rfl⟩, trivial⟩ ?_
    have hlen : (lsOf cCoo k f).length = k := lsOf_len k f
    generalize lsOf cCoo k f = D at hlen hX hY ⊢
    subst hlen
    have e1 : ∀ E : List Coo, E.length = D.length → lsOf cCoo D.length (lsF cCoo E) = E := fun E hE => by rw [← hE]; exact lsOf_ls E
    have e2 : ∀ E : List Coo, E.length = D.length → isLs cCoo D.length (lsF cCoo E) := fun E hE => by rw [← hE]; exact isLs_ls E
    show FCall pg 134 [.vec (i + 9000) D.length, .int .i64 a, .int .i64 m, .int .i64 b, .fn (.func 26) [] []] [(i + 9000, .vec 8 D.length (lsF cCoo D))] (.tup []) [(i + 9000, .vec 8 D.length (lsF cCoo (insD ltC noCoo D a b)))]
    refine fw134 (fun _ => false) [] rfl hct rfl (by simp) ?_ rfl ?_
    · simp [hlIn, Blk.menIn, men_coo, idsIn]
    push_cast (config := { maxSteps := 10000000 })
    (repeat (refine ⟨by omega, ?_⟩))
    refine ⟨fun h1 => ?_, fun h1 => ?_⟩
    · have hm : m = a + 1 := by omega
      refine LoopW.adj ⟨hct, fol⟩ (by kernel_rfl) [] (fun t : Nat × Nat => [(0, .vec (i + 9000) D.length), (1, .int .i64 a), (4, .fn (.func 26) [] []), (10, .int .i64 t.1), (11, .int .i64 t.2)]) (fun _ => [(i + 9000, .vec 8 D.length (lsF cCoo D))]) (fun t => m ≤ t.1 ∧ t.1 ≤ t.2 ∧ t.2 ≤ b ∧ (t.1 = m ∨ ltC (D.getD (t.1 - 1) noCoo) (D.getD a noCoo) = true) ∧ (t.2 = b ∨ ltC (D.getD t.2 noCoo) (D.getD a noCoo) = false)) (fun t => t.2 - t.1) (m, b) ?_ fun t ht => ?_
      · push_cast (config := { maxSteps := 10000000 })
        exact ⟨Nat.le_refl _, by omega, Nat.le_refl _⟩
      · obtain ⟨p, q⟩ := t
        obtain ⟨i1, i2, i3, i4, i5⟩ : m ≤ p ∧ p ≤ q ∧ q ≤ b ∧ (p = m ∨ ltC (D.getD (p - 1) noCoo) (D.getD a noCoo) = true) ∧ (q = b ∨ ltC (D.getD q noCoo) (D.getD a noCoo) = false) := ht
        push_cast (config := { maxSteps := 10000000 })
        refine ⟨fun hlt => ?_, fun hge => ?_⟩
        · have hh := half_eq p q (by omega)
          generalize hv : (p + q) / 2 = v at hh
          rw [hh]
          simp only [Int.toNat_natCast]
          exact ⟨by omega, by omega, by omega, by omega, by omega, by omega, fun g => ⟨by omega, (v + 1, q), ⟨by show m ≤ v + 1; omega, by show v + 1 ≤ q; omega, i3, .inr (by show ltC (D.getD (v + 1 - 1) noCoo) _ = true; simpa using g), i5⟩, by show q - (v + 1) < q - p; omega, by show (v : Int) + 1 = ((v + 1 : Nat) : Int); omega, rfl⟩, fun g => ⟨(p, v), ⟨i1, by show p ≤ v; omega, by show v ≤ b; omega, i4, .inr (by simpa using g)⟩, by show v - p < q - p; omega, rfl, rfl⟩⟩
        · have hpq : p = q := by omega
          subst hpq
          have hF := ins_first keyC noCoo (by omega) hm i1 i3 hY i4 i5
          refine LoopW.adj ⟨hct, fol⟩ (by kernel_rfl) [] (fun t : Nat × List Coo => [(0, .vec (i + 9000) D.length), (10, .int .i64 p), (13, .int .i64 t.1)]) (fun t => [(i + 9000, .vec 8 D.length (lsF cCoo t.2))]) (fun t => a ≤ t.1 ∧ t.1 ≤ p - 1 ∧ t.2.length = D.length ∧ t.2 = D.take a ++ (stK (sgL D m b) (D.getD a noCoo) (t.1 - a) ++ D.drop b)) (fun t => p - 1 - t.1) (a, D) ?_ fun t ht => ?_
          · push_cast (config := { maxSteps := 10000000 })
            exact ⟨Nat.le_refl _, by omega, by rw [Nat.sub_self]; exact ins_first0 D noCoo (by omega) hm (by omega)⟩
          · obtain ⟨u, E⟩ := t
            obtain ⟨j1, j2, j3, j4⟩ : a ≤ u ∧ u ≤ p - 1 ∧ E.length = D.length ∧ E = D.take a ++ (stK (sgL D m b) (D.getD a noCoo) (u - a) ++ D.drop b) := ht
            push_cast (config := { maxSteps := 10000000 })
            refine ⟨by omega, fun g => ?_, fun g => ?_⟩
            · (repeat (refine ⟨by omega, ?_⟩))
              refine ⟨(u + 1, swp noCoo E u (u + 1)), ⟨by show a ≤ u + 1; omega, by show u + 1 ≤ p - 1; omega, by show (swp noCoo E u (u + 1)).length = _; rw [swp_len]; exact j3, ?_⟩, by show p - 1 - (u + 1) < p - 1 - u; omega, by show (u : Int) + 1 = ((u + 1 : Nat) : Int); omega, fun i hi => swF_at (by omega)⟩
              show swp noCoo E u (u + 1) = _
              have hol := sgL_len D (a := m) (b := b) (by omega)
              rw [j4, swp_st' noCoo (D.take a) (sgL D m b) (D.drop b) (D.getD a noCoo) (k := u - a) (by omega) (by rw [List.length_take]; omega), show u - a + 1 = u + 1 - a by omega]
            · have hE : E = insD ltC noCoo D a b := by
                rw [j4]; unfold insD puL; rw [hF, show u - a = p - m by omega]
              rw [hE]
              exact fun i hi => rfl
    · refine ⟨by omega, fun h2 => ?_, fun h2 => ?_⟩
      · have hm : b = m + 1 := by omega
        refine LoopW.adj ⟨hct, fol⟩ (by kernel_rfl) [] (fun t : Nat × Nat => [(0, .vec (i + 9000) D.length), (2, .int .i64 m), (4, .fn (.func 26) [] []), (14, .int .i64 t.1), (15, .int .i64 t.2)]) (fun _ => [(i + 9000, .vec 8 D.length (lsF cCoo D))]) (fun t => a ≤ t.1 ∧ t.1 ≤ t.2 ∧ t.2 ≤ m ∧ (t.1 = a ∨ ltC (D.getD m noCoo) (D.getD (t.1 - 1) noCoo) = false) ∧ (t.2 = m ∨ ltC (D.getD m noCoo) (D.getD t.2 noCoo) = true)) (fun t => t.2 - t.1) (a, m) ?_ fun t ht => ?_
        · push_cast (config := { maxSteps := 10000000 })
          exact ⟨Nat.le_refl _, by omega, Nat.le_refl _⟩
        · obtain ⟨p, q⟩ := t
          obtain ⟨i1, i2, i3, i4, i5⟩ : a ≤ p ∧ p ≤ q ∧ q ≤ m ∧ (p = a ∨ ltC (D.getD m noCoo) (D.getD (p - 1) noCoo) = false) ∧ (q = m ∨ ltC (D.getD m noCoo) (D.getD q noCoo) = true) := ht
          push_cast (config := { maxSteps := 10000000 })
          refine ⟨fun hlt => ?_, fun hge => ?_⟩
          · have hh := half_eq p q (by omega)
            generalize hv : (p + q) / 2 = v at hh
            rw [hh]
            simp only [Int.toNat_natCast]
            exact ⟨by omega, by omega, by omega, by omega, by omega, by omega, fun g => ⟨by omega, (v + 1, q), ⟨by show a ≤ v + 1; omega, by show v + 1 ≤ q; omega, i3, .inr (by show ltC _ (D.getD (v + 1 - 1) noCoo) = false; simpa using g), i5⟩, by show q - (v + 1) < q - p; omega, by show (v : Int) + 1 = ((v + 1 : Nat) : Int); omega, rfl⟩, fun g => ⟨(p, v), ⟨i1, by show p ≤ v; omega, by show v ≤ m; omega, i4, .inr (by simpa using g)⟩, by show v - p < q - p; omega, rfl, rfl⟩⟩
          · have hpq : p = q := by omega
            subst hpq
            have hF := ins_last keyC noCoo (by omega) hm i1 i3 hX i4 i5
            refine LoopW.adj ⟨hct, fol⟩ (by kernel_rfl) [] (fun t : Nat × List Coo => [(0, .vec (i + 9000) D.length), (14, .int .i64 p), (17, .int .i64 t.1)]) (fun t => [(i + 9000, .vec 8 D.length (lsF cCoo t.2))]) (fun t => p ≤ t.1 ∧ t.1 ≤ m ∧ t.2.length = D.length ∧ t.2 = D.take a ++ (stK (sgL D a m) (D.getD m noCoo) (t.1 - a) ++ D.drop b)) (fun t => t.1 - p) (m, D) ?_ fun t ht => ?_
            · push_cast (config := { maxSteps := 10000000 })
              exact ⟨by omega, Nat.le_refl _, ins_last0 D noCoo (by omega) hm (by omega)⟩
            · obtain ⟨u, E⟩ := t
              obtain ⟨j1, j2, j3, j4⟩ : p ≤ u ∧ u ≤ m ∧ E.length = D.length ∧ E = D.take a ++ (stK (sgL D a m) (D.getD m noCoo) (u - a) ++ D.drop b) := ht
              push_cast (config := { maxSteps := 10000000 })
              have eu : 0 < u → ((u : Int) - 1).toNat = u - 1 := fun _ => by omega
              refine ⟨fun g => ?_, fun g => ?_⟩
              · rw [eu (by omega)]
                (repeat (refine ⟨by omega, ?_⟩))
                refine ⟨(u - 1, swp noCoo E u (u - 1)), ⟨by show p ≤ u - 1; omega, by show u - 1 ≤ m; omega, by show (swp noCoo E u (u - 1)).length = _; rw [swp_len]; exact j3, ?_⟩, by show u - 1 - p < u - p; omega, by show (u : Int) - 1 = ((u - 1 : Nat) : Int); omega, fun i hi => swF_at (by omega)⟩
                show swp noCoo E u (u - 1) = _
                have hol := sgL_len D (a := a) (b := m) (by omega)
                have hs := swp_st noCoo (D.take a) (sgL D a m) (D.drop b) (D.getD m noCoo) (k := u - 1 - a) (j := u - 1) (by omega) (by rw [List.length_take]; omega)
                rw [show u - 1 - a + 1 = u - a by omega, show u - 1 + 1 = u by omega] at hs
                rw [j4, hs]
              · have hE : E = insD ltC noCoo D a b := by
                  rw [j4]; unfold insD puL; rw [hF, show u - a = p - a by omega]
                rw [hE]
                exact fun i hi => rfl
      · have hh := half_eq a b (by omega)
        generalize hv : (a + b) / 2 = mid at hh
        rw [hh]
        (repeat (refine ⟨by omega, ?_⟩))
        refine ⟨fun h3 => ?_, fun h3 => ?_⟩
        · (repeat (refine ⟨by omega, ?_⟩))
          refine LoopW.adj ⟨hct, fol⟩ (by kernel_rfl) [] (fun t : Nat × Nat => [(0, .vec (i + 9000) D.length), (1, .int .i64 a), (2, .int .i64 m), (3, .int .i64 b), (4, .fn (.func 26) [] []), (18, .int .i64 mid), (19, .int .i64 ((mid : Int) + m)), (20, .int .i64 t.1), (21, .int .i64 t.2), (22, .int .i64 ((mid : Int) + m - 1))]) (fun _ => [(i + 9000, .vec 8 D.length (lsF cCoo D))]) (fun t => (mid + m - b) ≤ t.1 ∧ t.1 ≤ t.2 ∧ t.2 ≤ mid ∧ (t.1 = (mid + m - b) ∨ ltC (D.getD (mid + m - t.1) noCoo) (D.getD (t.1 - 1) noCoo) = false) ∧ (t.2 = mid ∨ ltC (D.getD (mid + m - 1 - t.2) noCoo) (D.getD t.2 noCoo) = true)) (fun t => t.2 - t.1) ((mid + m - b), mid) ?_ fun t ht => ?_
          · push_cast (config := { maxSteps := 10000000 })
            first | exact ⟨⟨Nat.le_refl _, by omega, Nat.le_refl _⟩, by omega⟩ | exact ⟨Nat.le_refl _, by omega, Nat.le_refl _⟩
          · obtain ⟨p, q⟩ := t
            obtain ⟨i1, i2, i3, i4, i5⟩ : (mid + m - b) ≤ p ∧ p ≤ q ∧ q ≤ mid ∧ (p = (mid + m - b) ∨ ltC (D.getD (mid + m - p) noCoo) (D.getD (p - 1) noCoo) = false) ∧ (q = mid ∨ ltC (D.getD (mid + m - 1 - q) noCoo) (D.getD q noCoo) = true) := ht
            push_cast (config := { maxSteps := 10000000 })
            refine ⟨fun hlt => ?_, fun hge => ?_⟩
            · have hh := half_eq p q (by omega)
              generalize hv : (p + q) / 2 = v at hh
              rw [hh]
              have ev : ((mid : Int) + m - 1 - v).toNat = mid + m - 1 - v := by omega
              rw [ev]
              simp only [Int.toNat_natCast]
              exact ⟨by omega, by omega, by omega, by omega, by omega, by omega, by omega, fun g => ⟨by omega, (v + 1, q), ⟨by show (mid + m - b) ≤ v + 1; omega, by show v + 1 ≤ q; omega, i3, .inr (by show ltC (D.getD (mid + m - (v + 1)) noCoo) (D.getD (v + 1 - 1) noCoo) = false; rw [show mid + m - (v + 1) = mid + m - 1 - v by omega]; simpa using g), i5⟩, by show q - (v + 1) < q - p; omega, by show (v : Int) + 1 = ((v + 1 : Nat) : Int); omega, rfl⟩, fun g => ⟨(p, v), ⟨i1, by show p ≤ v; omega, by show v ≤ mid; omega, i4, .inr (by simpa using g)⟩, by show v - p < q - p; omega, rfl, rfl⟩⟩
            · have hpq : p = q := by omega
              subst hpq
              obtain ⟨e, he⟩ : ∃ e : Nat, e = mid + m - p := ⟨_, rfl⟩
              have he2 : (mid : Int) + m - p = (e : Int) := by omega
              have hmid : a ≤ mid ∧ mid < b := by omega
              rw [he2]
              simp only [Int.toNat_natCast]
              have c1 : p ≤ a ∨ b ≤ e ∨ ltC (D.getD e noCoo) (D.getD (p - 1) noCoo) = false := by
                rcases i4 with z | z
                · omega
                · rw [he]; exact .inr (.inr z)
              have c2 : m ≤ p ∨ e ≤ m ∨ ltC (D.getD (e - 1) noCoo) (D.getD p noCoo) = true := by
                rcases i5 with z | z
                · omega
                · rw [show e - 1 = mid + m - 1 - p by omega]; exact .inr (.inr z)
              have mrg := mrg_all keyC noCoo (D := D) (a := a) (s := p) (m := m) (e := e) (b := b) (mid := mid) (by omega) (by omega) (by omega) (by omega) (by omega) (by omega) hX hY c1 c2
              refine ⟨by omega, fun A => ⟨by omega, ?_⟩, fun A => ?_⟩
              · have hA : mrg1 D p m e = rotL D p m e := if_pos ⟨by omega, by omega⟩
                rw [hA] at mrg
                generalize rotL D p m e = R at *
                refine ⟨fun B => ?_, fun B => ?_⟩
                · have hB : mrg2 ltC noCoo R a p mid = insD ltC noCoo R a mid := if_pos ⟨by omega, by omega⟩
                  rw [hB] at mrg
                  obtain ⟨r1, r2, r3, r4, r5, r6, r7⟩ := mrg
                  try rw [e1 R r1]
                  generalize insD ltC noCoo R a mid = R2 at *
                  refine ⟨⟨by first | exact e2 R r1 | omega, ?_⟩, fun C => ?_, fun C => ?_⟩
                  · exact ⟨by omega, by omega, by omega, by omega, by omega, r2, r3⟩
                  · have hC : mrg2 ltC noCoo R2 mid e b = insD ltC noCoo R2 mid b := if_pos ⟨by omega, by omega⟩
                    rw [hC] at r7
                    rw [e1 R2 r4]
                    refine ⟨⟨e2 R2 r4, by omega, by omega, by omega, by omega, by omega, r5, r6⟩, ?_⟩
                    rw [r7]; exact fun i hi => rfl
                  · have hC : mrg2 ltC noCoo R2 mid e b = R2 := if_neg (by omega)
                    rw [hC] at r7
                    rw [r7]; exact fun i hi => rfl
                · have hB : mrg2 ltC noCoo R a p mid = R := if_neg (by omega)
                  rw [hB] at mrg
                  obtain ⟨r1, r2, r3, r4, r5, r6, r7⟩ := mrg
                  refine ⟨fun C => ?_, fun C => ?_⟩
                  · have hC : mrg2 ltC noCoo R mid e b = insD ltC noCoo R mid b := if_pos ⟨by omega, by omega⟩
                    rw [hC] at r7
                    try rw [e1 R r1]
                    refine ⟨⟨e2 R r1, by omega, by omega, by omega, by omega, by omega, r5, r6⟩, ?_⟩
                    rw [r7]; exact fun i hi => rfl
                  · have hC : mrg2 ltC noCoo R mid e b = R := if_neg (by omega)
                    rw [hC] at r7
                    rw [r7]; exact fun i hi => rfl
              · have hA : mrg1 D p m e = D := if_neg (by omega)
                rw [hA] at mrg
                refine ⟨fun B => ?_, fun B => ?_⟩
                · have hB : mrg2 ltC noCoo D a p mid = insD ltC noCoo D a mid := if_pos ⟨by omega, by omega⟩
                  rw [hB] at mrg
                  obtain ⟨r1, r2, r3, r4, r5, r6, r7⟩ := mrg
                  try rw [e1 D r1]
                  generalize insD ltC noCoo D a mid = R2 at *
                  refine ⟨⟨by first | exact e2 D r1 | omega, ?_⟩, fun C => ?_, fun C => ?_⟩
                  · exact ⟨by omega, by omega, by omega, by omega, r2, r3⟩
                  · have hC : mrg2 ltC noCoo R2 mid e b = insD ltC noCoo R2 mid b := if_pos ⟨by omega, by omega⟩
                    rw [hC] at r7
                    rw [e1 R2 r4]
                    refine ⟨⟨e2 R2 r4, by omega, by omega, by omega, by omega, by omega, r5, r6⟩, ?_⟩
                    rw [r7]; exact fun i hi => rfl
                  · have hC : mrg2 ltC noCoo R2 mid e b = R2 := if_neg (by omega)
                    rw [hC] at r7
                    rw [r7]; exact fun i hi => rfl
                · have hB : mrg2 ltC noCoo D a p mid = D := if_neg (by omega)
                  rw [hB] at mrg
                  obtain ⟨r1, r2, r3, r4, r5, r6, r7⟩ := mrg
                  refine ⟨fun C => ?_, fun C => ?_⟩
                  · have hC : mrg2 ltC noCoo D mid e b = insD ltC noCoo D mid b := if_pos ⟨by omega, by omega⟩
                    rw [hC] at r7
                    try rw [e1 D r1]
                    refine ⟨⟨by omega, by omega, by omega, by omega, by omega, r5, r6⟩, ?_⟩
                    rw [r7]; exact fun i hi => rfl
                  · have hC : mrg2 ltC noCoo D mid e b = D := if_neg (by omega)
                    rw [hC] at r7
                    have r8 : insD ltC noCoo D a b = D := r7.symm
                    rw [r8]; exact fun i hi => rfl
        · (repeat (refine ⟨by omega, ?_⟩))
          refine LoopW.adj ⟨hct, fol⟩ (by kernel_rfl) [] (fun t : Nat × Nat => [(0, .vec (i + 9000) D.length), (1, .int .i64 a), (2, .int .i64 m), (3, .int .i64 b), (4, .fn (.func 26) [] []), (18, .int .i64 mid), (19, .int .i64 ((mid : Int) + m)), (20, .int .i64 t.1), (21, .int .i64 t.2), (22, .int .i64 ((mid : Int) + m - 1))]) (fun _ => [(i + 9000, .vec 8 D.length (lsF cCoo D))]) (fun t => a ≤ t.1 ∧ t.1 ≤ t.2 ∧ t.2 ≤ m ∧ (t.1 = a ∨ ltC (D.getD (mid + m - t.1) noCoo) (D.getD (t.1 - 1) noCoo) = false) ∧ (t.2 = m ∨ ltC (D.getD (mid + m - 1 - t.2) noCoo) (D.getD t.2 noCoo) = true)) (fun t => t.2 - t.1) (a, m) ?_ fun t ht => ?_
          · push_cast (config := { maxSteps := 10000000 })
            first | exact ⟨⟨Nat.le_refl _, by omega, Nat.le_refl _⟩, by omega⟩ | exact ⟨Nat.le_refl _, by omega, Nat.le_refl _⟩
          · obtain ⟨p, q⟩ := t
            obtain ⟨i1, i2, i3, i4, i5⟩ : a ≤ p ∧ p ≤ q ∧ q ≤ m ∧ (p = a ∨ ltC (D.getD (mid + m - p) noCoo) (D.getD (p - 1) noCoo) = false) ∧ (q = m ∨ ltC (D.getD (mid + m - 1 - q) noCoo) (D.getD q noCoo) = true) := ht
            push_cast (config := { maxSteps := 10000000 })
            refine ⟨fun hlt => ?_, fun hge => ?_⟩
            · have hh := half_eq p q (by omega)
              generalize hv : (p + q) / 2 = v at hh
              rw [hh]
              have ev : ((mid : Int) + m - 1 - v).toNat = mid + m - 1 - v := by omega
              rw [ev]
              simp only [Int.toNat_natCast]
              exact ⟨by omega, by omega, by omega, by omega, by omega, by omega, by omega, fun g => ⟨by omega, (v + 1, q), ⟨by show a ≤ v + 1; omega, by show v + 1 ≤ q; omega, i3, .inr (by show ltC (D.getD (mid + m - (v + 1)) noCoo) (D.getD (v + 1 - 1) noCoo) = false; rw [show mid + m - (v + 1) = mid + m - 1 - v by omega]; simpa using g), i5⟩, by show q - (v + 1) < q - p; omega, by show (v : Int) + 1 = ((v + 1 : Nat) : Int); omega, rfl⟩, fun g => ⟨(p, v), ⟨i1, by show p ≤ v; omega, by show v ≤ m; omega, i4, .inr (by simpa using g)⟩, by show v - p < q - p; omega, rfl, rfl⟩⟩
            · have hpq : p = q := by omega
              subst hpq
              obtain ⟨e, he⟩ : ∃ e : Nat, e = mid + m - p := ⟨_, rfl⟩
              have he2 : (mid : Int) + m - p = (e : Int) := by omega
              have hmid : a ≤ mid ∧ mid < b := by omega
              rw [he2]
              simp only [Int.toNat_natCast]
              have c1 : p ≤ a ∨ b ≤ e ∨ ltC (D.getD e noCoo) (D.getD (p - 1) noCoo) = false := by
                rcases i4 with z | z
                · omega
                · rw [he]; exact .inr (.inr z)
              have c2 : m ≤ p ∨ e ≤ m ∨ ltC (D.getD (e - 1) noCoo) (D.getD p noCoo) = true := by
                rcases i5 with z | z
                · omega
                · rw [show e - 1 = mid + m - 1 - p by omega]; exact .inr (.inr z)
              have mrg := mrg_all keyC noCoo (D := D) (a := a) (s := p) (m := m) (e := e) (b := b) (mid := mid) (by omega) (by omega) (by omega) (by omega) (by omega) (by omega) hX hY c1 c2
              refine ⟨by omega, fun A => ⟨by omega, ?_⟩, fun A => ?_⟩
              · have hA : mrg1 D p m e = rotL D p m e := if_pos ⟨by omega, by omega⟩
                rw [hA] at mrg
                generalize rotL D p m e = R at *
                refine ⟨fun B => ?_, fun B => ?_⟩
                · have hB : mrg2 ltC noCoo R a p mid = insD ltC noCoo R a mid := if_pos ⟨by omega, by omega⟩
                  rw [hB] at mrg
                  obtain ⟨r1, r2, r3, r4, r5, r6, r7⟩ := mrg
                  try rw [e1 R r1]
                  generalize insD ltC noCoo R a mid = R2 at *
                  refine ⟨⟨by first | exact e2 R r1 | omega, ?_⟩, fun C => ?_, fun C => ?_⟩
                  · exact ⟨by omega, by omega, by omega, by omega, by omega, r2, r3⟩
                  · have hC : mrg2 ltC noCoo R2 mid e b = insD ltC noCoo R2 mid b := if_pos ⟨by omega, by omega⟩
                    rw [hC] at r7
                    rw [e1 R2 r4]
                    refine ⟨⟨e2 R2 r4, by omega, by omega, by omega, by omega, by omega, r5, r6⟩, ?_⟩
                    rw [r7]; exact fun i hi => rfl
                  · have hC : mrg2 ltC noCoo R2 mid e b = R2 := if_neg (by omega)
                    rw [hC] at r7
                    rw [r7]; exact fun i hi => rfl
                · have hB : mrg2 ltC noCoo R a p mid = R := if_neg (by omega)
                  rw [hB] at mrg
                  obtain ⟨r1, r2, r3, r4, r5, r6, r7⟩ := mrg
                  refine ⟨fun C => ?_, fun C => ?_⟩
                  · have hC : mrg2 ltC noCoo R mid e b = insD ltC noCoo R mid b := if_pos ⟨by omega, by omega⟩
                    rw [hC] at r7
                    try rw [e1 R r1]
                    refine ⟨⟨e2 R r1, by omega, by omega, by omega, by omega, by omega, r5, r6⟩, ?_⟩
                    rw [r7]; exact fun i hi => rfl
                  · have hC : mrg2 ltC noCoo R mid e b = R := if_neg (by omega)
                    rw [hC] at r7
                    rw [r7]; exact fun i hi => rfl
              · have hA : mrg1 D p m e = D := if_neg (by omega)
                rw [hA] at mrg
                refine ⟨fun B => ?_, fun B => ?_⟩
                · have hB : mrg2 ltC noCoo D a p mid = insD ltC noCoo D a mid := if_pos ⟨by omega, by omega⟩
                  rw [hB] at mrg
                  obtain ⟨r1, r2, r3, r4, r5, r6, r7⟩ := mrg
                  try rw [e1 D r1]
                  generalize insD ltC noCoo D a mid = R2 at *
                  refine ⟨⟨by first | exact e2 D r1 | omega, ?_⟩, fun C => ?_, fun C => ?_⟩
                  · exact ⟨by omega, by omega, by omega, by omega, r2, r3⟩
                  · have hC : mrg2 ltC noCoo R2 mid e b = insD ltC noCoo R2 mid b := if_pos ⟨by omega, by omega⟩
                    rw [hC] at r7
                    rw [e1 R2 r4]
                    refine ⟨⟨e2 R2 r4, by omega, by omega, by omega, by omega, by omega, r5, r6⟩, ?_⟩
                    rw [r7]; exact fun i hi => rfl
                  · have hC : mrg2 ltC noCoo R2 mid e b = R2 := if_neg (by omega)
                    rw [hC] at r7
                    rw [r7]; exact fun i hi => rfl
                · have hB : mrg2 ltC noCoo D a p mid = D := if_neg (by omega)
                  rw [hB] at mrg
                  obtain ⟨r1, r2, r3, r4, r5, r6, r7⟩ := mrg
                  refine ⟨fun C => ?_, fun C => ?_⟩
                  · have hC : mrg2 ltC noCoo D mid e b = insD ltC noCoo D mid b := if_pos ⟨by omega, by omega⟩
                    rw [hC] at r7
                    try rw [e1 D r1]
                    refine ⟨⟨by omega, by omega, by omega, by omega, by omega, r5, r6⟩, ?_⟩
                    rw [r7]; exact fun i hi => rfl
                  · have hC : mrg2 ltC noCoo D mid e b = D := if_neg (by omega)
                    rw [hC] at r7
                    have r8 : insD ltC noCoo D a b = D := r7.symm
                    rw [r8]; exact fun i hi => rfl
  · cases h

theorem conSym (N : Nat) : FCon pg 134 (ckSym N) := by
  induction N with
  | zero => exact conSym0
  | succ n ih => exact conSymS n ih

/-- the blocks of a row are sorted, each -/
def BlkS (D : List Coo) (s lo hi : Nat) : Prop := ∀ x, s ∣ x → lo ≤ x → x < hi → SrtK ltC (sgL D x (min (x + s) D.length))
theorem dv_lt {s x a : Nat} (h1 : s ∣ x) (h2 : s ∣ a) (h : x < a) : x + s ≤ a := by
  have := Nat.le_of_dvd (by omega) (Nat.dvd_sub h2 h1)
  omega
theorem sg_nil (D : List Coo) {a b : Nat} (h : D.length ≤ a) : sgL D a b = [] := by
  unfold sgL; rw [List.drop_eq_nil_of_le h, List.take_nil]
theorem insD_fi {D : List Coo} {a b : Nat} (h1 : a ≤ b) (h2 : b ≤ D.length) : FiK ltC D (insD ltC noCoo D a b) := puL_fi keyC noCoo D h1 h2
theorem insD_len {D : List Coo} {a b : Nat} (h1 : a ≤ b) (h2 : b ≤ D.length) : (insD ltC noCoo D a b).length = D.length :=
  puL_len D _ h1 h2 (by rw [srtL_len, sgL_len D h2])
theorem insD_sg {D : List Coo} {a b : Nat} (h1 : a ≤ b) (h2 : b ≤ D.length) : SrtK ltC (sgL (insD ltC noCoo D a b) a b) := by
  unfold insD
  rw [sgL_pu D _ (by omega) h1 (by rw [srtL_len, sgL_len D h2])]
  exact (srtL_st keyC noCoo _).1
theorem insD_lo {D : List Coo} {a b i j : Nat} (h1 : a ≤ b) (h2 : b ≤ D.length) (h : j ≤ a) : sgL (insD ltC noCoo D a b) i j = sgL D i j := sgL_pu_lo D _ h (by omega)
theorem insD_hi {D : List Coo} {a b i j : Nat} (h1 : a ≤ b) (h2 : b ≤ D.length) (h : b ≤ i) : sgL (insD ltC noCoo D a b) i j = sgL D i j := sgL_pu_hi D _ h h1 h2 (by rw [srtL_len, sgL_len D h2])
theorem sgL_all (D : List Coo) {n : Nat} (h : D.length ≤ n) : sgL D 0 n = D := by
  unfold sgL; rw [List.drop_zero, Nat.sub_zero, List.take_of_length_le h]
theorem sgL_end (D : List Coo) (a : Nat) {n : Nat} (h : D.length ≤ n) : sgL D a n = sgL D a D.length := by
  unfold sgL
  rw [List.take_of_length_le (by rw [List.length_drop]; omega), List.take_of_length_le (by rw [List.length_drop]; omega)]
theorem BlkS.step {D : List Coo} {s a b : Nat} (h : BlkS D s 0 a) (ha : s ∣ a) (hab : a ≤ b) (hb : b ≤ D.length) (h2 : b = min (a + s) D.length) : BlkS (insD ltC noCoo D a b) s 0 (a + s) := by
  intro x hx h0 hx2
  rw [insD_len hab hb]
  by_cases e : x = a
  · subst e
    rw [← h2]
    exact insD_sg hab hb
  · have hxa : x < a := by
      refine Classical.byContradiction fun hn => ?_
      have := dv_lt ha hx (by omega)
      omega
    have := dv_lt hx ha hxa
    rw [insD_lo hab hb (by omega)]
    exact h x hx h0 hxa
theorem BlkS.all {D : List Coo} {s a : Nat} (h : BlkS D s 0 a) (ha : D.length ≤ a) (b : Nat) : BlkS D s 0 b := by
  intro x hx h0 _
  by_cases e : x < a
  · exact h x hx h0 e
  · rw [sg_nil D (by omega)]; exact SrtK.nil _
theorem BlkS.hi {D : List Coo} {s a b : Nat} (h : BlkS D s a D.length) (hab : a ≤ b) (hb : b ≤ D.length) : BlkS (insD ltC noCoo D a b) s b D.length := by
  intro x hx h0 hx2
  rw [insD_len hab hb, insD_hi hab hb h0]
  exact h x hx (by omega) hx2

end Go.Abs
