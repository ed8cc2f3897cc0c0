/- what functions of this program compute: contracts, each a function's own -/
import Derived.Test.YtejiajdjgnnpdaaGreatDoorAbsK3
import Derived.Test.YtejiajdjgnnpdaaGreatDoorAbsFacts
import Derived.Test.YtejiajdjgnnpdaaGreatDoorAbsF3
import Derived.Test.YtejiajdjgnnpdaaGreatDoorAbsShelf
import Derived.Lib.SplitLaws
import Derived.Lib.SlTrimSet
import Derived.Lib.Atoi
import Derived.Lib.Itoa
import Derived.Lib.ItoaNum
import Derived.Lib.AtoiErrMem
import Derived.Lib.Join
import Derived.Lib.Repeat
import Derived.Lib.IndexMore
import Derived.Lib.AsciiSet
import Derived.Lib.IndexAny
import Derived.Sort.Walk0
import Derived.Lib.ItoaLen
import Derived.Shelf.Spec.SlicesInsert
import Derived.Shelf.Spec.SlicesInsertGrow
import Derived.Lib.Overlaps
import Derived.Lib.AppendZerosOnto
import Derived.Laws.NewBlocks
import Derived.WalkKit
import Derived.Lib.Walk
namespace Go.Abs
open Go Go.Proofs
set_option maxHeartbeats 4000000
set_option maxRecDepth 100000
set_option linter.unusedVariables false
set_option linter.unusedSimpArgs false
/- the order of entries: later days first -/
def ltE (a b : Ent) : Bool := decide (b.day < a.day)
def cmpE (a b : Ent) : Int := if ltE a b = true then -1 else if ltE b a = true then 1 else 0
theorem ltE_iff {a b : Ent} : ltE a b = true ↔ b.day < a.day := by simp only [ltE, decide_eq_true_eq]
theorem ltE_no {a b : Ent} : ltE a b = false ↔ ¬ b.day < a.day := by rw [← ltE_iff, Bool.not_eq_true]
theorem keyE : KeyO ltE := by
  refine ⟨fun a => ltE_no.2 (by omega), fun a b c h1 h2 => ?_, fun a b c h1 h2 => ?_⟩
  · rw [ltE_iff] at *; omega
  · rw [ltE_no] at *; omega
@[push_cast] theorem cmpE_neg {a b : Ent} : cmpE a b < 0 ↔ ltE a b = true := by
  unfold cmpE
  split
  · exact ⟨fun _ => by assumption, fun _ => by omega⟩
  · rename_i h
    constructor
    · intro h2; split at h2 <;> omega
    · intro h2; exact absurd h2 h
def srtE (l : List Ent) : List Ent := srtL ltE noEnt l

def ckNaN : Ck
  | [.int .i64 _] => some (True, .bool false)
  | _ => none
theorem conNaN : Con pg 42 ckNaN := by
  have hct := ctN_ok pg
  intro args q r h hq
  unfold ckNaN at h
  split at h
  · cases h
    rename_i x
    refine w42 (fun _ => false) [] rfl hct rfl rfl ?_
    push_cast (config := { maxSteps := 10000000 })
    done
  · cases h
attribute [push_cast] ckNaN
def cmpI (x y : Int) : Int := if x < y then -1 else if y < x then 1 else 0
def ckCmpI : Ck
  | [.int .i64 x, .int .i64 y] => some (True, .int .i64 (cmpI x y))
  | _ => none
theorem conCmpI : Con pg 17 ckCmpI := by
  have hct := (ctA_ok conNaN (ctN_ok _))
  intro args q r h hq
  unfold ckCmpI at h
  split at h
  · cases h
    rename_i x y
    refine w17 (fun _ => false) [] rfl hct rfl rfl ?_
    push_cast (config := { maxSteps := 10000000 })
    unfold cmpI
    exact ⟨fun h => by rw [if_pos h], fun h => ⟨fun g => by rw [if_neg h, if_pos g], fun g => by rw [if_neg h, if_neg g]⟩⟩
  · cases h
attribute [push_cast] ckCmpI
def ckCmpE : Ck
  | [.agg [.str a1, .int .i64 a2, .int .i64 a3], .agg [.str b1, .int .i64 b2, .int .i64 b3]] => some (True, .int .i64 (cmpE ⟨a1, a2, a3⟩ ⟨b1, b2, b3⟩))
  | _ => none
theorem conCmpE : Con pg 16 ckCmpE := by
  have hct := (ctA_ok conCmpI (ctN_ok _))
  intro args q r h hq
  unfold ckCmpE at h
  split at h
  · cases h
    rename_i a1 a2 a3 b1 b2 b3
    refine w16 (fun _ => false) [] rfl hct rfl rfl ?_
    push_cast (config := { maxSteps := 10000000 })
    unfold cmpE cmpI
    simp only [ltE_iff]
  · cases h
attribute [push_cast] ckCmpE

def setCE (D : List Ent) (a : Nat) (x : Ent) (i : Nat) : Ent := if i = a then x else D.getD i noEnt
@[push_cast] theorem setF_cooE (D : List Ent) (a : Nat) (x : Ent) (i : Nat) : setF (lsF cEnt D) a (.agg [.str x.loc, .int .i64 x.day, .int .i64 x.wt]) i = .agg [.str (setCE D a x i).loc, .int .i64 (setCE D a x i).day, .int .i64 (setCE D a x i).wt] := by
  show _ = cEnt.enc (setCE D a x i)
  unfold setF setCE
  by_cases e : i = a
  · rw [decide_eq_true e, cond_true, if_pos e]; rfl
  · rw [decide_eq_false e, cond_false, if_neg e]; rfl
theorem lamF_cooE (D : List Ent) : (fun i => V.agg [.str (D.getD i noEnt).loc, .int .i64 (D.getD i noEnt).day, .int .i64 (D.getD i noEnt).wt]) = lsF cEnt D := rfl
theorem men_cooE (ids : Nat → Bool) (D : List Ent) (j : Nat) : V.menInL ids (lsF cEnt D j).flat = true := rfl
theorem swF_atE {D : List Ent} {a b i : Nat} (hi : i < D.length) : setF (setF (lsF cEnt D) a (cEnt.enc (D.getD b noEnt))) b (cEnt.enc (D.getD a noEnt)) i = lsF cEnt (swp noEnt D a b) i := by
  show _ = cEnt.enc ((swp noEnt D a b).getD i noEnt)
  unfold setF swp
  rw [List.getD_eq_getElem?_getD (l := List.set _ _ _), List.getElem?_set, List.getElem?_set]
  by_cases e1 : i = b
  · subst e1
    rw [decide_eq_true rfl, cond_true, if_pos rfl, if_pos (by rw [List.length_set]; exact hi)]; rfl
  · rw [decide_eq_false e1, cond_false, if_neg (Ne.symm e1)]
    by_cases e2 : i = a
    · subst e2
      rw [decide_eq_true rfl, cond_true, if_pos rfl, if_pos hi]; rfl
    · rw [decide_eq_false e2, cond_false, if_neg (Ne.symm e2), ← List.getD_eq_getElem?_getD]; rfl
def ckSwREK : List V → List Blk → Option (Prop × V × List Blk)
  | [.vec _ n, .int .i64 a, .int .i64 b, .int .i64 c, .fn (.func 16) [] []], [.vec 3 k f] => some (k = n ∧ isLs cEnt n f ∧ n ≤ 1000000 ∧ 0 ≤ a ∧ 0 ≤ c ∧ a + c ≤ b ∧ b + c ≤ n, .tup [], [.vec 3 n (lsF cEnt (swR noEnt (lsOf cEnt n f) a.toNat b.toNat c.toNat))])
  | _, _ => none
def ckSwRE : Cf := ⟨fun | .vec i _ :: _ => [i] | _ => [], ckSwREK⟩
theorem conSwRE : FCon pg 152 ckSwRE := by
  have hct := ctN_ok pg
  intro args bs q r bs' h hq
  replace h : ckSwREK args bs = some (q, r, bs') := h
  unfold ckSwREK at h
  split at h
  · cases h
    rename_i i n a b c k f
    refine ⟨rfl, by first | exact Nat.le_refl _ | exact Nat.zero_le _, ?_⟩
    obtain ⟨rfl, hf, hn, ha, hc, hab, hbc⟩ := hq
    obtain ⟨a, rfl⟩ : ∃ z : Nat, a = z := ⟨a.toNat, by omega⟩
    obtain ⟨b, rfl⟩ : ∃ z : Nat, b = z := ⟨b.toNat, by omega⟩
    obtain ⟨c, rfl⟩ : ∃ z : Nat, c = z := ⟨c.toNat, by omega⟩
    simp only [Int.toNat_natCast]
    have hk : k = (lsOf cEnt k f).length := (lsOf_len k f).symm
    refine fcall_blk (hm := [(i + 9000, .vec 3 (lsOf cEnt k f).length (lsF cEnt (lsOf cEnt k f)))]) ⟨rfl, ⟨rfl, hk, fun j hj => by show V.shift (f j) = _; rw [hf.2 j hj]; rfl⟩, trivial⟩ ?_
    have hlen : (lsOf cEnt k f).length = k := lsOf_len k f
    generalize lsOf cEnt k f = D at hlen ⊢
    subst hlen
    show FCall pg 152 [.vec (i + 9000) D.length, .int .i64 a, .int .i64 b, .int .i64 c, .fn (.func 16) [] []] [(i + 9000, .vec 3 D.length (lsF cEnt D))] (.tup []) [(i + 9000, .vec 3 D.length (lsF cEnt (swR noEnt D a b c)))]
    refine fw152 (fun _ => false) [] rfl hct rfl (by simp) ?_ rfl ?_
    · simp [hlIn, Blk.menIn, men_cooE, idsIn]
    push_cast (config := { maxSteps := 10000000 })
    refine LoopW.adj ⟨hct, fol⟩ (by kernel_rfl) [] (fun t : Nat × List Ent => [(0, .vec (i + 9000) D.length), (1, .int .i64 a), (2, .int .i64 b), (3, .int .i64 c), (10, .int .i64 t.1)]) (fun t => [(i + 9000, .vec 3 D.length (lsF cEnt t.2))]) (fun t => t.1 ≤ c ∧ t.2.length = D.length ∧ swR noEnt t.2 (a + t.1) (b + t.1) (c - t.1) = swR noEnt D a b c) (fun t => c - t.1) (0, D) ?_ fun t ht => ?_
    · push_cast (config := { maxSteps := 10000000 })
      exact ⟨Nat.zero_le _, rfl⟩
    · obtain ⟨j, E⟩ := t
      obtain ⟨i1, i2, i3⟩ : j ≤ c ∧ E.length = D.length ∧ swR noEnt E (a + j) (b + j) (c - j) = swR noEnt D a b c := ht
      push_cast (config := { maxSteps := 10000000 })
      have ea : ((a : Int) + j).toNat = a + j := by omega
      have eb : ((b : Int) + j).toNat = b + j := by omega
      rw [ea, eb]
      refine ⟨fun h => ?_, fun h => ?_⟩
      · (repeat (refine ⟨by omega, ?_⟩))
        exact ⟨(j + 1, swp noEnt E (a + j) (b + j)), ⟨by show j + 1 ≤ c; omega, by show (swp noEnt E (a + j) (b + j)).length = _; rw [swp_len]; exact i2, by rw [← i3, show c - j = (c - (j + 1)) + 1 by omega, swR]; rfl⟩, by show c - (j + 1) < c - j; omega, by show (j : Int) + 1 = ((j + 1 : Nat) : Int); omega, fun i hi => swF_atE (by omega)⟩
      · rw [show c - j = 0 by omega, swR] at i3
        subst i3
        exact fun i hi => rfl
  · cases h
attribute [push_cast] ckSwREK
@[push_cast] theorem swR_idsE (i n : Nat) (l : List V) : ckSwRE.ids (.vec i n :: l) = [i] := rfl
@[push_cast] theorem swR_kE {i n k : Nat} {a b c : Int} {f : Nat → V} : ckSwRE.k [.vec i n, .int .i64 a, .int .i64 b, .int .i64 c, .fn (.func 16) [] []] [.vec 3 k f] = some (k = n ∧ isLs cEnt n f ∧ n ≤ 1000000 ∧ 0 ≤ a ∧ 0 ≤ c ∧ a + c ≤ b ∧ b + c ≤ n, .tup [], [.vec 3 n (lsF cEnt (swR noEnt (lsOf cEnt n f) a.toNat b.toNat c.toNat))]) := rfl

def ckRotEK : List V → List Blk → Option (Prop × V × List Blk)
  | [.vec _ n, .int .i64 a, .int .i64 b, .int .i64 c, .fn (.func 16) [] []], [.vec 3 k f] => some (k = n ∧ isLs cEnt n f ∧ n ≤ 1000000 ∧ 0 ≤ a ∧ a < b ∧ b < c ∧ c ≤ n, .tup [], [.vec 3 n (lsF cEnt (rotL (lsOf cEnt n f) a.toNat b.toNat c.toNat))])
  | _, _ => none
def ckRotE : Cf := ⟨fun | .vec i _ :: _ => [i] | _ => [], ckRotEK⟩
theorem conRotE : FCon pg 124 ckRotE := by
  have hct := (ctF_ok conSwRE (ctN_ok _))
  intro args bs q r bs' h hq
  replace h : ckRotEK args bs = some (q, r, bs') := h
  unfold ckRotEK at h
  split at h
  · cases h
    rename_i i n a b c k f
    refine ⟨rfl, by first | exact Nat.le_refl _ | exact Nat.zero_le _, ?_⟩
    obtain ⟨rfl, hf, hn, ha, hab, hbc, hcn⟩ := hq
    obtain ⟨a, rfl⟩ : ∃ z : Nat, a = z := ⟨a.toNat, by omega⟩
    obtain ⟨b, rfl⟩ : ∃ z : Nat, b = z := ⟨b.toNat, by omega⟩
    obtain ⟨c, rfl⟩ : ∃ z : Nat, c = z := ⟨c.toNat, by omega⟩
    simp only [Int.toNat_natCast]
    have hk : k = (lsOf cEnt k f).length := (lsOf_len k f).symm
    refine fcall_blk (hm := [(i + 9000, .vec 3 (lsOf cEnt k f).length (lsF cEnt (lsOf cEnt k f)))]) ⟨rfl, ⟨rfl, hk, fun j hj => by show V.shift (f j) = _; rw [hf.2 j hj]; rfl⟩, trivial⟩ ?_
    have hlen : (lsOf cEnt k f).length = k := lsOf_len k f
    generalize lsOf cEnt k f = D at hlen ⊢
    subst hlen
    show FCall pg 124 [.vec (i + 9000) D.length, .int .i64 a, .int .i64 b, .int .i64 c, .fn (.func 16) [] []] [(i + 9000, .vec 3 D.length (lsF cEnt D))] (.tup []) [(i + 9000, .vec 3 D.length (lsF cEnt (rotL D a b c)))]
    refine fw124 (fun _ => false) [] rfl hct rfl (by simp) ?_ rfl ?_
    · simp [hlIn, Blk.menIn, men_cooE, idsIn]
    push_cast (config := { maxSteps := 10000000 })
    (repeat (refine ⟨by omega, ?_⟩))
    refine LoopW.adj ⟨hct, fol⟩ (by kernel_rfl) [] (fun t : Nat × Nat × List Ent => [(0, .vec (i + 9000) D.length), (2, .int .i64 b), (4, .fn (.func 16) [] []), (10, .int .i64 t.1), (11, .int .i64 t.2.1)]) (fun t => [(i + 9000, .vec 3 D.length (lsF cEnt t.2.2))]) (fun t => t.1 ≤ b ∧ b + t.2.1 ≤ D.length ∧ 0 < t.1 ∧ 0 < t.2.1 ∧ t.2.2.length = D.length ∧ rotL t.2.2 (b - t.1) b (b + t.2.1) = rotL D a b c) (fun t => t.1 + t.2.1) (b - a, c - b, D) ?_ fun t ht => ?_
    · push_cast (config := { maxSteps := 10000000 })
      exact ⟨⟨by omega, by omega, by omega, by omega, by rw [show b - (b - a) = a by omega, show b + (c - b) = c by omega]⟩, by omega, by omega⟩
    · obtain ⟨p, q, E⟩ := t
      obtain ⟨i1, i2, i3, i4, i5, i6⟩ : p ≤ b ∧ b + q ≤ D.length ∧ 0 < p ∧ 0 < q ∧ E.length = D.length ∧ rotL E (b - p) b (b + q) = rotL D a b c := ht
      have e1 : lsOf cEnt D.length (lsF cEnt E) = E := by rw [← i5]; exact lsOf_ls E
      have e2 : isLs cEnt D.length (lsF cEnt E) := by rw [← i5]; exact isLs_ls E
      push_cast (config := { maxSteps := 10000000 })
      rw [e1]
      refine ⟨fun h => ⟨fun h2 => ?_, fun h2 => ?_⟩, fun h => ?_⟩
      · refine ⟨by omega, ⟨e2, by omega⟩, by omega, (p - q, q, swR noEnt E (b - p) b q), ⟨by show p - q ≤ b; omega, by show b + q ≤ _; omega, by show 0 < p - q; omega, by show 0 < q; omega, by show (swR noEnt E (b - p) b q).length = _; rw [swR_len]; exact i5, ?_⟩, by show p - q + q < p + q; omega, ⟨by show (p : Int) - q = ((p - q : Nat) : Int); omega, rfl⟩, fun i hi => rfl⟩
        rw [← i6]
        have r := rot_hi noEnt E (a := b - p) (m := b) (b := b + q) (by omega) (by omega) (by omega) (by omega)
        rw [show b + q - b = q by omega, show b - p + q = b - (p - q) by omega] at r
        exact r
      · rw [show ((b : Int) + q - p).toNat = b + q - p by omega]
        refine ⟨by omega, by omega, by omega, ⟨e2, by omega⟩, by omega, (p, q - p, swR noEnt E (b - p) (b + q - p) p), ⟨by show p ≤ b; omega, by show b + (q - p) ≤ _; omega, by show 0 < p; omega, by show 0 < q - p; omega, by show (swR noEnt E (b - p) (b + q - p) p).length = _; rw [swR_len]; exact i5, ?_⟩, by show p + (q - p) < p + q; omega, ⟨rfl, by show (q : Int) - p = ((q - p : Nat) : Int); omega⟩, fun i hi => rfl⟩
        rw [← i6]
        have r := rot_lo noEnt E (a := b - p) (m := b) (b := b + q) (by omega) (by omega) (by omega) (by omega)
        rw [show b - (b - p) = p by omega, show b + q - p = b + (q - p) by omega] at r
        rw [show b + q - p = b + (q - p) by omega]
        exact r
      · obtain rfl : p = q := by omega
        refine ⟨by omega, ⟨e2, by omega⟩, fun i hi => ?_⟩
        have r := rot_eq noEnt E (a := b - p) (m := b) (b := b + p) (by omega) (by omega) (by omega) (by omega)
        rw [show b + p - b = p by omega] at r
        rw [r, i6]
  · cases h
attribute [push_cast] ckRotEK
@[push_cast] theorem rot_idsE (i n : Nat) (l : List V) : ckRotE.ids (.vec i n :: l) = [i] := rfl
@[push_cast] theorem rot_kE {i n k : Nat} {a b c : Int} {f : Nat → V} : ckRotE.k [.vec i n, .int .i64 a, .int .i64 b, .int .i64 c, .fn (.func 16) [] []] [.vec 3 k f] = some (k = n ∧ isLs cEnt n f ∧ n ≤ 1000000 ∧ 0 ≤ a ∧ a < b ∧ b < c ∧ c ≤ n, .tup [], [.vec 3 n (lsF cEnt (rotL (lsOf cEnt n f) a.toNat b.toNat c.toNat))]) := rfl
def ckInsEK : List V → List Blk → Option (Prop × V × List Blk)
  | [.vec _ n, .int .i64 a, .int .i64 b, .fn (.func 16) [] []], [.vec 3 k f] => some (k = n ∧ isLs cEnt n f ∧ n ≤ 1000000 ∧ 0 ≤ a ∧ a ≤ b ∧ b ≤ n, .tup [], [.vec 3 n (lsF cEnt (insD ltE noEnt (lsOf cEnt n f) a.toNat b.toNat))])
  | _, _ => none
def ckInsE : Cf := ⟨fun | .vec i _ :: _ => [i] | _ => [], ckInsEK⟩
theorem conInsE : FCon pg 90 ckInsE := by
  have hct := (ctA_ok conCmpE (ctN_ok _))
  intro args bs q r bs' h hq
  replace h : ckInsEK args bs = some (q, r, bs') := h
  unfold ckInsEK at h
  split at h
  · cases h
    rename_i i n a b k f
    refine ⟨rfl, by first | exact Nat.le_refl _ | exact Nat.zero_le _, ?_⟩
    obtain ⟨rfl, hf, hn, ha, hab, hbn⟩ := hq
    obtain ⟨a, rfl⟩ : ∃ z : Nat, a = z := ⟨a.toNat, by omega⟩
    obtain ⟨b, rfl⟩ : ∃ z : Nat, b = z := ⟨b.toNat, by omega⟩
    simp only [Int.toNat_natCast]
    have hk : k = (lsOf cEnt k f).length := (lsOf_len k f).symm
    refine fcall_blk (hm := [(i + 9000, .vec 3 (lsOf cEnt k f).length (lsF cEnt (lsOf cEnt k f)))]) ⟨rfl, ⟨rfl, hk, fun j hj => by show V.shift (f j) = _; rw [hf.2 j hj]; rfl⟩, trivial⟩ ?_
    have hlen : (lsOf cEnt k f).length = k := lsOf_len k f
    generalize lsOf cEnt k f = D at hlen ⊢
    subst hlen
    show FCall pg 90 [.vec (i + 9000) D.length, .int .i64 a, .int .i64 b, .fn (.func 16) [] []] [(i + 9000, .vec 3 D.length (lsF cEnt D))] (.tup []) [(i + 9000, .vec 3 D.length (lsF cEnt (insD ltE noEnt D a b)))]
    refine fw90 (fun _ => false) [] rfl hct rfl (by simp) ?_ rfl ?_
    · simp [hlIn, Blk.menIn, men_cooE, idsIn]
    push_cast (config := { maxSteps := 10000000 })
    (repeat (refine ⟨by omega, ?_⟩))
    refine LoopW.adj ⟨hct, fol⟩ (by kernel_rfl) [] (fun t : Nat × List Ent => [(0, .vec (i + 9000) D.length), (1, .int .i64 a), (2, .int .i64 b), (3, .fn (.func 16) [] []), (8, .int .i64 t.1)]) (fun t => [(i + 9000, .vec 3 D.length (lsF cEnt t.2))]) (fun t => a < t.1 ∧ t.1 ≤ max (a + 1) b ∧ t.2.length = D.length ∧ (t.1 ≤ b → t.2 = insD ltE noEnt D a t.1) ∧ (b < t.1 → t.2 = D)) (fun t => b - t.1) (a + 1, D) ?_ fun t ht => ?_
    · push_cast (config := { maxSteps := 10000000 })
      exact ⟨by omega, by omega, fun h => (insD_one keyE noEnt D (by omega) (by omega) (by omega)).symm⟩
    · obtain ⟨p, E⟩ := t
      obtain ⟨i1, i2, i3, i4, i5⟩ : a < p ∧ p ≤ max (a + 1) b ∧ E.length = D.length ∧ (p ≤ b → E = insD ltE noEnt D a p) ∧ (b < p → E = D) := ht
      have hr : a = b ∨ a < b := by omega
      push_cast (config := { maxSteps := 10000000 })
      refine ⟨fun hlt => ?_, fun hge => ?_⟩
      · have i4 := i4 (by omega)
        have hS : (srtL ltE noEnt (sgL D a p)).length = p - a := by rw [srtL_len, sgL_len D (by omega)]
        generalize hc : D.getD p noEnt = c at *
        refine LoopW.adj ⟨hct, fol⟩ (by kernel_rfl) [] (fun t : Nat × List Ent => [(0, .vec (i + 9000) D.length), (1, .int .i64 a), (2, .int .i64 b), (3, .fn (.func 16) [] []), (8, .int .i64 p), (9, .int .i64 ((a + t.1 : Nat) : Int))]) (fun t => [(i + 9000, .vec 3 D.length (lsF cEnt t.2))]) (fun t => t.1 ≤ p - a ∧ posK ltE noEnt (srtL ltE noEnt (sgL D a p)) c t.1 = posK ltE noEnt (srtL ltE noEnt (sgL D a p)) c (p - a) ∧ t.2 = insE ltE noEnt D a p t.1 ∧ t.2.length = D.length) (fun t => t.1) (p - a, E) ?_ fun t ht => ?_
        · push_cast (config := { maxSteps := 10000000 })
          exact ⟨⟨by omega, by rw [i4, insE_top ltE noEnt D (by omega) (by omega)], i3⟩, by omega⟩
        · obtain ⟨q, F⟩ := t
          obtain ⟨j1, j2, j3, j4⟩ : q ≤ p - a ∧ posK ltE noEnt (srtL ltE noEnt (sgL D a p)) c q = posK ltE noEnt (srtL ltE noEnt (sgL D a p)) c (p - a) ∧ F = insE ltE noEnt D a p q ∧ F.length = D.length := ht
          push_cast (config := { maxSteps := 10000000 })
          rw [lamF_cooE F]
          simp only [setF_cooE]
          have e1 : ((a : Int) + q).toNat = a + q := by omega
          have e2 : ((a : Int) + q - 1).toNat = a + q - 1 := by omega
          rw [e1, e2]
          have g1 : F.getD (a + q) noEnt = c := by rw [j3, insE_at ltE noEnt D (by omega) (by omega) j1, hc]
          have g2 : ∀ k, q = k + 1 → F.getD (a + q - 1) noEnt = (srtL ltE noEnt (sgL D a p)).getD k noEnt := fun k hk => by
            subst hk
            rw [j3]
            exact insE_pre ltE noEnt D (by omega) (by omega) j1
          have g3 : ∀ k, q = k + 1 → swp noEnt F (a + q) (a + q - 1) = insE ltE noEnt D a p k := fun k hk => by
            subst hk
            rw [j3]
            exact insE_swp ltE noEnt D (by omega) (by omega) j1
          refine ⟨fun h => ⟨h, by omega⟩, fun h => ⟨h, by omega⟩, fun h => ⟨h, by omega⟩, fun h => ⟨h, by omega⟩, fun h => ⟨h, by omega⟩, fun h => ?_, fun h => ?_⟩
          · obtain ⟨k, rfl⟩ : ∃ k, q = k + 1 := ⟨q - 1, by omega⟩
            have h2 := h.2
            rw [g1, g2 k rfl] at h2
            rw [posK, if_pos h2] at j2
            (repeat (refine ⟨by omega, ?_⟩))
            exact ⟨(k, swp noEnt F (a + (k + 1)) (a + (k + 1) - 1)), ⟨by show k ≤ p - a; omega, j2, g3 k rfl, by show (swp noEnt F (a + (k + 1)) (a + (k + 1) - 1)).length = _; rw [swp_len]; exact j4⟩, by show k < k + 1; omega, by show (a : Int) + (k + 1 : Nat) - 1 = (a : Int) + (k : Nat); omega, fun i hi => swF_atE (by omega)⟩
          · have hk : posK ltE noEnt (srtL ltE noEnt (sgL D a p)) c (p - a) = q := by
              rw [← j2]
              cases q with
              | zero => rfl
              | succ k =>
                rw [posK, if_neg]
                intro h2
                rw [g1, g2 k rfl] at h
                first | exact h (by omega) h2 | (have := h (by omega); rw [this] at h2; cases h2)
            have hE : F = insD ltE noEnt D a (p + 1) := by
              rw [j3, ← insE_end ltE noEnt D (by omega) (by omega), hc, hk]
            exact ⟨by omega, (p + 1, F), ⟨by show a < p + 1; omega, by show p + 1 ≤ _; omega, j4, fun _ => hE, fun hb => absurd hb (by show ¬ b < p + 1; omega)⟩, by show b - (p + 1) < b - p; omega, by show (p : Int) + 1 = ((p + 1 : Nat) : Int); omega, fun i hi => rfl⟩
      · by_cases hb : p ≤ b
        · obtain rfl : p = b := by omega
          rw [i4 (by omega)]
          exact fun i hi => rfl
        · rw [i5 (by omega), insD_one keyE noEnt D (by omega) (by omega) (by omega)]
          exact fun i hi => rfl
  · cases h
attribute [push_cast] ckInsEK
@[push_cast] theorem ins_idsE (i n : Nat) (l : List V) : ckInsE.ids (.vec i n :: l) = [i] := rfl
@[push_cast] theorem ins_kE {i n k : Nat} {a b : Int} {f : Nat → V} : ckInsE.k [.vec i n, .int .i64 a, .int .i64 b, .fn (.func 16) [] []] [.vec 3 k f] = some (k = n ∧ isLs cEnt n f ∧ n ≤ 1000000 ∧ 0 ≤ a ∧ a ≤ b ∧ b ≤ n, .tup [], [.vec 3 n (lsF cEnt (insD ltE noEnt (lsOf cEnt n f) a.toNat b.toNat))]) := rfl

def ckSymEK (N : Int) : List V → List Blk → Option (Prop × V × List Blk)
  | [.vec _ n, .int .i64 a, .int .i64 m, .int .i64 b, .fn (.func 16) [] []], [.vec 3 k f] => some (k = n ∧ isLs cEnt n f ∧ n ≤ 1000000 ∧ 0 ≤ a ∧ a < m ∧ m < b ∧ b ≤ n ∧ b - a < N ∧ SrtK ltE (sgL (lsOf cEnt n f) a.toNat m.toNat) ∧ SrtK ltE (sgL (lsOf cEnt n f) m.toNat b.toNat), .tup [], [.vec 3 n (lsF cEnt (insD ltE noEnt (lsOf cEnt n f) a.toNat b.toNat))])
  | _, _ => none
def ckSymE (N : Int) : Cf := ⟨fun | .vec i _ :: _ => [i] | _ => [], ckSymEK N⟩
@[push_cast] theorem sym_idsE (N : Int) (i n : Nat) (l : List V) : (ckSymE N).ids (.vec i n :: l) = [i] := rfl
@[push_cast] theorem sym_kE {N : Int} {i n k : Nat} {a m b : Int} {f : Nat → V} : (ckSymE N).k [.vec i n, .int .i64 a, .int .i64 m, .int .i64 b, .fn (.func 16) [] []] [.vec 3 k f] = some (k = n ∧ isLs cEnt n f ∧ n ≤ 1000000 ∧ 0 ≤ a ∧ a < m ∧ m < b ∧ b ≤ n ∧ b - a < N ∧ SrtK ltE (sgL (lsOf cEnt n f) a.toNat m.toNat) ∧ SrtK ltE (sgL (lsOf cEnt n f) m.toNat b.toNat), .tup [], [.vec 3 n (lsF cEnt (insD ltE noEnt (lsOf cEnt n f) a.toNat b.toNat))]) := rfl
theorem half_eqE (p q : Nat) (h : p + q ≤ 1000000000) : (((p : Int) + q) % 18446744073709551616).fdiv (2 ^ min 1 IntKind.u64.bits) = (((p + q) / 2 : Nat) : Int) := by
  rw [show (2 : Int) ^ min 1 IntKind.u64.bits = 2 from rfl, Int.fdiv_eq_ediv_of_nonneg _ (by decide)]
  omega
theorem conSym0E : FCon pg 91 (ckSymE 0) := by
  intro args bs q r bs' h hq
  replace h : ckSymEK 0 args bs = some (q, r, bs') := h
  unfold ckSymEK at h
  split at h
  · cases h
    exact absurd hq.2.2.2.2.2.2.2.1 (by omega)
  · cases h
theorem conSymSE (N : Int) (hN : FCon pg 91 (ckSymE N)) : FCon pg 91 (ckSymE (N + 1)) := by
  have hct := ctF_ok hN (ctF_ok conRotE (ctA_ok conCmpE (ctN_ok pg)))
  intro args bs q r bs' h hq
  replace h : ckSymEK (N + 1) args bs = some (q, r, bs') := h
  unfold ckSymEK at h
  split at h
  · cases h
    rename_i i n a m b k f
    refine ⟨rfl, by first | exact Nat.le_refl _ | exact Nat.zero_le _, ?_⟩
    obtain ⟨rfl, hf, hn, ha, ham, hmb, hbn, hbN, hX, hY⟩ := hq
    obtain ⟨a, rfl⟩ : ∃ z : Nat, a = z := ⟨a.toNat, by omega⟩
    obtain ⟨m, rfl⟩ : ∃ z : Nat, m = z := ⟨m.toNat, by omega⟩
    obtain ⟨b, rfl⟩ : ∃ z : Nat, b = z := ⟨b.toNat, by omega⟩
    simp only [Int.toNat_natCast] at hX hY ⊢
    have hk : k = (lsOf cEnt k f).length := (lsOf_len k f).symm
    refine fcall_blk (hm := [(i + 9000, .vec 3 (lsOf cEnt k f).length (lsF cEnt (lsOf cEnt k f)))]) ⟨rfl, ⟨rfl, hk, fun j hj => by show V.shift (f j) = _; rw [hf.2 j hj]; rfl⟩, trivial⟩ ?_
    have hlen : (lsOf cEnt k f).length = k := lsOf_len k f
    generalize lsOf cEnt k f = D at hlen hX hY ⊢
    subst hlen
    have e1 : ∀ E : List Ent, E.length = D.length → lsOf cEnt D.length (lsF cEnt E) = E := fun E hE => by rw [← hE]; exact lsOf_ls E
    have e2 : ∀ E : List Ent, E.length = D.length → isLs cEnt D.length (lsF cEnt E) := fun E hE => by rw [← hE]; exact isLs_ls E
    show FCall pg 91 [.vec (i + 9000) D.length, .int .i64 a, .int .i64 m, .int .i64 b, .fn (.func 16) [] []] [(i + 9000, .vec 3 D.length (lsF cEnt D))] (.tup []) [(i + 9000, .vec 3 D.length (lsF cEnt (insD ltE noEnt D a b)))]
    refine fw91 (fun _ => false) [] rfl hct rfl (by simp) ?_ rfl ?_
    · simp [hlIn, Blk.menIn, men_cooE, idsIn]
    push_cast (config := { maxSteps := 10000000 })
    (repeat (refine ⟨by omega, ?_⟩))
    refine ⟨fun h1 => ?_, fun h1 => ?_⟩
    · have hm : m = a + 1 := by omega
      refine LoopW.adj ⟨hct, fol⟩ (by kernel_rfl) [] (fun t : Nat × Nat => [(0, .vec (i + 9000) D.length), (1, .int .i64 a), (4, .fn (.func 16) [] []), (10, .int .i64 t.1), (11, .int .i64 t.2)]) (fun _ => [(i + 9000, .vec 3 D.length (lsF cEnt D))]) (fun t => m ≤ t.1 ∧ t.1 ≤ t.2 ∧ t.2 ≤ b ∧ (t.1 = m ∨ ltE (D.getD (t.1 - 1) noEnt) (D.getD a noEnt) = true) ∧ (t.2 = b ∨ ltE (D.getD t.2 noEnt) (D.getD a noEnt) = false)) (fun t => t.2 - t.1) (m, b) ?_ fun t ht => ?_
      · push_cast (config := { maxSteps := 10000000 })
        exact ⟨Nat.le_refl _, by omega, Nat.le_refl _⟩
      · obtain ⟨p, q⟩ := t
        obtain ⟨i1, i2, i3, i4, i5⟩ : m ≤ p ∧ p ≤ q ∧ q ≤ b ∧ (p = m ∨ ltE (D.getD (p - 1) noEnt) (D.getD a noEnt) = true) ∧ (q = b ∨ ltE (D.getD q noEnt) (D.getD a noEnt) = false) := ht
        push_cast (config := { maxSteps := 10000000 })
        refine ⟨fun hlt => ?_, fun hge => ?_⟩
        · have hh := half_eqE p q (by omega)
          generalize hv : (p + q) / 2 = v at hh
          rw [hh]
          simp only [Int.toNat_natCast]
          exact ⟨by omega, by omega, by omega, by omega, by omega, by omega, fun g => ⟨by omega, (v + 1, q), ⟨by show m ≤ v + 1; omega, by show v + 1 ≤ q; omega, i3, .inr (by show ltE (D.getD (v + 1 - 1) noEnt) _ = true; simpa using g), i5⟩, by show q - (v + 1) < q - p; omega, by show (v : Int) + 1 = ((v + 1 : Nat) : Int); omega, rfl⟩, fun g => ⟨(p, v), ⟨i1, by show p ≤ v; omega, by show v ≤ b; omega, i4, .inr (by simpa using g)⟩, by show v - p < q - p; omega, rfl, rfl⟩⟩
        · have hpq : p = q := by omega
          subst hpq
          have hF := ins_first keyE noEnt (by omega) hm i1 i3 hY i4 i5
          refine LoopW.adj ⟨hct, fol⟩ (by kernel_rfl) [] (fun t : Nat × List Ent => [(0, .vec (i + 9000) D.length), (10, .int .i64 p), (13, .int .i64 t.1)]) (fun t => [(i + 9000, .vec 3 D.length (lsF cEnt t.2))]) (fun t => a ≤ t.1 ∧ t.1 ≤ p - 1 ∧ t.2.length = D.length ∧ t.2 = D.take a ++ (stK (sgL D m b) (D.getD a noEnt) (t.1 - a) ++ D.drop b)) (fun t => p - 1 - t.1) (a, D) ?_ fun t ht => ?_
          · push_cast (config := { maxSteps := 10000000 })
            exact ⟨Nat.le_refl _, by omega, by rw [Nat.sub_self]; exact ins_first0 D noEnt (by omega) hm (by omega)⟩
          · obtain ⟨u, E⟩ := t
            obtain ⟨j1, j2, j3, j4⟩ : a ≤ u ∧ u ≤ p - 1 ∧ E.length = D.length ∧ E = D.take a ++ (stK (sgL D m b) (D.getD a noEnt) (u - a) ++ D.drop b) := ht
            push_cast (config := { maxSteps := 10000000 })
            refine ⟨by omega, fun g => ?_, fun g => ?_⟩
            · (repeat (refine ⟨by omega, ?_⟩))
              refine ⟨(u + 1, swp noEnt E u (u + 1)), ⟨by show a ≤ u + 1; omega, by show u + 1 ≤ p - 1; omega, by show (swp noEnt E u (u + 1)).length = _; rw [swp_len]; exact j3, ?_⟩, by show p - 1 - (u + 1) < p - 1 - u; omega, by show (u : Int) + 1 = ((u + 1 : Nat) : Int); omega, fun i hi => swF_atE (by omega)⟩
              show swp noEnt E u (u + 1) = _
              have hol := sgL_len D (a := m) (b := b) (by omega)
              rw [j4, swp_st' noEnt (D.take a) (sgL D m b) (D.drop b) (D.getD a noEnt) (k := u - a) (by omega) (by rw [List.length_take]; omega), show u - a + 1 = u + 1 - a by omega]
            · have hE : E = insD ltE noEnt D a b := by
                rw [j4]; unfold insD puL; rw [hF, show u - a = p - m by omega]
              rw [hE]
              exact fun i hi => rfl
    · refine ⟨by omega, fun h2 => ?_, fun h2 => ?_⟩
      · have hm : b = m + 1 := by omega
        refine LoopW.adj ⟨hct, fol⟩ (by kernel_rfl) [] (fun t : Nat × Nat => [(0, .vec (i + 9000) D.length), (2, .int .i64 m), (4, .fn (.func 16) [] []), (14, .int .i64 t.1), (15, .int .i64 t.2)]) (fun _ => [(i + 9000, .vec 3 D.length (lsF cEnt D))]) (fun t => a ≤ t.1 ∧ t.1 ≤ t.2 ∧ t.2 ≤ m ∧ (t.1 = a ∨ ltE (D.getD m noEnt) (D.getD (t.1 - 1) noEnt) = false) ∧ (t.2 = m ∨ ltE (D.getD m noEnt) (D.getD t.2 noEnt) = true)) (fun t => t.2 - t.1) (a, m) ?_ fun t ht => ?_
        · push_cast (config := { maxSteps := 10000000 })
          exact ⟨Nat.le_refl _, by omega, Nat.le_refl _⟩
        · obtain ⟨p, q⟩ := t
          obtain ⟨i1, i2, i3, i4, i5⟩ : a ≤ p ∧ p ≤ q ∧ q ≤ m ∧ (p = a ∨ ltE (D.getD m noEnt) (D.getD (p - 1) noEnt) = false) ∧ (q = m ∨ ltE (D.getD m noEnt) (D.getD q noEnt) = true) := ht
          push_cast (config := { maxSteps := 10000000 })
          refine ⟨fun hlt => ?_, fun hge => ?_⟩
          · have hh := half_eqE p q (by omega)
            generalize hv : (p + q) / 2 = v at hh
            rw [hh]
            simp only [Int.toNat_natCast]
            exact ⟨by omega, by omega, by omega, by omega, by omega, by omega, fun g => ⟨by omega, (v + 1, q), ⟨by show a ≤ v + 1; omega, by show v + 1 ≤ q; omega, i3, .inr (by show ltE _ (D.getD (v + 1 - 1) noEnt) = false; simpa using g), i5⟩, by show q - (v + 1) < q - p; omega, by show (v : Int) + 1 = ((v + 1 : Nat) : Int); omega, rfl⟩, fun g => ⟨(p, v), ⟨i1, by show p ≤ v; omega, by show v ≤ m; omega, i4, .inr (by simpa using g)⟩, by show v - p < q - p; omega, rfl, rfl⟩⟩
          · have hpq : p = q := by omega
            subst hpq
            have hF := ins_last keyE noEnt (by omega) hm i1 i3 hX i4 i5
            refine LoopW.adj ⟨hct, fol⟩ (by kernel_rfl) [] (fun t : Nat × List Ent => [(0, .vec (i + 9000) D.length), (14, .int .i64 p), (17, .int .i64 t.1)]) (fun t => [(i + 9000, .vec 3 D.length (lsF cEnt t.2))]) (fun t => p ≤ t.1 ∧ t.1 ≤ m ∧ t.2.length = D.length ∧ t.2 = D.take a ++ (stK (sgL D a m) (D.getD m noEnt) (t.1 - a) ++ D.drop b)) (fun t => t.1 - p) (m, D) ?_ fun t ht => ?_
            · push_cast (config := { maxSteps := 10000000 })
              exact ⟨by omega, Nat.le_refl _, ins_last0 D noEnt (by omega) hm (by omega)⟩
            · obtain ⟨u, E⟩ := t
              obtain ⟨j1, j2, j3, j4⟩ : p ≤ u ∧ u ≤ m ∧ E.length = D.length ∧ E = D.take a ++ (stK (sgL D a m) (D.getD m noEnt) (u - a) ++ D.drop b) := ht
              push_cast (config := { maxSteps := 10000000 })
              have eu : 0 < u → ((u : Int) - 1).toNat = u - 1 := fun _ => by omega
              refine ⟨fun g => ?_, fun g => ?_⟩
              · rw [eu (by omega)]
                (repeat (refine ⟨by omega, ?_⟩))
                refine ⟨(u - 1, swp noEnt E u (u - 1)), ⟨by show p ≤ u - 1; omega, by show u - 1 ≤ m; omega, by show (swp noEnt E u (u - 1)).length = _; rw [swp_len]; exact j3, ?_⟩, by show u - 1 - p < u - p; omega, by show (u : Int) - 1 = ((u - 1 : Nat) : Int); omega, fun i hi => swF_atE (by omega)⟩
                show swp noEnt E u (u - 1) = _
                have hol := sgL_len D (a := a) (b := m) (by omega)
                have hs := swp_st noEnt (D.take a) (sgL D a m) (D.drop b) (D.getD m noEnt) (k := u - 1 - a) (j := u - 1) (by omega) (by rw [List.length_take]; omega)
                rw [show u - 1 - a + 1 = u - a by omega, show u - 1 + 1 = u by omega] at hs
                rw [j4, hs]
              · have hE : E = insD ltE noEnt D a b := by
                  rw [j4]; unfold insD puL; rw [hF, show u - a = p - a by omega]
                rw [hE]
                exact fun i hi => rfl
      · have hh := half_eqE a b (by omega)
        generalize hv : (a + b) / 2 = mid at hh
        rw [hh]
        (repeat (refine ⟨by omega, ?_⟩))
        refine ⟨fun h3 => ?_, fun h3 => ?_⟩
        · (repeat (refine ⟨by omega, ?_⟩))
          refine LoopW.adj ⟨hct, fol⟩ (by kernel_rfl) [] (fun t : Nat × Nat => [(0, .vec (i + 9000) D.length), (1, .int .i64 a), (2, .int .i64 m), (3, .int .i64 b), (4, .fn (.func 16) [] []), (18, .int .i64 mid), (19, .int .i64 ((mid : Int) + m)), (20, .int .i64 t.1), (21, .int .i64 t.2), (22, .int .i64 ((mid : Int) + m - 1))]) (fun _ => [(i + 9000, .vec 3 D.length (lsF cEnt D))]) (fun t => (mid + m - b) ≤ t.1 ∧ t.1 ≤ t.2 ∧ t.2 ≤ mid ∧ (t.1 = (mid + m - b) ∨ ltE (D.getD (mid + m - t.1) noEnt) (D.getD (t.1 - 1) noEnt) = false) ∧ (t.2 = mid ∨ ltE (D.getD (mid + m - 1 - t.2) noEnt) (D.getD t.2 noEnt) = true)) (fun t => t.2 - t.1) ((mid + m - b), mid) ?_ fun t ht => ?_
          · push_cast (config := { maxSteps := 10000000 })
            first | exact ⟨⟨Nat.le_refl _, by omega, Nat.le_refl _⟩, by omega⟩ | exact ⟨Nat.le_refl _, by omega, Nat.le_refl _⟩
          · obtain ⟨p, q⟩ := t
            obtain ⟨i1, i2, i3, i4, i5⟩ : (mid + m - b) ≤ p ∧ p ≤ q ∧ q ≤ mid ∧ (p = (mid + m - b) ∨ ltE (D.getD (mid + m - p) noEnt) (D.getD (p - 1) noEnt) = false) ∧ (q = mid ∨ ltE (D.getD (mid + m - 1 - q) noEnt) (D.getD q noEnt) = true) := ht
            push_cast (config := { maxSteps := 10000000 })
            refine ⟨fun hlt => ?_, fun hge => ?_⟩
            · have hh := half_eqE p q (by omega)
              generalize hv : (p + q) / 2 = v at hh
              rw [hh]
              have ev : ((mid : Int) + m - 1 - v).toNat = mid + m - 1 - v := by omega
              rw [ev]
              simp only [Int.toNat_natCast]
              exact ⟨by omega, by omega, by omega, by omega, by omega, by omega, by omega, fun g => ⟨by omega, (v + 1, q), ⟨by show (mid + m - b) ≤ v + 1; omega, by show v + 1 ≤ q; omega, i3, .inr (by show ltE (D.getD (mid + m - (v + 1)) noEnt) (D.getD (v + 1 - 1) noEnt) = false; rw [show mid + m - (v + 1) = mid + m - 1 - v by omega]; simpa using g), i5⟩, by show q - (v + 1) < q - p; omega, by show (v : Int) + 1 = ((v + 1 : Nat) : Int); omega, rfl⟩, fun g => ⟨(p, v), ⟨i1, by show p ≤ v; omega, by show v ≤ mid; omega, i4, .inr (by simpa using g)⟩, by show v - p < q - p; omega, rfl, rfl⟩⟩
            · have hpq : p = q := by omega
              subst hpq
              obtain ⟨e, he⟩ : ∃ e : Nat, e = mid + m - p := ⟨_, rfl⟩
              have he2 : (mid : Int) + m - p = (e : Int) := by omega
              have hmid : a ≤ mid ∧ mid < b := by omega
              rw [he2]
              simp only [Int.toNat_natCast]
              have c1 : p ≤ a ∨ b ≤ e ∨ ltE (D.getD e noEnt) (D.getD (p - 1) noEnt) = false := by
                rcases i4 with z | z
                · omega
                · rw [he]; exact .inr (.inr z)
              have c2 : m ≤ p ∨ e ≤ m ∨ ltE (D.getD (e - 1) noEnt) (D.getD p noEnt) = true := by
                rcases i5 with z | z
                · omega
                · rw [show e - 1 = mid + m - 1 - p by omega]; exact .inr (.inr z)
              have mrg := mrg_all keyE noEnt (D := D) (a := a) (s := p) (m := m) (e := e) (b := b) (mid := mid) (by omega) (by omega) (by omega) (by omega) (by omega) (by omega) hX hY c1 c2
              refine ⟨by omega, fun A => ⟨by omega, ?_⟩, fun A => ?_⟩
              · have hA : mrg1 D p m e = rotL D p m e := if_pos ⟨by omega, by omega⟩
                rw [hA] at mrg
                generalize rotL D p m e = R at *
                refine ⟨fun B => ?_, fun B => ?_⟩
                · have hB : mrg2 ltE noEnt R a p mid = insD ltE noEnt R a mid := if_pos ⟨by omega, by omega⟩
                  rw [hB] at mrg
                  obtain ⟨r1, r2, r3, r4, r5, r6, r7⟩ := mrg
                  try rw [e1 R r1]
                  generalize insD ltE noEnt R a mid = R2 at *
                  refine ⟨⟨by first | exact e2 R r1 | omega, ?_⟩, fun C => ?_, fun C => ?_⟩
                  · exact ⟨by omega, by omega, by omega, by omega, by omega, r2, r3⟩
                  · have hC : mrg2 ltE noEnt R2 mid e b = insD ltE noEnt R2 mid b := if_pos ⟨by omega, by omega⟩
                    rw [hC] at r7
                    rw [e1 R2 r4]
                    refine ⟨⟨e2 R2 r4, by omega, by omega, by omega, by omega, by omega, r5, r6⟩, ?_⟩
                    rw [r7]; exact fun i hi => rfl
                  · have hC : mrg2 ltE noEnt R2 mid e b = R2 := if_neg (by omega)
                    rw [hC] at r7
                    rw [r7]; exact fun i hi => rfl
                · have hB : mrg2 ltE noEnt R a p mid = R := if_neg (by omega)
                  rw [hB] at mrg
                  obtain ⟨r1, r2, r3, r4, r5, r6, r7⟩ := mrg
                  refine ⟨fun C => ?_, fun C => ?_⟩
                  · have hC : mrg2 ltE noEnt R mid e b = insD ltE noEnt R mid b := if_pos ⟨by omega, by omega⟩
                    rw [hC] at r7
                    try rw [e1 R r1]
                    refine ⟨⟨e2 R r1, by omega, by omega, by omega, by omega, by omega, r5, r6⟩, ?_⟩
                    rw [r7]; exact fun i hi => rfl
                  · have hC : mrg2 ltE noEnt R mid e b = R := if_neg (by omega)
                    rw [hC] at r7
                    rw [r7]; exact fun i hi => rfl
              · have hA : mrg1 D p m e = D := if_neg (by omega)
                rw [hA] at mrg
                refine ⟨fun B => ?_, fun B => ?_⟩
                · have hB : mrg2 ltE noEnt D a p mid = insD ltE noEnt D a mid := if_pos ⟨by omega, by omega⟩
                  rw [hB] at mrg
                  obtain ⟨r1, r2, r3, r4, r5, r6, r7⟩ := mrg
                  try rw [e1 D r1]
                  generalize insD ltE noEnt D a mid = R2 at *
                  refine ⟨⟨by first | exact e2 D r1 | omega, ?_⟩, fun C => ?_, fun C => ?_⟩
                  · exact ⟨by omega, by omega, by omega, by omega, r2, r3⟩
                  · have hC : mrg2 ltE noEnt R2 mid e b = insD ltE noEnt R2 mid b := if_pos ⟨by omega, by omega⟩
                    rw [hC] at r7
                    rw [e1 R2 r4]
                    refine ⟨⟨e2 R2 r4, by omega, by omega, by omega, by omega, by omega, r5, r6⟩, ?_⟩
                    rw [r7]; exact fun i hi => rfl
                  · have hC : mrg2 ltE noEnt R2 mid e b = R2 := if_neg (by omega)
                    rw [hC] at r7
                    rw [r7]; exact fun i hi => rfl
                · have hB : mrg2 ltE noEnt D a p mid = D := if_neg (by omega)
                  rw [hB] at mrg
                  obtain ⟨r1, r2, r3, r4, r5, r6, r7⟩ := mrg
                  refine ⟨fun C => ?_, fun C => ?_⟩
                  · have hC : mrg2 ltE noEnt D mid e b = insD ltE noEnt D mid b := if_pos ⟨by omega, by omega⟩
                    rw [hC] at r7
                    try rw [e1 D r1]
                    refine ⟨⟨by omega, by omega, by omega, by omega, by omega, r5, r6⟩, ?_⟩
                    rw [r7]; exact fun i hi => rfl
                  · have hC : mrg2 ltE noEnt D mid e b = D := if_neg (by omega)
                    rw [hC] at r7
                    have r8 : insD ltE noEnt D a b = D := r7.symm
                    rw [r8]; exact fun i hi => rfl
        · (repeat (refine ⟨by omega, ?_⟩))
          refine LoopW.adj ⟨hct, fol⟩ (by kernel_rfl) [] (fun t : Nat × Nat => [(0, .vec (i + 9000) D.length), (1, .int .i64 a), (2, .int .i64 m), (3, .int .i64 b), (4, .fn (.func 16) [] []), (18, .int .i64 mid), (19, .int .i64 ((mid : Int) + m)), (20, .int .i64 t.1), (21, .int .i64 t.2), (22, .int .i64 ((mid : Int) + m - 1))]) (fun _ => [(i + 9000, .vec 3 D.length (lsF cEnt D))]) (fun t => a ≤ t.1 ∧ t.1 ≤ t.2 ∧ t.2 ≤ m ∧ (t.1 = a ∨ ltE (D.getD (mid + m - t.1) noEnt) (D.getD (t.1 - 1) noEnt) = false) ∧ (t.2 = m ∨ ltE (D.getD (mid + m - 1 - t.2) noEnt) (D.getD t.2 noEnt) = true)) (fun t => t.2 - t.1) (a, m) ?_ fun t ht => ?_
          · push_cast (config := { maxSteps := 10000000 })
            first | exact ⟨⟨Nat.le_refl _, by omega, Nat.le_refl _⟩, by omega⟩ | exact ⟨Nat.le_refl _, by omega, Nat.le_refl _⟩
          · obtain ⟨p, q⟩ := t
            obtain ⟨i1, i2, i3, i4, i5⟩ : a ≤ p ∧ p ≤ q ∧ q ≤ m ∧ (p = a ∨ ltE (D.getD (mid + m - p) noEnt) (D.getD (p - 1) noEnt) = false) ∧ (q = m ∨ ltE (D.getD (mid + m - 1 - q) noEnt) (D.getD q noEnt) = true) := ht
            push_cast (config := { maxSteps := 10000000 })
            refine ⟨fun hlt => ?_, fun hge => ?_⟩
            · have hh := half_eqE p q (by omega)
              generalize hv : (p + q) / 2 = v at hh
              rw [hh]
              have ev : ((mid : Int) + m - 1 - v).toNat = mid + m - 1 - v := by omega
              rw [ev]
              simp only [Int.toNat_natCast]
              exact ⟨by omega, by omega, by omega, by omega, by omega, by omega, by omega, fun g => ⟨by omega, (v + 1, q), ⟨by show a ≤ v + 1; omega, by show v + 1 ≤ q; omega, i3, .inr (by show ltE (D.getD (mid + m - (v + 1)) noEnt) (D.getD (v + 1 - 1) noEnt) = false; rw [show mid + m - (v + 1) = mid + m - 1 - v by omega]; simpa using g), i5⟩, by show q - (v + 1) < q - p; omega, by show (v : Int) + 1 = ((v + 1 : Nat) : Int); omega, rfl⟩, fun g => ⟨(p, v), ⟨i1, by show p ≤ v; omega, by show v ≤ m; omega, i4, .inr (by simpa using g)⟩, by show v - p < q - p; omega, rfl, rfl⟩⟩
            · have hpq : p = q := by omega
              subst hpq
              obtain ⟨e, he⟩ : ∃ e : Nat, e = mid + m - p := ⟨_, rfl⟩
              have he2 : (mid : Int) + m - p = (e : Int) := by omega
              have hmid : a ≤ mid ∧ mid < b := by omega
              rw [he2]
              simp only [Int.toNat_natCast]
              have c1 : p ≤ a ∨ b ≤ e ∨ ltE (D.getD e noEnt) (D.getD (p - 1) noEnt) = false := by
                rcases i4 with z | z
                · omega
                · rw [he]; exact .inr (.inr z)
              have c2 : m ≤ p ∨ e ≤ m ∨ ltE (D.getD (e - 1) noEnt) (D.getD p noEnt) = true := by
                rcases i5 with z | z
                · omega
                · rw [show e - 1 = mid + m - 1 - p by omega]; exact .inr (.inr z)
              have mrg := mrg_all keyE noEnt (D := D) (a := a) (s := p) (m := m) (e := e) (b := b) (mid := mid) (by omega) (by omega) (by omega) (by omega) (by omega) (by omega) hX hY c1 c2
              refine ⟨by omega, fun A => ⟨by omega, ?_⟩, fun A => ?_⟩
              · have hA : mrg1 D p m e = rotL D p m e := if_pos ⟨by omega, by omega⟩
                rw [hA] at mrg
                generalize rotL D p m e = R at *
                refine ⟨fun B => ?_, fun B => ?_⟩
                · have hB : mrg2 ltE noEnt R a p mid = insD ltE noEnt R a mid := if_pos ⟨by omega, by omega⟩
                  rw [hB] at mrg
                  obtain ⟨r1, r2, r3, r4, r5, r6, r7⟩ := mrg
                  try rw [e1 R r1]
                  generalize insD ltE noEnt R a mid = R2 at *
                  refine ⟨⟨by first | exact e2 R r1 | omega, ?_⟩, fun C => ?_, fun C => ?_⟩
                  · exact ⟨by omega, by omega, by omega, by omega, by omega, r2, r3⟩
                  · have hC : mrg2 ltE noEnt R2 mid e b = insD ltE noEnt R2 mid b := if_pos ⟨by omega, by omega⟩
                    rw [hC] at r7
                    rw [e1 R2 r4]
                    refine ⟨⟨e2 R2 r4, by omega, by omega, by omega, by omega, by omega, r5, r6⟩, ?_⟩
                    rw [r7]; exact fun i hi => rfl
                  · have hC : mrg2 ltE noEnt R2 mid e b = R2 := if_neg (by omega)
                    rw [hC] at r7
                    rw [r7]; exact fun i hi => rfl
                · have hB : mrg2 ltE noEnt R a p mid = R := if_neg (by omega)
                  rw [hB] at mrg
                  obtain ⟨r1, r2, r3, r4, r5, r6, r7⟩ := mrg
                  refine ⟨fun C => ?_, fun C => ?_⟩
                  · have hC : mrg2 ltE noEnt R mid e b = insD ltE noEnt R mid b := if_pos ⟨by omega, by omega⟩
                    rw [hC] at r7
                    try rw [e1 R r1]
                    refine ⟨⟨e2 R r1, by omega, by omega, by omega, by omega, by omega, r5, r6⟩, ?_⟩
                    rw [r7]; exact fun i hi => rfl
                  · have hC : mrg2 ltE noEnt R mid e b = R := if_neg (by omega)
                    rw [hC] at r7
                    rw [r7]; exact fun i hi => rfl
              · have hA : mrg1 D p m e = D := if_neg (by omega)
                rw [hA] at mrg
                refine ⟨fun B => ?_, fun B => ?_⟩
                · have hB : mrg2 ltE noEnt D a p mid = insD ltE noEnt D a mid := if_pos ⟨by omega, by omega⟩
                  rw [hB] at mrg
                  obtain ⟨r1, r2, r3, r4, r5, r6, r7⟩ := mrg
                  try rw [e1 D r1]
                  generalize insD ltE noEnt D a mid = R2 at *
                  refine ⟨⟨by first | exact e2 D r1 | omega, ?_⟩, fun C => ?_, fun C => ?_⟩
                  · exact ⟨by omega, by omega, by omega, by omega, r2, r3⟩
                  · have hC : mrg2 ltE noEnt R2 mid e b = insD ltE noEnt R2 mid b := if_pos ⟨by omega, by omega⟩
                    rw [hC] at r7
                    rw [e1 R2 r4]
                    refine ⟨⟨e2 R2 r4, by omega, by omega, by omega, by omega, by omega, r5, r6⟩, ?_⟩
                    rw [r7]; exact fun i hi => rfl
                  · have hC : mrg2 ltE noEnt R2 mid e b = R2 := if_neg (by omega)
                    rw [hC] at r7
                    rw [r7]; exact fun i hi => rfl
                · have hB : mrg2 ltE noEnt D a p mid = D := if_neg (by omega)
                  rw [hB] at mrg
                  obtain ⟨r1, r2, r3, r4, r5, r6, r7⟩ := mrg
                  refine ⟨fun C => ?_, fun C => ?_⟩
                  · have hC : mrg2 ltE noEnt D mid e b = insD ltE noEnt D mid b := if_pos ⟨by omega, by omega⟩
                    rw [hC] at r7
                    try rw [e1 D r1]
                    refine ⟨⟨by omega, by omega, by omega, by omega, by omega, r5, r6⟩, ?_⟩
                    rw [r7]; exact fun i hi => rfl
                  · have hC : mrg2 ltE noEnt D mid e b = D := if_neg (by omega)
                    rw [hC] at r7
                    have r8 : insD ltE noEnt D a b = D := r7.symm
                    rw [r8]; exact fun i hi => rfl
  · cases h

theorem conSymE (N : Nat) : FCon pg 91 (ckSymE N) := by
  induction N with
  | zero => exact conSym0E
  | succ n ih => exact conSymSE n ih

/-- the blocks of a row are sorted, each -/
def BlkSE (D : List Ent) (s lo hi : Nat) : Prop := ∀ x, s ∣ x → lo ≤ x → x < hi → SrtK ltE (sgL D x (min (x + s) D.length))
theorem dv_lt {s x a : Nat} (h1 : s ∣ x) (h2 : s ∣ a) (h : x < a) : x + s ≤ a := by
  have := Nat.le_of_dvd (by omega) (Nat.dvd_sub h2 h1)
  omega
theorem sg_nilE (D : List Ent) {a b : Nat} (h : D.length ≤ a) : sgL D a b = [] := by
  unfold sgL; rw [List.drop_eq_nil_of_le h, List.take_nil]
theorem insD_fiE {D : List Ent} {a b : Nat} (h1 : a ≤ b) (h2 : b ≤ D.length) : FiK ltE D (insD ltE noEnt D a b) := puL_fi keyE noEnt D h1 h2
theorem insD_lenE {D : List Ent} {a b : Nat} (h1 : a ≤ b) (h2 : b ≤ D.length) : (insD ltE noEnt D a b).length = D.length :=
  puL_len D _ h1 h2 (by rw [srtL_len, sgL_len D h2])
theorem insD_sgE {D : List Ent} {a b : Nat} (h1 : a ≤ b) (h2 : b ≤ D.length) : SrtK ltE (sgL (insD ltE noEnt D a b) a b) := by
  unfold insD
  rw [sgL_pu D _ (by omega) h1 (by rw [srtL_len, sgL_len D h2])]
  exact (srtL_st keyE noEnt _).1
theorem insD_loE {D : List Ent} {a b i j : Nat} (h1 : a ≤ b) (h2 : b ≤ D.length) (h : j ≤ a) : sgL (insD ltE noEnt D a b) i j = sgL D i j := sgL_pu_lo D _ h (by omega)
theorem insD_hiE {D : List Ent} {a b i j : Nat} (h1 : a ≤ b) (h2 : b ≤ D.length) (h : b ≤ i) : sgL (insD ltE noEnt D a b) i j = sgL D i j := sgL_pu_hi D _ h h1 h2 (by rw [srtL_len, sgL_len D h2])
theorem sgL_allE (D : List Ent) {n : Nat} (h : D.length ≤ n) : sgL D 0 n = D := by
  unfold sgL; rw [List.drop_zero, Nat.sub_zero, List.take_of_length_le h]
theorem sgL_endE (D : List Ent) (a : Nat) {n : Nat} (h : D.length ≤ n) : sgL D a n = sgL D a D.length := by
  unfold sgL
  rw [List.take_of_length_le (by rw [List.length_drop]; omega), List.take_of_length_le (by rw [List.length_drop]; omega)]
theorem BlkSE.step {D : List Ent} {s a b : Nat} (h : BlkSE D s 0 a) (ha : s ∣ a) (hab : a ≤ b) (hb : b ≤ D.length) (h2 : b = min (a + s) D.length) : BlkSE (insD ltE noEnt D a b) s 0 (a + s) := by
  intro x hx h0 hx2
  rw [insD_lenE hab hb]
  by_cases e : x = a
  · subst e
    rw [← h2]
    exact insD_sgE hab hb
  · have hxa : x < a := by
      refine Classical.byContradiction fun hn => ?_
      have := dv_lt ha hx (by omega)
      omega
    have := dv_lt hx ha hxa
    rw [insD_loE hab hb (by omega)]
    exact h x hx h0 hxa
theorem BlkSE.all {D : List Ent} {s a : Nat} (h : BlkSE D s 0 a) (ha : D.length ≤ a) (b : Nat) : BlkSE D s 0 b := by
  intro x hx h0 _
  by_cases e : x < a
  · exact h x hx h0 e
  · rw [sg_nilE D (by omega)]; exact SrtK.nil _
theorem BlkSE.hi {D : List Ent} {s a b : Nat} (h : BlkSE D s a D.length) (hab : a ≤ b) (hb : b ≤ D.length) : BlkSE (insD ltE noEnt D a b) s b D.length := by
  intro x hx h0 hx2
  rw [insD_lenE hab hb, insD_hiE hab hb h0]
  exact h x hx (by omega) hx2

end Go.Abs
