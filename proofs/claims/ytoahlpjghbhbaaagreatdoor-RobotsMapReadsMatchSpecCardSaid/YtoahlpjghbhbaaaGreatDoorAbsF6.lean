/- what functions of this program compute: contracts, each a function's own -/
import Derived.Test.YtoahlpjghbhbaaaGreatDoorAbsK3
import Derived.Test.YtoahlpjghbhbaaaGreatDoorAbsFacts
import Derived.Test.YtoahlpjghbhbaaaGreatDoorAbsF5
import Derived.Test.YtoahlpjghbhbaaaGreatDoorAbsShelf
import Derived.Lib.SplitLaws
import Derived.Lib.Overlaps
import Derived.Deep.AppendSrc
import Derived.Laws.NewBlocks
import Derived.WalkKit
import Derived.Lib.Walk
import Derived.Lib.AppendStr
import Derived.Lib.AppendZeros
import Derived.Lib.UnsafeStr
import Derived.Lib.Builder
import Derived.Laws.Externs
import Derived.Lib.Repeat
import Derived.Lib.ItoaLen
import Derived.Lib.SlTrimSet
import Derived.Lib.Atoi
import Derived.Lib.Itoa
import Derived.Lib.ItoaNum
import Derived.Lib.AtoiErrMem
namespace Go.Abs
open Go Go.Proofs
set_option maxHeartbeats 4000000
set_option maxRecDepth 100000
set_option linter.unusedVariables false
set_option linter.unusedSimpArgs false
def ckIsDigits4 : Ck
  | [.str s, .int .i64 n] => some (s.length ≤ 4000000, .bool (decide ((s.length : Int) = n) && s.all isDg))
  | _ => none
theorem conIsDigits4 : Con pg 74 ckIsDigits4 := by
  have hct := (ctA_ok conTrim (ctN_ok _))
  intro args q r h hq
  unfold ckIsDigits4 at h
  split at h
  · cases h
    rename_i s n
    refine w74 (fun _ => false) [] rfl hct rfl rfl ?_
    push_cast (config := { maxSteps := 10000000 })
    have t : Lib.trimS s [48, 49, 50, 51, 52, 53, 54, 55, 56, 57] = [] ↔ s.all isDg = true := trim_dig s
    have e1 : (Lib.trimS s [48, 49, 50, 51, 52, 53, 54, 55, 56, 57] == []) = s.all isDg := by rw [Bool.eq_iff_iff, beq_iff_eq]; exact t
    rw [e1]
    exact ⟨fun h => ⟨h, by omega⟩, rfl⟩
  · cases h
attribute [push_cast] ckIsDigits4
theorem dyI_pos {y m d : Int} (h : dyG y m d = true) : 1 ≤ dyI y m d := by
  unfold dyG at h
  simp only [decide_eq_true_eq] at h
  have ms := monthsSum_b y (m - 1).toNat
  unfold dyI befI; omega
def ckDayOf4 : Ck
  | [.int .i64 y, .int .i64 m, .int .i64 d] => some (0 ≤ y ∧ y ≤ 9999 ∧ 0 ≤ m ∧ m ≤ 9999 ∧ 0 ≤ d ∧ d ≤ 9999, .int .i64 (bif dyG y m d then dyI y m d else 0))
  | _ => none
theorem conDayOf4 : Con pg 75 ckDayOf4 := by
  have hct := (ctA_ok conWithin (ctA_ok conDaysOf4 (ctA_ok conBef4r (ctN_ok _))))
  intro args q r h hq
  unfold ckDayOf4 at h
  split at h
  · cases h
    rename_i y m d
    refine w75 (fun _ => false) [] rfl hct rfl rfl ?_
    push_cast (config := { maxSteps := 10000000 })
    obtain ⟨q1, q2, q3, q4, q5, q6⟩ := hq
    have mb := monthLongI_b y m
    refine ⟨fun h => ⟨h, by omega, by omega⟩, fun h => ?_, fun h => ?_⟩
    · have e : dyG y m d = false := by unfold dyG; exact decide_eq_false (by omega)
      rw [e]; rfl
    have e : dyG y m d = true := by unfold dyG; exact decide_eq_true (by omega)
    rw [e]
    have eb : 0 ≤ befI y ∧ befI y ≤ 400000000 := by unfold befI; omega
    refine ⟨⟨by omega, by omega⟩, ⟨by omega, by omega⟩, ?_⟩
    refine LoopW.adj ⟨hct, fol⟩ (by kernel_rfl) [] (fun k : Nat => [(0, .int .i64 y), (1, .int .i64 m), (7, .int .i64 (befI y + d + monthsSum y k)), (8, .int .i64 (k + 1))]) (fun _ => []) (fun k => (k : Int) + 1 ≤ m) (fun k => 12 - k) 0 ?_ fun k hk => ?_
    · push_cast (config := { maxSteps := 10000000 })
      exact ⟨by omega, by simp [monthsSum]⟩
    · have ms := monthsSum_b y k
      have mb2 := monthLongI_b y ((k : Int) + 1)
      push_cast (config := { maxSteps := 10000000 })
      refine ⟨fun h => ⟨⟨by omega, by omega⟩, ⟨by omega, by omega⟩, ⟨by omega, by omega⟩, k + 1, by omega, by omega, by simp only [monthsSum]; omega, by omega⟩, fun h => ?_⟩
      show _ = dyI y m d
      unfold dyI
      rw [show (m - 1).toNat = k by omega]
  · cases h
attribute [push_cast] ckDayOf4
theorem rwA_le {w : Bool} {s : List UInt8} {a : Nat} (h : a ≤ s.length) : a ≤ rwA w s a ∧ rwA w s a ≤ s.length := by
  have ht := txN_le h
  unfold rwA
  cases w
  · rw [cond_false]; split <;> omega
  · rw [cond_true]; omega
theorem rwT_len (w : Bool) (s : List UInt8) (a : Nat) : (rwT w s a).length ≤ s.length := by
  unfold rwT
  cases w
  · rw [cond_false]
    split
    · exact Nat.zero_le _
    · unfold cutS
      rw [List.length_take, List.length_drop]; omega
  · exact Nat.zero_le _
/-- behind a field: the place, and whether it is wrong -/
def flA (w : Bool) (s : List UInt8) (a : Nat) (ok : Bool) : Nat := bif ok || rwW w s a then rwA w s a else a
def flW (w : Bool) (s : List UInt8) (a : Nat) (ok : Bool) : Bool := rwW w s a || !ok
def ckSLcK : List V → List Blk → Option (Prop × V × List Blk)
  | [.ptr _ 0], [.cells [.str s, .int .i64 a, .bool w]] => some (s.length ≤ 4000000 ∧ 0 ≤ a ∧ a ≤ s.length, .str ((rdL (rwT w s a.toNat)).getD []), [.cells [.str s, .int .i64 (flA w s a.toNat (rdL (rwT w s a.toNat)).isSome : Nat), .bool (flW w s a.toNat (rdL (rwT w s a.toNat)).isSome)]])
  | _, _ => none
def ckSLc : Cf := ⟨fun | .ptr i _ :: _ => [i] | _ => [], ckSLcK⟩
theorem conSLc : FCon pg 42 ckSLc := by
  have hct := (ctF_ok conSRw (ctF_ok conSFl (ctA_ok conMeant (ctN_ok _))))
  intro args bs q r bs' h hq
  replace h : ckSLcK args bs = some (q, r, bs') := h
  unfold ckSLcK at h
  split at h
  · cases h
    rename_i i s a w
    refine ⟨rfl, by first | exact Nat.le_refl _ | exact Nat.zero_le _, ?_⟩
    obtain ⟨h1, h2, h3⟩ := hq
    obtain ⟨a, rfl⟩ : ∃ k : Nat, a = k := ⟨a.toNat, by omega⟩
    rw [Int.toNat_natCast]
    show FCall pg 42 [.ptr (i + 9000) 0] [(i + 9000, .cells [.str s, .int .i64 a, .bool w])] (.str ((rdL (rwT w s a)).getD [])) [(i + 9000, .cells [.str s, .int .i64 (flA w s a (rdL (rwT w s a)).isSome : Nat), .bool (flW w s a (rdL (rwT w s a)).isSome)])]
    refine fw42 (fun _ => false) [] rfl hct rfl (by simp) (by simp [hlIn, idsIn, Blk.menIn, V.menInL, V.menIn, V.flat, byF, lsF]) (by simp [V.menIn, V.menInL, idsIn]) ?_
    push_cast (config := { maxSteps := 10000000 })
    have h3 : a ≤ s.length := by omega
    have hl := rwT_len w s a
    refine ⟨⟨h1, h3⟩, by omega, fun h => ?_, fun h => ?_⟩
    · rw [h]
      unfold flA flW
      cases rwW w s a <;> exact ⟨rfl, rfl⟩
    · rw [h]
      unfold flA flW
      cases rwW w s a <;> exact ⟨rfl, rfl⟩
  · cases h
attribute [push_cast] ckSLcK
@[push_cast] theorem slc_ids (i o : Nat) (l : List V) : ckSLc.ids (.ptr i o :: l) = [i] := rfl
@[push_cast] theorem slc_k (i : Nat) (s : List UInt8) (a : Int) (w : Bool) : ckSLc.k [.ptr i 0] [.cells [.str s, .int .i64 a, .bool w]] = some (s.length ≤ 4000000 ∧ 0 ≤ a ∧ a ≤ s.length, .str ((rdL (rwT w s a.toNat)).getD []), [.cells [.str s, .int .i64 (flA w s a.toNat (rdL (rwT w s a.toNat)).isSome : Nat), .bool (flW w s a.toNat (rdL (rwT w s a.toNat)).isSome)]]) := rfl
def ckSDyK : List V → List Blk → Option (Prop × V × List Blk)
  | [.ptr _ 0], [.cells [.str s, .int .i64 a, .bool w]] => some (s.length ≤ 4000000 ∧ 0 ≤ a ∧ a ≤ s.length, .int .i64 (dyV (rwT w s a.toNat)), [.cells [.str s, .int .i64 (flA w s a.toNat (dyB (rwT w s a.toNat)) : Nat), .bool (flW w s a.toNat (dyB (rwT w s a.toNat)))]])
  | _, _ => none
def ckSDy : Cf := ⟨fun | .ptr i _ :: _ => [i] | _ => [], ckSDyK⟩
theorem conSDy : FCon pg 43 ckSDy := by
  have hct := (ctF_ok conSRw (ctF_ok conSFl (ctA_ok conIsDigits4 (ctA_ok conDayOf4 (ctA_ok conAtoi (ctN_ok _))))))
  intro args bs q r bs' h hq
  replace h : ckSDyK args bs = some (q, r, bs') := h
  unfold ckSDyK at h
  split at h
  · cases h
    rename_i i s a w
    refine ⟨rfl, by first | exact Nat.le_refl _ | exact Nat.zero_le _, ?_⟩
    obtain ⟨h1, h2, h3⟩ := hq
    obtain ⟨a, rfl⟩ : ∃ k : Nat, a = k := ⟨a.toNat, by omega⟩
    rw [Int.toNat_natCast]
    show FCall pg 43 [.ptr (i + 9000) 0] [(i + 9000, .cells [.str s, .int .i64 a, .bool w])] (.int .i64 (dyV (rwT w s a))) [(i + 9000, .cells [.str s, .int .i64 (flA w s a (dyB (rwT w s a)) : Nat), .bool (flW w s a (dyB (rwT w s a)))])]
    refine fw43 (fun _ => false) [] rfl hct rfl (by simp) (by simp [hlIn, idsIn, Blk.menIn, V.menInL, V.menIn, V.flat, byF, lsF]) (by simp [V.menIn, V.menInL, idsIn]) ?_
    push_cast (config := { maxSteps := 10000000 })
    have h3 : a ≤ s.length := by omega
    have hl := rwT_len w s a
    have fT : dyB (rwT w s a) = true → (rwA w s a = flA w s a (dyB (rwT w s a)) ∧ rwW w s a = flW w s a (dyB (rwT w s a))) := fun h => by
      rw [h]; unfold flA flW
      cases rwW w s a <;> exact ⟨rfl, rfl⟩
    have fF : dyB (rwT w s a) = false → ((bif rwW w s a then (rwA w s a : Int) else (a : Int)) = (flA w s a (dyB (rwT w s a)) : Nat) ∧ true = flW w s a (dyB (rwT w s a))) := fun h => by
      rw [h]; unfold flA flW
      cases rwW w s a <;> exact ⟨rfl, rfl⟩
    generalize rwT w s a = T at *
    have e4 : ((T.getD 4 0).toNat : Int) = 45 ↔ T.getD 4 0 = 45 := ⟨fun h => UInt8.toNat_inj.1 (show (T.getD 4 0).toNat = 45 by omega), fun h => by rw [h]; rfl⟩
    have e7 : ((T.getD 7 0).toNat : Int) = 45 ↔ T.getD 7 0 = 45 := ⟨fun h => UInt8.toNat_inj.1 (show (T.getD 7 0).toNat = 45 by omega), fun h => by rw [h]; rfl⟩
    refine ⟨⟨h1, h3⟩, fun h => ⟨h, by omega⟩, fun h => ⟨h, by omega⟩, fun h => ⟨h, by omega⟩, fun h => ⟨h, by omega, by omega⟩, fun h => ⟨h, by omega⟩, fun h => ⟨h, by omega⟩, fun h => ⟨h, by omega⟩, fun h => ⟨h, by omega⟩, fun h => ?_, fun h => ?_⟩
    · obtain ⟨⟨⟨g1, g2⟩, g3⟩, g4, g5⟩ := h
      rw [List.all_append, List.all_append, Bool.and_eq_true, Bool.and_eq_true] at g5
      obtain ⟨⟨a1, a2⟩, a3⟩ := g5
      have g1 : T.length = 10 := by omega
      have n1 := natOf_lt _ a1
      have n2 := natOf_lt _ a2
      have n3 := natOf_lt _ a3
      rw [List.length_take, g1, show (10 : Nat) ^ min 4 10 = 10000 from rfl] at n1
      rw [List.length_take, List.length_drop, g1, show (10 : Nat) ^ min 2 (10 - 5) = 100 from rfl] at n2
      rw [List.length_drop, g1, show (10 : Nat) ^ (10 - 8) = 100 from rfl] at n3
      have eB : dyB T = dyG (natOf (T.take 4)) (natOf ((T.drop 5).take 2)) (natOf (T.drop 8)) := by
        unfold dyB dyF
        rw [decide_eq_true g1, decide_eq_true (e4.1 g2), decide_eq_true (e7.1 g3), a1, a2, a3]; rfl
      have eV : (bif dyG (natOf (T.take 4)) (natOf ((T.drop 5).take 2)) (natOf (T.drop 8)) then dyI (natOf (T.take 4)) (natOf ((T.drop 5).take 2)) (natOf (T.drop 8)) else 0) = dyV T := by
        unfold dyV; rw [eB]; rfl
      rw [eV]
      refine ⟨by omega, ⟨by omega, by omega, a1⟩, ⟨by omega, by omega⟩, ⟨by omega, by omega, a2⟩, by omega, ⟨by omega, by omega, a3⟩, ⟨by omega, by omega, by omega⟩, fun z => ⟨rfl, fF ?_⟩, fun z => ⟨rfl, fT ?_⟩⟩
      · cases hb : dyB T with
        | false => rfl
        | true =>
          have p := dyI_pos (eB ▸ hb)
          rw [← eV, ← eB, hb, cond_true] at z
          omega
      · cases hb : dyB T with
        | true => rfl
        | false =>
          rw [← eV, ← eB, hb] at z
          exact absurd rfl z
    · have eB : dyB T = false := by
        unfold dyB dyF
        by_cases g1 : T.length = 10
        · by_cases g2 : T.getD 4 0 = 45
          · by_cases g3 : T.getD 7 0 = 45
            · have hh := h ⟨⟨by omega, e4.2 g2⟩, e7.2 g3⟩ (by omega)
              rw [List.all_append, List.all_append] at hh
              rw [decide_eq_true g1, decide_eq_true g2, decide_eq_true g3]
              simp only [Bool.true_and]
              rw [hh]; rfl
            · rw [decide_eq_false g3]; simp
          · rw [decide_eq_false g2]; simp
        · rw [decide_eq_false g1]; simp
      refine ⟨?_, fF eB⟩
      unfold dyV; rw [eB]; rfl
  · cases h
attribute [push_cast] ckSDyK
@[push_cast] theorem sdy_ids (i o : Nat) (l : List V) : ckSDy.ids (.ptr i o :: l) = [i] := rfl
@[push_cast] theorem sdy_k (i : Nat) (s : List UInt8) (a : Int) (w : Bool) : ckSDy.k [.ptr i 0] [.cells [.str s, .int .i64 a, .bool w]] = some (s.length ≤ 4000000 ∧ 0 ≤ a ∧ a ≤ s.length, .int .i64 (dyV (rwT w s a.toNat)), [.cells [.str s, .int .i64 (flA w s a.toNat (dyB (rwT w s a.toNat)) : Nat), .bool (flW w s a.toNat (dyB (rwT w s a.toNat)))]]) := rfl
theorem wt_uniq : ∀ i, i < 11 → ∀ j, j < 11 → wtL ((i : Nat) : Int) = wtL ((j : Nat) : Int) → i = j := by decide +kernel
theorem wtK_at {T : List UInt8} {k : Nat} (hk : k < 11) (h : T = wtL k) : ∀ n, n ≤ 11 → wtK T n = if k < n then (k : Int) else -1
  | 0, _ => rfl
  | n + 1, hn => by
    unfold wtK
    by_cases e : wtL ((n : Nat) : Int) = T
    · have := wt_uniq k hk n (by omega) (by rw [← h, e])
      subst this
      rw [if_pos e, if_pos (by omega)]
    · rw [if_neg e, wtK_at hk h n (by omega)]
      have : n ≠ k := fun q => e (by rw [q, h])
      by_cases g : k < n
      · rw [if_pos g, if_pos (by omega)]
      · rw [if_neg g, if_neg (by omega)]
def ckSWtK : List V → List Blk → Option (Prop × V × List Blk)
  | [.ptr _ 0], [.cells [.str s, .int .i64 a, .bool w]] => some (s.length ≤ 4000000 ∧ 0 ≤ a ∧ a ≤ s.length, .int .i64 (wtI (rwT w s a.toNat)), [.cells [.str s, .int .i64 (flA w s a.toNat (decide (0 ≤ wtI (rwT w s a.toNat))) : Nat), .bool (flW w s a.toNat (decide (0 ≤ wtI (rwT w s a.toNat))))]])
  | _, _ => none
def ckSWt : Cf := ⟨fun | .ptr i _ :: _ => [i] | _ => [], ckSWtK⟩
theorem conSWt : FCon pg 44 ckSWt := by
  have hct := (ctF_ok conSRw (ctF_ok conSFl (ctA_ok conWt4 (ctN_ok _))))
  intro args bs q r bs' h hq
  replace h : ckSWtK args bs = some (q, r, bs') := h
  unfold ckSWtK at h
  split at h
  · cases h
    rename_i i s a w
    refine ⟨rfl, by first | exact Nat.le_refl _ | exact Nat.zero_le _, ?_⟩
    obtain ⟨h1, h2, h3⟩ := hq
    obtain ⟨a, rfl⟩ : ∃ k : Nat, a = k := ⟨a.toNat, by omega⟩
    rw [Int.toNat_natCast]
    show FCall pg 44 [.ptr (i + 9000) 0] [(i + 9000, .cells [.str s, .int .i64 a, .bool w])] (.int .i64 (wtI (rwT w s a))) [(i + 9000, .cells [.str s, .int .i64 (flA w s a (decide (0 ≤ wtI (rwT w s a))) : Nat), .bool (flW w s a (decide (0 ≤ wtI (rwT w s a))))])]
    refine fw44 (fun _ => false) [] rfl hct rfl (by simp) (by simp [hlIn, idsIn, Blk.menIn, V.menInL, V.menIn, V.flat, byF, lsF]) (by simp [V.menIn, V.menInL, idsIn]) ?_
    push_cast (config := { maxSteps := 10000000 })
    have h3 : a ≤ s.length := by omega
    have hl := rwT_len w s a
    refine ⟨⟨h1, h3⟩, ?_⟩
    refine LoopW.adj ⟨hct, fol⟩ (by kernel_rfl) [] (fun k : Nat => [(0, .ptr (i + 9000) 0), (3, .int .i64 a), (4, .str (rwT w s a)), (12, .int .i64 k)]) (fun k => [(i + 9000, .cells [.str s, .int .i64 (rwA w s a : Nat), .bool (rwW w s a)])]) (fun k => k ≤ 11 ∧ wtK (rwT w s a) k = -1) (fun k => 11 - k) 0 ?_ fun k hk => ?_
    · push_cast (config := { maxSteps := 10000000 })
      rfl
    · obtain ⟨k1, k2⟩ := hk
      push_cast (config := { maxSteps := 10000000 })
      refine ⟨fun h => ⟨by omega, fun e => ?_, fun e => ⟨⟨by omega, by omega⟩, k + 1, ⟨by omega, ?_⟩, by omega, by omega⟩⟩, fun h => ?_⟩
      · have e1 : wtI (rwT w s a) = k := by
          unfold wtI
          rw [wtK_at (by omega) e 11 (Nat.le_refl _), if_pos (by omega)]
        rw [e1, decide_eq_true (by omega)]
        unfold flA flW
        refine ⟨rfl, ?_, ?_⟩
        · cases rwW w s a <;> rfl
        · cases rwW w s a <;> rfl
      · unfold wtK
        rw [if_neg (fun q => e q.symm)]; exact k2
      · obtain rfl : k = 11 := by omega
        have e1 : wtI (rwT w s a) = -1 := k2
        rw [e1, decide_eq_false (by omega)]
        unfold flA flW
        refine ⟨rfl, ?_, ?_⟩
        · cases rwW w s a <;> rfl
        · cases rwW w s a <;> rfl
  · cases h
attribute [push_cast] ckSWtK
@[push_cast] theorem swt_ids (i o : Nat) (l : List V) : ckSWt.ids (.ptr i o :: l) = [i] := rfl
@[push_cast] theorem swt_k (i : Nat) (s : List UInt8) (a : Int) (w : Bool) : ckSWt.k [.ptr i 0] [.cells [.str s, .int .i64 a, .bool w]] = some (s.length ≤ 4000000 ∧ 0 ≤ a ∧ a ≤ s.length, .int .i64 (wtI (rwT w s a.toNat)), [.cells [.str s, .int .i64 (flA w s a.toNat (decide (0 ≤ wtI (rwT w s a.toNat))) : Nat), .bool (flW w s a.toNat (decide (0 ≤ wtI (rwT w s a.toNat))))]]) := rfl

/-- a field and the tag behind it: whether it is wrong then, the place -/
def fdR (k : Nat) (s e : List UInt8) (a : Nat) : Bool × Nat :=
  (ndW (flW false s a (clO k (rwT false s a))) (whG s (flA false s a (clO k (rwT false s a))) [e] 0 0), ndA (flW false s a (clO k (rwT false s a))) (flA false s a (clO k (rwT false s a))) (whG s (flA false s a (clO k (rwT false s a))) [e] 0 0))
def tgP (one : List UInt8) (p : Nat) : List (List UInt8) := match p with
  | 3 => [wEnd one, wDay, wWt]
  | 2 => [wEnd one, wWt]
  | _ => [wEnd one]
@[push_cast] theorem tgP_1 (one : List UInt8) : tgP one 1 = [wEnd one] := rfl
@[push_cast] theorem tgP_2 (one : List UInt8) : tgP one 2 = [wEnd one, wWt] := rfl
@[push_cast] theorem tgP_3 (one : List UInt8) : tgP one 3 = [wEnd one, wDay, wWt] := rfl
@[push_cast] theorem isLs_f1 (a : List UInt8) : isLs cStr 1 (lsF cStr [a]) = True := eq_true (isLs_ls (c := cStr) [a])
@[push_cast] theorem isLs_f2 (a b : List UInt8) : isLs cStr 2 (lsF cStr [a, b]) = True := eq_true (isLs_ls (c := cStr) [a, b])
@[push_cast] theorem isLs_f3 (a b c : List UInt8) : isLs cStr 3 (lsF cStr [a, b, c]) = True := eq_true (isLs_ls (c := cStr) [a, b, c])
@[push_cast] theorem lsOf_f1 (a : List UInt8) : lsOf cStr 1 (lsF cStr [a]) = [a] := lsOf_ls (c := cStr) [a]
@[push_cast] theorem lsOf_f2 (a b : List UInt8) : lsOf cStr 2 (lsF cStr [a, b]) = [a, b] := lsOf_ls (c := cStr) [a, b]
@[push_cast] theorem lsOf_f3 (a b c : List UInt8) : lsOf cStr 3 (lsF cStr [a, b, c]) = [a, b, c] := lsOf_ls (c := cStr) [a, b, c]
theorem wWt_neD : wWt ≠ wDay := by decide
theorem wEnd_neD (one : List UInt8) : wEnd one ≠ wDay := fun h => by
  have h : (60 :: 47 :: (one ++ [62]) : List UInt8) = 60 :: 108 :: [97, 115, 116, 109, 111, 100, 62] := h
  injection h with _ h; injection h with h _; cases h
theorem wEnd_neW (one : List UInt8) : wEnd one ≠ wWt := fun h => by
  have h : (60 :: 47 :: (one ++ [62]) : List UInt8) = 60 :: 112 :: [114, 105, 111, 114, 105, 116, 121, 62] := h
  injection h with _ h; injection h with h _; cases h
theorem flA_le {w : Bool} {s : List UInt8} {a : Nat} {ok : Bool} (h : a ≤ s.length) : flA w s a ok ≤ s.length := by
  have ra := rwA_le (w := w) h
  unfold flA
  cases (ok || rwW w s a)
  · exact h
  · exact ra.2
theorem ndA_le {w : Bool} {s : List UInt8} {a : Nat} {l : List (List UInt8)} (h : a ≤ s.length) : ndA w a (whG s a l 0 0) ≤ s.length := by
  have := whG_le h l 0 0 (by omega)
  unfold ndA
  cases w
  · exact this.2.1
  · exact h
theorem fdR_le {k : Nat} {s e : List UInt8} {a : Nat} (h : a ≤ s.length) : (fdR k s e a).2 ≤ s.length := ndA_le (flA_le h)
/-- the rest of an entry: p says which tags may stand there -/
def rs1 (s one : List UInt8) (w : Bool) (a : Nat) (x : Ent) : Bool × Nat × Ent :=
  bif w then (true, a, x) else (decide ((whL s a [wEnd one]).1 < 0), (whL s a [wEnd one]).2, x)
def rs2 (s one : List UInt8) (w : Bool) (a : Nat) (x : Ent) : Bool × Nat × Ent :=
  bif w then (true, a, x) else if (whL s a [wEnd one, wWt]).1 = 1 then rs1 s one (fdR 3 s wWt' (whL s a [wEnd one, wWt]).2).1 (fdR 3 s wWt' (whL s a [wEnd one, wWt]).2).2 (clX 3 (rwT false s (whL s a [wEnd one, wWt]).2) x)
    else (decide ((whL s a [wEnd one, wWt]).1 < 0), (whL s a [wEnd one, wWt]).2, x)
def rs3 (s one : List UInt8) (w : Bool) (a : Nat) (x : Ent) : Bool × Nat × Ent :=
  bif w then (true, a, x) else if (whL s a [wEnd one, wDay, wWt]).1 = 1 then rs2 s one (fdR 2 s wDay' (whL s a [wEnd one, wDay, wWt]).2).1 (fdR 2 s wDay' (whL s a [wEnd one, wDay, wWt]).2).2 (clX 2 (rwT false s (whL s a [wEnd one, wDay, wWt]).2) x)
    else if (whL s a [wEnd one, wDay, wWt]).1 = 2 then rs1 s one (fdR 3 s wWt' (whL s a [wEnd one, wDay, wWt]).2).1 (fdR 3 s wWt' (whL s a [wEnd one, wDay, wWt]).2).2 (clX 3 (rwT false s (whL s a [wEnd one, wDay, wWt]).2) x)
    else (decide ((whL s a [wEnd one, wDay, wWt]).1 < 0), (whL s a [wEnd one, wDay, wWt]).2, x)
def rsR (s one : List UInt8) (p : Nat) (w : Bool) (a : Nat) (x : Ent) : Bool × Nat × Ent := match p with
  | 1 => rs1 s one w a x
  | 2 => rs2 s one w a x
  | _ => rs3 s one w a x
theorem rsR_t (s one : List UInt8) (p a : Nat) (x : Ent) : rsR s one p true a x = (true, a, x) := by
  unfold rsR
  split <;> rfl
/-- an entry, as the reference reads it: wrong, the place, the entry -/
def enR (s one : List UInt8) (a : Nat) : Bool × Nat × Ent :=
  if (whL s a [wLoc]).1 < 0 then (true, (whL s a [wLoc]).2, x00)
  else rsR s one 3 (fdR 1 s wLoc' (whL s a [wLoc]).2).1 (fdR 1 s wLoc' (whL s a [wLoc]).2).2 (clX 1 (rwT false s (whL s a [wLoc]).2) x00)
def ckSEnK : List V → List Blk → Option (Prop × V × List Blk)
  | [.ptr _ 0, .str one, .bool _], [.cells [.str s, .int .i64 a, .bool w]] => some (one.length ≤ 1000 ∧ s.length ≤ 4000000 ∧ 0 ≤ a ∧ a ≤ s.length ∧ w = false, cEnt.enc (enR s one a.toNat).2.2, [.cells [.str s, .int .i64 ((enR s one a.toNat).2.1 : Nat), .bool (enR s one a.toNat).1]])
  | _, _ => none
def ckSEn : Cf := ⟨fun | .ptr i _ :: _ => [i] | _ => [], ckSEnK⟩
theorem conSEn : FCon pg 19 ckSEn := by
  have hct := (ctF_ok conSNx (ctF_ok conSNd (ctF_ok conSLc (ctF_ok conSDy (ctF_ok conSWt (ctN_ok _))))))
  intro args bs q r bs' h hq
  replace h : ckSEnK args bs = some (q, r, bs') := h
  unfold ckSEnK at h
  split at h
  · cases h
    rename_i i one b s a w
    refine ⟨rfl, by first | exact Nat.le_refl _ | exact Nat.zero_le _, ?_⟩
    obtain ⟨h0, h1, h2, h3, rfl⟩ := hq
    obtain ⟨a, rfl⟩ : ∃ k : Nat, a = k := ⟨a.toNat, by omega⟩
    rw [Int.toNat_natCast]
    show FCall pg 19 [.ptr (i + 9000) 0, .str one, .bool b] [(i + 9000, .cells [.str s, .int .i64 a, .bool false])] (cEnt.enc (enR s one a).2.2) [(i + 9000, .cells [.str s, .int .i64 ((enR s one a).2.1 : Nat), .bool (enR s one a).1])]
    refine fw19 (fun _ => false) [] rfl hct rfl (by simp) (by simp [hlIn, idsIn, Blk.menIn, V.menInL, V.menIn, V.flat, byF, lsF]) rfl ?_
    push_cast (config := { maxSteps := 10000000 })
    have h3 : a ≤ s.length := by omega
    have b1 := whL_le h3 [wLoc]
    have eR : enR s one a = if (whL s a [wLoc]).1 < 0 then (true, (whL s a [wLoc]).2, x00) else rsR s one 3 (fdR 1 s wLoc' (whL s a [wLoc]).2).1 (fdR 1 s wLoc' (whL s a [wLoc]).2).2 (clX 1 (rwT false s (whL s a [wLoc]).2) x00) := rfl
    rw [show ([60, 108, 111, 99, 62] : List UInt8) = wLoc from rfl]
    generalize enR s one a = R at *
    generalize whL s a [wLoc] = W at *
    refine ⟨⟨h1, h3⟩, fun g => ?_, fun g => ?_⟩
    · have g0 : ¬ W.1 < 0 := of_decide_eq_false g
      rw [if_neg g0] at eR
      rw [g]
      have ra := rwA_le (w := false) b1.2.1
      have fa : flA false s W.2 (rdL (rwT false s W.2)).isSome ≤ s.length := by
        unfold flA
        cases ((rdL (rwT false s W.2)).isSome || rwW false s W.2)
        · exact b1.2.1
        · exact ra.2
      refine ⟨⟨h1, b1.2.1⟩, ⟨h1, fa⟩, by omega, by omega, ?_⟩
      refine LoopW.adj ⟨hct, fol⟩ (by kernel_rfl) [] (fun x : Nat × Bool × Nat × Ent => [(0, .ptr (i + 9000) 0), (6, .ptr 6 0), (7, .ptr 7 0), (8, .str (wEnd one)), (9, .sl (tgP one x.1).length (lsF cStr (tgP one x.1)))]) (fun x => [(6, .cells [.str [], .int .i64 0, .int .i64 0]), (7, .cells [.str x.2.2.2.loc, .int .i64 x.2.2.2.day, .int .i64 x.2.2.2.wt]), (i + 9000, .cells [.str s, .int .i64 x.2.2.1, .bool x.2.1])]) (fun x => 1 ≤ x.1 ∧ x.1 ≤ 3 ∧ x.2.2.1 ≤ s.length ∧ rsR s one x.1 x.2.1 x.2.2.1 x.2.2.2 = R) (fun x => x.1) (3, (fdR 1 s wLoc' W.2).1, (fdR 1 s wLoc' W.2).2, clX 1 (rwT false s W.2) x00) ?_ fun x hx => ?_
      · push_cast (config := { maxSteps := 10000000 })
        refine ⟨⟨fdR_le b1.2.1, eR.symm⟩, ⟨rfl, fun j hj => ?_⟩, ⟨rfl, rfl, rfl⟩, rfl, rfl⟩
        obtain rfl | rfl | rfl : j = 0 ∨ j = 1 ∨ j = 2 := by omega
        · rfl
        · rfl
        · rfl
      · obtain ⟨p, w, c, x⟩ := x
        obtain ⟨p1, p2, p3, p4⟩ := hx
        have p1 : 1 ≤ p := p1
        have p2 : p ≤ 3 := p2
        have p3 : c ≤ s.length := p3
        have p4 : rsR s one p w c x = R := p4
        have nD := wEnd_neD one
        have nW := wEnd_neW one
        cases w
        · obtain rfl | rfl | rfl : p = 1 ∨ p = 2 ∨ p = 3 := by omega
          · have hW := whL_le p3 [wEnd one]
            have p4 : (decide ((whL s c [wEnd one]).1 < 0), (whL s c [wEnd one]).2, x) = R := p4
            have l1 : ([wEnd one] : List (List UInt8)).length = 1 := rfl
            push_cast (config := { maxSteps := 10000000 })
            rw [show ([60, 108, 97, 115, 116, 109, 111, 100, 62] : List UInt8) = wDay from rfl, show ([60, 112, 114, 105, 111, 114, 105, 116, 121, 62] : List UInt8) = wWt from rfl]
            generalize whL s c [wEnd one] = W at *
            have i0 : ndI false W = 0 := by
              unfold ndI
              rw [cond_false]
              split <;> omega
            subst p4
            rw [i0]
            refine ⟨⟨h1, p3⟩, ⟨by omega, by omega⟩, fun q => absurd q nD, fun _ => ⟨fun q => absurd q nW, fun _ => ?_⟩⟩
            exact ⟨⟨rfl, rfl, rfl⟩, rfl, rfl⟩
          · push_cast (config := { maxSteps := 10000000 })
            have hW := whL_le p3 [wEnd one, wWt]
            have p4 : (if (whL s c [wEnd one, wWt]).1 = 1 then rs1 s one (fdR 3 s wWt' (whL s c [wEnd one, wWt]).2).1 (fdR 3 s wWt' (whL s c [wEnd one, wWt]).2).2 (clX 3 (rwT false s (whL s c [wEnd one, wWt]).2) x) else (decide ((whL s c [wEnd one, wWt]).1 < 0), (whL s c [wEnd one, wWt]).2, x)) = R := p4
            have l1 : ([wEnd one, wWt] : List (List UInt8)).length = 2 := rfl
            push_cast (config := { maxSteps := 10000000 })
            rw [show ([60, 108, 97, 115, 116, 109, 111, 100, 62] : List UInt8) = wDay from rfl, show ([60, 112, 114, 105, 111, 114, 105, 116, 121, 62] : List UInt8) = wWt from rfl]
            generalize whL s c [wEnd one, wWt] = W at *
            by_cases h : W.1 = 1
            · have i1 : ndI false W = 1 := by
                unfold ndI
                rw [cond_false, if_neg (by omega), h]
              have w0 : ndW false W = false := decide_eq_false (by omega)
              rw [if_pos h] at p4
              rw [i1, w0]
              refine ⟨⟨h1, p3⟩, ⟨by decide, by decide⟩, fun q => absurd q wWt_neD, fun _ => ⟨fun _ => ⟨fun _ => ⟨⟨h1, hW.2.1⟩, ⟨h1, flA_le hW.2.1⟩, (1, (fdR 3 s wWt' W.2).1, (fdR 3 s wWt' W.2).2, clX 3 (rwT false s W.2) x), ⟨Nat.le_refl 1, (by show 1 ≤ 3; omega), fdR_le hW.2.1, p4⟩, (by show 1 < 2; omega), ⟨rfl, fun j hj => ?_⟩, ⟨rfl, rfl, rfl⟩, rfl, rfl⟩, fun q => by cases q⟩, fun q => absurd rfl q⟩⟩
              obtain rfl : j = 0 := by omega
              rfl
            · have i0 : ndI false W = 0 := by
                unfold ndI
                rw [cond_false]
                split <;> omega
              rw [if_neg h] at p4
              subst p4
              rw [i0]
              refine ⟨⟨h1, p3⟩, ⟨by omega, by omega⟩, fun q => absurd q nD, fun _ => ⟨fun q => absurd q nW, fun _ => ⟨⟨rfl, rfl, rfl⟩, rfl, rfl⟩⟩⟩
          · have hW := whL_le p3 [wEnd one, wDay, wWt]
            have p4 : (if (whL s c [wEnd one, wDay, wWt]).1 = 1 then rs2 s one (fdR 2 s wDay' (whL s c [wEnd one, wDay, wWt]).2).1 (fdR 2 s wDay' (whL s c [wEnd one, wDay, wWt]).2).2 (clX 2 (rwT false s (whL s c [wEnd one, wDay, wWt]).2) x) else if (whL s c [wEnd one, wDay, wWt]).1 = 2 then rs1 s one (fdR 3 s wWt' (whL s c [wEnd one, wDay, wWt]).2).1 (fdR 3 s wWt' (whL s c [wEnd one, wDay, wWt]).2).2 (clX 3 (rwT false s (whL s c [wEnd one, wDay, wWt]).2) x) else (decide ((whL s c [wEnd one, wDay, wWt]).1 < 0), (whL s c [wEnd one, wDay, wWt]).2, x)) = R := p4
            have l1 : ([wEnd one, wDay, wWt] : List (List UInt8)).length = 3 := rfl
            push_cast (config := { maxSteps := 10000000 })
            rw [show ([60, 108, 97, 115, 116, 109, 111, 100, 62] : List UInt8) = wDay from rfl, show ([60, 112, 114, 105, 111, 114, 105, 116, 121, 62] : List UInt8) = wWt from rfl]
            generalize whL s c [wEnd one, wDay, wWt] = W at *
            by_cases h : W.1 = 1
            · have i1 : ndI false W = 1 := by
                unfold ndI
                rw [cond_false, if_neg (by omega), h]
              have w0 : ndW false W = false := decide_eq_false (by omega)
              rw [if_pos h] at p4
              rw [i1, w0]
              refine ⟨⟨h1, p3⟩, ⟨by decide, by decide⟩, fun _ => ⟨fun _ => ⟨⟨h1, hW.2.1⟩, ⟨h1, flA_le hW.2.1⟩, (2, (fdR 2 s wDay' W.2).1, (fdR 2 s wDay' W.2).2, clX 2 (rwT false s W.2) x), ⟨(by show 1 ≤ 2; omega), (by show 2 ≤ 3; omega), fdR_le hW.2.1, p4⟩, (by show 2 < 3; omega), ⟨rfl, fun j hj => ?_⟩, ⟨rfl, rfl, rfl⟩, rfl, rfl⟩, fun q => by cases q⟩, fun q => absurd rfl q⟩
              obtain rfl | rfl : j = 0 ∨ j = 1 := by omega
              · rfl
              · rfl
            · rw [if_neg h] at p4
              by_cases h2 : W.1 = 2
              · have i1 : ndI false W = 2 := by
                  unfold ndI
                  rw [cond_false, if_neg (by omega), h2]
                have w0 : ndW false W = false := decide_eq_false (by omega)
                rw [if_pos h2] at p4
                rw [i1, w0]
                refine ⟨⟨h1, p3⟩, ⟨by decide, by decide⟩, fun q => absurd q wWt_neD, fun _ => ⟨fun _ => ⟨fun _ => ⟨⟨h1, hW.2.1⟩, ⟨h1, flA_le hW.2.1⟩, (1, (fdR 3 s wWt' W.2).1, (fdR 3 s wWt' W.2).2, clX 3 (rwT false s W.2) x), ⟨Nat.le_refl 1, (by show 1 ≤ 3; omega), fdR_le hW.2.1, p4⟩, (by show 1 < 3; omega), ⟨rfl, fun j hj => ?_⟩, ⟨rfl, rfl, rfl⟩, rfl, rfl⟩, fun q => by cases q⟩, fun q => absurd rfl q⟩⟩
                obtain rfl : j = 0 := by omega
                rfl
              · have i0 : ndI false W = 0 := by
                  unfold ndI
                  rw [cond_false]
                  split <;> omega
                rw [if_neg h2] at p4
                subst p4
                rw [i0]
                refine ⟨⟨h1, p3⟩, ⟨by omega, by omega⟩, fun q => absurd q nD, fun _ => ⟨fun q => absurd q nW, fun _ => ⟨⟨rfl, rfl, rfl⟩, rfl, rfl⟩⟩⟩
        · rw [rsR_t] at p4
          subst p4
          push_cast (config := { maxSteps := 10000000 })
    · have g0 : W.1 < 0 := of_decide_eq_true g
      rw [if_pos g0] at eR
      rw [g]
      refine ⟨⟨h1, b1.2.1⟩, by omega, by omega, ?_⟩
      refine LoopW.adj ⟨hct, fol⟩ (by kernel_rfl) [] (fun _ : Unit => [(0, .ptr (i + 9000) 0), (6, .ptr 6 0), (7, .ptr 7 0)]) (fun _ => [(6, .cells [.str [], .int .i64 0, .int .i64 0]), (7, .cells [.str [], .int .i64 0, .int .i64 (-1)]), (i + 9000, .cells [.str s, .int .i64 W.2, .bool true])]) (fun _ => True) (fun _ => 0) () ?_ fun _ _ => ?_
      · push_cast (config := { maxSteps := 10000000 })
        exact ⟨rfl, rfl⟩
      · subst eR
        push_cast (config := { maxSteps := 10000000 })
        exact ⟨rfl, rfl, rfl⟩
  · cases h
attribute [push_cast] ckSEnK
@[push_cast] theorem sen_ids (i o : Nat) (l : List V) : ckSEn.ids (.ptr i o :: l) = [i] := rfl
@[push_cast] theorem sen_k (i : Nat) (s one : List UInt8) (a : Int) (b w : Bool) : ckSEn.k [.ptr i 0, .str one, .bool b] [.cells [.str s, .int .i64 a, .bool w]] = some (one.length ≤ 1000 ∧ s.length ≤ 4000000 ∧ 0 ≤ a ∧ a ≤ s.length ∧ w = false, cEnt.enc (enR s one a.toNat).2.2, [.cells [.str s, .int .i64 ((enR s one a.toNat).2.1 : Nat), .bool (enR s one a.toNat).1]]) := rfl

theorem fdR_eq {k : Nat} {s e : List UInt8} {a : Nat} (h : a ≤ s.length) : fdR k s e a = (!fdB k s e a, fdA k s e a) := by
  by_cases g : Lib.indexByte (s.drop a) 60 < 0
  · have eT : rwT false s a = [] := by unfold rwT; rw [cond_false, if_pos g]
    have eA : rwA false s a = s.length := by unfold rwA; rw [cond_false, if_pos g]
    have eW : rwW false s a = true := by unfold rwW; rw [decide_eq_true g]; rfl
    have eX : txN s a = s.length - a := by unfold txN; rw [if_pos g]
    have eE : fdE s a = true := by unfold fdE; rw [eX]; exact decide_eq_true (by omega)
    unfold fdR fdB fdA flA flW
    rw [eW, eA, eE, Bool.or_true]
    rfl
  · have eT : rwT false s a = cutS s a (txN s a) := by unfold rwT; rw [cond_false, if_neg g]
    have eA : rwA false s a = a + txN s a := by unfold rwA; rw [cond_false, if_neg g]
    have eW : rwW false s a = false := by unfold rwW; rw [decide_eq_false g]; rfl
    have eE : fdE s a = false := by
      unfold fdE txN
      rw [if_neg g]
      obtain ⟨n, hn⟩ := Int.eq_ofNat_of_zero_le (show 0 ≤ Lib.indexByte (s.drop a) 60 by omega)
      have := (idx_at hn).1
      rw [List.length_drop] at this
      rw [hn, Int.toNat_natCast]
      exact decide_eq_false (by omega)
    unfold fdR fdB fdA flA flW
    rw [eW, eA, eE, eT]
    generalize cutS s a (txN s a) = T
    generalize txN s a = x
    cases clO k T
    · rfl
    · have e1 : whG s (a + x) [e] 0 0 = if mtN e (s.drop (a + x)) = e.length then ((0 : Int), a + x + e.length) else (-1, a + x + max 0 (mtN e (s.drop (a + x)))) := rfl
      simp only [Bool.or_false, cond_true, Bool.not_true, cond_false, Bool.not_false, Bool.true_and]
      rw [e1]
      by_cases q : mtN e (s.drop (a + x)) = e.length
      · rw [if_pos q, decide_eq_true q, q]; rfl
      · rw [if_neg q, decide_eq_false q, Nat.max_eq_right (Nat.zero_le _)]; rfl
theorem fdX_eq {k : Nat} {s e : List UInt8} {a : Nat} {x : Ent} (ha : a ≤ s.length) (h : fdB k s e a = true) : fdX k s a x = clX k (rwT false s a) x := by
  unfold fdB at h
  simp only [Bool.and_eq_true, Bool.not_eq_true', decide_eq_true_eq] at h
  obtain ⟨⟨h1, _⟩, _⟩ := h
  unfold fdX
  rw [h1, cond_false]
  have g : ¬ Lib.indexByte (s.drop a) 60 < 0 := fun g => by
    unfold fdE txN at h1
    rw [if_pos g] at h1
    exact absurd (show a + (s.length - a) = s.length by omega) (of_decide_eq_false h1)
  unfold rwT
  rw [cond_false, if_neg g]
/-- two words with different second bytes do not stand at one place -/
theorem mt_two {x y u : List UInt8} (hx : 2 ≤ x.length) (hy : 2 ≤ y.length) (hd : x.getD 1 0 ≠ y.getD 1 0) (h1 : mtN x u = x.length) : mtN y u ≠ y.length := fun h2 => by
  have p1 : hasPre u x = true := by rw [hasPre_mt, decide_eq_true h1]
  have p2 : hasPre u y = true := by rw [hasPre_mt, decide_eq_true h2]
  obtain ⟨r1, e1⟩ := hasPre_iff.1 p1
  obtain ⟨r2, e2⟩ := hasPre_iff.1 p2
  have g1 : u.getD 1 0 = x.getD 1 0 := by
    rw [e1, List.getD_eq_getElem?_getD, List.getD_eq_getElem?_getD, List.getElem?_append_left (by omega)]
  have g2 : u.getD 1 0 = y.getD 1 0 := by
    rw [e2, List.getD_eq_getElem?_getD, List.getD_eq_getElem?_getD, List.getElem?_append_left (by omega)]
  exact hd (g1 ▸ g2)
theorem wh_1 (s x : List UInt8) (b : Nat) : whG s b [x] 0 0 = if mtN x (s.drop b) = x.length then ((0 : Int), b + x.length) else (-1, b + max 0 (mtN x (s.drop b))) := rfl
theorem wh_2 (s x y : List UInt8) (b : Nat) : whG s b [x, y] 0 0 = if mtN x (s.drop b) = x.length then ((0 : Int), b + x.length) else if mtN y (s.drop b) = y.length then (1, b + y.length) else (-1, b + max (max 0 (mtN x (s.drop b))) (mtN y (s.drop b))) := rfl
theorem wh_3 (s x y z : List UInt8) (b : Nat) : whG s b [x, y, z] 0 0 = if mtN x (s.drop b) = x.length then ((0 : Int), b + x.length) else if mtN y (s.drop b) = y.length then (1, b + y.length) else if mtN z (s.drop b) = z.length then (2, b + z.length) else (-1, b + max (max (max 0 (mtN x (s.drop b))) (mtN y (s.drop b))) (mtN z (s.drop b))) := rfl
theorem wE_len (one : List UInt8) : 2 ≤ (wEnd one).length ∧ (wEnd one).getD 1 0 = 47 := ⟨by show 2 ≤ (one ++ [62]).length + 1 + 1; omega, rfl⟩
/-- the order of the words that may stand behind a place of an address -/
theorem wh_o3 (s one : List UInt8) (b : Nat) : (whG s b [wEnd one, wDay, wWt] 0 0).2 = (whG s b [wDay, wWt, wEnd one] 0 0).2 ∧ (whG s b [wEnd one, wDay, wWt] 0 0).1 = if (whG s b [wDay, wWt, wEnd one] 0 0).1 < 0 then -1 else if (whG s b [wDay, wWt, wEnd one] 0 0).1 = 0 then 1 else if (whG s b [wDay, wWt, wEnd one] 0 0).1 = 1 then 2 else 0 := by
  obtain ⟨l1, l2⟩ := wE_len one
  rw [wh_3, wh_3]
  have n1 := mt_two (x := wEnd one) (y := wDay) (u := s.drop b) l1 (by decide) (by rw [l2]; decide)
  have n2 := mt_two (x := wEnd one) (y := wWt) (u := s.drop b) l1 (by decide) (by rw [l2]; decide)
  generalize wEnd one = E at *
  by_cases g1 : mtN E (s.drop b) = E.length
  · rw [if_pos g1, if_neg (n1 g1), if_neg (n2 g1), if_pos g1]
    exact ⟨rfl, rfl⟩
  · rw [if_neg g1, if_neg g1]
    by_cases g2 : mtN wDay (s.drop b) = wDay.length
    · rw [if_pos g2, if_pos g2]; exact ⟨rfl, rfl⟩
    · rw [if_neg g2, if_neg g2]
      by_cases g3 : mtN wWt (s.drop b) = wWt.length
      · rw [if_pos g3, if_pos g3]; exact ⟨rfl, rfl⟩
      · rw [if_neg g3, if_neg g3]
        refine ⟨?_, rfl⟩
        show b + _ = b + _
        omega
theorem wh_o2 (s one : List UInt8) (b : Nat) : (whG s b [wEnd one, wWt] 0 0).2 = (whG s b [wWt, wEnd one] 0 0).2 ∧ (whG s b [wEnd one, wWt] 0 0).1 = if (whG s b [wWt, wEnd one] 0 0).1 < 0 then -1 else if (whG s b [wWt, wEnd one] 0 0).1 = 0 then 1 else 0 := by
  obtain ⟨l1, l2⟩ := wE_len one
  rw [wh_2, wh_2]
  have n2 := mt_two (x := wEnd one) (y := wWt) (u := s.drop b) l1 (by decide) (by rw [l2]; decide)
  generalize wEnd one = E at *
  by_cases g1 : mtN E (s.drop b) = E.length
  · rw [if_pos g1, if_neg (n2 g1), if_pos g1]
    exact ⟨rfl, rfl⟩
  · rw [if_neg g1, if_neg g1]
    by_cases g3 : mtN wWt (s.drop b) = wWt.length
    · rw [if_pos g3, if_pos g3]; exact ⟨rfl, rfl⟩
    · rw [if_neg g3, if_neg g3]
      refine ⟨?_, rfl⟩
      show b + _ = b + _
      omega
/-- the reference's answer for an entry is the code's -/
def samR (R C : Bool × Nat × Ent) : Prop := R.1 = !C.1 ∧ R.2.1 = C.2.1 ∧ (C.1 = true → R.2.2 = C.2.2)
theorem dec_not (z : Int) : decide (z < 0) = !decide (0 ≤ z) := by
  by_cases h : z < 0
  · rw [decide_eq_true h, decide_eq_false (by omega)]; rfl
  · rw [decide_eq_false h, decide_eq_true (by omega)]; rfl
theorem rs1_eq {s one : List UInt8} {a : Nat} {x : Ent} (h : a ≤ s.length) : samR (rs1 s one (fdR 3 s wWt' a).1 (fdR 3 s wWt' a).2 (clX 3 (rwT false s a) x)) (enT s one 1 a x) := by
  rw [fdR_eq h]
  unfold rs1 enT
  rw [if_pos rfl]
  cases hb : fdB 3 s wWt' a
  · exact ⟨rfl, rfl, fun e => by cases e⟩
  · rw [if_pos rfl]
    refine ⟨dec_not _, rfl, fun _ => ?_⟩
    exact (fdX_eq h hb).symm
theorem rs2_eq {s one : List UInt8} {a : Nat} {x : Ent} (h : a ≤ s.length) : samR (rs2 s one false a x) (enT s one (if 0 ≤ (whL s a [wWt, wEnd one]).1 then (whL s a [wWt, wEnd one]).1 + 1 else (whL s a [wWt, wEnd one]).1) (whL s a [wWt, wEnd one]).2 x) := by
  have hw := whL_le h [wWt, wEnd one]
  have l2 : ([wWt, wEnd one] : List (List UInt8)).length = 2 := rfl
  have o := wh_o2 s one (blS s a)
  change (whL s a [wEnd one, wWt]).2 = (whL s a [wWt, wEnd one]).2 ∧ (whL s a [wEnd one, wWt]).1 = (if (whL s a [wWt, wEnd one]).1 < 0 then -1 else if (whL s a [wWt, wEnd one]).1 = 0 then 1 else 0) at o
  unfold rs2
  rw [cond_false, o.1, o.2]
  generalize whL s a [wWt, wEnd one] = W at *
  by_cases g : W.1 < 0
  · rw [if_pos g, if_neg (show ¬ (-1 : Int) = 1 by omega), if_neg (show ¬ 0 ≤ W.1 by omega)]
    unfold enT
    rw [if_neg (by omega)]
    exact ⟨by rw [decide_eq_false (show ¬ 0 ≤ W.1 by omega)]; rfl, rfl, fun _ => rfl⟩
  · rw [if_neg g, if_pos (show 0 ≤ W.1 by omega)]
    by_cases g2 : W.1 = 0
    · rw [if_pos g2, if_pos rfl, g2]
      exact rs1_eq hw.2.1
    · rw [if_neg g2, if_neg (show ¬ (0 : Int) = 1 by omega)]
      unfold enT
      rw [if_neg (by omega)]
      exact ⟨by rw [decide_eq_true (show 0 ≤ W.1 + 1 by omega)]; rfl, rfl, fun _ => rfl⟩
theorem rs3_eq {s one : List UInt8} {a : Nat} {x : Ent} (h : a ≤ s.length) : samR (rs3 s one false a x) (enD s one a x) := by
  have hw := whL_le h [wDay, wWt, wEnd one]
  have l2 : ([wDay, wWt, wEnd one] : List (List UInt8)).length = 3 := rfl
  have o := wh_o3 s one (blS s a)
  change (whL s a [wEnd one, wDay, wWt]).2 = (whL s a [wDay, wWt, wEnd one]).2 ∧ (whL s a [wEnd one, wDay, wWt]).1 = (if (whL s a [wDay, wWt, wEnd one]).1 < 0 then -1 else if (whL s a [wDay, wWt, wEnd one]).1 = 0 then 1 else if (whL s a [wDay, wWt, wEnd one]).1 = 1 then 2 else 0) at o
  unfold rs3 enD
  rw [cond_false, o.1, o.2]
  generalize whL s a [wDay, wWt, wEnd one] = W at *
  have f2 := fdA_le (k := 2) (e := wDay') hw.2.1
  by_cases g : W.1 < 0
  · rw [if_pos g, if_neg (by omega), if_neg (by omega), if_neg (by omega)]
    unfold enT
    rw [if_neg (by omega)]
    exact ⟨by rw [decide_eq_false (show ¬ 0 ≤ W.1 by omega)]; rfl, rfl, fun _ => rfl⟩
  · rw [if_neg g]
    by_cases g2 : W.1 = 0
    · rw [if_pos g2, if_pos rfl, if_pos g2, fdR_eq hw.2.1]
      cases hb : fdB 2 s wDay' W.2
      · exact ⟨rfl, rfl, fun e => by cases e⟩
      · rw [if_pos rfl, fdX_eq hw.2.1 hb]
        exact rs2_eq f2.2
    · rw [if_neg g2, if_neg g2]
      by_cases g3 : W.1 = 1
      · rw [if_pos g3, if_neg (by omega), if_pos rfl, g3]
        exact rs1_eq hw.2.1
      · rw [if_neg g3, if_neg (by omega), if_neg (by omega)]
        unfold enT
        rw [if_neg g3]
        exact ⟨by rw [decide_eq_true (show 0 ≤ W.1 by omega)]; rfl, rfl, fun _ => rfl⟩
theorem enR_eq {s one : List UInt8} {a : Nat} (h : a ≤ s.length) : samR (enR s one a) (enL s one a) := by
  have hw := whL_le h [wLoc]
  have f1 := fdA_le (k := 1) (e := wLoc') hw.2.1
  unfold enR enL
  generalize whL s a [wLoc] = W at *
  by_cases g : W.1 < 0
  · rw [if_pos g, if_pos g]; exact ⟨rfl, rfl, fun e => by cases e⟩
  · rw [if_neg g, if_neg g, fdR_eq hw.2.1]
    cases hb : fdB 1 s wLoc' W.2
    · exact ⟨rfl, rfl, fun e => by cases e⟩
    · rw [if_pos rfl, fdX_eq hw.2.1 hb]
      exact rs3_eq f1.2

/-- a value that stands for a coded thing -/
def isC {α : Type} (c : Cod α) (x : V) : Prop := VLe x (c.enc (c.dec x))
theorem isC_enc {α : Type} (c : Cod α) (a : α) : isC c (c.enc a) := by unfold isC; rw [c.ok]; exact VLe.refl _
/-- strings of heads are not long -/
def hdsOk (l : List Hd) : Prop := ∀ h ∈ l, h.name.length ≤ 140737488355328 ∧ h.value.length ≤ 140737488355328
theorem hdsOk_at {l : List Hd} (h : hdsOk l) {i : Nat} (hi : i < l.length) : (l.getD i ⟨[], []⟩).name.length ≤ 140737488355328 ∧ (l.getD i ⟨[], []⟩).value.length ≤ 140737488355328 := by
  rw [List.getD_eq_getElem?_getD, List.getElem?_eq_getElem hi]; exact h _ (List.getElem_mem hi)
@[push_cast] theorem lsF_hdfl (l : List Hd) (i : Nat) : (lsF cHd l i).flat = [.str (l.getD i ⟨[], []⟩).name, .str (l.getD i ⟨[], []⟩).value] := rfl
/-- an answer -/
structure Ans where
  st : Int
  re : List UInt8
  hd : List Hd
  bd : List UInt8
deriving DecidableEq
def decAns : V → Ans
  | .agg [.int _ st, .str re, .sl n f, .sl m g] => ⟨st, re, lsOf cHd n f, bytesOf m g⟩
  | _ => ⟨0, [], [], []⟩
def cAns : Cod Ans := ⟨fun a => .agg [.int .i64 a.st, .str a.re, .sl a.hd.length (lsF cHd a.hd), .sl a.bd.length (byF a.bd)], decAns, ⟨0, [], [], []⟩, fun a => by simp [decAns, lsOf_ls, bytesOf_by]⟩
@[push_cast] theorem enc_ans (a : Ans) : cAns.enc a = .agg [.int .i64 a.st, .str a.re, .sl a.hd.length (lsF cHd a.hd), .sl a.bd.length (byF a.bd)] := rfl
@[push_cast] theorem dec_ans (k : IntKind) (st : Int) (re : List UInt8) (n m : Nat) (f g : Nat → V) : cAns.dec (.agg [.int k st, .str re, .sl n f, .sl m g]) = ⟨st, re, lsOf cHd n f, bytesOf m g⟩ := rfl
theorem isC_ans {st : Int} {re : List UInt8} {n m : Nat} {f g : Nat → V} (h1 : isLs cHd n f) (h2 : isBy m g) : isC cAns (.agg [.int .i64 st, .str re, .sl n f, .sl m g]) :=
  VLe.agg ⟨VLe.refl _, VLe.refl _, isLs.vle h1, isBy.vle h2, trivial⟩
def ansOk (a : Ans) : Prop := hdsOk a.hd ∧ a.re.length ≤ 140737488355328 ∧ a.hd.length ≤ 140737488355328 ∧ a.bd.length ≤ 140737488355328
theorem reach_le : reachBytes ≤ 140737488355328 := by unfold reachBytes; omega
theorem hasL_cons {s : Sh} {ss : List Sh} {ms : List Nat} {vs : List V} (h : Sh.hasL (s :: ss) ms vs) : ∃ m v ms' vs', vs = v :: vs' ∧ s.has m v ∧ Sh.hasL ss ms' vs' := by
  cases ms with
  | nil => simp [Sh.hasL] at h
  | cons m ms => cases vs with
    | nil => simp [Sh.hasL] at h
    | cons v vs => exact ⟨m, v, ms, vs, rfl, h.1, h.2⟩
theorem hasL_nil {ms : List Nat} {vs : List V} (h : Sh.hasL [] ms vs) : vs = [] := by
  cases ms with
  | nil => cases vs with
    | nil => rfl
    | cons _ _ => simp [Sh.hasL] at h
  | cons _ _ => simp [Sh.hasL] at h
theorem shHead {m : Nat} {v : V} (h : Sh.has (.tup [.str, .str]) m v) : ∃ a, v = cHd.enc a ∧ a.name.length ≤ 140737488355328 ∧ a.value.length ≤ 140737488355328 := by
  obtain ⟨l, ms, rfl, -, hl⟩ := h
  obtain ⟨m1, v1, ms, l, rfl, h1, hl⟩ := hasL_cons hl
  obtain ⟨m2, v2, ms, l, rfl, h2, hl⟩ := hasL_cons hl
  obtain rfl := hasL_nil hl
  obtain ⟨s, rfl, -, b1⟩ := h1
  obtain ⟨t, rfl, -, b2⟩ := h2
  have := reach_le
  exact ⟨⟨s, t⟩, rfl, by show s.length ≤ _; omega, by show t.length ≤ _; omega⟩
theorem shList {α : Type} {c : Cod α} {s : Sh} {p : α → Prop} (hs : ∀ m v, s.has m v → ∃ a, v = c.enc a ∧ p a) {m : Nat} {v : V} (h : Sh.has (.list s) m v) : ∃ (n : Nat) (f : Nat → V), v = .sl n f ∧ isLs c n f ∧ n ≤ 140737488355328 ∧ ∀ a ∈ lsOf c n f, p a := by
  obtain ⟨l, ms, rfl, h1, h2, h3, h4⟩ := h
  have at' : ∀ i, i < l.length → ∃ a, litF l i = c.enc a ∧ p a := fun i hi => hs _ _ (h4 i hi)
  have := reach_le
  refine ⟨_, _, rfl, ⟨by simp [lsOf], fun i hi => ?_⟩, by omega, fun a ha => ?_⟩
  · obtain ⟨a, e, _⟩ := at' i hi
    unfold lsF lsOf
    rw [List.getD_eq_getElem?_getD, List.getElem?_map, List.getElem?_range hi]
    simp only [Option.map_some, Option.getD_some]
    rw [e, c.ok]
  · simp only [lsOf, List.mem_map, List.mem_range] at ha
    obtain ⟨i, hi, rfl⟩ := ha
    obtain ⟨a, e, hp⟩ := at' i hi
    rw [e, c.ok]; exact hp
theorem shStr {m : Nat} {v : V} (h : Sh.has .str m v) : ∃ a, v = cStr.enc a ∧ a.length ≤ 140737488355328 := by
  obtain ⟨s, rfl, -, b⟩ := h
  have := reach_le
  exact ⟨s, rfl, by omega⟩
theorem shAns {m : Nat} {v : V} (h : Sh.has (.tup [.int .i64, .str, .list (.tup [.str, .str]), .list (.int .u8)]) m v) : isC cAns v ∧ ansOk (cAns.dec v) := by
  obtain ⟨l, ms, rfl, -, hl⟩ := h
  obtain ⟨m1, v1, ms, l, rfl, h1, hl⟩ := hasL_cons hl
  obtain ⟨m2, v2, ms, l, rfl, h2, hl⟩ := hasL_cons hl
  obtain ⟨m3, v3, ms, l, rfl, h3, hl⟩ := hasL_cons hl
  obtain ⟨m4, v4, ms, l, rfl, h4, hl⟩ := hasL_cons hl
  obtain rfl := hasL_nil hl
  obtain ⟨st, rfl, _⟩ := shInt h1
  obtain ⟨re, rfl, b2⟩ := shStr h2
  obtain ⟨n, f, rfl, i3, b3, k3⟩ := shList (c := cHd) (fun m v h => shHead h) h3
  obtain ⟨k, g, rfl, i4, b4⟩ := shBytes h4
  have := reach_le
  refine ⟨isC_ans i3 i4, ?_⟩
  show ansOk ⟨st, re, lsOf cHd n f, bytesOf k g⟩
  refine ⟨k3, b2, ?_, ?_⟩
  · show (lsOf cHd n f).length ≤ _
    rw [lsOf_len]; exact b3
  · show (bytesOf k g).length ≤ _
    rw [bytesOf_len]; omega
theorem hasD2 {H : Type} {s1 s2 : Sh} {ds : List (DataW H)} (h : hasD [s1, s2] ds) : ∃ a b, ds = [a, b] ∧ s1.has (bulkD a) (toV a) ∧ s2.has (bulkD b) (toV b) := by
  match ds, h with
  | [a, b], ⟨h1, h2, _⟩ => exact ⟨a, b, rfl, h1, h2⟩
theorem hasD1 {H : Type} {s1 : Sh} {ds : List (DataW H)} (h : hasD [s1] ds) : ∃ a, ds = [a] ∧ s1.has (bulkD a) (toV a) := by
  match ds, h with
  | [a], ⟨h1, _⟩ => exact ⟨a, rfl, h1⟩
theorem hasD4 {H : Type} {s1 s2 s3 s4 : Sh} {ds : List (DataW H)} (h : hasD [s1, s2, s3, s4] ds) : ∃ a b c d, ds = [a, b, c, d] ∧ s1.has (bulkD a) (toV a) ∧ s2.has (bulkD b) (toV b) ∧ s3.has (bulkD c) (toV c) ∧ s4.has (bulkD d) (toV d) := by
  match ds, h with
  | [a, b, c, d], ⟨h1, h2, h3, h4, _⟩ => exact ⟨a, b, c, d, rfl, h1, h2, h3, h4⟩
@[push_cast] theorem isC_ansT (a : Ans) : isC cAns (.agg [.int .i64 a.st, .str a.re, .sl a.hd.length (lsF cHd a.hd), .sl a.bd.length (byF a.bd)]) = True := eq_true (isC_enc cAns a)
@[push_cast] theorem ans_eta (a : Ans) : (⟨a.st, a.re, a.hd, a.bd⟩ : Ans) = a := rfl

/- lists of things as arguments, cell by cell -/
theorem VLe.slV {n : Nat} {f g : Nat → V} (h : ∀ i, i < n → (g i).flat.length = (f i).flat.length ∧ ∀ j, j < (f i).flat.length → VLe ((f i).flat.getD j .any) ((g i).flat.getD j .any) ∧ ((g i).flat.getD j .any).isPure = true) : VLe (.sl n f) (.sl n g) := by
  intro γ imm w v hr
  cases inv_sl (S := ⟨γ, imm, fun _ => none, w⟩) hr with
  | sl0 _ a c => exact .pure (.sl0 _ a c)
  | sl _ _ b off c sz u hb hnc hs hf hc ho hp =>
    refine .pure (.sl n g b off c sz u hb hnc hs (fun i hi => (h i hi).1.trans (hf i hi)) hc ho (fun i j hi hj => ?_))
    have hj' : j < (f i).flat.length := by rw [hf i hi]; exact hj
    obtain ⟨h1, h2⟩ := (h i hi).2 j hj'
    exact isPure_rep (S := ⟨γ, imm, fun _ => none, w⟩) (h1 _ _ _ _ (.pure (hp i j hi hj))) h2
def isLv {α : Type} (c : Cod α) (n : Nat) (f : Nat → V) : Prop := VLe (.sl n f) (.sl (lsOf c n f).length (lsF c (lsOf c n f)))
/-- a thing's cells say what its code says -/
def isE {α : Type} (c : Cod α) (v : V) : Prop := (c.enc (c.dec v)).flat.length = v.flat.length ∧ ∀ j, j < v.flat.length → VLe (v.flat.getD j .any) ((c.enc (c.dec v)).flat.getD j .any) ∧ ((c.enc (c.dec v)).flat.getD j .any).isPure = true
theorem shListE {α : Type} {c : Cod α} {s : Sh} {p : α → Prop} (hs : ∀ m v, s.has m v → isE c v ∧ p (c.dec v)) {m : Nat} {v : V} (h : Sh.has (.list s) m v) : ∃ (n : Nat) (f : Nat → V), v = .sl n f ∧ isLv c n f ∧ n ≤ 140737488355328 ∧ ∀ a ∈ lsOf c n f, p a := by
  obtain ⟨l, ms, rfl, h1, h2, h3, h4⟩ := h
  have := reach_le
  refine ⟨_, _, rfl, ?_, by omega, fun a ha => ?_⟩
  · unfold isLv
    rw [lsOf_len]
    refine VLe.slV fun i hi => ?_
    have hE := (hs _ _ (h4 i hi)).1
    have e2 : lsF c (lsOf c l.length (litF l)) i = c.enc (c.dec (litF l i)) := by
      unfold lsF lsOf
      rw [List.getD_eq_getElem?_getD, List.getElem?_map, List.getElem?_range hi]; rfl
    rw [e2]
    exact hE
  · simp only [lsOf, List.mem_map, List.mem_range] at ha
    obtain ⟨i, hi, rfl⟩ := ha
    exact (hs _ _ (h4 i hi)).2

end Go.Abs
