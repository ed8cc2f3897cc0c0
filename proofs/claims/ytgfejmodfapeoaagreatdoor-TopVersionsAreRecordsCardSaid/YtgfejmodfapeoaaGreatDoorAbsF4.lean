/- what functions of this program compute: contracts, each a function's own -/
import Derived.Test.YtgfejmodfapeoaaGreatDoorAbsK2
import Derived.Test.YtgfejmodfapeoaaGreatDoorAbsFacts
import Derived.Test.YtgfejmodfapeoaaGreatDoorAbsF3
import Derived.Test.YtgfejmodfapeoaaGreatDoorAbsShelf
import Derived.Lib.SplitLaws
import Derived.Lib.SlTrimSet
import Derived.Lib.Atoi
import Derived.Lib.Itoa
import Derived.Lib.ItoaNum
import Derived.Lib.AtoiErrMem
import Derived.Lib.Join
import Derived.Lib.IndexMore
import Derived.Lib.Repeat
import Derived.Lib.ItoaLen
import Derived.Lib.Index
import Derived.Lib.IndexBytes
namespace Go.Abs
open Go Go.Proofs
set_option maxHeartbeats 4000000
set_option maxRecDepth 100000
set_option linter.unusedVariables false
set_option linter.unusedSimpArgs false
/- what a text means in a page -/
def trimA (s : List UInt8) : List UInt8 := Lib.trimS s [9, 10, 12, 13, 32]
def schC (c : UInt8) : Bool := isLet (c.toNat : Int) || isDig (c.toNat : Int) || decide (c.toNat = 43) || decide (c.toNat = 45) || decide (c.toNat = 46)
def rowN (s : List UInt8) : Nat := if isLet ((s.getD 0 0).toNat : Int) = true then 1 + runN schC (s.drop 1) else 0
def rowA (s : List UInt8) : List UInt8 := if (s.getD (rowN s) 0).toNat = 58 then s.take (rowN s) else []
def lastI (s : List UInt8) (c : UInt8) : Nat → Int
  | 0 => -1
  | n + 1 => if s.getD n 0 = c then n else lastI s c n
theorem lastI_b (s : List UInt8) (c : UInt8) : ∀ n, -1 ≤ lastI s c n ∧ lastI s c n < n
  | 0 => ⟨Int.le_refl _, by show (-1 : Int) < 0; omega⟩
  | n + 1 => by
    have := lastI_b s c n
    rw [lastI]
    split <;> omega
def meantP (b p : List UInt8) : List UInt8 :=
  if (p.getD 0 0).toNat = 47 then p
  else if ((b.take (lastI b 47 b.length + 1).toNat ++ p).getD 0 0).toNat = 47 then b.take (lastI b 47 b.length + 1).toNat ++ p else 47 :: (b.take (lastI b 47 b.length + 1).toNat ++ p)
def meantA (b : Adr) (s : List UInt8) : Adr :=
  if (Lib.cut (Lib.cut s [35]).1 [63]).1 = [] then
    (if (Lib.cut (Lib.cut s [35]).1 [63]).2.2 = true then ⟨b.sc, b.ho, b.po, b.pa, (Lib.cut (Lib.cut s [35]).1 [63]).2.1, true, (Lib.cut s [35]).2.1, (Lib.cut s [35]).2.2⟩
     else ⟨b.sc, b.ho, b.po, b.pa, b.qu, b.hq, (Lib.cut s [35]).2.1, (Lib.cut s [35]).2.2⟩)
  else ⟨b.sc, b.ho, b.po, meantP b.pa (Lib.cut (Lib.cut s [35]).1 [63]).1, (Lib.cut (Lib.cut s [35]).1 [63]).2.1, (Lib.cut (Lib.cut s [35]).1 [63]).2.2, (Lib.cut s [35]).2.1, (Lib.cut s [35]).2.2⟩
def slash2 (s : List UInt8) : Bool := decide (2 ≤ s.length) && (s.take 2 == [47, 47])
/-- what stands there, ahead of its check: the address and the fault -/
def res0 (b : Adr) (s : List UInt8) : Adr × Int :=
  if s = [] then (⟨b.sc, b.ho, b.po, b.pa, b.qu, b.hq, [], false⟩, 0)
  else if lowL (rowA s) ≠ [] then (if lowL (rowA s) ≠ wHttp ∧ lowL (rowA s) ≠ wHttps then (noAdr, 4) else ((readA s).1, (readA s).2.2))
  else if slash2 s = true then ((readA (b.sc ++ 58 :: s)).1, (readA (b.sc ++ 58 :: s)).2.2)
  else (meantA b s, 0)
def resA (b : Adr) (r : List UInt8) : Adr × Int :=
  if checkAdrL b ≠ 0 then (noAdr, checkAdrL b)
  else if 2000 < r.length then (noAdr, 2)
  else if (res0 b (trimA r)).2 ≠ 0 then (noAdr, (res0 b (trimA r)).2)
  else if checkAdrL (res0 b (trimA r)).1 ≠ 0 then (noAdr, checkAdrL (res0 b (trimA r)).1)
  else ({ (res0 b (trimA r)).1 with pa := undotL (res0 b (trimA r)).1.pa }, 0)
theorem cutS_sz (s : List UInt8) (a n : Nat) : (cutS s a n).length ≤ s.length := by
  unfold cutS; rw [List.length_take, List.length_drop]; omega
theorem plc_sz (s : List UInt8) (a : Nat) : (plcL s a).ho.length ≤ s.length ∧ (plcL s a).po.length ≤ s.length := by
  unfold plcL
  split
  · exact ⟨cutS_sz _ _ _, by simp⟩
  · split
    · split
      · exact ⟨cutS_sz _ _ _, cutS_sz _ _ _⟩
      · exact ⟨cutS_sz _ _ _, cutS_sz _ _ _⟩
    · exact ⟨cutS_sz _ _ _, by simp⟩
theorem rst_sz (s : List UInt8) (a : Nat) : (rstL s a).pa.length ≤ s.length ∧ (rstL s a).qu.length ≤ s.length ∧ (rstL s a).fr.length ≤ s.length := by
  have h3 : ∀ d pa qu hq, pa.length ≤ s.length → qu.length ≤ s.length → (rst3 s d pa qu hq).pa.length ≤ s.length ∧ (rst3 s d pa qu hq).qu.length ≤ s.length ∧ (rst3 s d pa qu hq).fr.length ≤ s.length := by
    intro d pa qu hq h1 h2
    unfold rst3
    split
    · exact ⟨h1, h2, cutS_sz _ _ _⟩
    · exact ⟨h1, h2, by simp⟩
  unfold rstL
  split
  · exact ⟨cutS_sz _ _ _, by simp, by simp⟩
  · unfold rst2
    split
    · split
      · exact ⟨cutS_sz _ _ _, cutS_sz _ _ _, by simp⟩
      · exact h3 _ _ _ _ (cutS_sz _ _ _) (cutS_sz _ _ _)
    · exact h3 _ _ _ _ (cutS_sz _ _ _) (by simp)
theorem readA_sz (s : List UInt8) : (readA s).1.sc.length ≤ 2000 ∧ (readA s).1.ho.length ≤ 2000 ∧ (readA s).1.po.length ≤ 2000 ∧ (readA s).1.pa.length ≤ 2000 ∧ (readA s).1.qu.length ≤ 2000 ∧ (readA s).1.fr.length ≤ 2000 := by
  have no : noAdr.sc.length ≤ 2000 ∧ noAdr.ho.length ≤ 2000 ∧ noAdr.po.length ≤ 2000 ∧ noAdr.pa.length ≤ 2000 ∧ noAdr.qu.length ≤ 2000 ∧ noAdr.fr.length ≤ 2000 := by unfold noAdr; simp
  unfold readA
  split
  · exact no
  · rename_i h
    split
    · exact no
    · split
      · exact no
      · split
        · exact no
        · obtain ⟨p1, p2⟩ := plc_sz s (schL s).2
          obtain ⟨r1, r2, r3⟩ := rst_sz s (plcL s (schL s).2).at'
          refine ⟨by show (s.take _).length ≤ _; rw [List.length_take]; omega, ?_, ?_, ?_, ?_, ?_⟩
          · show (plcL s _).ho.length ≤ _; omega
          · show (plcL s _).po.length ≤ _; omega
          · show (rstL s _).pa.length ≤ _; omega
          · show (rstL s _).qu.length ≤ _; omega
          · show (rstL s _).fr.length ≤ _; omega
/- where an answer leads -/
def redL (st : Int) : Bool := decide (st = 301) || decide (st = 302) || decide (st = 303) || decide (st = 307) || decide (st = 308)
def withFr (o a : Adr) : Adr := if o.hf = true then o else { o with fr := a.fr, hf := a.hf }

def ckLast : Ck
  | [.str s, .int .u8 c] => some (s.length ≤ 4611686018427387904 ∧ 0 ≤ c ∧ c < 256, .int .i64 (lastI s (UInt8.ofNat c.toNat) s.length))
  | _ => none
theorem conLast0 : Con pg 139 ckLast := by
  have hct := ctN_ok pg
  intro args q r h hq
  unfold ckLast at h
  split at h
  · cases h
    rename_i s c
    refine w139 (fun _ => false) [] rfl hct rfl rfl ?_
    push_cast (config := { maxSteps := 10000000 })
    obtain ⟨c, rfl, hc⟩ : ∃ b : UInt8, c = b.toNat ∧ b.toNat < 256 := ⟨UInt8.ofNat c.toNat, by simp [UInt8.toNat_ofNat']; omega, UInt8.toNat_lt _⟩
    rw [Int.toNat_natCast, UInt8.ofNat_toNat]
    (repeat (refine ⟨by omega, ?_⟩))
    refine LoopW.adj ⟨hct, fol⟩ (by kernel_rfl) [] (fun i : Nat => [(0, .str s), (1, .int .u8 c.toNat), (5, .int .i64 ((i : Int) - 1))]) (fun _ => []) (fun i => i ≤ s.length ∧ lastI s c i = lastI s c s.length) (fun i => i) s.length ?_ fun i hi => ?_
    · push_cast (config := { maxSteps := 10000000 })
      exact Nat.le_refl _
    · obtain ⟨i1, i2⟩ := hi
      push_cast (config := { maxSteps := 10000000 })
      refine ⟨fun h => ?_, fun h => ?_⟩
      · obtain ⟨j, rfl⟩ : ∃ j, i = j + 1 := ⟨i - 1, by omega⟩
        rw [show (((j + 1 : Nat) : Int) - 1).toNat = j by omega]
        rw [lastI] at i2
        refine ⟨by omega, fun h2 => ?_, fun h2 => ⟨by omega, j, ⟨by omega, ?_⟩, by omega, by omega⟩⟩
        · rw [if_pos (UInt8.toNat_inj.1 (by exact_mod_cast h2))] at i2
          rw [← i2]; omega
        · rw [if_neg (fun e => h2 (by rw [e]))] at i2; exact i2
      · obtain rfl : i = 0 := by omega
        rw [← i2]; rfl
  · cases h
attribute [push_cast] ckLast
theorem conLastIdx : Con pg 106 ckLast := by
  have hct := (ctA_ok conLast0 (ctN_ok _))
  intro args q r h hq
  unfold ckLast at h
  split at h
  · cases h
    rename_i s c
    refine w106 (fun _ => false) [] rfl hct rfl rfl ?_
    push_cast (config := { maxSteps := 10000000 })
    exact hq
  · cases h
attribute [push_cast] ckLast

theorem isAt_iff (s : List UInt8) (a c : Nat) : isAt s a c = true ↔ a < s.length ∧ (s.getD a 0).toNat = c := by
  unfold isAt; rw [Bool.and_eq_true, decide_eq_true_eq, decide_eq_true_eq]
def ckHostEnd : Ck
  | [.str s] => some (s.length ≤ 4611686018427387900, .int .i64 (runN hostB s))
  | _ => none
attribute [push_cast] ckHostEnd
theorem dig_dg (s : List UInt8) : s.all digB = s.all isDg := by
  congr 1
  funext c
  have key : ∀ n, n < 256 → digB (UInt8.ofNat n) = isDg (UInt8.ofNat n) := by decide +kernel
  have := key c.toNat (UInt8.toNat_lt c)
  simpa using this
def ckPortOf : Ck
  | [.str s] => some (s.length ≤ 4611686018427387900, .int .i64 (portN s))
  | _ => none
theorem conPortOf : Con pg 49 ckPortOf := by
  have hct := (ctA_ok conTrim (ctN_ok _))
  intro args q r h hq
  unfold ckPortOf at h
  split at h
  · cases h
    rename_i s
    refine w49 (fun _ => false) [] rfl hct rfl rfl ?_
    push_cast (config := { maxSteps := 10000000 })
    have e := trim_dig s
    unfold digs at e
    rw [← dig_dg] at e
    refine ⟨fun h => ⟨h, by omega⟩, fun h => ?_, fun h => ?_⟩
    · unfold portN
      rw [if_neg fun x => ?_]
      rcases h with h | h
      · omega
      · exact h (e.2 x.2.2.1)
    have ha := e.1 h.2
    have hd : ∀ j, j < s.length → 48 ≤ (s.getD j 0).toNat ∧ (s.getD j 0).toNat ≤ 57 := fun j hj => by
      have := List.all_eq_true.1 ha (s.getD j 0) (by rw [List.getD_eq_getElem?_getD, List.getElem?_eq_getElem hj]; exact List.getElem_mem hj)
      unfold digB isDig at this
      simp only [Bool.and_eq_true, decide_eq_true_eq] at this
      omega
    have hN : portN s = if portV s ≤ 65535 then portV s else 0 := by
      unfold portN
      by_cases hv : portV s ≤ 65535
      · rw [if_pos ⟨by omega, by omega, ha, hv⟩, if_pos hv]
      · rw [if_neg (fun x => hv x.2.2.2), if_neg hv]
    rw [hN]
    have hS : ∀ i, i < s.length → portV (s.take (i + 1)) = 10 * portV (s.take i) + (((s.getD i 0).toNat : Int) - 48) := fun i hi => by
      rw [takeG (d := 0) hi]
      unfold portV
      rw [List.foldl_append]; rfl
    refine LoopW.adj ⟨hct, fol⟩ (by kernel_rfl) [] (fun i : Nat => [(0, .str s), (3, .int .i64 (portV (s.take i))), (19, .int .i64 s.length), (20, .int .i64 i)]) (fun _ => []) (fun i => i ≤ s.length ∧ 0 ≤ portV (s.take i) ∧ portV (s.take i) < 10 ^ i) (fun i => s.length - i) 0 ?_ fun i hi => ?_
    · push_cast (config := { maxSteps := 10000000 })
      exact ⟨⟨Nat.zero_le _, by decide, by decide⟩, rfl⟩
    · push_cast (config := { maxSteps := 10000000 })
      obtain ⟨h1, h2, h3⟩ := hi
      refine ⟨fun hlt => ?_, fun hge => ?_⟩
      · have hd1 := hd i hlt
        have hs1 := hS i hlt
        have p5 : (10 : Int) ^ i ≤ 10000 := by
          rcases (by omega : i = 0 ∨ i = 1 ∨ i = 2 ∨ i = 3 ∨ i = 4) with rfl | rfl | rfl | rfl | rfl <;> decide
        have e1 : (((s.getD i 0).toNat : Int) - 48) % 256 = ((s.getD i 0).toNat : Int) - 48 := by omega
        rw [e1]
        exact ⟨⟨by omega, by omega⟩, hlt, ⟨by omega, by omega⟩, ⟨by omega, by omega⟩, ⟨by omega, by omega⟩, i + 1, ⟨by omega, by omega, by rw [hs1, Int.pow_succ]; omega⟩, by omega, by rw [hs1], by omega⟩
      · rw [List.take_of_length_le (by omega)]
        exact ⟨fun h => by rw [if_neg (by omega)], fun h => by rw [if_pos (by omega)]⟩
  · cases h
attribute [push_cast] ckPortOf
theorem low1 {s w : List UInt8} {n : Nat} (h1 : n < s.length) (h2 : n < w.length) : lowL ((s.drop n).take 1) = (w.drop n).take 1 ↔ lowB (s.getD n 0) = w.getD n 0 := by
  rw [dropG (d := 0) h1, dropG (d := 0) h2]
  simp [lowL]
def ckScheme : Ck
  | [.str s] => some (s.length ≤ 2000, .tup [.str (if (schL s).1 = true then s.take ((schL s).2 - 3) else []), .int .i64 (schL s).2, .bool (schL s).1])
  | _ => none
attribute [push_cast] ckScheme
theorem slice_drop {s : List UInt8} {a : Nat} (h : a ≤ s.length) : (s.drop a).take (s.length - a) = s.drop a := List.take_of_length_le (by rw [List.length_drop]; omega)
theorem pre1 (s : List UInt8) (a : Nat) (c : UInt8) : hasPre (s.drop a) [c] = isAt s a c.toNat := by
  rw [Bool.eq_iff_iff, isAt_iff]
  unfold hasPre
  rw [Bool.and_eq_true, decide_eq_true_eq, beq_iff_eq, List.length_drop, List.length_singleton]
  constructor
  · rintro ⟨h1, h2⟩
    rw [dropD s a (by omega)] at h2
    have := (List.cons.inj h2).1
    exact ⟨by omega, by rw [this]⟩
  · rintro ⟨h1, h2⟩
    refine ⟨by omega, ?_⟩
    rw [dropD s a h1]
    have : s.getD a 0 = c := UInt8.toNat_inj.1 h2
    rw [this]; rfl
def ckPlaceK : List V → List Blk → Option (Prop × V × List Blk)
  | [.ptr _ 0], [.cells [.str s, .int .i64 a, .str sc, .str _, .str [], .str pa, .str qu, .bool hq, .str fr, .bool hf]] => some (s.length ≤ 2000 ∧ 0 ≤ a ∧ a ≤ s.length, .bool (plcL s a.toNat).ok, [.cells [.str s, .int .i64 (plcL s a.toNat).at', .str sc, .str (plcL s a.toNat).ho, .str (plcL s a.toNat).po, .str pa, .str qu, .bool hq, .str fr, .bool hf]])
  | _, _ => none
def ckPlace : Cf := ⟨fun | [.ptr i _] => [i] | _ => [], ckPlaceK⟩
def ckRowK : List V → List Blk → Option (Prop × V × List Blk)
  | [.ptr _ 0, .str w], [.cells [.str s, .int .i64 a, .str sc, .str ho, .str po, .str pa, .str qu, .bool hq, .str fr, .bool hf]] => some (s.length ≤ 2000 ∧ 0 ≤ a ∧ a ≤ s.length, .tup [.str (cutS s a.toNat (rdRow s a.toNat w).1), .bool (rdRow s a.toNat w).2], [.cells [.str s, .int .i64 (a + (rdRow s a.toNat w).1), .str sc, .str ho, .str po, .str pa, .str qu, .bool hq, .str fr, .bool hf]])
  | _, _ => none
def ckRow : Cf := ⟨fun | [.ptr i _, _] => [i] | _ => [], ckRowK⟩
@[push_cast] theorem place_ids (i o : Nat) : ckPlace.ids [.ptr i o] = [i] := rfl
@[push_cast] theorem place_k (i : Nat) (s sc ho pa qu fr : List UInt8) (hq hf : Bool) (a : Int) : ckPlace.k [.ptr i 0] [.cells [.str s, .int .i64 a, .str sc, .str ho, .str [], .str pa, .str qu, .bool hq, .str fr, .bool hf]] = some (s.length ≤ 2000 ∧ 0 ≤ a ∧ a ≤ s.length, .bool (plcL s a.toNat).ok, [.cells [.str s, .int .i64 (plcL s a.toNat).at', .str sc, .str (plcL s a.toNat).ho, .str (plcL s a.toNat).po, .str pa, .str qu, .bool hq, .str fr, .bool hf]]) := rfl
@[push_cast] theorem row_ids (i o : Nat) (x : V) : ckRow.ids [.ptr i o, x] = [i] := rfl
@[push_cast] theorem row_k (i : Nat) (w s sc ho po pa qu fr : List UInt8) (hq hf : Bool) (a : Int) : ckRow.k [.ptr i 0, .str w] [.cells [.str s, .int .i64 a, .str sc, .str ho, .str po, .str pa, .str qu, .bool hq, .str fr, .bool hf]] = some (s.length ≤ 2000 ∧ 0 ≤ a ∧ a ≤ s.length, .tup [.str (cutS s a.toNat (rdRow s a.toNat w).1), .bool (rdRow s a.toNat w).2], [.cells [.str s, .int .i64 (a + (rdRow s a.toNat w).1), .str sc, .str ho, .str po, .str pa, .str qu, .bool hq, .str fr, .bool hf]]) := rfl
theorem rest3 {s P Q : List UInt8} {d : Nat} {b : Bool} (h1 : s.length ≤ 2000) (hd : d ≤ s.length) {R : Rst} (hR : R = rst3 s d P Q b) : ((0 ≤ (d : Int) ∧ (d : Int) ≤ s.length) ∧ (d : Int) ≤ s.length) ∧
    ((s.length - d : Nat) : Int) ≤ 4611686018427387904 ∧
      (hasPre (s.drop d) [35] = true → (-9223372036854775808 ≤ ((d + 1 : Nat) : Int) ∧ ((d + 1 : Nat) : Int) ≤ 9223372036854775807) ∧
          (s.length ≤ 2000 ∧ 0 ≤ ((d + 1 : Nat) : Int) ∧ ((d + 1 : Nat) : Int) ≤ s.length) ∧
            ((rdRow s (d + 1) []).2 = false → false = R.ok ∧ ((d + 1 : Nat) : Int) + (rdRow s (d + 1) []).1 = R.at' ∧ P = R.pa ∧ Q = R.qu ∧ b = R.hq ∧ cutS s (d + 1) (rdRow s (d + 1) []).1 = R.fr ∧ true = R.hf) ∧
            ((rdRow s (d + 1) []).2 = true → true = R.ok ∧ ((d + 1 : Nat) : Int) + (rdRow s (d + 1) []).1 = R.at' ∧ P = R.pa ∧ Q = R.qu ∧ b = R.hq ∧ cutS s (d + 1) (rdRow s (d + 1) []).1 = R.fr ∧ true = R.hf)) ∧
      (hasPre (s.drop d) [35] = false → true = R.ok ∧ (d : Int) = R.at' ∧ P = R.pa ∧ Q = R.qu ∧ b = R.hq ∧ [] = R.fr ∧ false = R.hf) := by
  subst hR
  have hp : hasPre (s.drop d) [35] = isAt s d 35 := pre1 s d 35
  rw [hp]
  refine ⟨⟨⟨by omega, by omega⟩, by omega⟩, by omega, fun h => ?_, fun h => ?_⟩
  · have hl := isAt_lt h
    have hr := rdRow_le (s := s) (a := d + 1) (w := []) (by omega)
    unfold rst3
    rw [if_pos h]
    exact ⟨⟨by omega, by omega⟩, ⟨h1, by omega, by omega⟩, fun h2 => ⟨h2.symm, by show _ = ((d + 1 + (rdRow s (d + 1) []).1 : Nat) : Int); omega, rfl, rfl, rfl, rfl, rfl⟩, fun h2 => ⟨h2.symm, by show _ = ((d + 1 + (rdRow s (d + 1) []).1 : Nat) : Int); omega, rfl, rfl, rfl, rfl, rfl⟩⟩
  · unfold rst3
    rw [if_neg (by rw [h]; simp)]
    exact ⟨rfl, rfl, rfl, rfl, rfl, rfl, rfl⟩
def ckRestK : List V → List Blk → Option (Prop × V × List Blk)
  | [.ptr _ 0], [.cells [.str s, .int .i64 a, .str sc, .str ho, .str po, .str _, .str [], .bool false, .str [], .bool false]] => some (s.length ≤ 2000 ∧ 0 ≤ a ∧ a ≤ s.length, .bool (rstL s a.toNat).ok, [.cells [.str s, .int .i64 (rstL s a.toNat).at', .str sc, .str ho, .str po, .str (rstL s a.toNat).pa, .str (rstL s a.toNat).qu, .bool (rstL s a.toNat).hq, .str (rstL s a.toNat).fr, .bool (rstL s a.toNat).hf]])
  | _, _ => none
def ckRest : Cf := ⟨fun | [.ptr i _] => [i] | _ => [], ckRestK⟩
@[push_cast] theorem rest_ids (i o : Nat) : ckRest.ids [.ptr i o] = [i] := rfl
@[push_cast] theorem rest_k (i : Nat) (s sc ho po pa : List UInt8) (a : Int) : ckRest.k [.ptr i 0] [.cells [.str s, .int .i64 a, .str sc, .str ho, .str po, .str pa, .str [], .bool false, .str [], .bool false]] = some (s.length ≤ 2000 ∧ 0 ≤ a ∧ a ≤ s.length, .bool (rstL s a.toNat).ok, [.cells [.str s, .int .i64 (rstL s a.toNat).at', .str sc, .str ho, .str po, .str (rstL s a.toNat).pa, .str (rstL s a.toNat).qu, .bool (rstL s a.toNat).hq, .str (rstL s a.toNat).fr, .bool (rstL s a.toNat).hf]]) := rfl
def ckReadA : Ck
  | [.str s] => some (True, .tup [cAdr.enc (readA s).1, .int .i64 (readA s).2.1, .int .i64 (readA s).2.2])
  | _ => none
attribute [push_cast] ckReadA
def adrOk (a : Adr) : Prop := a.sc.length ≤ 140737488355328 ∧ a.ho.length ≤ 140737488355328 ∧ a.po.length ≤ 140737488355328 ∧ a.pa.length ≤ 140737488355328 ∧ a.qu.length ≤ 140737488355328 ∧ a.fr.length ≤ 140737488355328
theorem isRow_0 (s : List UInt8) : ((reL s [] (s.length + 1) 0).2 && ((reL s [] (s.length + 1) 0).1 == s.length)) = rowR s := by
  have h := row_same (s := s) ok_3 0
  have e1 : rdRow s 0 [] = reL s [] (s.length + 1) 0 := by unfold rdRow; rw [List.drop_zero]
  have e2 : utN s 0 [] = s.length := by
    unfold utN
    rw [List.drop_zero]
    exact runN_at (Nat.le_refl _) (fun j _ => rfl) (fun h => absurd h (Nat.lt_irrefl _))
  have e3 : cutS s 0 s.length = s := by unfold cutS; rw [List.drop_zero, List.take_length]
  rw [e1, e2, e3] at h
  rw [h, ← rb0_iff]
  by_cases h0 : rb0 s < 0
  · rw [if_pos h0, decide_eq_true h0]; simp
  · rw [if_neg h0, decide_eq_false h0]; rfl
def ckBehind : Ck
  | [.agg [.str sc, .str ho, .str po, .str pa, .str qu, .bool hq, .str fr, .bool hf]] => some (adrOk ⟨sc, ho, po, pa, qu, hq, fr, hf⟩, .str (behL ⟨sc, ho, po, pa, qu, hq, fr, hf⟩))
  | _ => none
theorem conBehind : Con pg 94 ckBehind := by
  have hct := ctN_ok pg
  intro args q r h hq
  unfold ckBehind at h
  split at h
  · cases h
    rename_i sc ho po pa qu hq1 fr hf
    refine w94 (fun _ => false) [] rfl hct rfl rfl ?_
    push_cast (config := { maxSteps := 10000000 })
    obtain ⟨h1, h2, h3, h4, h5, h6⟩ := hq
    simp only at h1 h2 h3 h4 h5 h6
    refine ⟨fun a => ⟨by omega, by omega, fun b => ⟨by omega, by omega, ?_⟩, fun b => ?_⟩, fun a => ⟨fun b => ⟨by omega, by omega, ?_⟩, fun b => ?_⟩⟩
    all_goals subst a b
    all_goals simp [behL]
  · cases h
attribute [push_cast] ckBehind
def ckWrite1 : Ck
  | [.agg [.str sc, .str ho, .str po, .str pa, .str qu, .bool hq, .str fr, .bool hf]] => some (adrOk ⟨sc, ho, po, pa, qu, hq, fr, hf⟩, .str (wrL ⟨sc, ho, po, pa, qu, hq, fr, hf⟩))
  | _ => none
theorem conWrite1 : Con pg 51 ckWrite1 := by
  have hct := (ctA_ok conBehind (ctN_ok _))
  intro args q r h hq
  unfold ckWrite1 at h
  split at h
  · cases h
    rename_i sc ho po pa qu hq1 fr hf
    refine w51 (fun _ => false) [] rfl hct rfl rfl ?_
    push_cast (config := { maxSteps := 10000000 })
    obtain ⟨h1, h2, h3, h4, h5, h6⟩ := hq
    simp only at h1 h2 h3 h4 h5 h6
    have hb : ((behL ⟨sc, ho, po, pa, qu, hq1, fr, hf⟩).length : Int) ≤ 422212465065986 := by
      unfold behL
      simp only [List.length_append]
      have q1 : (if hq1 = true then 63 :: qu else []).length ≤ qu.length + 1 := by split <;> simp
      have q2 : (if hf = true then 35 :: fr else []).length ≤ fr.length + 1 := by split <;> simp
      omega
    refine ⟨by omega, by omega, fun h => ⟨by omega, by omega, ⟨h1, h2, h3, h4, h5, h6⟩, by omega, ?_⟩, fun h => ⟨⟨h1, h2, h3, h4, h5, h6⟩, by omega, ?_⟩⟩
    · unfold wrL; simp only; rw [if_neg h]; rfl
    · unfold wrL; simp only; rw [if_pos h, List.append_nil]; rfl
  · cases h
attribute [push_cast] ckWrite1
def ckCheckAdr : Ck
  | [.agg [.str sc, .str ho, .str po, .str pa, .str qu, .bool hq, .str fr, .bool hf]] => some (adrOk ⟨sc, ho, po, pa, qu, hq, fr, hf⟩, .int .i64 (checkAdrL ⟨sc, ho, po, pa, qu, hq, fr, hf⟩))
  | _ => none
theorem conCheckAdr : Con pg 32 ckCheckAdr := by
  have hct := (ctA_ok conSmallA (ctA_ok conIsHost0 (ctA_ok conPortOf (ctA_ok conIsRow (ctA_ok conWrite1 (ctN_ok _))))))
  intro args q r h hq
  unfold ckCheckAdr at h
  split at h
  · cases h
    rename_i sc ho po pa qu hq1 fr hf
    refine w32 (fun _ => false) [] rfl hct rfl rfl ?_
    push_cast (config := { maxSteps := 10000000 })
    obtain ⟨h1, h2, h3, h4, h5, h6⟩ := hq
    simp only at h1 h2 h3 h4 h5 h6
    have bP : (0 < (pa.length : Int)) ↔ ¬ pa = [] := by
      constructor
      · intro h e; subst e; simp at h
      · exact sne_pos
    have rP := rowP_re pa
    have rQ := isRow_0 qu
    have rF := isRow_0 fr
    rw [Bool.eq_iff_iff, Bool.and_eq_true, beq_iff_eq] at rP rQ rF
    have ok : adrOk ⟨sc, ho, po, pa, qu, hq1, fr, hf⟩ := ⟨h1, h2, h3, h4, h5, h6⟩
    have e47 : ((pa.getD 0 0).toNat : Int) = 47 ↔ (pa.getD 0 0).toNat = 47 := by omega
    have syn : synA ⟨sc, ho, po, pa, qu, hq1, fr, hf⟩ = true ↔ (((((((lowL sc = [104, 116, 116, 112] ∨ lowL sc = [104, 116, 116, 112, 115]) ∧ hostL ho = true) ∧ (po = [] ∨ ¬ portN po = 0)) ∧ (pa = [] ∨ ((pa.getD 0 0).toNat : Int) = 47)) ∧ ((reL pa [63] (pa.length + 1) 0).2 = true ∧ (reL pa [63] (pa.length + 1) 0).1 = pa.length)) ∧ ((reL qu [] (qu.length + 1) 0).2 = true ∧ (reL qu [] (qu.length + 1) 0).1 = qu.length)) ∧ ((reL fr [] (fr.length + 1) 0).2 = true ∧ (reL fr [] (fr.length + 1) 0).1 = fr.length)) := by
      rw [rP, rQ, rF, e47]
      unfold synA schOk
      simp only [Bool.and_eq_true, Bool.or_eq_true, beq_iff_eq, decide_eq_true_eq, ne_eq]
      rfl
    have kb : ¬ synA ⟨sc, ho, po, pa, qu, hq1, fr, hf⟩ = true → 10 = checkAdrL ⟨sc, ho, po, pa, qu, hq1, fr, hf⟩ := fun h => by
      unfold checkAdrL; rw [if_pos (by simpa using h)]
    have k3 : synA ⟨sc, ho, po, pa, qu, hq1, fr, hf⟩ = true → (¬qu = [] ∧ hq1 = false) ∨ (¬fr = [] ∧ hf = false) → 3 = checkAdrL ⟨sc, ho, po, pa, qu, hq1, fr, hf⟩ := fun h h' => by
      unfold checkAdrL; rw [if_neg (by rw [h]; simp), if_pos h']
    have k2 : synA ⟨sc, ho, po, pa, qu, hq1, fr, hf⟩ = true → ¬ ((¬qu = [] ∧ hq1 = false) ∨ (¬fr = [] ∧ hf = false)) → 2000 < ((wrL ⟨sc, ho, po, pa, qu, hq1, fr, hf⟩).length : Int) → 2 = checkAdrL ⟨sc, ho, po, pa, qu, hq1, fr, hf⟩ := fun h h' h'' => by
      unfold checkAdrL; rw [if_neg (by rw [h]; simp), if_neg h', if_pos (by omega)]
    have k0 : synA ⟨sc, ho, po, pa, qu, hq1, fr, hf⟩ = true → ¬ ((¬qu = [] ∧ hq1 = false) ∨ (¬fr = [] ∧ hf = false)) → ¬ 2000 < ((wrL ⟨sc, ho, po, pa, qu, hq1, fr, hf⟩).length : Int) → 0 = checkAdrL ⟨sc, ho, po, pa, qu, hq1, fr, hf⟩ := fun h h' h'' => by
      unfold checkAdrL; rw [if_neg (by rw [h]; simp), if_neg h', if_neg (by omega)]
    rw [syn] at kb k3 k2 k0
    clear syn e47 rP rQ rF
    generalize checkAdrL ⟨sc, ho, po, pa, qu, hq1, fr, hf⟩ = X at *
    generalize ((wrL ⟨sc, ho, po, pa, qu, hq1, fr, hf⟩).length : Int) = W at *
    generalize reL pa [63] (pa.length + 1) 0 = A1 at *
    generalize reL qu [] (qu.length + 1) 0 = A2 at *
    generalize reL fr [] (fr.length + 1) 0 = A3 at *
    generalize ((pa.getD 0 0).toNat : Int) = A4 at *
    generalize (portN po) = A5 at *
    generalize (hostL ho) = A6 at *
    have l1 : pa.length ≤ 4611686018427387900 := by omega
    have l2 : qu.length ≤ 4611686018427387900 := by omega
    have l3 : fr.length ≤ 4611686018427387900 := by omega
    have l4 : po.length ≤ 4611686018427387900 := by omega
    have l5 : ho.length ≤ 4611686018427387904 := by omega
    clear hct
    (repeat' (first | apply And.intro | intro _)) <;> first | assumption | omega | grind
  · cases h
attribute [push_cast] ckCheckAdr

theorem wfL_rowR : ∀ (s : List UInt8), rowR s = true → wfL s = true
  | [], _ => rfl
  | [a], h => by
    simp only [rowR, hex2, Bool.or_false, Bool.and_true, Bool.and_eq_true, decide_eq_true_eq] at h
    have : a ≠ 37 := fun e => h.2 (by rw [e]; rfl)
    simp [wfL, this]
  | [a, b], h => by
    simp only [rowR, hex2, Bool.or_false, Bool.and_true, Bool.and_eq_true, decide_eq_true_eq] at h
    have h1 : a ≠ 37 := fun e => h.1.2 (by rw [e]; rfl)
    have h2 : b ≠ 37 := fun e => h.2.2 (by rw [e]; rfl)
    simp [wfL, h1, h2]
  | c :: a :: b :: r, h => by
    rw [rowR] at h
    simp only [Bool.and_eq_true, Bool.or_eq_true, decide_eq_true_eq] at h
    by_cases hc : c = 37
    · have h2 := h.1.2.resolve_left (fun x => x (by rw [hc]; rfl))
      simp only [hex2, Bool.and_eq_true] at h2
      have hr := rowR_tail [a, b] h.2
      rw [wfL, if_pos hc, Bool.and_eq_true, Bool.and_eq_true]
      exact ⟨h2, wfL_rowR r hr⟩
    · rw [wfL, if_neg hc]
      exact wfL_rowR (a :: b :: r) h.2
def ckUndot : Ck
  | [.str s] => some (s.length ≤ 2000, .str (undotL s))
  | _ => none
theorem spl_sum (c : UInt8) : ∀ s : List UInt8, (spl c s).length ≤ s.length + 1
  | [] => by simp [spl]
  | x :: t => by
    have := spl_sum c t
    have := List.length_pos_iff.2 (spl_ne c t)
    rw [spl]
    split
    · simp only [List.length_cons]; omega
    · simp only [List.length_cons, List.length_tail]; omega
theorem conUndot : Con pg 100 ckUndot := by
  have hct := (ctA_ok conSplit (ctA_ok conJoin (ctN_ok _)))
  intro args q r h hq
  unfold ckUndot at h
  split at h
  · cases h
    rename_i s
    refine w100 (fun d => decide (d = 20012)) [] rfl hct rfl rfl ?_
    push_cast (config := { maxSteps := 10000000 })
    refine ⟨fun h => by subst h; rfl, fun h => ?_⟩
    have h1 : 1 ≤ s.length := List.length_pos_iff.2 h
    have eU : undotL s = joinSl (dotGo (splitL (s.drop 1) 47) []) := by unfold undotL; rw [if_neg h]
    rw [eU]
    (repeat (refine ⟨by omega, ?_⟩))
    have hP0 : (splitL (s.drop 1) 47).length ≤ 2000 := by
      have := splitL_le (s.drop 1) 47
      rw [List.length_drop] at this; omega
    have hPn : splitL (s.drop 1) 47 ≠ [] := by rw [splitL_eq]; exact spl_ne _ _
    have hPl : ∀ x ∈ splitL (s.drop 1) 47, x.length ≤ 2000 := fun x hx => by
      rw [splitL_eq] at hx
      have := spl_len 47 _ x hx
      rw [List.length_drop] at this; omega
    have hJl := dotGo_len (splitL (s.drop 1) 47) []
    have hJs : (joinSl (splitL (s.drop 1) 47)).length ≤ 2000 := by
      rw [splitL_eq, joinSl_spl, List.length_cons, List.length_drop]; omega
    have hDn := dotGo_ne (splitL (s.drop 1) 47) [] hPn
    generalize splitL (s.drop 1) 47 = P at *
    refine LoopW.adj ⟨hct, fol⟩ (by kernel_rfl) [.nv 4 8000 1 (lsF cStr [])] (fun t : Nat × List (List UInt8) => [(3, .sl P.length (lsF cStr P)), (4, .vec 8000 t.2.length), (12, .sl P.length (lsF cStr P)), (13, .int .i64 P.length), (14, .int .i64 t.1)]) (fun t => [(8000, .vec 1 t.2.length (lsF cStr t.2))]) (fun t => t.1 ≤ P.length ∧ t.2.length ≤ t.1 ∧ dotGo (P.drop t.1) t.2 = dotGo P []) (fun t => P.length - t.1) (0, []) ?_ fun t ht => ?_
    · push_cast (config := { maxSteps := 10000000 })
      exact Nat.zero_le _
    · obtain ⟨i, o⟩ := t
      obtain ⟨i1, i2, i3⟩ : i ≤ P.length ∧ o.length ≤ i ∧ dotGo (P.drop i) o = dotGo P [] := ht
      push_cast (config := { maxSteps := 10000000 })
      refine ⟨fun hlt => ⟨hlt, ?_⟩, fun hge => ?_⟩
      · rw [dropG (d := []) hlt, dotGo] at i3
        have hne : P.drop (i + 1) = [] ↔ i + 1 = P.length := by
          rw [List.drop_eq_nil_iff]; omega
        refine SeqW.cut ⟨hct, fol⟩ (by kernel_rfl) (by kernel_rfl) [.trim 4] (fun o' : List (List UInt8) => [(3, .sl P.length (lsF cStr P)), (4, .vec 8000 o'.length), (5, .int .i64 i), (12, .sl P.length (lsF cStr P)), (13, .int .i64 P.length), (14, .int .i64 i)]) (fun o' => [(8000, .vec 1 o'.length (lsF cStr o'))]) (fun o' => o'.length ≤ i ∧ dotGo (P.drop (i + 1)) (if i + 1 = P.length then o' ++ [[]] else o') = dotGo P []) ?_ fun o' ho => ?_
        · push_cast (config := { maxSteps := 10000000 })
          have dl : ∀ j, j < o.length - 1 → V.str (o.getD j []) = V.str (o.dropLast.getD j []) := fun j hj => by
            rw [List.getD_eq_getElem?_getD, List.getD_eq_getElem?_getD, List.getElem?_dropLast, if_pos hj]
          refine ⟨fun h => ⟨⟨by omega, by omega⟩, ⟨⟨by omega, by omega⟩, by omega⟩, o.dropLast, ⟨by rw [List.length_dropLast]; omega, ?_⟩, by rw [List.length_dropLast]; omega, by rw [List.length_dropLast]; omega, fun j hj => dl j (by omega)⟩, fun h => ⟨fun h2 => ⟨⟨by omega, by omega⟩, ⟨by omega, by omega⟩, ((i + 1, o ++ [P.getD i []]) : Nat × List (List UInt8)), ⟨by show i + 1 ≤ _; omega, by show (o ++ [_]).length ≤ i + 1; simp; omega, ?_⟩, by show P.length - (i + 1) < P.length - i; omega, ⟨by simp, by show (i : Int) + 1 = ((i + 1 : Nat) : Int); omega⟩, by simp, fun j hj => ?_⟩, fun h2 => ⟨o, ⟨i2, ?_⟩, rfl, rfl, fun _ _ => rfl⟩⟩⟩
          · rw [if_pos h] at i3
            by_cases e : i + 1 = P.length
            · rw [if_pos (hne.2 e)] at i3; rw [if_pos e]; exact i3
            · rw [if_neg (fun x => e (hne.1 x))] at i3; rw [if_neg e]; exact i3
          · rw [if_neg h, if_neg h2] at i3; exact i3
          · exact (LsI.app (c := cStr) (f := lsF cStr o) (g := litF [cStr.enc (P.getD i [])]) (LsI.ls o) (LsI.one (c := cStr) (a := P.getD i []) rfl) rfl).2 j hj
          · rw [if_neg h, if_pos h2] at i3
            by_cases e : i + 1 = P.length
            · rw [if_pos (hne.2 e)] at i3; rw [if_pos e]; exact i3
            · rw [if_neg (fun x => e (hne.1 x))] at i3; rw [if_neg e]; exact i3
        · push_cast (config := { maxSteps := 10000000 })
          obtain ⟨o1, o2⟩ := ho
          refine ⟨⟨by omega, by omega⟩, fun h => ⟨⟨by omega, by omega⟩, ⟨by omega, by omega⟩, ((i + 1, o' ++ [[]]) : Nat × List (List UInt8)), ⟨by show i + 1 ≤ _; omega, by show (o' ++ [_]).length ≤ i + 1; simp; omega, by rw [if_pos (by omega)] at o2; exact o2⟩, by show P.length - (i + 1) < P.length - i; omega, ⟨by simp, by show (i : Int) + 1 = ((i + 1 : Nat) : Int); omega⟩, by simp, fun j hj => ?_⟩, fun h => ⟨⟨by omega, by omega⟩, ((i + 1, o') : Nat × List (List UInt8)), ⟨by show i + 1 ≤ _; omega, by show o'.length ≤ i + 1; omega, by rw [if_neg (by omega)] at o2; exact o2⟩, by show P.length - (i + 1) < P.length - i; omega, ⟨rfl, by show (i : Int) + 1 = ((i + 1 : Nat) : Int); omega⟩, rfl, fun _ _ => rfl⟩⟩
          exact (LsI.app (c := cStr) (f := lsF cStr o') (g := litF [cStr.enc []]) (LsI.ls o') (LsI.one (c := cStr) (a := []) rfl) rfl).2 j hj
      · rw [List.drop_eq_nil_of_le (by omega), dotGo] at i3
        rw [← i3] at hJl hDn ⊢
        have hj := join_sl (L := o) hDn
        have hlen := congrArg List.length hj
        rw [List.length_cons] at hlen
        have h0 : (joinSl []).length = 0 := rfl
        exact ⟨⟨by omega, by omega⟩, by omega, hj⟩
  · cases h
attribute [push_cast] ckUndot
def ckNormA : Ck
  | [.agg [.str sc, .str ho, .str po, .str pa, .str qu, .bool hq, .str fr, .bool hf]] => some (checkAdrL ⟨sc, ho, po, pa, qu, hq, fr, hf⟩ = 0, cAdr.enc (normA ⟨sc, ho, po, pa, qu, hq, fr, hf⟩))
  | _ => none
theorem check_sz {a : Adr} (h : checkAdrL a = 0) : synA a = true ∧ (wrL a).length ≤ 2000 ∧ a.sc.length ≤ 2000 ∧ a.ho.length ≤ 2000 ∧ a.po.length ≤ 2000 ∧ a.pa.length ≤ 2000 ∧ a.qu.length ≤ 2000 ∧ a.fr.length ≤ 2000 := by
  unfold checkAdrL at h
  split at h
  · cases h
  rename_i h1
  split at h
  · cases h
  rename_i h2
  split at h
  · cases h
  rename_i h3
  have hw : (wrL a).length ≤ 2000 := by omega
  have hw' := hw
  unfold wrL behL at hw'
  simp only [List.length_append] at hw'
  have hp : a.po.length ≤ (if a.po = [] then [] else 58 :: a.po).length := by split <;> simp_all
  have hq : a.qu.length ≤ (if a.hq = true then 63 :: a.qu else []).length := by
    split
    · simp
    · have : a.qu = [] := Classical.byContradiction fun x => h2 (.inl ⟨x, by simp_all⟩)
      rw [this]; simp
  have hf : a.fr.length ≤ (if a.hf = true then 35 :: a.fr else []).length := by
    split
    · simp
    · have : a.fr = [] := Classical.byContradiction fun x => h2 (.inr ⟨x, by simp_all⟩)
      rw [this]; simp
  exact ⟨by simpa using h1, hw, by omega, by omega, by omega, by omega, by omega, by omega⟩
theorem syn_wf {a : Adr} (h : synA a = true) : wfL a.pa = true ∧ wfL a.qu = true := by
  unfold synA at h
  simp only [Bool.and_eq_true] at h
  have h1 := h.1.1.2
  rw [rowP_rowR, Bool.and_eq_true] at h1
  exact ⟨wfL_rowR _ h1.1, wfL_rowR _ h.1.2⟩
theorem conNormA : Con pg 56 ckNormA := by
  have hct := (ctA_ok conSmallA (ctA_ok conTrimLeft (ctA_ok conNormalRow (ctA_ok conUndot (ctN_ok _)))))
  intro args q r h hq
  unfold ckNormA at h
  split at h
  · cases h
    rename_i sc ho po pa qu hq1 fr hf
    refine w56 (fun _ => false) [] rfl hct rfl rfl ?_
    push_cast (config := { maxSteps := 10000000 })
    obtain ⟨z1, z2, z3, z4, z5, z6, z7, z8⟩ := check_sz hq
    obtain ⟨y1, y2⟩ := syn_wf z1
    simp only at z3 z4 z5 z6 z7 z8 y1 y2
    have n1 := normL_len pa
    simp only [trimLeft_z, normA, portA, npL, show wHttp = [104, 116, 116, 112] from rfl, show wHttps = [104, 116, 116, 112, 115] from rfl]
    generalize undotL (normL pa) = up at *
    generalize lowL sc = lsc at *
    generalize trimZ po = tp at *
    (repeat' (first | apply And.intro | intro _)) <;> first | assumption | omega | grind
  · cases h
attribute [push_cast] ckNormA
def ckNormAF : Ck
  | [.agg [.str sc, .str ho, .str po, .str pa, .str qu, .bool hq, .str fr, .bool hf]] => some (checkAdrL ⟨sc, ho, po, pa, qu, hq, fr, hf⟩ = 0, .tup [cAdr.enc (if checkAdrL (normA ⟨sc, ho, po, pa, qu, hq, fr, hf⟩) = 0 then normA ⟨sc, ho, po, pa, qu, hq, fr, hf⟩ else noAdr), .int .i64 (checkAdrL (normA ⟨sc, ho, po, pa, qu, hq, fr, hf⟩))])
  | _ => none
theorem ok_sz {a : Adr} (h : checkAdrL a = 0) : adrOk a := by
  obtain ⟨z1, z2, z3, z4, z5, z6, z7, z8⟩ := check_sz h
  unfold adrOk
  omega
theorem undotL_len (s : List UInt8) : (undotL s).length ≤ s.length + 1 := by
  unfold undotL
  split
  · simp
  · have h := dotGo_len (splitL (s.drop 1) 47) []
    have h2 := congrArg List.length (joinSl_spl (s.drop 1))
    rw [← splitL_eq, List.length_cons, List.length_drop] at h2
    have h0 : (joinSl []).length = 0 := rfl
    omega
theorem norm_ok {a : Adr} (h : checkAdrL a = 0) : adrOk (normA a) := by
  obtain ⟨z1, z2, z3, z4, z5, z6, z7, z8⟩ := check_sz h
  have h1 := undotL_len (normL a.pa)
  have h2 := normL_len a.pa
  have h3 := normL_len a.qu
  have h4 := trimZ_len a.po
  have h5 : (portA a).length ≤ (trimZ a.po).length := by unfold portA; split <;> simp
  have h6 : (npL a).length ≤ 2001 := by
    unfold npL
    split
    · simp
    · omega
  have h7 := lowL_len a.sc
  have h8 := lowL_len a.ho
  have h9 : ([] : List UInt8).length = 0 := rfl
  unfold adrOk
  exact ⟨by show (lowL a.sc).length ≤ _; omega, by show (lowL a.ho).length ≤ _; omega, by show (portA a).length ≤ _; omega, by show (npL a).length ≤ _; omega, by show (normL a.qu).length ≤ _; omega, by show ([] : List UInt8).length ≤ _; omega⟩
theorem conNormAF : Con pg 34 ckNormAF := by
  have hct := (ctA_ok conCheckAdr (ctA_ok conNormA (ctN_ok _)))
  intro args q r h hq
  unfold ckNormAF at h
  split at h
  · cases h
    rename_i sc ho po pa qu hq1 fr hf
    refine w34 (fun _ => false) [] rfl hct rfl rfl ?_
    push_cast (config := { maxSteps := 10000000 })
    have a1 := ok_sz hq
    generalize (⟨sc, ho, po, pa, qu, hq1, fr, hf⟩ : Adr) = a at *
    have a2 : adrOk (normA a) := norm_ok hq
    rw [show (⟨(normA a).sc, (normA a).ho, (normA a).po, (normA a).pa, (normA a).qu, (normA a).hq, (normA a).fr, (normA a).hf⟩ : Adr) = normA a from rfl]
    refine ⟨a1, fun h => absurd hq h, fun _ => ⟨hq, a2, fun h => ?_, fun h => ?_⟩⟩
    · rw [if_neg h]; exact ⟨rfl, rfl, rfl, rfl, rfl, rfl, rfl, rfl⟩
    · rw [if_pos h]; exact ⟨⟨rfl, rfl, rfl, rfl, rfl, rfl, rfl, rfl⟩, h.symm⟩
  · cases h
attribute [push_cast] ckNormAF

def ckSamNil : Ck
  | [.nilsl] => some (True, .int .i64 0)
  | _ => none
theorem conSamNil : Con pg 33 ckSamNil := by
  have hct := ctN_ok pg
  intro args q r h hq
  unfold ckSamNil at h
  split at h
  · cases h
    refine w33 (fun _ => false) [] rfl hct rfl rfl ?_
    push_cast (config := { maxSteps := 10000000 })
    refine LoopW.adj ⟨hct, fol⟩ (by kernel_rfl) [] (fun _ : Unit => [(0, .nilsl), (9, .nilsl), (10, .int .i64 0), (11, .int .i64 0)]) (fun _ => []) (fun _ => True) (fun _ => 0) () ?_ fun _ _ => ?_
    · push_cast (config := { maxSteps := 10000000 })
    · push_cast (config := { maxSteps := 10000000 })
  · cases h
attribute [push_cast] ckSamNil
def ckIdxNil : Ck
  | [.nilsl, .agg [.int .i64 k, .str s]] => some (True, .int .i64 (-1))
  | _ => none
theorem conIdxNil : Con pg 135 ckIdxNil := by
  have hct := ctN_ok pg
  intro args q r h hq
  unfold ckIdxNil at h
  split at h
  · cases h
    rename_i k s
    refine w135 (fun _ => false) [] rfl hct rfl rfl ?_
    push_cast (config := { maxSteps := 10000000 })
    refine LoopW.adj ⟨hct, fol⟩ (by kernel_rfl) [] (fun _ : Unit => [(0, .nilsl), (7, .int .i64 0), (8, .int .i64 0)]) (fun _ => []) (fun _ => True) (fun _ => 0) () ?_ fun _ _ => ?_
    · push_cast (config := { maxSteps := 10000000 })
    · push_cast (config := { maxSteps := 10000000 })
  · cases h
attribute [push_cast] ckIdxNil
def ckConNil : Ck
  | [.nilsl, .agg [.int .i64 k, .str s]] => some (True, .bool false)
  | _ => none
theorem conConNil : Con pg 102 ckConNil := by
  have hct := (ctA_ok conIdxNil (ctN_ok _))
  intro args q r h hq
  unfold ckConNil at h
  split at h
  · cases h
    rename_i k s
    refine w102 (fun _ => false) [] rfl hct rfl rfl ?_
    push_cast (config := { maxSteps := 10000000 })
    done
  · cases h
attribute [push_cast] ckConNil
def ckHasNil : Ck
  | [.nilsl, .int .i64 k, .str s] => some (True, .bool false)
  | _ => none
theorem conHasNil : Con pg 58 ckHasNil := by
  have hct := (ctA_ok conConNil (ctN_ok _))
  intro args q r h hq
  unfold ckHasNil at h
  split at h
  · cases h
    rename_i k s
    refine w58 (fun _ => false) [] rfl hct rfl rfl ?_
    push_cast (config := { maxSteps := 10000000 })
    done
  · cases h
attribute [push_cast] ckHasNil
def ckPathNil : Ck
  | [.str s, .nilsl] => some (s = [47, 99], .str s)
  | _ => none
theorem conPathNil : Con pg 60 ckPathNil := by
  have hct := (ctA_ok conHasNil (ctA_ok conLastIdx (ctN_ok _)))
  intro args q r h hq
  unfold ckPathNil at h
  split at h
  · cases h
    rename_i s
    refine w60 (fun _ => false) [] rfl hct rfl rfl ?_
    push_cast (config := { maxSteps := 10000000 })
    subst hq
    decide +kernel
  · cases h
attribute [push_cast] ckPathNil
def ckTurned : Ck
  | [.str s, .str [c], .str d] => some (s.length ≤ 2000 ∧ (Lib.join (splitL s c).reverse d).length ≤ 140737488355328, .str (Lib.join (splitL s c).reverse d))
  | _ => none
theorem conTurned : Con pg 59 ckTurned := by
  have hct := (ctW_ok conSplitN (ctF_ok conRevS (ctA_ok conJoin (ctN_ok _))))
  intro args q r h hq
  unfold ckTurned at h
  split at h
  · cases h
    rename_i s c d
    refine w59 (fun _ => false) [] rfl hct rfl rfl ?_
    push_cast (config := { maxSteps := 10000000 })
    obtain ⟨h1, h2⟩ := hq
    have hl := splitL_le s c
    have hR : LsI cStr (splitL s c).length (lsF cStr (splitL s c).reverse) (splitL s c).reverse := LsI.len (LsI.ls _) (by rw [List.length_reverse])
    rw [hR.of]
    exact ⟨by omega, by omega, ⟨hR.is, by omega, h2⟩, rfl⟩
  · cases h
attribute [push_cast] ckTurned
def adL : Adr := ⟨[104, 116, 116, 112], [97, 46, 98], [], [47, 99], [], false, [], false⟩
def ckKeyNil : Ck
  | [.agg [.str sc, .str ho, .str po, .str pa, .str qu, .bool hq, .str fr, .bool hf], .nilsl] => some ((⟨sc, ho, po, pa, qu, hq, fr, hf⟩ : Adr) = adL, .str [98, 44, 97, 41, 47, 99])
  | _ => none
def ckNormL : Ck
  | [.agg [.str sc, .str ho, .str po, .str pa, .str qu, .bool hq, .str fr, .bool hf]] => some ((⟨sc, ho, po, pa, qu, hq, fr, hf⟩ : Adr) = adL, .agg [.str [104, 116, 116, 112], .str [97, 46, 98], .str [], .str [47, 99], .str [], .bool false, .str [], .bool false])
  | _ => none
theorem conNormL : Con pg 56 ckNormL := by
  intro args q r h hq
  unfold ckNormL at h
  split at h
  · cases h
    cases hq
    have := conNormA [.agg [.str [104, 116, 116, 112], .str [97, 46, 98], .str [], .str [47, 99], .str [], .bool false, .str [], .bool false]] _ _ rfl (show checkAdrL adL = 0 by decide +kernel)
    change PCall pg _ _ (cAdr.enc (normA adL)) at this
    rw [show normA adL = adL by decide +kernel] at this
    exact this
  · cases h
attribute [push_cast] ckNormL
theorem conKeyNil : Con pg 35 ckKeyNil := by
  have hct := (ctA_ok conNormL (ctA_ok conCutPre (ctA_ok conHasNil (ctA_ok conTurned (ctA_ok conPathNil (ctN_ok _))))))
  intro args q r h hq
  unfold ckKeyNil at h
  split at h
  · cases h
    rename_i sc ho po pa qu hq1 fr hf
    refine w35 (fun _ => false) [] rfl hct rfl rfl ?_
    push_cast (config := { maxSteps := 10000000 })
    cases hq
    exact ⟨rfl, by decide +kernel, by decide +kernel, fun h => by revert h; decide, fun _ => ⟨by decide +kernel, by decide +kernel⟩⟩
  · cases h
attribute [push_cast] ckKeyNil
def ckKeyNilT : Ck
  | [.agg [.str sc, .str ho, .str po, .str pa, .str qu, .bool hq, .str fr, .bool hf], .nilsl] => some ((⟨sc, ho, po, pa, qu, hq, fr, hf⟩ : Adr) = adL, .tup [.str [98, 44, 97, 41, 47, 99], .int .i64 0])
  | _ => none
theorem conKeyNilT : Con pg 13 ckKeyNilT := by
  have hct := (ctA_ok conCheckAdr (ctA_ok conSamNil (ctA_ok conNormAF (ctA_ok conKeyNil (ctN_ok _)))))
  intro args q r h hq
  unfold ckKeyNilT at h
  split at h
  · cases h
    rename_i sc ho po pa qu hq1 fr hf
    refine w13 (fun _ => false) [] rfl hct rfl rfl ?_
    push_cast (config := { maxSteps := 10000000 })
    cases hq
    have e1 : checkAdrL adL = 0 := by decide +kernel
    have e2 : checkAdrL (normA adL) = 0 := by decide +kernel
    exact ⟨by unfold adrOk; decide, fun h => h e1, fun _ => ⟨e1, fun h => h e2, fun _ => rfl⟩⟩
  · cases h
attribute [push_cast] ckKeyNilT
def ckLives : Ck
  | [] => some (True, .bool true)
  | _ => none
theorem conLives : Con pg 5 ckLives := by
  have hct := (ctA_ok conKeyNilT (ctN_ok _))
  intro args q r h hq
  unfold ckLives at h
  split at h
  · cases h
    refine w5 (fun _ => false) [] rfl hct rfl rfl ?_
    push_cast (config := { maxSteps := 10000000 })
    rfl
  · cases h
attribute [push_cast] ckLives

/-- the line at the head of bytes, if 13 and 10 end it and no other 13 or 10 is in it -/
def lineS : List UInt8 → Option (List UInt8)
  | [] => none
  | c :: t => if c = 13 then (if t.getD 0 0 = 10 ∧ 0 < t.length then some [] else none) else if c = 10 then none else (lineS t).map (c :: ·)
def lnS (b : List UInt8) (i : Nat) : List UInt8 := (lineS (b.drop i)).getD []
def lnB (b : List UInt8) (i : Nat) : Bool := (lineS (b.drop i)).isSome
def lnN (b : List UInt8) (i : Nat) : Nat := match lineS (b.drop i) with
  | some s => i + s.length + 2
  | none => i
theorem getD_drop0 (b : List UInt8) (k : Nat) : (b.drop k).getD 0 0 = b.getD k 0 := by simp [List.getD_eq_getElem?_getD]
theorem lineS_crlf {b : List UInt8} {i : Nat} (h : i + 1 < b.length) (h1 : b.getD i 0 = 13) (h2 : b.getD (i + 1) 0 = 10) : lineS (b.drop i) = some [] := by
  rw [dropG (d := 0) (by omega), lineS, if_pos h1, if_pos]
  rw [getD_drop0]
  exact ⟨h2, by simp; omega⟩
theorem lineS_bad {b : List UInt8} {i : Nat} (h : i < b.length) (h1 : b.getD i 0 = 13 ∧ ¬ (i + 1 < b.length ∧ b.getD (i + 1) 0 = 10) ∨ b.getD i 0 = 10) : lineS (b.drop i) = none := by
  rw [dropG (d := 0) h, lineS]
  rcases h1 with ⟨h1, h2⟩ | h1
  · rw [if_pos h1, if_neg]
    rw [getD_drop0]
    rintro ⟨h3, h4⟩
    simp at h4
    exact h2 ⟨by omega, h3⟩
  · rw [h1, if_neg (by decide), if_pos rfl]
theorem lineS_next {b : List UInt8} {i : Nat} (h : i < b.length) (h1 : b.getD i 0 ≠ 13) (h2 : b.getD i 0 ≠ 10) : lineS (b.drop i) = (lineS (b.drop (i + 1))).map (b.getD i 0 :: ·) := by
  rw [dropG (d := 0) h, lineS, if_neg h1, if_neg h2]
def ckLine : Ck
  | [.sl n f, .int .i64 a] => some (isBy n f ∧ 0 ≤ a ∧ a ≤ n ∧ n ≤ 4611686018427387900, .tup [.str (lnS (bytesOf n f) a.toNat), .int .i64 (lnN (bytesOf n f) a.toNat), .bool (lnB (bytesOf n f) a.toNat)])
  | _ => none
theorem conLine : Con pg 109 ckLine := by
  have hct := ctN_ok pg
  intro args q r h hq
  unfold ckLine at h
  split at h
  · cases h
    rename_i n f a
    refine pcall_args (args' := [.sl (bytesOf n f).length (byF (bytesOf n f)), .int .i64 a]) ⟨isBy.vle hq.1, VLe.refl _, trivial⟩ ?_
    obtain ⟨-, h0, h1, h2⟩ := hq
    have hl := bytesOf_len n f
    rw [← hl] at h1 h2
    generalize bytesOf n f = b at h1 h2 ⊢
    clear hl
    obtain ⟨a, rfl⟩ : ∃ k : Nat, a = k := ⟨a.toNat, by omega⟩
    rw [Int.toNat_natCast]
    have ha : a ≤ b.length := by omega
    refine w109 (fun _ => false) [] rfl hct rfl rfl ?_
    push_cast (config := { maxSteps := 10000000 })
    refine LoopW.adj ⟨hct, fol⟩ (by kernel_rfl) [] (fun i : Nat => [(0, .sl b.length (byF b)), (1, .int .i64 a), (7, .int .i64 i)]) (fun _ => []) (fun i => a ≤ i ∧ i ≤ b.length ∧ lineS (b.drop a) = (lineS (b.drop i)).map ((b.drop a).take (i - a) ++ ·)) (fun i => b.length - i) a ?_ fun i hi => ?_
    · push_cast (config := { maxSteps := 10000000 })
      simp [ha]
    · push_cast (config := { maxSteps := 10000000 })
      obtain ⟨i1, i2, i3⟩ := hi
      have u13 : ∀ c : UInt8, (c.toNat : Int) = 13 ↔ c = 13 := fun c => (u8_eq c 13).symm
      have u10 : ∀ c : UInt8, (c.toNat : Int) = 10 ↔ c = 10 := fun c => (u8_eq c 10).symm
      have hno : lineS (b.drop a) = none → [] = lnS b a ∧ a = lnN b a ∧ false = lnB b a := fun h => by
        unfold lnS lnN lnB; rw [h]; exact ⟨rfl, rfl, rfl⟩
      simp only [u13, u10]
      refine ⟨fun h => ⟨h, fun h3 => ⟨h3, by omega, by omega⟩, fun h3 => ⟨h3, by omega, by omega⟩, fun h3 => ⟨h3, by omega, by omega⟩, fun h3 => ?_, fun h3 => ⟨h, fun h4 => ⟨h4, h⟩, fun h4 => hno ?_, fun h4 => ⟨⟨by omega, by omega⟩, i + 1, ⟨by omega, by omega, ?_⟩, by omega, by omega⟩⟩⟩, fun h => hno ?_⟩
      · have hs := ByI.sh (ByI.by b) (l := a) (k := i - a) (by omega)
        rw [lineS_crlf (i := i) (by omega) h3.1.1 h3.2] at i3
        simp only [Option.map_some, List.append_nil] at i3
        refine ⟨⟨i2, by omega, i1⟩, hs.bytesP, ⟨by omega, by omega⟩, ?_, ?_, ?_⟩
        · rw [hs.bytes]; unfold lnS; rw [i3]; rfl
        · unfold lnN; rw [i3]; simp only [List.length_take, List.length_drop]; omega
        · unfold lnB; rw [i3]; rfl
      · rw [i3, lineS_bad h]
        · rfl
        · rcases h4 with h4 | h4
          · exact .inl ⟨h4, fun h5 => h3 ⟨h4, by omega⟩ h5.2⟩
          · exact .inr h4
      · rw [i3, lineS_next h h4.1 h4.2]
        cases lineS (b.drop (i + 1)) with
        | none => rfl
        | some z =>
          simp only [Option.map_some, Option.some.injEq]
          rw [show i + 1 - a = (i - a) + 1 by omega, List.take_add_one]
          have e : (b.drop a)[i - a]? = some (b.getD i 0) := by
            rw [List.getElem?_drop, show a + (i - a) = i by omega, List.getElem?_eq_getElem h, List.getD_eq_getElem?_getD, List.getElem?_eq_getElem h]; rfl
          rw [e]; simp
      · rw [i3, List.drop_eq_nil_of_le (show b.length ≤ i by omega)]; rfl
  · cases h
attribute [push_cast] ckLine

/-- what is asked -/
structure Inq where
  me : List UInt8
  tg : List UInt8
  hd : List Hd
  bd : List UInt8
deriving DecidableEq
def decInq : V → Inq
  | .agg [.str me, .str tg, .sl n f, .sl m g] => ⟨me, tg, lsOf cHd n f, bytesOf m g⟩
  | _ => ⟨[], [], [], []⟩
def cInq : Cod Inq := ⟨fun a => .agg [.str a.me, .str a.tg, .sl a.hd.length (lsF cHd a.hd), .sl a.bd.length (byF a.bd)], decInq, ⟨[], [], [], []⟩, fun a => by simp [decInq, lsOf_ls, bytesOf_by]⟩
@[push_cast] theorem enc_inq (a : Inq) : cInq.enc a = .agg [.str a.me, .str a.tg, .sl a.hd.length (lsF cHd a.hd), .sl a.bd.length (byF a.bd)] := rfl
@[push_cast] theorem dec_inq (me tg : List UInt8) (n m : Nat) (f g : Nat → V) : cInq.dec (.agg [.str me, .str tg, .sl n f, .sl m g]) = ⟨me, tg, lsOf cHd n f, bytesOf m g⟩ := rfl
theorem isC_inq {me tg : List UInt8} {n m : Nat} {f g : Nat → V} (h1 : isLs cHd n f) (h2 : isBy m g) : isC cInq (.agg [.str me, .str tg, .sl n f, .sl m g]) :=
  VLe.agg ⟨VLe.refl _, VLe.refl _, isLs.vle h1, isBy.vle h2, trivial⟩
@[push_cast] theorem isC_inqT (a : Inq) : isC cInq (.agg [.str a.me, .str a.tg, .sl a.hd.length (lsF cHd a.hd), .sl a.bd.length (byF a.bd)]) = True := eq_true (isC_enc cInq a)
@[push_cast] theorem inq_eta (a : Inq) : (⟨a.me, a.tg, a.hd, a.bd⟩ : Inq) = a := rfl
def inqOk (a : Inq) : Prop := hdsOk a.hd ∧ a.me.length ≤ 140737488355328 ∧ a.tg.length ≤ 140737488355328 ∧ a.hd.length ≤ 140737488355328 ∧ a.bd.length ≤ 140737488355328
theorem shInq {m : Nat} {v : V} (h : Sh.has (.tup [.str, .str, .list (.tup [.str, .str]), .list (.int .u8)]) m v) : isC cInq v ∧ inqOk (cInq.dec v) := by
  obtain ⟨l, ms, rfl, -, hl⟩ := h
  obtain ⟨m1, v1, ms, l, rfl, h1, hl⟩ := hasL_cons hl
  obtain ⟨m2, v2, ms, l, rfl, h2, hl⟩ := hasL_cons hl
  obtain ⟨m3, v3, ms, l, rfl, h3, hl⟩ := hasL_cons hl
  obtain ⟨m4, v4, ms, l, rfl, h4, hl⟩ := hasL_cons hl
  obtain rfl := hasL_nil hl
  obtain ⟨me, rfl, b1⟩ := shStr h1
  obtain ⟨tg, rfl, b2⟩ := shStr h2
  obtain ⟨n, f, rfl, i3, b3, k3⟩ := shList (c := cHd) (fun m v h => shHead h) h3
  obtain ⟨k, g, rfl, i4, b4⟩ := shBytes h4
  have := reach_le
  refine ⟨isC_inq i3 i4, ?_⟩
  show inqOk ⟨me, tg, lsOf cHd n f, bytesOf k g⟩
  refine ⟨k3, b1, b2, ?_, ?_⟩
  · show (lsOf cHd n f).length ≤ _
    rw [lsOf_len]; exact b3
  · show (bytesOf k g).length ≤ _
    rw [bytesOf_len]; omega
/-- heads, written -/
def headB (h : Hd) : List UInt8 := h.name ++ [58, 32] ++ h.value ++ [13, 10]
def headsB : List Hd → List UInt8
  | [] => []
  | h :: l => headB h ++ headsB l
theorem headsB_snoc (l : List Hd) (h : Hd) : headsB (l ++ [h]) = headsB l ++ headB h := by
  induction l with
  | nil => simp [headsB]
  | cons x l ih => simp [headsB, ih, List.append_assoc]

/-- a record -/
structure Rcd where
  ki : Int
  id : List UInt8
  ow : List UInt8
  ti : Int
  ke : List UInt8
  hd : List Hd
  bd : List UInt8
deriving DecidableEq
def noRec : Rcd := ⟨0, [], [], 0, [], [], []⟩
def decRec : V → Rcd
  | .agg [.int _ ki, .str id, .str ow, .int _ ti, .str ke, .sl n f, .sl m g] => ⟨ki, id, ow, ti, ke, lsOf cHd n f, bytesOf m g⟩
  | _ => noRec
def cRec : Cod Rcd := ⟨fun a => .agg [.int .i64 a.ki, .str a.id, .str a.ow, .int .i64 a.ti, .str a.ke, .sl a.hd.length (lsF cHd a.hd), .sl a.bd.length (byF a.bd)], decRec, noRec, fun a => by simp [decRec, lsOf_ls, bytesOf_by]⟩
@[push_cast] theorem enc_rec (a : Rcd) : cRec.enc a = .agg [.int .i64 a.ki, .str a.id, .str a.ow, .int .i64 a.ti, .str a.ke, .sl a.hd.length (lsF cHd a.hd), .sl a.bd.length (byF a.bd)] := rfl
@[push_cast] theorem dec_rec (k k' : IntKind) (ki ti : Int) (id ow ke : List UInt8) (n m : Nat) (f g : Nat → V) : cRec.dec (.agg [.int k ki, .str id, .str ow, .int k' ti, .str ke, .sl n f, .sl m g]) = ⟨ki, id, ow, ti, ke, lsOf cHd n f, bytesOf m g⟩ := rfl
theorem isC_rec {ki ti : Int} {id ow ke : List UInt8} {n m : Nat} {f g : Nat → V} (h1 : isLs cHd n f) (h2 : isBy m g) : isC cRec (.agg [.int .i64 ki, .str id, .str ow, .int .i64 ti, .str ke, .sl n f, .sl m g]) :=
  VLe.agg ⟨VLe.refl _, VLe.refl _, VLe.refl _, VLe.refl _, VLe.refl _, isLs.vle h1, isBy.vle h2, trivial⟩
@[push_cast] theorem isC_recT (a : Rcd) : isC cRec (.agg [.int .i64 a.ki, .str a.id, .str a.ow, .int .i64 a.ti, .str a.ke, .sl a.hd.length (lsF cHd a.hd), .sl a.bd.length (byF a.bd)]) = True := eq_true (isC_enc cRec a)
@[push_cast] theorem rec_eta (a : Rcd) : (⟨a.ki, a.id, a.ow, a.ti, a.ke, a.hd, a.bd⟩ : Rcd) = a := rfl
def recOk (a : Rcd) : Prop := hdsOk a.hd ∧ a.id.length ≤ 140737488355328 ∧ a.ow.length ≤ 140737488355328 ∧ a.ke.length ≤ 140737488355328 ∧ a.hd.length ≤ 140737488355328 ∧ a.bd.length ≤ 140737488355328 ∧ -9223372036854775808 ≤ a.ti ∧ a.ti ≤ 9223372036854775807 ∧ -9223372036854775808 ≤ a.ki ∧ a.ki ≤ 9223372036854775807
theorem shRec {m : Nat} {v : V} (h : Sh.has (.tup [.int .i64, .str, .str, .int .i64, .str, .list (.tup [.str, .str]), .list (.int .u8)]) m v) : isC cRec v ∧ recOk (cRec.dec v) := by
  obtain ⟨l, ms, rfl, -, hl⟩ := h
  obtain ⟨m1, v1, ms, l, rfl, h1, hl⟩ := hasL_cons hl
  obtain ⟨m2, v2, ms, l, rfl, h2, hl⟩ := hasL_cons hl
  obtain ⟨m3, v3, ms, l, rfl, h3, hl⟩ := hasL_cons hl
  obtain ⟨m4, v4, ms, l, rfl, h4, hl⟩ := hasL_cons hl
  obtain ⟨m5, v5, ms, l, rfl, h5, hl⟩ := hasL_cons hl
  obtain ⟨m6, v6, ms, l, rfl, h6, hl⟩ := hasL_cons hl
  obtain ⟨m7, v7, ms, l, rfl, h7, hl⟩ := hasL_cons hl
  obtain rfl := hasL_nil hl
  obtain ⟨ki, rfl, c1⟩ := shInt h1
  obtain ⟨id, rfl, b2⟩ := shStr h2
  obtain ⟨ow, rfl, b3⟩ := shStr h3
  obtain ⟨ti, rfl, c4⟩ := shInt h4
  obtain ⟨ke, rfl, b5⟩ := shStr h5
  obtain ⟨n, f, rfl, i6, b6, k6⟩ := shList (c := cHd) (fun m v h => shHead h) h6
  obtain ⟨k, g, rfl, i7, b7⟩ := shBytes h7
  have := reach_le
  simp only [Lit.wf, Bool.and_eq_true, decide_eq_true_eq] at c1 c4
  refine ⟨isC_rec i6 i7, ?_⟩
  show recOk ⟨ki, id, ow, ti, ke, lsOf cHd n f, bytesOf k g⟩
  refine ⟨k6, b2, b3, b5, ?_, ?_, c4.1, c4.2, c1.1, c1.2⟩
  · show (lsOf cHd n f).length ≤ _
    rw [lsOf_len]; exact b6
  · show (bytesOf k g).length ≤ _
    rw [bytesOf_len]; omega
/-- a name -/
def nmB (c : UInt8) : Bool := decide (97 ≤ c.toNat ∧ c.toNat ≤ 122 ∨ 48 ≤ c.toNat ∧ c.toNat ≤ 57 ∨ c.toNat = 45)
def smB (c : UInt8) : Bool := decide (97 ≤ c.toNat ∧ c.toNat ≤ 122)
def nameL (s : List UInt8) : Bool := decide (1 ≤ s.length) && decide (s.length ≤ 40) && smB (s.getD 0 0) && s.all nmB
def nmS : List UInt8 := [97, 98, 99, 100, 101, 102, 103, 104, 105, 106, 107, 108, 109, 110, 111, 112, 113, 114, 115, 116, 117, 118, 119, 120, 121, 122, 48, 49, 50, 51, 52, 53, 54, 55, 56, 57, 45]
theorem nmS_has (c : UInt8) : nmS.contains c = nmB c := by
  have key : ∀ n, n < 256 → nmS.contains (UInt8.ofNat n) = nmB (UInt8.ofNat n) := by decide +kernel
  have := key c.toNat (UInt8.toNat_lt c)
  simpa using this
theorem trim_nm (s : List UInt8) : Lib.trimS s nmS = [] ↔ s.all nmB = true := by
  rw [trimS_nil]
  have : (fun x => nmS.contains x) = nmB := funext nmS_has
  rw [this]
/-- a record's digest -/
def mixS (n : Int) (c : UInt8) : Int := bitsI .xor .u64 n (c.toNat % 18446744073709551616) * 1099511628211 % 18446744073709551616
def mixL (s : List UInt8) : Int := s.foldl mixS 14695981039346656037
theorem mix_b (s : List UInt8) : 0 ≤ mixL s ∧ mixL s < 18446744073709551616 := by
  have : ∀ (s : List UInt8) (n : Int), (0 ≤ n ∧ n < 18446744073709551616) → 0 ≤ s.foldl mixS n ∧ s.foldl mixS n < 18446744073709551616 := by
    intro s
    induction s with
    | nil => intro n h; exact h
    | cons c t ih => intro n h; rw [List.foldl_cons]; exact ih _ (by unfold mixS; omega)
  exact this s _ (by omega)
theorem mixL_snoc (s : List UInt8) (c : UInt8) : mixL (s ++ [c]) = mixS (mixL s) c := by simp [mixL, List.foldl_append]
theorem andF (n : Int) (h0 : 0 ≤ n) (h : n < 18446744073709551616) : bitsI .and .u64 n 15 = n % 16 := by
  obtain ⟨u, rfl⟩ : ∃ u : Nat, n = u := ⟨n.toNat, by omega⟩
  show IntKind.u64.wrap (((BitVec.ofInt 64 (u : Int) &&& BitVec.ofInt 64 15 : BitVec 64).toNat : Nat) : Int) = _
  have e3 : (BitVec.ofInt 64 (u : Int) &&& BitVec.ofInt 64 15 : BitVec 64).toNat = u % 16 := by
    rw [BitVec.ofInt_natCast, BitVec.toNat_and, show (BitVec.ofInt 64 15 : BitVec 64).toNat = 2 ^ 4 - 1 from rfl, BitVec.toNat_ofNat, Nat.mod_eq_of_lt (by omega), Nat.and_two_pow_sub_one_eq_mod]
  rw [e3, wrap_u64]
  omega
theorem shrF (n : Int) (h0 : 0 ≤ n) : n.fdiv (2 ^ min 4 IntKind.u64.bits) = n / 16 := by
  rw [show (2 : Int) ^ min 4 IntKind.u64.bits = 16 from rfl, Int.fdiv_eq_ediv_of_nonneg _ (by omega)]
def hexT : List UInt8 := [48, 49, 50, 51, 52, 53, 54, 55, 56, 57, 97, 98, 99, 100, 101, 102]
def hex16 (n : Int) : List UInt8 := (List.range 16).map fun j => hexT.getD ((n / 16 ^ (15 - j)) % 16).toNat 0
def digestL (s : List UInt8) : List UInt8 := hex16 (mixL s)
theorem hex16_len (n : Int) : (hex16 n).length = 16 := by simp [hex16]
/-- the words of the lines of a record's own -/
def ownW : List (List UInt8) := [[105, 100], [111, 102], [107, 105, 110, 100], [100, 97, 116, 101], [107, 101, 121], [108, 101, 110, 103, 116, 104], [100, 105, 103, 101, 115, 116]]
def kindW : List (List UInt8) := [[105, 110, 102, 111], [114, 101, 113, 117, 101, 115, 116], [97, 110, 115, 119, 101, 114], [114, 101, 118, 105, 115, 105, 116], [112, 105, 101, 99, 101]]
def ownH (lw : List UInt8 → List UInt8) (l : List Hd) : Bool := l.any fun h => ownW.contains (lw h.name)
def hexD (n : Int) : UInt8 := hexT.getD (n % 16).toNat 0
/-- the lines of a record -/
def lnB2 (w v : List UInt8) : List UInt8 := w ++ [58, 32] ++ v ++ [13, 10]

end Go.Abs
