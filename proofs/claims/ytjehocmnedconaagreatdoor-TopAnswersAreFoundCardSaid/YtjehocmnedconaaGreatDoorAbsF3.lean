/- what functions of this program compute: contracts, each a function's own -/
import Derived.Test.YtjehocmnedconaaGreatDoorAbsK3
import Derived.Test.YtjehocmnedconaaGreatDoorAbsFacts
import Derived.Test.YtjehocmnedconaaGreatDoorAbsF2
import Derived.Test.YtjehocmnedconaaGreatDoorAbsShelf
import Derived.Lib.SlTrimSet
import Derived.Lib.Atoi
import Derived.Lib.Itoa
import Derived.Lib.ItoaNum
import Derived.Lib.AtoiErrMem
import Derived.Lib.Repeat
import Derived.Lib.ItoaLen
import Derived.Lib.SplitLaws
import Derived.Lib.Join
import Derived.Lib.Index
import Derived.Lib.IndexBytes
import Derived.Lib.Fold
import Derived.Lib.Walk
import Derived.WalkKit
import Derived.ScopeJumps
import Derived.Deep.LoopGhost
import Derived.Laws.RangeAny
import Derived.Lib.BitFns
import Derived.Lib.TrailingZeros
import Derived.Sort.Walk0
namespace Go.Abs
open Go Go.Proofs
set_option maxHeartbeats 4000000
set_option maxRecDepth 100000
set_option linter.unusedVariables false
set_option linter.unusedSimpArgs false
def idxL (l : List (List UInt8)) (w : List UInt8) : Int := match l.findIdx? (· == w) with
  | some k => k
  | none => -1
theorem idxL_at {l : List (List UInt8)} {w : List UInt8} {i : Nat} (hi : i < l.length) (h : w = l.getD i []) (hn : ∀ j, j < i → ¬ w = l.getD j []) : idxL l w = i := by
  unfold idxL
  have : l.findIdx? (· == w) = some i := by
    rw [List.findIdx?_eq_some_iff_getElem]
    refine ⟨hi, ?_, fun j hj => ?_⟩
    · rw [List.getD_eq_getElem?_getD, List.getElem?_eq_getElem hi] at h; simp [h]
    · have h1 := hn j hj
      rw [List.getD_eq_getElem?_getD, List.getElem?_eq_getElem (by omega)] at h1
      simp only [Option.getD_some] at h1
      simp only [Bool.not_eq_true, beq_eq_false_iff_ne]
      exact fun e => h1 e.symm
  rw [this]
theorem idxL_no {l : List (List UInt8)} {w : List UInt8} (hn : ∀ j, j < l.length → ¬ w = l.getD j []) : idxL l w = -1 := by
  unfold idxL
  have : l.findIdx? (· == w) = none := by
    rw [List.findIdx?_eq_none_iff]
    intro x hx
    obtain ⟨j, hj, rfl⟩ := List.getElem_of_mem hx
    have h1 := hn j hj
    rw [List.getD_eq_getElem?_getD, List.getElem?_eq_getElem hj] at h1
    simp only [Option.getD_some] at h1
    exact beq_eq_false_iff_ne.2 fun e => h1 e.symm
  rw [this]
def ckIndexStr : Ck
  | [.sl n f, .str w] => some (isLs cStr n f ∧ n ≤ 4611686018427387904, .int .i64 (idxL (lsOf cStr n f) w))
  | _ => none
theorem conIndexStr : Con pg 97 ckIndexStr := by
  have hct := ctN_ok pg
  intro args q r h hq
  unfold ckIndexStr at h
  split at h
  · cases h
    rename_i n f w
    refine pcall_args (args' := [.sl (lsOf cStr n f).length (lsF cStr (lsOf cStr n f)), .str w]) ⟨isLs.vle hq.1, VLe.refl _, trivial⟩ ?_
    have hn : (lsOf cStr n f).length ≤ 4611686018427387904 := by rw [lsOf_len]; exact hq.2
    generalize lsOf cStr n f = a at hn ⊢
    refine w97 (fun _ => false) [] rfl hct rfl rfl ?_
    push_cast (config := { maxSteps := 10000000 })
    refine LoopW.adj ⟨hct, fol⟩ (by kernel_rfl) [] (fun i : Nat => [(0, .sl a.length (lsF cStr a)), (1, .str w), (7, .int .i64 a.length), (8, .int .i64 i)]) (fun _ => []) (fun i => i ≤ a.length ∧ ∀ j, j < i → ¬ w = a.getD j []) (fun i => a.length - i) 0 ?_ fun i hi => ?_
    · push_cast (config := { maxSteps := 10000000 })
      exact Nat.zero_le _
    · push_cast (config := { maxSteps := 10000000 })
      obtain ⟨h1, h2⟩ := hi
      refine ⟨fun h => ⟨h, fun h3 => (idxL_at h h3 h2).symm, fun h3 => ⟨by omega, i + 1, ⟨by omega, fun j hj => ?_⟩, by omega, by omega⟩⟩, fun h => (idxL_no fun j hj => h2 j (by omega)).symm⟩
      by_cases e : j = i
      · subst e; exact h3
      · exact h2 j (by omega)
  · cases h
attribute [push_cast] ckIndexStr
def ckName : Ck
  | [.str s] => some (s.length ≤ 4611686018427387900, .bool (nameL s))
  | _ => none
theorem conIsName : Con pg 22 ckName := by
  have hct := (ctA_ok conTrim (ctN_ok _))
  intro args q r h hq
  unfold ckName at h
  split at h
  · cases h
    rename_i s
    refine w22 (fun _ => false) [] rfl hct rfl rfl ?_
    push_cast (config := { maxSteps := 10000000 })
    refine ⟨fun h => ⟨h, by omega⟩, fun h => ⟨h, by omega⟩, fun h => ⟨h, by omega⟩, ?_⟩
    have e := trim_nm s
    unfold nmS at e
    rw [Bool.eq_iff_iff]
    simp only [nameL, smB, Bool.and_eq_true, decide_eq_true_eq, beq_iff_eq, e]
    exact ⟨fun ⟨⟨⟨⟨a, b⟩, c⟩, d⟩, f⟩ => ⟨⟨⟨by omega, by omega⟩, by omega, by omega⟩, f⟩, fun ⟨⟨⟨a, b⟩, c, d⟩, f⟩ => ⟨⟨⟨⟨by omega, by omega⟩, by omega⟩, by omega⟩, f⟩⟩
  · cases h
attribute [push_cast] ckName
def ckKey : Ck
  | [.str s] => some (s.length ≤ 4611686018427387900, .bool (targetL s))
  | _ => none
theorem conIsKey : Con pg 64 ckKey := by
  have hct := ctN_ok pg
  intro args q r h hq
  unfold ckKey at h
  split at h
  · cases h
    rename_i s
    refine w64 (fun _ => false) [] rfl hct rfl rfl ?_
    push_cast (config := { maxSteps := 10000000 })
    refine LoopW.adj ⟨hct, fol⟩ (by kernel_rfl) [] (fun i : Nat => [(0, .str s), (5, .int .i64 s.length), (6, .int .i64 i)]) (fun _ => []) (fun i => i ≤ s.length ∧ ∀ j, j < i → tgB (s.getD j 0) = true) (fun i => s.length - i) 0 ?_ fun i hi => ?_
    · push_cast (config := { maxSteps := 10000000 })
      exact Nat.zero_le _
    · push_cast (config := { maxSteps := 10000000 })
      obtain ⟨h1, h2⟩ := hi
      refine ⟨fun h => ⟨h, fun a => ⟨a, h⟩, fun a => ?_, fun a => ⟨⟨by omega, by omega⟩, i + 1, ⟨by omega, fun j hj => ?_⟩, by omega, by omega⟩⟩, fun h => ?_⟩
      · unfold targetL; rw [all_no h (decide_eq_false (by omega))]; simp
      · by_cases e : j = i
        · subst e; exact decide_eq_true (by omega)
        · exact h2 j (by omega)
      · unfold targetL
        rw [all_at fun j hj => h2 j (by omega), Bool.and_true]
        congr 1 <;> exact decide_eq_decide.2 (by omega)
  · cases h
attribute [push_cast] ckKey
theorem idx_has (l : List (List UInt8)) (w : List UInt8) : decide (0 ≤ idxL l w) = l.contains w := by
  unfold idxL
  cases h : l.findIdx? (· == w) with
  | none =>
    rw [List.findIdx?_eq_none_iff] at h
    have : l.contains w = false := by
      rw [Bool.eq_false_iff]
      intro hc
      rw [List.contains_iff_mem] at hc
      have := h w hc
      simp at this
    rw [this]; rfl
  | some k =>
    rw [List.findIdx?_eq_some_iff_getElem] at h
    obtain ⟨hk, h1, _⟩ := h
    have : l.contains w = true := by
      rw [List.contains_iff_mem]
      have e := beq_iff_eq.1 h1
      rw [← e]; exact List.getElem_mem hk
    rw [this]
    exact decide_eq_true (Int.natCast_nonneg k)
def ckHasStr : Ck
  | [.sl n f, .str w] => some (isLs cStr n f ∧ n ≤ 4611686018427387904, .bool ((lsOf cStr n f).contains w))
  | _ => none
theorem conHasStr : Con pg 54 ckHasStr := by
  have hct := (ctA_ok conIndexStr (ctN_ok _))
  intro args q r h hq
  unfold ckHasStr at h
  split at h
  · cases h
    rename_i n f w
    refine w54 (fun _ => false) [] rfl hct rfl rfl ?_
    push_cast (config := { maxSteps := 10000000 })
    exact ⟨hq, idx_has _ _⟩
  · cases h
attribute [push_cast] ckHasStr
def ckKinds : Ck
  | [] => some (True, .sl 5 (lsF cStr kindW))
  | _ => none
theorem conKinds : Con pg 50 ckKinds := by
  have hct := ctN_ok pg
  intro args q r h hq
  unfold ckKinds at h
  split at h
  · cases h
    refine w50 (fun _ => false) [] rfl hct rfl rfl ?_
    push_cast (config := { maxSteps := 10000000 })
    intro i hi
    rcases (by omega : i = 0 ∨ i = 1 ∨ i = 2 ∨ i = 3 ∨ i = 4) with rfl | rfl | rfl | rfl | rfl <;> rfl
  · cases h
attribute [push_cast] ckKinds
def ckOwn : Ck
  | [] => some (True, .sl 7 (lsF cStr ownW))
  | _ => none
theorem conOwn : Con pg 85 ckOwn := by
  have hct := ctN_ok pg
  intro args q r h hq
  unfold ckOwn at h
  split at h
  · cases h
    refine w85 (fun _ => false) [] rfl hct rfl rfl ?_
    push_cast (config := { maxSteps := 10000000 })
    intro i hi
    rcases (by omega : i = 0 ∨ i = 1 ∨ i = 2 ∨ i = 3 ∨ i = 4 ∨ i = 5 ∨ i = 6) with rfl | rfl | rfl | rfl | rfl | rfl | rfl <;> rfl
  · cases h
attribute [push_cast] ckOwn
def hexS : List UInt8 := [48, 49, 50, 51, 52, 53, 54, 55, 56, 57, 97, 98, 99, 100, 101, 102]
def indE (e : Ind) : Int :=
  if targetL e.ky = false then 3
  else if ¬ (0 ≤ e.ti ∧ e.ti ≤ 253402300799) ∨ (e.st ≠ 0 ∧ ¬ (100 ≤ e.st ∧ e.st ≤ 599)) then 1
  else if e.ty ≠ [] ∧ isWordL e.ty 40 = false then 3
  else if e.dg.length ≠ 16 ∨ Lib.trimS e.dg hexS ≠ [] then 3
  else if nameL e.fi = false then 5
  else if ¬ (0 ≤ e.fr ∧ e.fr ≤ 500000) ∨ ¬ (e.fr ≤ e.to' ∧ e.to' ≤ 500000) then 1
  else 0
def indOk (e : Ind) : Prop := e.ky.length ≤ 140737488355328 ∧ e.ty.length ≤ 140737488355328 ∧ e.dg.length ≤ 140737488355328 ∧ e.fi.length ≤ 140737488355328
def ckIndE : Ck
  | [.agg [.str ky, .int .i64 ti, .int .i64 st, .str ty, .str dg, .str fi, .int .i64 fr, .int .i64 t2, .bool sm]] => some (indOk ⟨ky, ti, st, ty, dg, fi, fr, t2, sm⟩, .int .i64 (indE ⟨ky, ti, st, ty, dg, fi, fr, t2, sm⟩))
  | _ => none
theorem conIndE : Con pg 127 ckIndE := by
  have hct := (ctA_ok conIsKey (ctA_ok conIsMoment (ctA_ok conWithinX (ctA_ok conIsWord (ctA_ok conTrim (ctA_ok conIsName (ctN_ok _)))))))
  intro args q r h hq
  unfold ckIndE at h
  split at h
  · cases h
    rename_i ky ti st ty dg fi fr t2 sm
    refine w127 (fun _ => false) [] rfl hct rfl rfl ?_
    push_cast (config := { maxSteps := 10000000 })
    have hE : indE ⟨ky, ti, st, ty, dg, fi, fr, t2, sm⟩ = if targetL ky = false then 3
      else if ¬ (0 ≤ ti ∧ ti ≤ 253402300799) ∨ (st ≠ 0 ∧ ¬ (100 ≤ st ∧ st ≤ 599)) then 1
      else if ty ≠ [] ∧ isWordL ty 40 = false then 3
      else if dg.length ≠ 16 ∨ Lib.trimS dg hexS ≠ [] then 3
      else if nameL fi = false then 5
      else if ¬ (0 ≤ fr ∧ fr ≤ 500000) ∨ ¬ (fr ≤ t2 ∧ t2 ≤ 500000) then 1
      else 0 := rfl
    generalize indE ⟨ky, ti, st, ty, dg, fi, fr, t2, sm⟩ = E at hE ⊢
    obtain ⟨q1, q2, q3, q4⟩ := hq
    have q1 : ky.length ≤ 140737488355328 := q1
    have q2 : ty.length ≤ 140737488355328 := q2
    have q3 : dg.length ≤ 140737488355328 := q3
    have q4 : fi.length ≤ 140737488355328 := q4
    refine ⟨by omega, fun h => by rw [hE, if_pos h], fun h1 => ?_⟩
    rw [if_neg (by rw [h1]; simp)] at hE
    refine ⟨fun h => ⟨h, fun h' => ⟨h, h'⟩⟩, fun h => by rw [hE, if_pos (by omega)], fun h2 => ?_⟩
    rw [if_neg (by omega)] at hE
    refine ⟨fun h => ⟨h, q2⟩, fun h => by rw [hE, if_pos h], fun h3 => ?_⟩
    rw [if_neg (fun k => by have := h3 k.1; rw [k.2] at this; cases this)] at hE
    have dx : (¬ (dg.length : Int) = 16 ∨ ¬ Lib.trimS dg hexS = []) → (dg.length ≠ 16 ∨ Lib.trimS dg hexS ≠ []) := fun h => h.elim (fun k => .inl (by omega)) .inr
    refine ⟨fun h => ⟨h, by omega⟩, fun h => by rw [hE, if_pos (dx h)], fun h4 => ?_⟩
    rw [if_neg (fun k => k.elim (fun k => k (by omega)) (fun k => k h4.2))] at hE
    refine ⟨by omega, fun h => by rw [hE, if_pos h], fun h5 => ?_⟩
    rw [if_neg (by rw [h5]; simp)] at hE
    exact ⟨fun h => by rw [hE, if_pos (by omega)], fun h => by rw [hE, if_neg (by omega)]⟩
  · cases h
attribute [push_cast] ckIndE
def ckIndsE : Ck
  | [.sl 1 f] => some (isLs cInd 1 f ∧ ∀ e ∈ lsOf cInd 1 f, indOk e, .int .i64 (indE (cInd.dec (f 0))))
  | _ => none
theorem conIndsE : Con pg 69 ckIndsE := by
  have hct := (ctA_ok conIndE (ctN_ok _))
  intro args q r h hq
  unfold ckIndsE at h
  split at h
  · cases h
    rename_i f
    refine pcall_args (args' := [.sl (lsOf cInd 1 f).length (lsF cInd (lsOf cInd 1 f))]) ⟨isLs.vle hq.1, trivial⟩ ?_
    have hok := hq.2
    have hl : lsOf cInd 1 f = [cInd.dec (f 0)] := rfl
    rw [hl] at hok ⊢
    generalize cInd.dec (f 0) = e at hok ⊢
    have ok := hok e List.mem_cons_self
    refine w69 (fun _ => false) [] rfl hct rfl rfl ?_
    push_cast (config := { maxSteps := 10000000 })
    refine LoopW.adj ⟨hct, fol⟩ (by kernel_rfl) [] (fun k : Nat => [(0, .sl 1 (lsF cInd [e])), (10, .sl 1 (lsF cInd [e])), (11, .int .i64 1), (12, .int .i64 k)]) (fun _ => []) (fun k => k = 0 ∨ (k = 1 ∧ indE e = 0)) (fun k => 1 - k) 0 ?_ fun k hk => ?_
    · push_cast (config := { maxSteps := 10000000 })
      done
    · rcases hk with rfl | ⟨rfl, hk⟩
      · push_cast (config := { maxSteps := 10000000 })
        exact ⟨ok, fun h => ⟨1, .inr ⟨rfl, h⟩, by omega, rfl⟩⟩
      · push_cast (config := { maxSteps := 10000000 })
        exact hk.symm
  · cases h
attribute [push_cast] ckIndsE
def lineS : List UInt8 → Option (List UInt8)
  | [] => none
  | c :: t => if c = 13 then (if t.getD 0 0 = 10 ∧ 0 < t.length then some [] else none) else if c = 10 then none else (lineS t).map (c :: ·)
def lnS (b : List UInt8) (i : Nat) : List UInt8 := (lineS (b.drop i)).getD []
def lnB (b : List UInt8) (i : Nat) : Bool := (lineS (b.drop i)).isSome
def lnN (b : List UInt8) (i : Nat) : Nat := match lineS (b.drop i) with
  | some s => i + s.length + 2
  | none => i
theorem getD_drop0 (b : List UInt8) (k : Nat) : (b.drop k).getD 0 0 = b.getD k 0 := by simp [List.getD_eq_getElem?_getD]
theorem lineS_crlf {b : List UInt8} {i : Nat} (h : i + 1 < b.length) (h1 : b.getD i 0 = 13) (h2 : b.getD (i + 1) 0 = 10) : lineS (b.drop i) = some [] := by
  rw [dropG (d := 0) (by omega), lineS, if_pos h1, if_pos]
  rw [getD_drop0]
  exact ⟨h2, by simp; omega⟩
theorem lineS_bad {b : List UInt8} {i : Nat} (h : i < b.length) (h1 : b.getD i 0 = 13 ∧ ¬ (i + 1 < b.length ∧ b.getD (i + 1) 0 = 10) ∨ b.getD i 0 = 10) : lineS (b.drop i) = none := by
  rw [dropG (d := 0) h, lineS]
  rcases h1 with ⟨h1, h2⟩ | h1
  · rw [if_pos h1, if_neg]
    rw [getD_drop0]
    rintro ⟨h3, h4⟩
    simp at h4
    exact h2 ⟨by omega, h3⟩
  · rw [h1, if_neg (by decide), if_pos rfl]
theorem lineS_next {b : List UInt8} {i : Nat} (h : i < b.length) (h1 : b.getD i 0 ≠ 13) (h2 : b.getD i 0 ≠ 10) : lineS (b.drop i) = (lineS (b.drop (i + 1))).map (b.getD i 0 :: ·) := by
  rw [dropG (d := 0) h, lineS, if_neg h1, if_neg h2]
def ckLine : Ck
  | [.sl n f, .int .i64 a] => some (isBy n f ∧ 0 ≤ a ∧ a ≤ n ∧ n ≤ 4611686018427387900, .tup [.str (lnS (bytesOf n f) a.toNat), .int .i64 (lnN (bytesOf n f) a.toNat), .bool (lnB (bytesOf n f) a.toNat)])
  | _ => none
theorem conLine : Con pg 144 ckLine := by
  have hct := ctN_ok pg
  intro args q r h hq
  unfold ckLine at h
  split at h
  · cases h
    rename_i n f a
    refine pcall_args (args' := [.sl (bytesOf n f).length (byF (bytesOf n f)), .int .i64 a]) ⟨isBy.vle hq.1, VLe.refl _, trivial⟩ ?_
    obtain ⟨-, h0, h1, h2⟩ := hq
    have hl := bytesOf_len n f
    rw [← hl] at h1 h2
    generalize bytesOf n f = b at h1 h2 ⊢
    clear hl
    obtain ⟨a, rfl⟩ : ∃ k : Nat, a = k := ⟨a.toNat, by omega⟩
    rw [Int.toNat_natCast]
    have ha : a ≤ b.length := by omega
    refine w144 (fun _ => false) [] rfl hct rfl rfl ?_
    push_cast (config := { maxSteps := 10000000 })
    refine LoopW.adj ⟨hct, fol⟩ (by kernel_rfl) [] (fun i : Nat => [(0, .sl b.length (byF b)), (1, .int .i64 a), (7, .int .i64 i)]) (fun _ => []) (fun i => a ≤ i ∧ i ≤ b.length ∧ lineS (b.drop a) = (lineS (b.drop i)).map ((b.drop a).take (i - a) ++ ·)) (fun i => b.length - i) a ?_ fun i hi => ?_
    · push_cast (config := { maxSteps := 10000000 })
      simp [ha]
    · push_cast (config := { maxSteps := 10000000 })
      obtain ⟨i1, i2, i3⟩ := hi
      have u13 : ∀ c : UInt8, (c.toNat : Int) = 13 ↔ c = 13 := fun c => (u8_eq c 13).symm
      have u10 : ∀ c : UInt8, (c.toNat : Int) = 10 ↔ c = 10 := fun c => (u8_eq c 10).symm
      have hno : lineS (b.drop a) = none → [] = lnS b a ∧ a = lnN b a ∧ false = lnB b a := fun h => by
        unfold lnS lnN lnB; rw [h]; exact ⟨rfl, rfl, rfl⟩
      simp only [u13, u10]
      refine ⟨fun h => ⟨h, fun h3 => ⟨h3, by omega, by omega⟩, fun h3 => ⟨h3, by omega, by omega⟩, fun h3 => ⟨h3, by omega, by omega⟩, fun h3 => ?_, fun h3 => ⟨h, fun h4 => ⟨h4, h⟩, fun h4 => hno ?_, fun h4 => ⟨⟨by omega, by omega⟩, i + 1, ⟨by omega, by omega, ?_⟩, by omega, by omega⟩⟩⟩, fun h => hno ?_⟩
      · have hs := ByI.sh (ByI.by b) (l := a) (k := i - a) (by omega)
        rw [lineS_crlf (i := i) (by omega) h3.1.1 h3.2] at i3
        simp only [Option.map_some, List.append_nil] at i3
        refine ⟨⟨i2, by omega, i1⟩, hs.bytesP, ⟨by omega, by omega⟩, ?_, ?_, ?_⟩
        · rw [hs.bytes]; unfold lnS; rw [i3]; rfl
        · unfold lnN; rw [i3]; simp only [List.length_take, List.length_drop]; omega
        · unfold lnB; rw [i3]; rfl
      · rw [i3, lineS_bad h]
        · rfl
        · rcases h4 with h4 | h4
          · exact .inl ⟨h4, fun h5 => h3 ⟨h4, by omega⟩ h5.2⟩
          · exact .inr h4
      · rw [i3, lineS_next h h4.1 h4.2]
        cases lineS (b.drop (i + 1)) with
        | none => rfl
        | some z =>
          simp only [Option.map_some, Option.some.injEq]
          rw [show i + 1 - a = (i - a) + 1 by omega, List.take_add_one]
          have e : (b.drop a)[i - a]? = some (b.getD i 0) := by
            rw [List.getElem?_drop, show a + (i - a) = i by omega, List.getElem?_eq_getElem h, List.getD_eq_getElem?_getD, List.getElem?_eq_getElem h]; rfl
          rw [e]; simp
      · rw [i3, List.drop_eq_nil_of_le (show b.length ≤ i by omega)]; rfl
  · cases h
attribute [push_cast] ckLine
def ckMixed : Ck
  | [.sl n f] => some (isBy n f ∧ n ≤ 4611686018427387900, .int .u64 (mixL (bytesOf n f)))
  | _ => none
theorem conMixed : Con pg 32 ckMixed := by
  have hct := ctN_ok pg
  intro args q r h hq
  unfold ckMixed at h
  split at h
  · cases h
    rename_i n f
    refine pcall_args (args' := [.sl (bytesOf n f).length (byF (bytesOf n f))]) ⟨isBy.vle hq.1, trivial⟩ ?_
    have h1 : (bytesOf n f).length ≤ 4611686018427387900 := by rw [bytesOf_len]; exact hq.2
    generalize bytesOf n f = b at h1 ⊢
    refine w32 (fun _ => false) [] rfl hct rfl rfl ?_
    push_cast (config := { maxSteps := 10000000 })
    have hstep : ∀ i, i < b.length → bitsI BinOp.xor IntKind.u64 (mixL (b.take i)) (((b.getD i 0).toNat : Int) % 18446744073709551616) * 1099511628211 % 18446744073709551616 = mixL (b.take (i + 1)) := fun i hi => by
      rw [takeG (d := 0) hi, mixL_snoc]; rfl
    refine LoopW.adj ⟨hct, fol⟩ (by kernel_rfl) [] (fun i : Nat => [(0, .sl b.length (byF b)), (3, .int .u64 (mixL (b.take i))), (6, .int .i64 b.length), (7, .int .i64 i)]) (fun _ => []) (fun i => i ≤ b.length) (fun i => b.length - i) 0 ?_ fun i hi => ?_
    · push_cast (config := { maxSteps := 10000000 })
      exact ⟨Nat.zero_le _, rfl⟩
    · push_cast (config := { maxSteps := 10000000 })
      exact ⟨fun h => ⟨h, ⟨by omega, by omega⟩, i + 1, by omega, by omega, hstep i h, by omega⟩, fun h => by rw [List.take_of_length_le (by omega)]⟩
  · cases h
attribute [push_cast] ckMixed
def hxF (n : Int) (i : Nat) : Nat → V := fun j => bif decide (16 ≤ j + i) then .int .u8 (hexD (n / 16 ^ (15 - j))).toNat else .int .u8 0
theorem div16 {n : Int} (h0 : 0 ≤ n) (h1 : n < 18446744073709551616) (i : Nat) : 0 ≤ n / 16 ^ i ∧ n / 16 ^ i < 18446744073709551616 := by
  have hp : (0 : Int) < 16 ^ i := Int.pow_pos (by omega)
  refine ⟨Int.ediv_nonneg h0 (by omega), ?_⟩
  have := Int.ediv_le_self (16 ^ i) h0
  omega
theorem div16s (n : Int) (i : Nat) : n / 16 ^ i / 16 = n / 16 ^ (i + 1) := by
  have hp : (0 : Int) < 16 ^ i := Int.pow_pos (by omega)
  rw [Int.pow_succ, Int.ediv_ediv_of_nonneg (by omega)]
theorem hx_set {n : Int} {i : Nat} (hi : i < 16) (j : Nat) : setF (hxF n i) (15 - i) (.int .u8 (hexD (n / 16 ^ i)).toNat) j = hxF n (i + 1) j := by
  unfold setF hxF
  by_cases e : j = 15 - i
  · rw [decide_eq_true e, cond_true, decide_eq_true (show 16 ≤ j + (i + 1) by omega), cond_true, show 15 - j = i by omega]
  · rw [decide_eq_false e, cond_false]
    by_cases h : 16 ≤ j + i
    · rw [decide_eq_true h, decide_eq_true (show 16 ≤ j + (i + 1) by omega)]
    · rw [decide_eq_false h, decide_eq_false (show ¬ 16 ≤ j + (i + 1) by omega)]
theorem hx_end {n : Int} {i : Nat} (hi : i = 16) : (∀ j, j < 16 → ∃ m, hxF n i j = .int .u8 m) ∧ bytesOf 16 (hxF n i) = hex16 n := by
  subst hi
  have e : ∀ j, hxF n 16 j = .int .u8 (hexD (n / 16 ^ (15 - j))).toNat := fun j => by unfold hxF; rw [decide_eq_true (by omega)]; rfl
  refine ⟨fun j _ => ⟨_, e j⟩, ?_⟩
  unfold bytesOf hex16
  refine List.map_congr_left fun j _ => ?_
  rw [e]
  simp [V.toByte, hexD]
def ckHex : Ck
  | [.int .u64 n] => some (0 ≤ n ∧ n < 18446744073709551616, .str (hex16 n))
  | _ => none
theorem conHex : Con pg 31 ckHex := by
  have hct := ctN_ok pg
  intro args q r h hq
  unfold ckHex at h
  split at h
  · cases h
    rename_i n
    refine w31 (fun _ => false) [] rfl hct rfl rfl ?_
    push_cast (config := { maxSteps := 10000000 })
    refine LoopW.adj ⟨hct, fol⟩ (by kernel_rfl) [] (fun i : Nat => [(0, .int .u64 (n / 16 ^ i)), (3, .vec 5 16), (7, .int .i64 16), (8, .int .i64 i)]) (fun i => [(5, .vec 1 16 (hxF n i))]) (fun i => i ≤ 16) (fun i => 16 - i) 0 ?_ fun i hi => ?_
    · push_cast (config := { maxSteps := 10000000 })
      exact ⟨(Int.ediv_one n).symm, fun i hi => by unfold hxF; rw [decide_eq_false (by omega)]; rfl⟩
    · push_cast (config := { maxSteps := 10000000 })
      refine ⟨fun h => ?_, fun h => hx_end (by omega)⟩
      have hd := div16 hq.1 hq.2 i
      rw [andF _ hd.1 hd.2, shrF _ hd.1, div16s]
      have hj : (15 - (i : Int)).toNat = 15 - i := by omega
      have hz : hxF n i (15 - i) = .int .u8 0 := by unfold hxF; rw [decide_eq_false (by omega)]; rfl
      rw [hj, hz]
      exact ⟨⟨by omega, by omega⟩, ⟨by omega, by omega⟩, ⟨by omega, by omega⟩, by omega, ⟨by omega, by omega⟩, i + 1, by omega, by omega, ⟨rfl, by omega⟩, fun j _ => hx_set (by omega) j⟩
  · cases h
attribute [push_cast] ckHex
def ckDigest : Ck
  | [.sl n f] => some (isBy n f ∧ n ≤ 4611686018427387900, .str (digestL (bytesOf n f)))
  | _ => none
theorem conDigest : Con pg 10 ckDigest := by
  have hct := (ctA_ok conMixed (ctA_ok conHex (ctN_ok _)))
  intro args q r h hq
  unfold ckDigest at h
  split at h
  · cases h
    rename_i n f
    refine w10 (fun _ => false) [] rfl hct rfl rfl ?_
    push_cast (config := { maxSteps := 10000000 })
    exact ⟨hq, mix_b _, rfl⟩
  · cases h
attribute [push_cast] ckDigest
def catL (L a v : List UInt8) : List UInt8 := L ++ lnB2 a v
theorem catL_len (L a v : List UInt8) : (catL L a v).length = L.length + a.length + v.length + 4 := by simp [catL, lnB2]; omega
def ckLineK : List V → List Blk → Option (Prop × V × List Blk)
  | [.str a, .str v, .ptr 2 0], [.cells [.vec 12 n], .vec 1 k g] => some (k = n ∧ isBy n g ∧ n ≤ 100000000 ∧ a.length ≤ 100000000 ∧ v.length ≤ 100000000, .tup [], [.cells [.vec 12 (catL (bytesOf n g) a v).length], .vec 1 (catL (bytesOf n g) a v).length (byF (catL (bytesOf n g) a v))])
  | _, _ => none
def ckLine6 : Cf := ⟨fun | [_, _, .ptr 2 _] => [2, 12] | _ => [], ckLineK⟩
theorem conLine6 : FCon pg 49 ckLine6 := by
  have hct := ctN_ok pg
  intro args bs q r bs' h hq
  replace h : ckLineK args bs = some (q, r, bs') := h
  unfold ckLineK at h
  split at h
  · cases h
    rename_i a v n k g
    refine ⟨rfl, Nat.le_refl _, ?_⟩
    obtain ⟨rfl, hg, hk, ha, hv⟩ := hq
    show FCall pg 49 [.str a, .str v, .ptr 9002 0] [(9002, .cells [.vec 9012 k]), (9012, .vec 1 k fun i => V.shift (g i))] (.tup []) [(9002, .cells [.vec 9012 (catL (bytesOf k g) a v).length]), (9012, .vec 1 (catL (bytesOf k g) a v).length (byF (catL (bytesOf k g) a v)))]
    refine fcall_blk (hm := [(9002, .cells [.vec 9012 k]), (9012, .vec 1 k (byF (bytesOf k g)))]) ⟨rfl, ⟨⟨rfl, rfl⟩, trivial⟩, rfl, ⟨rfl, rfl, fun j hj => by show V.shift (g j) = _; rw [hg.2 j hj]; rfl⟩, trivial⟩ ?_
    have hl := bytesOf_len k g
    generalize bytesOf k g = b at hl ⊢
    subst hl
    refine fw49 (fun _ => false) [] rfl hct rfl (by simp) (by simp [hlIn, idsIn, Blk.menIn, V.menInL, V.menIn, V.flat, byF, lsF]) (by simp [V.menIn, V.menInL, idsIn]) ?_
    push_cast (config := { maxSteps := 10000000 })
    have hll : (lnB2 a v).length = a.length + 2 + v.length + 2 := by simp [lnB2]; omega
    have hcl := catL_len b a v
    have app := ByI.app (ByI.by b) (ByI.by (lnB2 a v)) rfl
    rw [hll] at app
    exact ⟨by omega, by omega, by omega, ⟨by omega, by omega⟩, by omega, by omega, app.2⟩
  · cases h
@[push_cast] theorem line6_ids (x y : V) (o : Nat) : ckLine6.ids [x, y, .ptr 2 o] = [2, 12] := rfl
@[push_cast] theorem line6_k (a v : List UInt8) (n k : Nat) (g : Nat → V) : ckLine6.k [.str a, .str v, .ptr 2 0] [.cells [.vec 12 n], .vec 1 k g] = some (k = n ∧ isBy n g ∧ n ≤ 100000000 ∧ a.length ≤ 100000000 ∧ v.length ≤ 100000000, .tup [], [.cells [.vec 12 (catL (bytesOf n g) a v).length], .vec 1 (catL (bytesOf n g) a v).length (byF (catL (bytesOf n g) a v))]) := rfl
@[push_cast] theorem vle_fn6 (f : Fn) (a b : List V) : vle (.fn f a b) (.fn f a b) = True := eq_true rfl
@[push_cast] theorem kept_by : bytesOf 8 (byF [75, 69, 80, 84, 47, 49, 13, 10]) = [75, 69, 80, 84, 47, 49, 13, 10] := rfl
@[push_cast] theorem kept_is : isBy 8 (byF [75, 69, 80, 84, 47, 49, 13, 10]) = True := eq_true (isBy_by [75, 69, 80, 84, 47, 49, 13, 10])
theorem date_le {n : Int} (h0 : 0 ≤ n) (h1 : n ≤ 253402300799) : (dateTextL n).length ≤ 6000 := by
  have h0 : 0 ≤ n / 86400 ∧ n / 86400 ≤ 2932896 := by omega
  have b := date_b h0.1 h0.2
  have l1 := wdN_b ((n / 86400 + 3) % 7).toNat
  have l2 := mnN_b (monthI (n / 86400) - 1).toNat
  have l3 := paddedL_len (n := n / 86400 - daysI (yearI (n / 86400)) (monthI (n / 86400)) + 1) (k := 2) (by omega) (by omega) (by omega) (by omega)
  have l4 := paddedL_len (n := yearI (n / 86400)) (k := 4) (by omega) (by omega) (by omega) (by omega)
  have l5 := paddedL_len (n := n % 86400 / 3600) (k := 2) (by omega) (by omega) (by omega) (by omega)
  have l6 := paddedL_len (n := n % 86400 / 60 % 60) (k := 2) (by omega) (by omega) (by omega) (by omega)
  have l7 := paddedL_len (n := n % 86400 % 60) (k := 2) (by omega) (by omega) (by omega) (by omega)
  unfold dateTextL
  simp only [List.length_append, List.length_cons, List.length_nil]
  omega
theorem kindW_le (k : Nat) : (kindW.getD k []).length ≤ 7 := by
  match k with
  | 0 | 1 | 2 | 3 | 4 => decide
  | k + 5 => simp [kindW]
theorem name_le {s : List UInt8} (h : nameL s = true) : s.length ≤ 40 := by
  simp only [nameL, Bool.and_eq_true, decide_eq_true_eq] at h; exact h.1.1.2
theorem target_le {s : List UInt8} (h : targetL s = true) : s.length ≤ 2000 := by
  simp only [targetL, Bool.and_eq_true, decide_eq_true_eq] at h; exact h.1.2
theorem rec_sz {r : Rcd} (h : checkRecL r = 0) : r.id.length ≤ 40 ∧ r.ow.length ≤ 40 ∧ r.ke.length ≤ 2000 ∧ (dateTextL r.ti).length ≤ 6000 ∧ (headsB r.hd).length ≤ 104400 ∧ r.bd.length ≤ 200000 ∧ r.hd.length ≤ 30 := by
  obtain ⟨h1, h2, h3, h4, h5, h6, h7, h8, h9, h10⟩ := rec_ok h
  refine ⟨name_le h3, ?_, target_le h7, date_le h5 h6, heads_le h9, h10, h8⟩
  rcases h4 with h4 | h4
  · rw [h4]; simp
  · exact name_le h4
theorem recP_ow {r : Rcd} (h : ¬ r.ow = []) : catL (catL (catL (catL (catL [75, 69, 80, 84, 47, 49, 13, 10] [105, 100] r.id) [111, 102] r.ow) [107, 105, 110, 100] (kindW.getD (r.ki - 1).toNat [])) [100, 97, 116, 101] (dateTextL r.ti)) [107, 101, 121] r.ke = recP r := by
  unfold recP; rw [if_neg h]; rfl
theorem recP_no {r : Rcd} (h : r.ow = []) : catL (catL (catL (catL [75, 69, 80, 84, 47, 49, 13, 10] [105, 100] r.id) [107, 105, 110, 100] (kindW.getD (r.ki - 1).toNat [])) [100, 97, 116, 101] (dateTextL r.ti)) [107, 101, 121] r.ke = recP r := by
  unfold recP; rw [if_pos h, List.append_nil]; rfl
theorem recP_le {r : Rcd} (h : checkRecL r = 0) : (recP r).length ≤ 10000 := by
  obtain ⟨z1, z2, z3, z4, z5, z6, z7⟩ := rec_sz h
  have zk := kindW_le (r.ki - 1).toNat
  by_cases e : r.ow = []
  · rw [← recP_no e]; simp only [catL_len, List.length_cons, List.length_nil]; omega
  · rw [← recP_ow e]; simp only [catL_len, List.length_cons, List.length_nil]; omega
def ckWrite : Ck
  | [.nilsl, x] => some (isC cRec x ∧ recOk (cRec.dec x) ∧ checkRecL (cRec.dec x) = 0, .sl (recB (cRec.dec x)).length (byF (recB (cRec.dec x))))
  | _ => none
theorem conWrite : Con pg 21 ckWrite := by
  have hct := (ctF_ok conLine6 (ctA_ok conKinds (ctA_ok conDateText (ctA_ok conItoa (ctA_ok conDigest (ctN_ok _))))))
  intro args q r h hq
  unfold ckWrite at h
  split at h
  · cases h
    rename_i x
    refine pcall_args (args' := [.nilsl, cRec.enc (cRec.dec x)]) ⟨VLe.refl _, hq.1, trivial⟩ ?_
    obtain ⟨-, ha, hc⟩ := hq
    generalize cRec.dec x = r at ha hc ⊢
    refine w21 (fun d => decide (d = 10006)) [.frz 12] rfl hct rfl rfl ?_
    push_cast (config := { maxSteps := 10000000 })
    obtain ⟨z1, z2, z3, z4, z5, z6, z7⟩ := rec_sz hc
    obtain ⟨y1, y2, y3, y4, y5, y6, y7, y8, y9, y10⟩ := rec_ok hc
    have zk := kindW_le (r.ki - 1).toNat
    have zp := recP_le hc
    have c8 : ([75, 69, 80, 84, 47, 49, 13, 10] : List UInt8).length = 8 := rfl
    have c2 : ([105, 100] : List UInt8).length = 2 := rfl
    rw [if_pos ⟨y5, y6⟩]
    refine ⟨by omega, fun how => ?_, fun how => ?_⟩
    · have hP := recP_ow how
      refine ⟨⟨by simp only [catL_len, List.length_cons, List.length_nil]; omega, by omega⟩, ⟨by omega, by omega⟩, ⟨by omega, by omega⟩, ⟨by simp only [catL_len, List.length_cons, List.length_nil]; omega, by omega⟩, ⟨by omega, by omega⟩, ⟨by simp only [catL_len, List.length_cons, List.length_nil]; omega, by omega⟩, ⟨by simp only [catL_len, List.length_cons, List.length_nil]; omega, by omega⟩, ?_⟩
      generalize catL (catL (catL (catL (catL [75, 69, 80, 84, 47, 49, 13, 10] [105, 100] r.id) [111, 102] r.ow) [107, 105, 110, 100] (kindW.getD (r.ki - 1).toNat [])) [100, 97, 116, 101] (dateTextL r.ti)) [107, 101, 121] r.ke = P at hP ⊢
      refine LoopW.adj ⟨hct, fol⟩ (by kernel_rfl) [] (fun t : Nat × List UInt8 => [(2, .ptr 2 0), (3, .ptr 3 0), (5, .fn (.func 49) [] [.ptr 2 0]), (46, .sl r.hd.length (lsF cHd r.hd)), (47, .int .i64 r.hd.length), (48, .int .i64 t.1)]) (fun t => [(2, .cells [.vec 12 t.2.length]), (12, .vec 1 t.2.length (byF t.2)), (3, .cells [.int .i64 r.ki, .str r.id, .str r.ow, .int .i64 r.ti, .str r.ke, .sl r.hd.length (lsF cHd r.hd), .sl r.bd.length (byF r.bd)])]) (fun t => t.1 ≤ r.hd.length ∧ t.2 ++ headsB (r.hd.drop t.1) = recP r ++ headsB r.hd) (fun t => r.hd.length - t.1) (0, P) ?_ fun t ht => ?_
      · push_cast (config := { maxSteps := 10000000 })
        exact ⟨Nat.zero_le _, congrArg (· ++ headsB r.hd) hP⟩
      · obtain ⟨i, o⟩ := t
        obtain ⟨i1, i2⟩ : i ≤ r.hd.length ∧ o ++ headsB (r.hd.drop i) = recP r ++ headsB r.hd := ht
        have hl := congrArg List.length i2
        simp only [List.length_append] at hl
        push_cast (config := { maxSteps := 10000000 })
        refine ⟨fun h => ?_, fun h => ?_⟩
        · have e := dropG (d := ⟨[], []⟩) h
          rw [e, headsB] at i2 hl
          have hx : (headB (r.hd.getD i ⟨[], []⟩)).length = (r.hd.getD i ⟨[], []⟩).name.length + 2 + (r.hd.getD i ⟨[], []⟩).value.length + 2 := by simp [headB]; omega
          simp only [List.length_append] at hl
          exact ⟨h, ⟨by omega, by omega, by omega⟩, ⟨by omega, by omega⟩, (i + 1, catL o (r.hd.getD i ⟨[], []⟩).name (r.hd.getD i ⟨[], []⟩).value), ⟨by show i + 1 ≤ r.hd.length; omega, by rw [← i2]; simp [catL, lnB2, headB]⟩, by show r.hd.length - (i + 1) < r.hd.length - i; omega, by show (i : Int) + 1 = ((i + 1 : Nat) : Int); omega, rfl, rfl, fun _ _ => rfl⟩
        · rw [List.drop_eq_nil_of_le (by omega)] at i2 hl
          simp only [headsB, List.append_nil, List.length_nil, Nat.add_zero] at i2 hl
          have hi6 := itoa_len (n := r.bd.length) (by omega)
          have hdg : (digestL r.bd).length = 16 := hex16_len _
          have hq1 := catL_len o [108, 101, 110, 103, 116, 104] (Lib.itoa r.bd.length)
          have hq2 := catL_len (catL o [108, 101, 110, 103, 116, 104] (Lib.itoa r.bd.length)) [100, 105, 103, 101, 115, 116] (digestL r.bd)
          have cl1 : ([108, 101, 110, 103, 116, 104] : List UInt8).length = 6 := rfl
          have cl2 : ([100, 105, 103, 101, 115, 116] : List UInt8).length = 6 := rfl
          have eq : catL (catL o [108, 101, 110, 103, 116, 104] (Lib.itoa r.bd.length)) [100, 105, 103, 101, 115, 116] (digestL r.bd) ++ [13, 10] ++ r.bd ++ [13, 10, 13, 10] = recB r := by
            rw [i2]; simp [recB, recQ, catL]
          generalize catL (catL o [108, 101, 110, 103, 116, 104] (Lib.itoa r.bd.length)) [100, 105, 103, 101, 115, 116] (digestL r.bd) = Q at hq2 eq ⊢
          have app : ByI (Q.length + 2 + r.bd.length + 4) (appF (Q.length + 2 + r.bd.length) (appF (Q.length + 2) (appF Q.length (byF Q) (byF [13, 10])) (byF r.bd)) (byF [13, 10, 13, 10])) (recB r) := (ByI.app (ByI.app (ByI.app (ByI.by Q) (ByI.by [13, 10]) rfl) (ByI.by r.bd) rfl) (ByI.by [13, 10, 13, 10]) rfl).eq eq
          exact ⟨⟨by omega, by omega⟩, ⟨by omega, by omega⟩, by omega, ⟨by omega, by omega⟩, ⟨by omega, by omega⟩, ⟨by omega, by omega⟩, ⟨by omega, by omega⟩, app.pure, app.1, app.2⟩
    · have hP := recP_no how
      refine ⟨⟨by omega, by omega⟩, ⟨by omega, by omega⟩, ⟨by simp only [catL_len, List.length_cons, List.length_nil]; omega, by omega⟩, ⟨by omega, by omega⟩, ⟨by simp only [catL_len, List.length_cons, List.length_nil]; omega, by omega⟩, ⟨by simp only [catL_len, List.length_cons, List.length_nil]; omega, by omega⟩, ?_⟩
      generalize catL (catL (catL (catL [75, 69, 80, 84, 47, 49, 13, 10] [105, 100] r.id) [107, 105, 110, 100] (kindW.getD (r.ki - 1).toNat [])) [100, 97, 116, 101] (dateTextL r.ti)) [107, 101, 121] r.ke = P at hP ⊢
      refine LoopW.adj ⟨hct, fol⟩ (by kernel_rfl) [] (fun t : Nat × List UInt8 => [(2, .ptr 2 0), (3, .ptr 3 0), (5, .fn (.func 49) [] [.ptr 2 0]), (46, .sl r.hd.length (lsF cHd r.hd)), (47, .int .i64 r.hd.length), (48, .int .i64 t.1)]) (fun t => [(2, .cells [.vec 12 t.2.length]), (12, .vec 1 t.2.length (byF t.2)), (3, .cells [.int .i64 r.ki, .str r.id, .str r.ow, .int .i64 r.ti, .str r.ke, .sl r.hd.length (lsF cHd r.hd), .sl r.bd.length (byF r.bd)])]) (fun t => t.1 ≤ r.hd.length ∧ t.2 ++ headsB (r.hd.drop t.1) = recP r ++ headsB r.hd) (fun t => r.hd.length - t.1) (0, P) ?_ fun t ht => ?_
      · push_cast (config := { maxSteps := 10000000 })
        exact ⟨Nat.zero_le _, congrArg (· ++ headsB r.hd) hP⟩
      · obtain ⟨i, o⟩ := t
        obtain ⟨i1, i2⟩ : i ≤ r.hd.length ∧ o ++ headsB (r.hd.drop i) = recP r ++ headsB r.hd := ht
        have hl := congrArg List.length i2
        simp only [List.length_append] at hl
        push_cast (config := { maxSteps := 10000000 })
        refine ⟨fun h => ?_, fun h => ?_⟩
        · have e := dropG (d := ⟨[], []⟩) h
          rw [e, headsB] at i2 hl
          have hx : (headB (r.hd.getD i ⟨[], []⟩)).length = (r.hd.getD i ⟨[], []⟩).name.length + 2 + (r.hd.getD i ⟨[], []⟩).value.length + 2 := by simp [headB]; omega
          simp only [List.length_append] at hl
          exact ⟨h, ⟨by omega, by omega, by omega⟩, ⟨by omega, by omega⟩, (i + 1, catL o (r.hd.getD i ⟨[], []⟩).name (r.hd.getD i ⟨[], []⟩).value), ⟨by show i + 1 ≤ r.hd.length; omega, by rw [← i2]; simp [catL, lnB2, headB]⟩, by show r.hd.length - (i + 1) < r.hd.length - i; omega, by show (i : Int) + 1 = ((i + 1 : Nat) : Int); omega, rfl, rfl, fun _ _ => rfl⟩
        · rw [List.drop_eq_nil_of_le (by omega)] at i2 hl
          simp only [headsB, List.append_nil, List.length_nil, Nat.add_zero] at i2 hl
          have hi6 := itoa_len (n := r.bd.length) (by omega)
          have hdg : (digestL r.bd).length = 16 := hex16_len _
          have hq1 := catL_len o [108, 101, 110, 103, 116, 104] (Lib.itoa r.bd.length)
          have hq2 := catL_len (catL o [108, 101, 110, 103, 116, 104] (Lib.itoa r.bd.length)) [100, 105, 103, 101, 115, 116] (digestL r.bd)
          have cl1 : ([108, 101, 110, 103, 116, 104] : List UInt8).length = 6 := rfl
          have cl2 : ([100, 105, 103, 101, 115, 116] : List UInt8).length = 6 := rfl
          have eq : catL (catL o [108, 101, 110, 103, 116, 104] (Lib.itoa r.bd.length)) [100, 105, 103, 101, 115, 116] (digestL r.bd) ++ [13, 10] ++ r.bd ++ [13, 10, 13, 10] = recB r := by
            rw [i2]; simp [recB, recQ, catL]
          generalize catL (catL o [108, 101, 110, 103, 116, 104] (Lib.itoa r.bd.length)) [100, 105, 103, 101, 115, 116] (digestL r.bd) = Q at hq2 eq ⊢
          have app : ByI (Q.length + 2 + r.bd.length + 4) (appF (Q.length + 2 + r.bd.length) (appF (Q.length + 2) (appF Q.length (byF Q) (byF [13, 10])) (byF r.bd)) (byF [13, 10, 13, 10])) (recB r) := (ByI.app (ByI.app (ByI.app (ByI.by Q) (ByI.by [13, 10]) rfl) (ByI.by r.bd) rfl) (ByI.by [13, 10, 13, 10]) rfl).eq eq
          exact ⟨⟨by omega, by omega⟩, ⟨by omega, by omega⟩, by omega, ⟨by omega, by omega⟩, ⟨by omega, by omega⟩, ⟨by omega, by omega⟩, ⟨by omega, by omega⟩, app.pure, app.1, app.2⟩
  · cases h
attribute [push_cast] ckWrite
@[push_cast] theorem vle_map (i : Nat) : vle (.map i) (.map i) = True := eq_true rfl
def seenM (s : List (List UInt8)) : MK → Option V
  | .str x => if s.contains x = true then some (.bool true) else none
  | _ => none
@[push_cast] theorem asB_seen (s : List (List UInt8)) (x : List UInt8) : asB false (seenM s (.str x)) = s.contains x := by
  simp only [seenM]
  by_cases h : s.contains x = true
  · rw [if_pos h]; exact h.symm
  · rw [if_neg h]; show false = _; simpa using h
@[push_cast] theorem okB_seen (s : List (List UInt8)) (k : MK) : okB (seenM s k) = True := by
  refine eq_true ?_
  unfold seenM
  split
  · split <;> exact trivial
  · exact trivial
theorem putM_seen (s : List (List UInt8)) (x : List UInt8) (l : MK) : putM (seenM s) (.str x) (.bool true) l = seenM (s ++ [x]) l := by
  unfold putM
  by_cases h : l = .str x
  · subst h
    rw [decide_eq_true rfl]
    simp only [cond_true, seenM]
    rw [if_pos (by simp)]
  · rw [decide_eq_false h]
    simp only [cond_false]
    cases l with
    | int k n => rfl
    | ss a b => rfl
    | ii a b => rfl
    | str y =>
      have hy : y ≠ x := fun e => h (by rw [e])
      simp only [seenM]
      have : (s ++ [x]).contains y = s.contains y := by
        rw [Bool.eq_iff_iff]; simp [hy]
      rw [this]
theorem seen_nil : ∀ l, (none : Option V) = seenM [] l := fun l => by cases l <;> rfl
def cfGo : List (List UInt8) → Int → List Rcd → Int
  | _, m, [] => if 500000 < m then 2 else 0
  | s, m, r :: t => if ¬ checkRecL r = 0 then checkRecL r else if s.contains r.id = true then 7 else cfGo (s ++ [r.id]) (m + (recB r).length) t
def checkFileL (l : List Rcd) : Int := if 1000 < l.length then 2 else cfGo [] 0 l
def recsOk (l : List Rcd) : Prop := ∀ a ∈ l, recOk a
theorem recsOk_at {l : List Rcd} (h : recsOk l) {i : Nat} (hi : i < l.length) : recOk (l.getD i noRec) := by
  rw [List.getD_eq_getElem?_getD, List.getElem?_eq_getElem hi]; exact h _ (List.getElem_mem hi)
theorem recB_le {r : Rcd} (h : checkRecL r = 0) : (recB r).length ≤ 400000 := by
  obtain ⟨z1, z2, z3, z4, z5, z6, z7⟩ := rec_sz h
  have zp := recP_le h
  have hi6 := itoa_len (n := r.bd.length) (by omega)
  have hdg : (digestL r.bd).length = 16 := hex16_len _
  simp only [recB, recQ, lnB2, List.length_append, List.length_cons, List.length_nil]
  omega
def fileB : List Rcd → List UInt8
  | [] => []
  | r :: t => recB r ++ fileB t
theorem cfGo_ok : ∀ {l : List Rcd} {s : List (List UInt8)} {m : Int}, cfGo s m l = 0 → (∀ r ∈ l, checkRecL r = 0) ∧ m + (fileB l).length ≤ 500000
  | [], s, m, h => by
    rw [cfGo] at h
    split at h
    · omega
    · exact ⟨fun r hr => (by cases hr), by simp only [fileB, List.length_nil]; omega⟩
  | r :: t, s, m, h => by
    rw [cfGo] at h
    by_cases h1 : checkRecL r = 0
    · rw [if_neg (fun x => x h1)] at h
      by_cases h2 : s.contains r.id = true
      · rw [if_pos h2] at h; omega
      · rw [if_neg h2] at h
        obtain ⟨a, b⟩ := cfGo_ok h
        refine ⟨fun x hx => ?_, by simp only [fileB, List.length_append]; omega⟩
        rcases List.mem_cons.1 hx with rfl | hx
        · exact h1
        · exact a x hx
    · rw [if_pos h1] at h; exact absurd h h1
theorem file_ok {l : List Rcd} (h : checkFileL l = 0) : (∀ r ∈ l, checkRecL r = 0) ∧ (fileB l).length ≤ 500000 ∧ l.length ≤ 1000 := by
  unfold checkFileL at h
  split at h
  · omega
  · obtain ⟨a, b⟩ := cfGo_ok h
    exact ⟨a, by omega, by omega⟩
@[push_cast] theorem lsF_rec (l : List Rcd) (i : Nat) : lsF cRec l i = .agg [.int .i64 (l.getD i noRec).ki, .str (l.getD i noRec).id, .str (l.getD i noRec).ow, .int .i64 (l.getD i noRec).ti, .str (l.getD i noRec).ke, .sl (l.getD i noRec).hd.length (lsF cHd (l.getD i noRec).hd), .sl (l.getD i noRec).bd.length (byF (l.getD i noRec).bd)] := rfl
theorem cf_app {l : List Rcd} {i : Nat} (h : i < l.length) : (l.take (i + 1)).map Rcd.id = (l.take i).map Rcd.id ++ [(l.getD i noRec).id] := by
  rw [takeG (d := noRec) h, List.map_append]; rfl
def isL (B : List UInt8) (i : Nat) (w : List UInt8) : Bool := decide ((B.drop i).take (w.length + 2) = w ++ [58, 32])
theorem isL_pre (B : List UInt8) (i : Nat) (w : List UInt8) : hasPre ((B.drop i).take (w.length + 2)) (w ++ [58, 32]) = isL B i w := by
  unfold isL
  rw [Bool.eq_iff_iff, hasPre_iff, decide_eq_true_eq]
  constructor
  · rintro ⟨r, e⟩
    have hl := congrArg List.length e
    simp at hl
    have : r = [] := List.length_eq_zero_iff.1 (by omega)
    rw [e, this, List.append_nil]
  · intro e; exact ⟨[], by rw [e, List.append_nil]⟩
theorem daysI_next (y : Int) : daysI (y + 1) 1 = daysI y 1 + yearLong y := by
  rw [daysI_1, daysI_1]
  unfold yearLong leapB
  split
  · rename_i h; simp only [decide_eq_true_eq] at h; omega
  · rename_i h; simp only [decide_eq_true_eq] at h; omega
theorem daysI_month {y : Int} {m : Int} (h : 1 ≤ m) : daysI y (m + 1) = daysI y m + monthLongI y m := by
  unfold daysI
  obtain ⟨k, rfl⟩ : ∃ k : Nat, m = k + 1 := ⟨(m - 1).toNat, by omega⟩
  rw [show ((k : Int) + 1 + 1 - 1).toNat = k + 1 by omega, show ((k : Int) + 1 - 1).toNat = k by omega]
  simp only [monthsSum]; omega
theorem monthsSum_12 (y : Int) : monthsSum y 12 = yearLong y := by
  simp only [monthsSum]
  unfold monthLongI yearLong leapB
  by_cases h : y % 4 = 0 ∧ (y % 100 ≠ 0 ∨ y % 400 = 0)
  · simp [h]
  · simp [h]
theorem daysI_13 (y : Int) : daysI y 13 = daysI (y + 1) 1 := by
  rw [daysI_next, daysI_1]
  unfold daysI
  rw [show ((13 : Int) - 1).toNat = 12 from rfl, monthsSum_12]; 
theorem yearF_up (d : Int) : ∀ (n : Nat) (y : Int), d < daysI (yearF d n y + 1) 1 ∨ yearF d n y = y + n
  | 0, y => .inr (by simp [yearF])
  | n + 1, y => by
    simp only [yearF]
    split
    · rcases yearF_up d n (y + 1) with h | h
      · exact .inl h
      · exact .inr (by omega)
    · exact .inl (by omega)
theorem monthF_up (y d : Int) : ∀ (n : Nat) (m : Int), (12 ≤ monthF y d n m ∨ d < daysI y (monthF y d n m + 1)) ∨ monthF y d n m = m + n
  | 0, m => .inr (by simp [monthF])
  | n + 1, m => by
    simp only [monthF]
    split
    · rcases monthF_up y d n (m + 1) with h | h
      · exact .inl h
      · exact .inr (by omega)
    · exact .inl (by omega)
theorem yearI_up {d : Int} (h0 : 0 ≤ d) (h1 : d ≤ 2932896) : d < daysI (yearI d + 1) 1 := by
  have b := date_b h0 h1
  rcases yearF_up d 1000 (1970 + d / 366) with h | h
  · exact h
  · have hb := yearF_b d 1000 _ (daysI_y0 d h0 h1)
    have := daysI_step hb.2 hb.1 h0 h1
    omega
theorem monthI_up {d : Int} (h0 : 0 ≤ d) (h1 : d ≤ 2932896) : d < daysI (yearI d) (monthI d + 1) := by
  have hd : daysI (yearI d) 1 ≤ d := (yearF_b d 1000 _ (daysI_y0 d h0 h1)).2
  have hb := monthF_b (yearI d) d 12 1 (by omega) (by omega) hd
  change 1 ≤ monthI d ∧ monthI d ≤ 12 ∧ daysI (yearI d) (monthI d) ≤ d at hb
  rcases monthF_up (yearI d) d 12 1 with h | h
  · change 12 ≤ monthI d ∨ d < daysI (yearI d) (monthI d + 1) at h
    rcases h with h | h
    · rw [show monthI d = 12 by omega, show (12 : Int) + 1 = 13 from rfl, daysI_13]; exact yearI_up h0 h1
    · exact h
  · change monthI d = 1 + ((12 : Nat) : Int) at h; omega
theorem yearI_9999 {d : Int} (h0 : 0 ≤ d) (h1 : d ≤ 2932896) : yearI d ≤ 9999 := by
  have hd : daysI (yearI d) 1 ≤ d := (yearF_b d 1000 _ (daysI_y0 d h0 h1)).2
  rw [daysI_1] at hd; omega
theorem padded2 {n : Int} (h0 : 0 ≤ n) (h1 : n ≤ 99) : paddedL n 2 = twoL n := by
  obtain ⟨k, rfl⟩ : ∃ k : Nat, n = k := ⟨n.toNat, by omega⟩
  unfold paddedL twoL
  rw [itoa_nat]
  by_cases h : k < 10
  · rw [dec_small h]
    rw [show (48 + (k : Int) / 10 % 10).toNat = 48 by omega, show (48 + (k : Int) % 10).toNat = 48 + k by omega]
    rfl
  · rw [dec_step (by omega), dec_small (by omega)]
    rw [show (48 + (k : Int) / 10 % 10).toNat = 48 + k / 10 by omega, show (48 + (k : Int) % 10).toNat = 48 + k % 10 by omega]
    rfl
theorem padded4 {n : Int} (h0 : 1000 ≤ n) (h1 : n ≤ 9999) : paddedL n 4 = twoL (n / 100) ++ twoL n := by
  obtain ⟨k, rfl⟩ : ∃ k : Nat, n = k := ⟨n.toNat, by omega⟩
  unfold paddedL twoL
  rw [itoa_nat, dec_step (by omega), dec_step (n := k / 10) (by omega), dec_step (n := k / 10 / 10) (by omega), dec_small (by omega)]
  rw [show (48 + (k : Int) / 100 / 10 % 10).toNat = 48 + k / 10 / 10 / 10 by omega, show (48 + (k : Int) / 100 % 10).toNat = 48 + k / 10 / 10 % 10 by omega, show (48 + (k : Int) / 10 % 10).toNat = 48 + k / 10 % 10 by omega, show (48 + (k : Int) % 10).toNat = 48 + k % 10 by omega]
  rfl
def fld (s : List UInt8) (a n : Nat) : List UInt8 := (s.drop a).take n
def mIdx (w : List UInt8) : Int := match mnN.findIdx? (· == w) with
  | some k => k
  | none => -1
def momF (s : List UInt8) : Int := (daysI (natOf (fld s 12 4)) (mIdx (fld s 8 3) + 1) + natOf (fld s 5 2) - 1) * 86400 + (natOf (fld s 17 2) : Int) * 3600 + (natOf (fld s 20 2) : Int) * 60 + natOf (fld s 23 2)
def rdB (s : List UInt8) : Bool := decide (0 ≤ momF s ∧ momF s ≤ 253402300799 ∧ dateTextL (momF s) = s)
def rdV (s : List UInt8) : Int := if rdB s = true then momF s else 0
theorem ofN {k : Nat} (h : k < 256) : (UInt8.ofNat k).toNat = k := by rw [UInt8.toNat_ofNat']; omega
theorem natOf_two {n : Int} (h0 : 0 ≤ n) (h1 : n ≤ 99) : (natOf (twoL n) : Int) = n := by
  unfold natOf twoL
  simp only [List.foldl_cons, List.foldl_nil]
  rw [ofN (by omega), ofN (by omega)]
  omega
theorem natOf_four {n : Int} (h0 : 0 ≤ n) (h1 : n ≤ 9999) : (natOf (twoL (n / 100) ++ twoL n) : Int) = n := by
  unfold natOf twoL
  simp only [List.cons_append, List.nil_append, List.foldl_cons, List.foldl_nil]
  rw [ofN (by omega), ofN (by omega), ofN (by omega), ofN (by omega)]
  omega
theorem dig_two (n : Int) (h0 : 0 ≤ n) : (twoL n).all isDg = true := by
  unfold twoL isDg
  simp only [List.all_cons, List.all_nil, Bool.and_true, Bool.and_eq_true, decide_eq_true_eq]
  rw [ofN (by omega), ofN (by omega)]
  omega
theorem wdN_3 {i : Int} (h0 : 0 ≤ i) (h1 : i < 7) : ∃ a b c, wdN.getD i.toNat [] = [a, b, c] := by
  rcases (by omega : i = 0 ∨ i = 1 ∨ i = 2 ∨ i = 3 ∨ i = 4 ∨ i = 5 ∨ i = 6) with rfl | rfl | rfl | rfl | rfl | rfl | rfl <;> exact ⟨_, _, _, rfl⟩
theorem mnN_3 {i : Int} (h0 : 0 ≤ i) (h1 : i < 12) : ∃ a b c, mnN.getD i.toNat [] = [a, b, c] ∧ mIdx [a, b, c] = i := by
  rcases (by omega : i = 0 ∨ i = 1 ∨ i = 2 ∨ i = 3 ∨ i = 4 ∨ i = 5 ∨ i = 6 ∨ i = 7 ∨ i = 8 ∨ i = 9 ∨ i = 10 ∨ i = 11) with rfl | rfl | rfl | rfl | rfl | rfl | rfl | rfl | rfl | rfl | rfl | rfl <;> exact ⟨_, _, _, rfl, by decide⟩
theorem date_fields {n : Int} (h0 : 0 ≤ n) (h1 : n ≤ 253402300799) :
    let d := n / 86400
    let y := yearI d
    let m := monthI d
    (dateTextL n).length = 29 ∧ fld (dateTextL n) 5 2 = twoL (d - daysI y m + 1) ∧ mIdx (fld (dateTextL n) 8 3) = m - 1 ∧ fld (dateTextL n) 12 4 = twoL (y / 100) ++ twoL y ∧ fld (dateTextL n) 17 2 = twoL (n % 86400 / 3600) ∧ fld (dateTextL n) 20 2 = twoL (n % 86400 / 60 % 60) ∧ fld (dateTextL n) 23 2 = twoL (n % 86400 % 60) ∧
    1 ≤ m ∧ m ≤ 12 ∧ 1970 ≤ y ∧ y ≤ 9999 ∧ daysI y m ≤ d ∧ d < daysI y m + monthLongI y m := by
  have hd : 0 ≤ n / 86400 ∧ n / 86400 ≤ 2932896 := by omega
  simp only
  generalize hdd : n / 86400 = d at *
  have b := date_b hd.1 hd.2
  have u := monthI_up hd.1 hd.2
  have y9 := yearI_9999 hd.1 hd.2
  rw [daysI_month b.2.2.1] at u
  have ml := monthLongI_b (yearI d) (monthI d)
  obtain ⟨a1, a2, a3, ea⟩ := wdN_3 (i := (d + 3) % 7) (by omega) (by omega)
  obtain ⟨c1, c2, c3, ec, ei⟩ := mnN_3 (i := monthI d - 1) (by omega) (by omega)
  have e : dateTextL n = [a1, a2, a3] ++ [44, 32] ++ twoL (d - daysI (yearI d) (monthI d) + 1) ++ [32] ++ [c1, c2, c3] ++ [32] ++ (twoL (yearI d / 100) ++ twoL (yearI d)) ++ [32] ++ twoL (n % 86400 / 3600) ++ [58] ++ twoL (n % 86400 / 60 % 60) ++ [58] ++ twoL (n % 86400 % 60) ++ [32, 71, 77, 84] := by
    unfold dateTextL
    simp only [hdd]
    rw [ea, ec, padded2 (n := d - daysI (yearI d) (monthI d) + 1) (by omega) (by omega), padded4 (n := yearI d) (by omega) (by omega), padded2 (n := n % 86400 / 3600) (by omega) (by omega), padded2 (n := n % 86400 / 60 % 60) (by omega) (by omega), padded2 (n := n % 86400 % 60) (by omega) (by omega)]
  rw [e]
  refine ⟨rfl, rfl, ?_, rfl, rfl, rfl, rfl, by omega, by omega, by omega, by omega, by omega, by omega⟩
  exact ei
theorem momF_date {n : Int} (h0 : 0 ≤ n) (h1 : n ≤ 253402300799) : momF (dateTextL n) = n := by
  obtain ⟨_, f1, f2, f3, f4, f5, f6, m1, m2, y1, y2, d1, d2⟩ := date_fields h0 h1
  have ml := monthLongI_b (yearI (n / 86400)) (monthI (n / 86400))
  unfold momF
  rw [f1, f2, f3, f4, f5, f6, natOf_two (by omega) (by omega), natOf_four (by omega) (by omega), natOf_two (by omega) (by omega), natOf_two (by omega) (by omega), natOf_two (by omega) (by omega), show monthI (n / 86400) - 1 + 1 = monthI (n / 86400) by omega]
  omega
theorem rdB_date {n : Int} (h0 : 0 ≤ n) (h1 : n ≤ 253402300799) : rdB (dateTextL n) = true := by
  unfold rdB
  rw [momF_date h0 h1]
  exact decide_eq_true ⟨h0, h1, rfl⟩
theorem rdB_fields {s : List UInt8} (h : rdB s = true) : s.length = 29 ∧ (fld s 5 2).all isDg = true ∧ (fld s 12 4).all isDg = true ∧ (fld s 17 2).all isDg = true ∧ (fld s 20 2).all isDg = true ∧ (fld s 23 2).all isDg = true ∧ 0 ≤ mIdx (fld s 8 3) ∧ mIdx (fld s 8 3) ≤ 11 ∧ 1970 ≤ natOf (fld s 12 4) ∧ natOf (fld s 17 2) ≤ 23 ∧ natOf (fld s 20 2) ≤ 59 ∧ natOf (fld s 23 2) ≤ 59 ∧ 1 ≤ natOf (fld s 5 2) ∧ (natOf (fld s 5 2) : Int) ≤ monthLongI (natOf (fld s 12 4)) (mIdx (fld s 8 3) + 1) := by
  obtain ⟨h0, h1, h2⟩ := of_decide_eq_true h
  generalize momF s = n at h0 h1 h2
  subst h2
  obtain ⟨l, f1, f2, f3, f4, f5, f6, m1, m2, y1, y2, d1, d2⟩ := date_fields h0 h1
  have ml := monthLongI_b (yearI (n / 86400)) (monthI (n / 86400))
  have n1 := natOf_two (n := n / 86400 - daysI (yearI (n / 86400)) (monthI (n / 86400)) + 1) (by omega) (by omega)
  have n2 := natOf_four (n := yearI (n / 86400)) (by omega) (by omega)
  have n3 := natOf_two (n := n % 86400 / 3600) (by omega) (by omega)
  have n4 := natOf_two (n := n % 86400 / 60 % 60) (by omega) (by omega)
  have n5 := natOf_two (n := n % 86400 % 60) (by omega) (by omega)
  rw [f1, f2, f3, f4, f5, f6, n2, show monthI (n / 86400) - 1 + 1 = monthI (n / 86400) by omega]
  refine ⟨l, dig_two _ (by omega), ?_, dig_two _ (by omega), dig_two _ (by omega), dig_two _ (by omega), by omega, by omega, by omega, by omega, by omega, by omega, by omega, by omega⟩
  rw [List.all_append, dig_two _ (by omega), dig_two _ (by omega)]; rfl
def fL (s : List UInt8) : List (List UInt8) := [fld s 5 2, fld s 12 4, fld s 17 2, fld s 20 2, fld s 23 2]
def nL (s : List UInt8) : List Int := (fL s).map fun x => (natOf x : Int)
theorem mIdx_b (w : List UInt8) : -1 ≤ mIdx w ∧ mIdx w ≤ 11 := by
  unfold mIdx
  cases h : mnN.findIdx? (· == w) with
  | none => simp
  | some k =>
    have := (List.findIdx?_eq_some_iff_getElem.1 h).1
    have hl : mnN.length = 12 := rfl
    simp only; omega
theorem rd_no {s : List UInt8} (h : ¬ rdB s = true) : 0 = rdV s ∧ false = rdB s := by
  have : rdB s = false := by simpa using h
  unfold rdV; rw [this]; exact ⟨rfl, rfl⟩
theorem natOf_le {s : List UInt8} {k : Nat} (h : s.all isDg = true) (hk : s.length ≤ k) : natOf s < 10 ^ k :=
  Nat.lt_of_lt_of_le (natOf_lt s h) (Nat.pow_le_pow_right (by omega) hk)
theorem daysI_bb {y m : Int} (h1 : 1970 ≤ y) (h2 : y ≤ 9999) (h3 : m ≤ 13) : 0 ≤ daysI y m ∧ daysI y m ≤ 3000000 := by
  have := monthsSum_b y (m - 1).toNat
  unfold daysI; omega
end Go.Abs
