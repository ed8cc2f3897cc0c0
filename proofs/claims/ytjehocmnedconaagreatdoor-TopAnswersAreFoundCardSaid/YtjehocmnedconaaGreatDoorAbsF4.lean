/- what functions of this program compute: contracts, each a function's own -/
import Derived.Test.YtjehocmnedconaaGreatDoorAbsK3
import Derived.Test.YtjehocmnedconaaGreatDoorAbsFacts
import Derived.Test.YtjehocmnedconaaGreatDoorAbsF3
import Derived.Test.YtjehocmnedconaaGreatDoorAbsShelf
import Derived.Lib.SlTrimSet
import Derived.Lib.Atoi
import Derived.Lib.Itoa
import Derived.Lib.ItoaNum
import Derived.Lib.AtoiErrMem
import Derived.Lib.Repeat
import Derived.Lib.ItoaLen
import Derived.Lib.SplitLaws
import Derived.Lib.Join
import Derived.Lib.Index
import Derived.Lib.IndexBytes
import Derived.Lib.Fold
import Derived.Lib.Walk
import Derived.WalkKit
import Derived.ScopeJumps
import Derived.Deep.LoopGhost
import Derived.Laws.RangeAny
import Derived.Lib.BitFns
import Derived.Lib.TrailingZeros
import Derived.Sort.Walk0
namespace Go.Abs
open Go Go.Proofs
set_option maxHeartbeats 4000000
set_option maxRecDepth 100000
set_option linter.unusedVariables false
set_option linter.unusedSimpArgs false
def ckReadDate0 : Ck
  | [.str s] => some (s.length ≤ 4611686018427387904, .tup [.int .i64 (rdV s), .bool (rdB s)])
  | _ => none
theorem conReadDate0 : Con pg 218 ckReadDate0 := by
  have hct := (ctA_ok conMonths (ctA_ok conIndexStr (ctA_ok conTrim (ctA_ok conAtoi (ctA_ok conDays (ctA_ok conIsMoment (ctA_ok conDateText0 (ctN_ok _))))))))
  intro args q r h hq
  unfold ckReadDate0 at h
  split at h
  · cases h
    rename_i s
    refine w218 (fun _ => false) [.frz 90] rfl hct rfl rfl ?_
    push_cast (config := { maxSteps := 10000000 })
    have rd29 : rdB s = true → s.length = 29 := fun h => (rdB_fields h).1
    refine ⟨fun h => ?_, fun h => ⟨⟨by omega, by omega⟩, LsI.is (c := cStr) (LsI.ls mnN), ?_⟩⟩
    · have : rdB s = false := by
        cases hb : rdB s with
        | false => rfl
        | true => exact absurd (by have := rd29 hb; omega) h
      unfold rdV; rw [this]; exact ⟨rfl, rfl⟩
    rw [show (lsOf cStr 12 fun i => V.str (mnN.getD i [])) = mnN from lsOf_ls (c := cStr) mnN]
    change (-9223372036854775808 ≤ mIdx (fld s 8 3) + 1 ∧ mIdx (fld s 8 3) + 1 ≤ 9223372036854775807) ∧ _
    have hmi := mIdx_b (fld s 8 3)
    refine ⟨⟨by omega, by omega⟩, ⟨by omega, by omega⟩, ⟨by omega, by omega⟩, ⟨by omega, by omega⟩, ⟨by omega, by omega⟩, ⟨by omega, by omega⟩, ?_⟩
    refine LoopW.adj ⟨hct, fol⟩ (by kernel_rfl) [.nv 5 90 1 (lsF cInt [])] (fun i : Nat => [(0, .str s), (4, .int .i64 (mIdx (fld s 8 3) + 1)), (5, .vec 90 i), (29, .sl 5 (lsF cStr (fL s))), (30, .int .i64 5), (31, .int .i64 i)]) (fun i => [(90, .vec 1 i (lsF cInt (nL s)))]) (fun i => i ≤ 5 ∧ ∀ j, j < i → ((fL s).getD j []).all isDg = true) (fun i => 5 - i) 0 ?_ fun i hi => ?_
    · push_cast (config := { maxSteps := 10000000 })
      refine ⟨rfl, fun i hi => ?_⟩
      rcases (by omega : i = 0 ∨ i = 1 ∨ i = 2 ∨ i = 3 ∨ i = 4) with rfl | rfl | rfl | rfl | rfl <;> rfl
    · push_cast (config := { maxSteps := 10000000 })
      obtain ⟨h1, h2⟩ := hi
      refine ⟨fun h => ?_, fun h5 => ?_⟩
      · have hfl : 1 ≤ ((fL s).getD i []).length ∧ ((fL s).getD i []).length ≤ 4 := by
          rcases (by omega : i = 0 ∨ i = 1 ∨ i = 2 ∨ i = 3 ∨ i = 4) with rfl | rfl | rfl | rfl | rfl <;> simp [fL, fld] <;> omega
        refine ⟨h, by omega, fun h3 => ?_, fun h3 => ⟨⟨hfl.1, by omega, (trim_dig _).1 h3⟩, ⟨by omega, by omega⟩, ⟨by omega, by omega⟩, i + 1, ⟨by omega, fun j hj => ?_⟩, by omega, ⟨rfl, by omega⟩, rfl, fun j hj => ?_⟩⟩
        · refine rd_no fun hr => h3 ((trim_dig _).2 ?_)
          have hf := rdB_fields hr
          rcases (by omega : i = 0 ∨ i = 1 ∨ i = 2 ∨ i = 3 ∨ i = 4) with rfl | rfl | rfl | rfl | rfl
          · exact hf.2.1
          · exact hf.2.2.1
          · exact hf.2.2.2.1
          · exact hf.2.2.2.2.1
          · exact hf.2.2.2.2.2.1
        · by_cases e : j = i
          · subst e; exact (trim_dig _).1 h3
          · exact h2 j (by omega)
        · unfold appF
          by_cases e : j < i
          · rw [decide_eq_true e]; rfl
          · rw [decide_eq_false e]
            simp only [cond_false]
            obtain rfl : j = i := by omega
            rw [Nat.sub_self]
            rcases (by omega : j = 0 ∨ j = 1 ∨ j = 2 ∨ j = 3 ∨ j = 4) with rfl | rfl | rfl | rfl | rfl <;> rfl
      · obtain rfl : i = 5 := by omega
        have e0 : (nL s).getD 0 0 = natOf (fld s 5 2) := rfl
        have e1 : (nL s).getD 1 0 = natOf (fld s 12 4) := rfl
        have e2 : (nL s).getD 2 0 = natOf (fld s 17 2) := rfl
        have e3 : (nL s).getD 3 0 = natOf (fld s 20 2) := rfl
        have e4 : (nL s).getD 4 0 = natOf (fld s 23 2) := rfl
        rw [e0, e1, e2, e3, e4]
        change _ ∧ _ ∧ _ ∧ (_ → _)
        have b0 := natOf_le (h2 0 (by omega)) (k := 2) (by simp [fL, fld]; omega)
        have b1 := natOf_le (h2 1 (by omega)) (k := 4) (by simp [fL, fld]; omega)
        have b2 := natOf_le (h2 2 (by omega)) (k := 2) (by simp [fL, fld]; omega)
        have b3 := natOf_le (h2 3 (by omega)) (k := 2) (by simp [fL, fld]; omega)
        have b4 := natOf_le (h2 4 (by omega)) (k := 2) (by simp [fL, fld]; omega)
        change natOf (fld s 5 2) < 10 ^ 2 at b0
        change natOf (fld s 12 4) < 10 ^ 4 at b1
        change natOf (fld s 17 2) < 10 ^ 2 at b2
        change natOf (fld s 20 2) < 10 ^ 2 at b3
        change natOf (fld s 23 2) < 10 ^ 2 at b4
        have hno : rdB s = false → 0 = rdV s ∧ false = rdB s := fun h => by unfold rdV; rw [h]; exact ⟨rfl, rfl⟩
        refine ⟨fun h => ⟨h, by omega⟩, fun h => ⟨h, by omega⟩, fun h => rd_no fun hr => ?_, fun h => ?_⟩
        · have hf := rdB_fields hr
          rcases h with h | h <;> omega
        · have hdb := daysI_bb (y := natOf (fld s 12 4)) (m := mIdx (fld s 8 3) + 1) (by omega) (by omega) (by omega)
          have hM : (daysI (natOf (fld s 12 4)) (mIdx (fld s 8 3) + 1) + natOf (fld s 5 2) - 1) * 86400 + (natOf (fld s 17 2) : Int) * 3600 + (natOf (fld s 20 2) : Int) * 60 + natOf (fld s 23 2) = momF s := rfl
          rw [hM]
          refine ⟨by omega, by omega, ⟨by omega, by omega, by omega⟩, by omega, by omega, ⟨by omega, by omega⟩, ⟨by omega, by omega⟩, ⟨by omega, by omega⟩, by omega, by omega, ⟨by omega, by omega⟩, ⟨by omega, by omega⟩, by omega, by omega, ⟨by omega, by omega⟩, ⟨by omega, by omega⟩, by omega, by omega, ?_⟩
          have hMb : -9223372036854775808 ≤ momF s ∧ momF s ≤ 9223372036854775807 := by rw [← hM]; constructor <;> omega
          refine ⟨hMb, fun h => rd_no fun hr => ?_, fun h => ?_⟩
          · obtain ⟨r1, r2, r3⟩ := of_decide_eq_true hr
            rcases h with h | h
            · exact h r1 r2
            · exact h r3
          · have hr : rdB s = true := decide_eq_true ⟨h.1.1, h.1.2, h.2⟩
            unfold rdV; rw [hr]; exact ⟨rfl, rfl⟩
  · cases h
attribute [push_cast] ckReadDate0
def ckReadDate : Ck
  | [.str s] => some (s.length ≤ 4611686018427387904, .tup [.int .i64 (rdV s), .int .i64 (if rdB s = true then 0 else 10)])
  | _ => none
theorem conReadDate : Con pg 188 ckReadDate := by
  have hct := (ctA_ok conReadDate0 (ctN_ok _))
  intro args q r h hq
  unfold ckReadDate at h
  split at h
  · cases h
    rename_i s
    refine w188 (fun _ => false) [] rfl hct rfl rfl ?_
    push_cast (config := { maxSteps := 10000000 })
    exact ⟨hq, fun h => by unfold rdV; rw [h]; exact ⟨rfl, rfl⟩, fun h => by rw [h]; rfl⟩
  · cases h
attribute [push_cast] ckReadDate
theorem idxL_b (l : List (List UInt8)) (w : List UInt8) : -1 ≤ idxL l w ∧ idxL l w < l.length := by
  unfold idxL
  split
  · rename_i k h
    rw [List.findIdx?_eq_some_iff_getElem] at h
    obtain ⟨hk, _⟩ := h
    omega
  · omega
def kindI (v : List UInt8) : Int := idxL kindW v + 1
def kindB (v : List UInt8) : Bool := decide (0 < kindI v)
def ofB (v : List UInt8) : Bool := v != []
def dgC (c : UInt8) : Bool := decide (48 ≤ c.toNat ∧ c.toNat ≤ 57 ∨ 97 ≤ c.toNat ∧ c.toNat ≤ 102)
def dgB (v : List UInt8) : Bool := decide (v.length = 16) && v.all dgC
theorem trim_hx (s : List UInt8) : Lib.trimS s hexT = [] ↔ s.all dgC = true := by
  rw [trimS_nil]
  have : (fun x => hexT.contains x) = dgC := funext fun c => by
    have key : ∀ n, n < 256 → hexT.contains (UInt8.ofNat n) = dgC (UInt8.ofNat n) := by decide +kernel
    have := key c.toNat (UInt8.toNat_lt c)
    simpa using this
  rw [this]
def ckIsDigest : Ck
  | [.str s] => some (s.length ≤ 4611686018427387900, .bool (dgB s))
  | _ => none
theorem conIsDigest : Con pg 192 ckIsDigest := by
  have hct := (ctA_ok conTrim (ctN_ok _))
  intro args q r h hq
  unfold ckIsDigest at h
  split at h
  · cases h
    rename_i s
    refine w192 (fun _ => false) [] rfl hct rfl rfl ?_
    push_cast (config := { maxSteps := 10000000 })
    refine ⟨fun h => ⟨h, by omega⟩, ?_⟩
    have e : ((s.length : Int) == 16) = decide (s.length = 16) := by
      rw [Bool.eq_iff_iff, beq_iff_eq, decide_eq_true_eq]; omega
    have e2 : (Lib.trimS s [48, 49, 50, 51, 52, 53, 54, 55, 56, 57, 97, 98, 99, 100, 101, 102] == []) = s.all dgC := by
      rw [Bool.eq_iff_iff, beq_iff_eq]; exact trim_hx s
    rw [e, e2]; rfl
  · cases h
attribute [push_cast] ckIsDigest
theorem txiF (v : List UInt8) (n : Nat) (f : Nat → V) (a ki ti ln : Int) (id ow ke dg : List UInt8) (hv : v.length ≤ 1000000000) : FCall pg 181 [.str v, .ptr 18014 0] [(27013, .cells [.sl n f, .int .i64 a, .int .i64 ki, .str id, .str ow, .int .i64 ti, .str ke, .nilsl, .nilsl, .int .i64 ln, .str dg]), (18014, .cells [.ptr 27013 3])] (.bool (true)) [(27013, .cells [.sl n f, .int .i64 a, .int .i64 ki, .str v, .str ow, .int .i64 ti, .str ke, .nilsl, .nilsl, .int .i64 ln, .str dg]), (18014, .cells [.ptr 27013 3])] := by
  have hct := (ctN_ok pg)
  refine fw181 (fun _ => false) [] rfl hct rfl (by simp) (by simp [hlIn, idsIn, Blk.menIn, V.menInL, V.menIn, V.flat, byF, lsF]) (by simp [V.menIn, V.menInL, idsIn]) ?_
  push_cast (config := { maxSteps := 10000000 })
theorem txkF (v : List UInt8) (n : Nat) (f : Nat → V) (a ki ti ln : Int) (id ow ke dg : List UInt8) (hv : v.length ≤ 1000000000) : FCall pg 181 [.str v, .ptr 18041 0] [(27013, .cells [.sl n f, .int .i64 a, .int .i64 ki, .str id, .str ow, .int .i64 ti, .str ke, .nilsl, .nilsl, .int .i64 ln, .str dg]), (18041, .cells [.ptr 27013 6])] (.bool (true)) [(27013, .cells [.sl n f, .int .i64 a, .int .i64 ki, .str id, .str ow, .int .i64 ti, .str v, .nilsl, .nilsl, .int .i64 ln, .str dg]), (18041, .cells [.ptr 27013 6])] := by
  have hct := (ctN_ok pg)
  refine fw181 (fun _ => false) [] rfl hct rfl (by simp) (by simp [hlIn, idsIn, Blk.menIn, V.menInL, V.menIn, V.flat, byF, lsF]) (by simp [V.menIn, V.menInL, idsIn]) ?_
  push_cast (config := { maxSteps := 10000000 })
theorem ofcF (v : List UInt8) (n : Nat) (f : Nat → V) (a ki ti ln : Int) (id ow ke dg : List UInt8) (hv : v.length ≤ 1000000000) : FCall pg 185 [.str v, .ptr 18001 0] [(27013, .cells [.sl n f, .int .i64 a, .int .i64 ki, .str id, .str ow, .int .i64 ti, .str ke, .nilsl, .nilsl, .int .i64 ln, .str dg]), (18001, .cells [.ptr 27013 0])] (.bool (ofB v)) [(27013, .cells [.sl n f, .int .i64 a, .int .i64 ki, .str id, .str v, .int .i64 ti, .str ke, .nilsl, .nilsl, .int .i64 ln, .str dg]), (18001, .cells [.ptr 27013 0])] := by
  have hct := (ctN_ok pg)
  refine fw185 (fun _ => false) [] rfl hct rfl (by simp) (by simp [hlIn, idsIn, Blk.menIn, V.menInL, V.menIn, V.flat, byF, lsF]) (by simp [V.menIn, V.menInL, idsIn]) ?_
  push_cast (config := { maxSteps := 10000000 })
  rfl
theorem kicF (v : List UInt8) (n : Nat) (f : Nat → V) (a ki ti ln : Int) (id ow ke dg : List UInt8) (hv : v.length ≤ 1000000000) : FCall pg 186 [.str v, .ptr 18001 0] [(27013, .cells [.sl n f, .int .i64 a, .int .i64 ki, .str id, .str ow, .int .i64 ti, .str ke, .nilsl, .nilsl, .int .i64 ln, .str dg]), (18001, .cells [.ptr 27013 0])] (.bool (kindB v)) [(27013, .cells [.sl n f, .int .i64 a, .int .i64 (kindI v), .str id, .str ow, .int .i64 ti, .str ke, .nilsl, .nilsl, .int .i64 ln, .str dg]), (18001, .cells [.ptr 27013 0])] := by
  have hct := (ctA_ok conKinds (ctA_ok conIndexStr (ctN_ok _)))
  refine fw186 (fun _ => false) [] rfl hct rfl (by simp) (by simp [hlIn, idsIn, Blk.menIn, V.menInL, V.menIn, V.flat, byF, lsF]) (by simp [V.menIn, V.menInL, idsIn]) ?_
  push_cast (config := { maxSteps := 10000000 })
  have e : lsOf cStr 5 (lsF cStr kindW) = kindW := lsOf_ls kindW
  have b := idxL_b kindW v
  have hk : kindW.length = 5 := rfl
  rw [e]
  exact ⟨isLs_ls kindW, ⟨by omega, by omega⟩, rfl, rfl⟩
theorem dacF (v : List UInt8) (n : Nat) (f : Nat → V) (a ki ti ln : Int) (id ow ke dg : List UInt8) (hv : v.length ≤ 1000000000) : FCall pg 187 [.str v, .ptr 18001 0] [(27013, .cells [.sl n f, .int .i64 a, .int .i64 ki, .str id, .str ow, .int .i64 ti, .str ke, .nilsl, .nilsl, .int .i64 ln, .str dg]), (18001, .cells [.ptr 27013 0])] (.bool (rdB v)) [(27013, .cells [.sl n f, .int .i64 a, .int .i64 ki, .str id, .str ow, .int .i64 (rdV v), .str ke, .nilsl, .nilsl, .int .i64 ln, .str dg]), (18001, .cells [.ptr 27013 0])] := by
  have hct := (ctA_ok conReadDate (ctN_ok _))
  refine fw187 (fun _ => false) [] rfl hct rfl (by simp) (by simp [hlIn, idsIn, Blk.menIn, V.menInL, V.menIn, V.flat, byF, lsF]) (by simp [V.menIn, V.menInL, idsIn]) ?_
  push_cast (config := { maxSteps := 10000000 })
  exact ⟨by omega, by cases rdB v <;> rfl⟩
theorem lecF (v : List UInt8) (n : Nat) (f : Nat → V) (a ki ti ln : Int) (id ow ke dg : List UInt8) (hn : Nat) (hf : Nat → V) (hv : v.length ≤ 1000000000) : FCall pg 190 [.str v, .ptr 18001 0] [(27013, .cells [.sl n f, .int .i64 a, .int .i64 ki, .str id, .str ow, .int .i64 ti, .str ke, .sl hn hf, .nilsl, .int .i64 ln, .str dg]), (18001, .cells [.ptr 27013 0])] (.bool (digL v 9)) [(27013, .cells [.sl n f, .int .i64 a, .int .i64 ki, .str id, .str ow, .int .i64 ti, .str ke, .sl hn hf, .nilsl, .int .i64 (if digL v 9 = true then (natOf v : Int) else ln), .str dg]), (18001, .cells [.ptr 27013 0])] := by
  have hct := (ctA_ok conDigits (ctA_ok conAtoi (ctN_ok _)))
  refine fw190 (fun _ => false) [] rfl hct rfl (by simp) (by simp [hlIn, idsIn, Blk.menIn, V.menInL, V.menIn, V.flat, byF, lsF]) (by simp [V.menIn, V.menInL, idsIn]) ?_
  push_cast (config := { maxSteps := 10000000 })
  refine ⟨by omega, fun h => by rw [h]; exact ⟨rfl, rfl⟩, fun h => ?_⟩
  have h' := h
  unfold digL at h'
  simp only [Bool.and_eq_true, decide_eq_true_eq] at h'
  rw [h]
  exact ⟨⟨by omega, by omega, h'.1.2⟩, rfl, rfl⟩
theorem dicF (v : List UInt8) (n : Nat) (f : Nat → V) (a ki ti ln : Int) (id ow ke dg : List UInt8) (hn : Nat) (hf : Nat → V) (hv : v.length ≤ 1000000000) : FCall pg 191 [.str v, .ptr 18001 0] [(27013, .cells [.sl n f, .int .i64 a, .int .i64 ki, .str id, .str ow, .int .i64 ti, .str ke, .sl hn hf, .nilsl, .int .i64 ln, .str dg]), (18001, .cells [.ptr 27013 0])] (.bool (dgB v)) [(27013, .cells [.sl n f, .int .i64 a, .int .i64 ki, .str id, .str ow, .int .i64 ti, .str ke, .sl hn hf, .nilsl, .int .i64 ln, .str v]), (18001, .cells [.ptr 27013 0])] := by
  have hct := (ctA_ok conIsDigest (ctN_ok _))
  refine fw191 (fun _ => false) [] rfl hct rfl (by simp) (by simp [hlIn, idsIn, Blk.menIn, V.menInL, V.menIn, V.flat, byF, lsF]) (by simp [V.menIn, V.menInL, idsIn]) ?_
  push_cast (config := { maxSteps := 10000000 })
  omega
def cktxtK : List V → List Blk → Option (Prop × V × List Blk)
  | [.str v, .ptr 9014 0], [.cells [.sl n f, .int .i64 a, .int .i64 ki, .str id, .str ow, .int .i64 ti, .str ke, .nilsl, .nilsl, .int .i64 ln, .str dg], .cells [.ptr 18013 3]] => some (v.length ≤ 1000000000, .bool (true), [.cells [.sl n f, .int .i64 a, .int .i64 ki, .str v, .str ow, .int .i64 ti, .str ke, .nilsl, .nilsl, .int .i64 ln, .str dg], .cells [.ptr 18013 3]])
  | [.str v, .ptr 9041 0], [.cells [.sl n f, .int .i64 a, .int .i64 ki, .str id, .str ow, .int .i64 ti, .str ke, .nilsl, .nilsl, .int .i64 ln, .str dg], .cells [.ptr 18013 6]] => some (v.length ≤ 1000000000, .bool (true), [.cells [.sl n f, .int .i64 a, .int .i64 ki, .str id, .str ow, .int .i64 ti, .str v, .nilsl, .nilsl, .int .i64 ln, .str dg], .cells [.ptr 18013 6]])
  | _, _ => none
def cktxt : Cf := ⟨fun | [_, .ptr j _] => [18013, j] | _ => [], cktxtK⟩
theorem contxt : FCon pg 181 cktxt := by
  intro args bs q r bs' h hq
  replace h : cktxtK args bs = some (q, r, bs') := h
  unfold cktxtK at h
  split at h
  · cases h; exact ⟨rfl, Nat.le_refl _, txiF _ _ _ _ _ _ _ _ _ _ _ hq⟩
  · cases h; exact ⟨rfl, Nat.le_refl _, txkF _ _ _ _ _ _ _ _ _ _ _ hq⟩
  · cases h
@[push_cast] theorem txt_ids (x : V) (j o : Nat) : cktxt.ids [x, .ptr j o] = [18013, j] := rfl
@[push_cast] theorem txi_k (v : List UInt8) (n : Nat) (f : Nat → V) (a ki ti ln : Int) (id ow ke dg : List UInt8) : cktxt.k [.str v, .ptr 9014 0] [.cells [.sl n f, .int .i64 a, .int .i64 ki, .str id, .str ow, .int .i64 ti, .str ke, .nilsl, .nilsl, .int .i64 ln, .str dg], .cells [.ptr 18013 3]] = some (v.length ≤ 1000000000, .bool (true), [.cells [.sl n f, .int .i64 a, .int .i64 ki, .str v, .str ow, .int .i64 ti, .str ke, .nilsl, .nilsl, .int .i64 ln, .str dg], .cells [.ptr 18013 3]]) := rfl
@[push_cast] theorem txk_k (v : List UInt8) (n : Nat) (f : Nat → V) (a ki ti ln : Int) (id ow ke dg : List UInt8) : cktxt.k [.str v, .ptr 9041 0] [.cells [.sl n f, .int .i64 a, .int .i64 ki, .str id, .str ow, .int .i64 ti, .str ke, .nilsl, .nilsl, .int .i64 ln, .str dg], .cells [.ptr 18013 6]] = some (v.length ≤ 1000000000, .bool (true), [.cells [.sl n f, .int .i64 a, .int .i64 ki, .str id, .str ow, .int .i64 ti, .str v, .nilsl, .nilsl, .int .i64 ln, .str dg], .cells [.ptr 18013 6]]) := rfl
def ckofcK : List V → List Blk → Option (Prop × V × List Blk)
  | [.str v, .ptr 9001 0], [.cells [.sl n f, .int .i64 a, .int .i64 ki, .str id, .str ow, .int .i64 ti, .str ke, .nilsl, .nilsl, .int .i64 ln, .str dg], .cells [.ptr 18013 0]] => some (v.length ≤ 1000000000, .bool (ofB v), [.cells [.sl n f, .int .i64 a, .int .i64 ki, .str id, .str v, .int .i64 ti, .str ke, .nilsl, .nilsl, .int .i64 ln, .str dg], .cells [.ptr 18013 0]])
  | _, _ => none
def ckofc : Cf := ⟨fun | [_, .ptr j _] => [18013, j] | _ => [], ckofcK⟩
theorem conofc : FCon pg 185 ckofc := by
  intro args bs q r bs' h hq
  replace h : ckofcK args bs = some (q, r, bs') := h
  unfold ckofcK at h
  split at h
  · cases h; exact ⟨rfl, Nat.le_refl _, ofcF _ _ _ _ _ _ _ _ _ _ _ hq⟩
  · cases h
@[push_cast] theorem ofc_ids (x : V) (j o : Nat) : ckofc.ids [x, .ptr j o] = [18013, j] := rfl
@[push_cast] theorem ofc_k (v : List UInt8) (n : Nat) (f : Nat → V) (a ki ti ln : Int) (id ow ke dg : List UInt8) : ckofc.k [.str v, .ptr 9001 0] [.cells [.sl n f, .int .i64 a, .int .i64 ki, .str id, .str ow, .int .i64 ti, .str ke, .nilsl, .nilsl, .int .i64 ln, .str dg], .cells [.ptr 18013 0]] = some (v.length ≤ 1000000000, .bool (ofB v), [.cells [.sl n f, .int .i64 a, .int .i64 ki, .str id, .str v, .int .i64 ti, .str ke, .nilsl, .nilsl, .int .i64 ln, .str dg], .cells [.ptr 18013 0]]) := rfl
def ckkicK : List V → List Blk → Option (Prop × V × List Blk)
  | [.str v, .ptr 9001 0], [.cells [.sl n f, .int .i64 a, .int .i64 ki, .str id, .str ow, .int .i64 ti, .str ke, .nilsl, .nilsl, .int .i64 ln, .str dg], .cells [.ptr 18013 0]] => some (v.length ≤ 1000000000, .bool (kindB v), [.cells [.sl n f, .int .i64 a, .int .i64 (kindI v), .str id, .str ow, .int .i64 ti, .str ke, .nilsl, .nilsl, .int .i64 ln, .str dg], .cells [.ptr 18013 0]])
  | _, _ => none
def ckkic : Cf := ⟨fun | [_, .ptr j _] => [18013, j] | _ => [], ckkicK⟩
theorem conkic : FCon pg 186 ckkic := by
  intro args bs q r bs' h hq
  replace h : ckkicK args bs = some (q, r, bs') := h
  unfold ckkicK at h
  split at h
  · cases h; exact ⟨rfl, Nat.le_refl _, kicF _ _ _ _ _ _ _ _ _ _ _ hq⟩
  · cases h
@[push_cast] theorem kic_ids (x : V) (j o : Nat) : ckkic.ids [x, .ptr j o] = [18013, j] := rfl
@[push_cast] theorem kic_k (v : List UInt8) (n : Nat) (f : Nat → V) (a ki ti ln : Int) (id ow ke dg : List UInt8) : ckkic.k [.str v, .ptr 9001 0] [.cells [.sl n f, .int .i64 a, .int .i64 ki, .str id, .str ow, .int .i64 ti, .str ke, .nilsl, .nilsl, .int .i64 ln, .str dg], .cells [.ptr 18013 0]] = some (v.length ≤ 1000000000, .bool (kindB v), [.cells [.sl n f, .int .i64 a, .int .i64 (kindI v), .str id, .str ow, .int .i64 ti, .str ke, .nilsl, .nilsl, .int .i64 ln, .str dg], .cells [.ptr 18013 0]]) := rfl
def ckdacK : List V → List Blk → Option (Prop × V × List Blk)
  | [.str v, .ptr 9001 0], [.cells [.sl n f, .int .i64 a, .int .i64 ki, .str id, .str ow, .int .i64 ti, .str ke, .nilsl, .nilsl, .int .i64 ln, .str dg], .cells [.ptr 18013 0]] => some (v.length ≤ 1000000000, .bool (rdB v), [.cells [.sl n f, .int .i64 a, .int .i64 ki, .str id, .str ow, .int .i64 (rdV v), .str ke, .nilsl, .nilsl, .int .i64 ln, .str dg], .cells [.ptr 18013 0]])
  | _, _ => none
def ckdac : Cf := ⟨fun | [_, .ptr j _] => [18013, j] | _ => [], ckdacK⟩
theorem condac : FCon pg 187 ckdac := by
  intro args bs q r bs' h hq
  replace h : ckdacK args bs = some (q, r, bs') := h
  unfold ckdacK at h
  split at h
  · cases h; exact ⟨rfl, Nat.le_refl _, dacF _ _ _ _ _ _ _ _ _ _ _ hq⟩
  · cases h
@[push_cast] theorem dac_ids (x : V) (j o : Nat) : ckdac.ids [x, .ptr j o] = [18013, j] := rfl
@[push_cast] theorem dac_k (v : List UInt8) (n : Nat) (f : Nat → V) (a ki ti ln : Int) (id ow ke dg : List UInt8) : ckdac.k [.str v, .ptr 9001 0] [.cells [.sl n f, .int .i64 a, .int .i64 ki, .str id, .str ow, .int .i64 ti, .str ke, .nilsl, .nilsl, .int .i64 ln, .str dg], .cells [.ptr 18013 0]] = some (v.length ≤ 1000000000, .bool (rdB v), [.cells [.sl n f, .int .i64 a, .int .i64 ki, .str id, .str ow, .int .i64 (rdV v), .str ke, .nilsl, .nilsl, .int .i64 ln, .str dg], .cells [.ptr 18013 0]]) := rfl
def cklecK : List V → List Blk → Option (Prop × V × List Blk)
  | [.str v, .ptr 9001 0], [.cells [.sl n f, .int .i64 a, .int .i64 ki, .str id, .str ow, .int .i64 ti, .str ke, .sl hn hf, .nilsl, .int .i64 ln, .str dg], .cells [.ptr 18013 0]] => some (v.length ≤ 1000000000, .bool (digL v 9), [.cells [.sl n f, .int .i64 a, .int .i64 ki, .str id, .str ow, .int .i64 ti, .str ke, .sl hn hf, .nilsl, .int .i64 (if digL v 9 = true then (natOf v : Int) else ln), .str dg], .cells [.ptr 18013 0]])
  | _, _ => none
def cklec : Cf := ⟨fun | [_, .ptr j _] => [18013, j] | _ => [], cklecK⟩
theorem conlec : FCon pg 190 cklec := by
  intro args bs q r bs' h hq
  replace h : cklecK args bs = some (q, r, bs') := h
  unfold cklecK at h
  split at h
  · cases h; exact ⟨rfl, Nat.le_refl _, lecF _ _ _ _ _ _ _ _ _ _ _ _ _ hq⟩
  · cases h
@[push_cast] theorem lec_ids (x : V) (j o : Nat) : cklec.ids [x, .ptr j o] = [18013, j] := rfl
@[push_cast] theorem lec_k (v : List UInt8) (n : Nat) (f : Nat → V) (a ki ti ln : Int) (id ow ke dg : List UInt8) (hn : Nat) (hf : Nat → V) : cklec.k [.str v, .ptr 9001 0] [.cells [.sl n f, .int .i64 a, .int .i64 ki, .str id, .str ow, .int .i64 ti, .str ke, .sl hn hf, .nilsl, .int .i64 ln, .str dg], .cells [.ptr 18013 0]] = some (v.length ≤ 1000000000, .bool (digL v 9), [.cells [.sl n f, .int .i64 a, .int .i64 ki, .str id, .str ow, .int .i64 ti, .str ke, .sl hn hf, .nilsl, .int .i64 (if digL v 9 = true then (natOf v : Int) else ln), .str dg], .cells [.ptr 18013 0]]) := rfl
def ckdicK : List V → List Blk → Option (Prop × V × List Blk)
  | [.str v, .ptr 9001 0], [.cells [.sl n f, .int .i64 a, .int .i64 ki, .str id, .str ow, .int .i64 ti, .str ke, .sl hn hf, .nilsl, .int .i64 ln, .str dg], .cells [.ptr 18013 0]] => some (v.length ≤ 1000000000, .bool (dgB v), [.cells [.sl n f, .int .i64 a, .int .i64 ki, .str id, .str ow, .int .i64 ti, .str ke, .sl hn hf, .nilsl, .int .i64 ln, .str v], .cells [.ptr 18013 0]])
  | _, _ => none
def ckdic : Cf := ⟨fun | [_, .ptr j _] => [18013, j] | _ => [], ckdicK⟩
theorem condic : FCon pg 191 ckdic := by
  intro args bs q r bs' h hq
  replace h : ckdicK args bs = some (q, r, bs') := h
  unfold ckdicK at h
  split at h
  · cases h; exact ⟨rfl, Nat.le_refl _, dicF _ _ _ _ _ _ _ _ _ _ _ _ _ hq⟩
  · cases h
@[push_cast] theorem dic_ids (x : V) (j o : Nat) : ckdic.ids [x, .ptr j o] = [18013, j] := rfl
@[push_cast] theorem dic_k (v : List UInt8) (n : Nat) (f : Nat → V) (a ki ti ln : Int) (id ow ke dg : List UInt8) (hn : Nat) (hf : Nat → V) : ckdic.k [.str v, .ptr 9001 0] [.cells [.sl n f, .int .i64 a, .int .i64 ki, .str id, .str ow, .int .i64 ti, .str ke, .sl hn hf, .nilsl, .int .i64 ln, .str dg], .cells [.ptr 18013 0]] = some (v.length ≤ 1000000000, .bool (dgB v), [.cells [.sl n f, .int .i64 a, .int .i64 ki, .str id, .str ow, .int .i64 ti, .str ke, .sl hn hf, .nilsl, .int .i64 ln, .str v], .cells [.ptr 18013 0]]) := rfl
def ckIsRK : List V → List Blk → Option (Prop × V × List Blk)
  | [.ptr _ 0, .str w], [.cells [.sl n f, .int .i64 a, .int .i64 ki, .str id, .str ow, .int .i64 ti, .str ke, .nilsl, .nilsl, .int .i64 ln, .str dg]] => some (isBy n f ∧ n ≤ 1000000000 ∧ w.length ≤ 1000 ∧ 0 ≤ a ∧ a ≤ n, .bool (isL (bytesOf n f) a.toNat w), [.cells [.sl n f, .int .i64 a, .int .i64 ki, .str id, .str ow, .int .i64 ti, .str ke, .nilsl, .nilsl, .int .i64 ln, .str dg]])
  | _, _ => none
def ckIsR : Cf := ⟨fun | [.ptr i _, _] => [i] | _ => [], ckIsRK⟩
theorem conIsR : FCon pg 184 ckIsR := by
  have hct := (ctA_ok conHasPre (ctN_ok _))
  intro args bs q r bs' h hq
  replace h : ckIsRK args bs = some (q, r, bs') := h
  unfold ckIsRK at h
  split at h
  · cases h
    rename_i i w n f a ki id ow ti ke ln dg
    refine ⟨rfl, by first | exact Nat.le_refl _ | exact Nat.zero_le _, ?_⟩
    obtain ⟨h1, h2, h3, h4, h5⟩ := hq
    show FCall pg 184 [.ptr (i + 9000) 0, .str w] [(i + 9000, .cells [.sl n f, .int .i64 a, .int .i64 ki, .str id, .str ow, .int .i64 ti, .str ke, .nilsl, .nilsl, .int .i64 ln, .str dg])] (.bool (isL (bytesOf n f) a.toNat w)) [(i + 9000, .cells [.sl n f, .int .i64 a, .int .i64 ki, .str id, .str ow, .int .i64 ti, .str ke, .nilsl, .nilsl, .int .i64 ln, .str dg])]
    refine fw184 (fun _ => false) [] rfl hct rfl (by simp) (by simp [hlIn, idsIn, Blk.menIn, V.menInL, V.menIn, V.flat, byF, lsF]) (by simp [V.menIn, V.menInL, idsIn]) ?_
    push_cast (config := { maxSteps := 10000000 })
    obtain ⟨a, rfl⟩ : ∃ k : Nat, a = k := ⟨a.toNat, by omega⟩
    rw [Int.toNat_natCast]
    have hb := bytesOf_len n f
    have hk := ByI.sh h1 (l := a) (k := (min (n : Int) (a + w.length + 2)).toNat - a) (by omega)
    have e : ((bytesOf n f).drop a).take ((min (n : Int) (a + w.length + 2)).toNat - a) = ((bytesOf n f).drop a).take (w.length + 2) := by
      by_cases g : a + w.length + 2 ≤ n
      · rw [show (min (n : Int) (a + w.length + 2)).toNat - a = w.length + 2 by omega]
      · rw [List.take_of_length_le (by rw [List.length_drop]; omega), List.take_of_length_le (by rw [List.length_drop]; omega)]
    rw [e] at hk
    rw [hk.bytes, isL_pre]
    exact ⟨⟨by omega, by omega⟩, ⟨by omega, by omega⟩, ⟨⟨by omega, by omega⟩, ⟨by omega, by omega⟩, by omega, fun h => by rw [h1.2 0 h]; rfl⟩, hk.bytesP, by omega, by simp; omega, rfl⟩
  · cases h
attribute [push_cast] ckIsRK
@[push_cast] theorem isR_ids (i o : Nat) (x : V) : ckIsR.ids [.ptr i o, x] = [i] := rfl
@[push_cast] theorem isR_k (i n : Nat) (f : Nat → V) (w id ow ke dg : List UInt8) (a ki ti ln : Int) : ckIsR.k [.ptr i 0, .str w] [.cells [.sl n f, .int .i64 a, .int .i64 ki, .str id, .str ow, .int .i64 ti, .str ke, .nilsl, .nilsl, .int .i64 ln, .str dg]] = some (isBy n f ∧ n ≤ 1000000000 ∧ w.length ≤ 1000 ∧ 0 ≤ a ∧ a ≤ n, .bool (isL (bytesOf n f) a.toNat w), [.cells [.sl n f, .int .i64 a, .int .i64 ki, .str id, .str ow, .int .i64 ti, .str ke, .nilsl, .nilsl, .int .i64 ln, .str dg]]) := rfl
theorem maxLen {w : World} (h : pg.ok w) : ∃ m, w.cell? ⟨5, 0, none⟩ = some (.int .i64 m) := by
  obtain ⟨w0, ⟨_, h1⟩, h2⟩ := h
  obtain ⟨m, hm⟩ := (Tryz.laysM145).s1_3 w0 h1
  exact ⟨m, by rw [cell_same (h2 5 (by first | decide | omega))]; exact hm⟩
theorem grow_drewN (w : World) (n : Nat) : World.grow w (w.drewN n) := ⟨rfl, rfl, rfl, Nat.le_refl _, fun _ _ => rfl⟩
def ckCut : Ck
  | [.str s, .str sep] => some (s.length < 4294967281, .tup [.str (Lib.cut s sep).1, .str (Lib.cut s sep).2.1, .bool (Lib.cut s sep).2.2])
  | _ => none
theorem conCut : Con pg 145 ckCut := by
  intro args q r h hq
  unfold ckCut at h
  split at h
  · cases h
    rename_i s sep
    refine pcall_shelf (by kernel_rfl) rfl fun w hw => ?_
    obtain ⟨m, hm⟩ := maxLen hw
    refine (Tryz.strings_Cut ⟨s.toArray⟩ ⟨sep.toArray⟩ m w (by show s.toArray.size < _; simpa using hq) hm).mono fun e w' h => ?_
    obtain ⟨he, n, rfl⟩ := h
    refine ⟨_, he, grow_drewN _ _, fun γ imm => .tup _ [_, _, _] rfl fun i hi => ?_⟩
    match i, hi with
    | 0, _ => exact .pure (.str _)
    | 1, _ => exact .pure (.str _)
    | 2, _ => exact .pure (.bool _)
  · cases h
attribute [push_cast] ckCut
def ckContains : Ck
  | [.str s, .str sub] => some (s.length < 4294967281, .bool (Lib.contains s sub))
  | _ => none
theorem conContains : Con pg 108 ckContains := by
  intro args q r h hq
  unfold ckContains at h
  split at h
  · cases h
    rename_i s sub
    refine pcall_shelf (by kernel_rfl) rfl fun w hw => ?_
    obtain ⟨m, hm⟩ := maxLen hw
    exact (Tryz.strings_Contains ⟨s.toArray⟩ ⟨sub.toArray⟩ m w (by show s.toArray.size < _; simpa using hq) hm).mono fun e w' h => shelf_bool h.1 (grow_eq h.2)
  · cases h
attribute [push_cast] ckContains
def splitL (s : List UInt8) (c : UInt8) : List (List UInt8) := (Lib.splitB ⟨#[c]⟩ 0 (Lib.countB ⟨s.toArray⟩ ⟨#[c]⟩) ⟨s.toArray⟩).map fun b => b.data.toList
def ckSplit : Ck
  | [.str s, .str [c]] => some (s.length < 4294967281, .sl (splitL s c).length (lsF cStr (splitL s c)))
  | _ => none
theorem conSplit : Con pg 106 ckSplit := by
  intro args q r h hq
  unfold ckSplit at h
  split at h
  · cases h
    rename_i s c
    refine pcall_shelf2 (by kernel_rfl) rfl fun w hw => ?_
    obtain ⟨m, hm⟩ := maxLen hw
    refine (Tryz.strings_Split ⟨s.toArray⟩ ⟨#[c]⟩ m w (by show s.toArray.size < _; simpa using hq) hm (Nat.le_refl 1)).mono fun e w' h => ?_
    have hl : (splitL s c).length = Lib.countB ⟨s.toArray⟩ ⟨#[c]⟩ + 1 := by
      unfold splitL
      rw [List.length_map]
      exact Lib.splitB_all ⟨#[c]⟩ (Nat.le_refl 1) 0 _ _ rfl
    refine shelf_strs (l := fun i => (splitL s c).getD i []) (by rw [hl]; exact h.1) h.2 (by omega) (fun i hi => ?_) fun i hi => rfl
    unfold splitL at hi ⊢
    rw [List.length_map] at hi
    simp [List.getD_eq_getElem?_getD, List.getElem?_eq_getElem hi]
  · cases h
attribute [push_cast] ckSplit
def hdCut (s : List UInt8) : List UInt8 × List UInt8 × Bool := Lib.cut s [58, 32]
def hdB (s : List UInt8) : Bool := (hdCut s).2.2 && ((hdCut s).1 != []) && !(Lib.contains (hdCut s).1 [58])
def hdV (s : List UInt8) : Hd := if hdB s = true then ⟨(hdCut s).1, (hdCut s).2.1⟩ else ⟨[], []⟩
def ckHeadOf : Ck
  | [.str s] => some (s.length < 4294967281, .tup [.agg [.str (hdV s).name, .str (hdV s).value], .bool (hdB s)])
  | _ => none
theorem conHeadOf : Con pg 194 ckHeadOf := by
  have hct := (ctA_ok conCut (ctA_ok conContains (ctN_ok _)))
  intro args q r h hq
  unfold ckHeadOf at h
  split at h
  · cases h
    rename_i s
    refine w194 (fun _ => false) [] rfl hct rfl rfl ?_
    push_cast (config := { maxSteps := 10000000 })
    have hl : (Lib.cut s [58, 32]).1.length ≤ s.length := by unfold Lib.cut; split <;> simp <;> omega
    refine ⟨hq, fun h => ⟨h, by omega⟩, fun h => ?_, fun h => ?_⟩
    · have e : hdB s = false := by
        unfold hdB hdCut
        rcases h with (h | h) | h
        · rw [h]; rfl
        · rw [h]; simp
        · rw [h]; simp
      unfold hdV; rw [e]; exact ⟨⟨rfl, rfl⟩, rfl⟩
    · have e : hdB s = true := by
        unfold hdB hdCut
        rw [h.1.1, h.2, bne_iff_ne.2 h.1.2]; rfl
      unfold hdV; rw [e]; exact ⟨⟨rfl, rfl⟩, rfl⟩
  · cases h
attribute [push_cast] ckHeadOf
def rhL (b : List UInt8) : Nat → Nat → List Hd → List Hd × Nat × Bool
  | 0, _, _ => ([], b.length, false)
  | k + 1, a, out => if b.length ≤ a then ([], b.length, false) else if lnB b a = false then ([], a, false) else if lnS b a = [] then (out, lnN b a, true) else if hdB (lnS b a) = false then ([], a, false) else rhL b k (lnN b a) (out ++ [hdV (lnS b a)])
theorem ln_fit {b : List UInt8} {a : Nat} (ha : a ≤ b.length) (h : lnB b a = true) : a + 2 ≤ lnN b a ∧ lnN b a ≤ b.length ∧ (lnS b a).length + a + 2 = lnN b a := by
  have key : ∀ {l s : List UInt8}, lineS l = some s → s.length + 2 ≤ l.length := by
    intro l
    induction l with
    | nil => intro s h; cases h
    | cons c t ih =>
      intro s h
      rw [lineS] at h
      split at h
      · split at h
        · rename_i h2; cases h; simp only [List.length_cons, List.length_nil]; omega
        · cases h
      · split at h
        · cases h
        · cases ht : lineS t with
          | none => rw [ht] at h; cases h
          | some z =>
            rw [ht] at h; cases h
            have := ih ht
            simp only [List.length_cons]; omega
  unfold lnB at h
  cases hs : lineS (b.drop a) with
  | none => rw [hs] at h; cases h
  | some s =>
    have := key hs
    rw [List.length_drop] at this
    unfold lnN lnS
    rw [hs]
    simp only [Option.getD_some]
    omega
def ckReadHeads : Ck
  | [.sl n f, .int .i64 a] => some (isBy n f ∧ 0 ≤ a ∧ a ≤ n ∧ n ≤ 4000000, .tup [.sl (rhL (bytesOf n f) (n + 1) a.toNat []).1.length (lsF cHd (rhL (bytesOf n f) (n + 1) a.toNat []).1), .int .i64 (rhL (bytesOf n f) (n + 1) a.toNat []).2.1, .bool (rhL (bytesOf n f) (n + 1) a.toNat []).2.2])
  | _ => none
theorem conReadHeads : Con pg 146 ckReadHeads := by
  have hct := (ctA_ok conLine (ctA_ok conHeadOf (ctN_ok _)))
  intro args q r h hq
  unfold ckReadHeads at h
  split at h
  · cases h
    rename_i n f a
    refine pcall_args (args' := [.sl (bytesOf n f).length (byF (bytesOf n f)), .int .i64 a]) ⟨isBy.vle hq.1, VLe.refl _, trivial⟩ ?_
    obtain ⟨-, h0, h1, h2⟩ := hq
    have hl := bytesOf_len n f
    rw [← hl] at h1 h2
    rw [show n + 1 = (bytesOf n f).length + 1 by rw [hl]]
    generalize bytesOf n f = b at h1 h2 ⊢
    clear hl
    obtain ⟨a, rfl⟩ : ∃ k : Nat, a = k := ⟨a.toNat, by omega⟩
    rw [Int.toNat_natCast]
    have ha : a ≤ b.length := by omega
    generalize hR : rhL b (b.length + 1) a [] = R
    refine w146 (fun _ => false) [.frz 90] rfl hct rfl rfl ?_
    push_cast (config := { maxSteps := 10000000 })
    refine LoopW.adj ⟨hct, fol⟩ (by kernel_rfl) [.nv 7 90 2 (lsF cHd [])] (fun t : Nat × List Hd => [(0, .sl b.length (byF b)), (1, .int .i64 t.1), (7, .vec 90 t.2.length)]) (fun t => [(90, .vec 2 t.2.length (lsF cHd t.2))]) (fun t => t.1 ≤ b.length ∧ t.2.length ≤ t.1 ∧ ∃ k, b.length < t.1 + k ∧ rhL b k t.1 t.2 = R) (fun t => b.length - t.1) (a, []) ?_ fun t ht => ?_
    · push_cast (config := { maxSteps := 10000000 })
      exact ⟨ha, Nat.zero_le _, _, by omega, hR⟩
    · obtain ⟨i, o⟩ := t
      obtain ⟨i1, i2, k, i3, i4⟩ : i ≤ b.length ∧ o.length ≤ i ∧ ∃ k, b.length < i + k ∧ rhL b k i o = R := ht
      push_cast (config := { maxSteps := 10000000 })
      obtain ⟨k, rfl⟩ : ∃ k', k = k' + 1 := ⟨k - 1, by omega⟩
      rw [rhL] at i4
      refine ⟨fun h => ?_, fun h => ?_⟩
      · rw [if_neg (by omega)] at i4
        refine ⟨⟨i1, by omega⟩, fun h3 => ?_, fun h3 => ?_⟩
        · rw [if_pos h3] at i4; rw [← i4]; exact ⟨rfl, rfl, rfl⟩
        rw [if_neg (by simp [h3])] at i4
        have hf := ln_fit i1 h3
        refine ⟨fun h4 => ?_, fun h4 => ?_⟩
        · rw [if_pos h4] at i4; rw [← i4]; exact ⟨⟨rfl, fun _ _ => rfl⟩, rfl, rfl⟩
        rw [if_neg h4] at i4
        refine ⟨by omega, fun h5 => ?_, fun h5 => ?_⟩
        · rw [if_pos h5] at i4; rw [← i4]; exact ⟨rfl, rfl, rfl⟩
        rw [if_neg (by simp [h5])] at i4
        have app := LsI.app (c := cHd) (f := lsF cHd o) (g := litF [cHd.enc (hdV (lnS b i))]) (LsI.ls o) (LsI.one (c := cHd) (a := hdV (lnS b i)) rfl) rfl
        exact ⟨⟨by omega, by omega⟩, (lnN b i, o ++ [hdV (lnS b i)]), ⟨hf.2.1, by simp; omega, k, by show b.length < lnN b i + k; omega, i4⟩, by show b.length - lnN b i < b.length - i; omega, ⟨rfl, by simp⟩, by simp, app.2⟩
      · rw [if_pos (by omega)] at i4; rw [← i4]; exact ⟨rfl, rfl, rfl⟩
  · cases h
attribute [push_cast] ckReadHeads
end Go.Abs
