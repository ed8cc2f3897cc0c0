/- what functions of this program compute: contracts, each a function's own -/
import Derived.Test.YtkpecjbbmadlcaaGreatDoorAbsK3
import Derived.Test.YtkpecjbbmadlcaaGreatDoorAbsFacts
import Derived.Test.YtkpecjbbmadlcaaGreatDoorAbsShelf
import Derived.Lib.SplitLaws
import Derived.Lib.SlTrimSet
import Derived.Lib.Atoi
import Derived.Lib.Itoa
import Derived.Lib.ItoaNum
import Derived.Lib.ItoaLen
import Derived.Lib.Replace
import Derived.Lib.ReplaceLaws
import Derived.Lib.AtoiErrMem
import Derived.Lib.Overlaps
import Derived.Deep.AppendSrc
import Derived.Laws.NewBlocks
import Derived.WalkKit
import Derived.Lib.Walk
import Derived.Lib.AppendStr
import Derived.Lib.AppendZeros
import Derived.Lib.UnsafeStr
import Derived.Lib.Builder
import Derived.Laws.Externs
import Derived.Lib.Repeat
import Derived.Lib.Join
namespace Go.Abs
open Go Go.Proofs
set_option maxHeartbeats 4000000
set_option maxRecDepth 100000
set_option linter.unusedVariables false
set_option linter.unusedSimpArgs false
def isDig (c : Int) : Bool := decide (48 ≤ c) && decide (c ≤ 57)
def isLet (c : Int) : Bool := decide (97 ≤ c) && decide (c ≤ 122) || decide (65 ≤ c) && decide (c ≤ 90)
def isHex (c : Int) : Bool := isDig c || decide (97 ≤ c) && decide (c ≤ 102) || decide (65 ≤ c) && decide (c ≤ 70)
def hexV (c : Int) : Int := if isDig c = true then c - 48 else if 97 ≤ c then c - 87 else c - 55
def hexRow : List UInt8 := [48, 49, 50, 51, 52, 53, 54, 55, 56, 57, 65, 66, 67, 68, 69, 70]
def digI (c : Int) : Int := if isHex c = true then hexV c else -1
def isFreeI (c : Int) : Bool := isLet c || isDig c || c == 45 || c == 46 || c == 95 || c == 126

def ckIsLet : Ck
  | [.int .u8 c] => some (True, .bool (isLet c))
  | _ => none
theorem conIsLet : Con pg 107 ckIsLet := by
  intro args q r h hq
  unfold ckIsLet at h
  split at h
  · cases h
    refine w107 (fun _ => false) [] rfl (ctN_ok _) rfl rfl ?_
    push_cast (config := { maxSteps := 10000000 })
    exact ⟨by grind, rfl⟩
  · cases h
attribute [push_cast] ckIsLet

def ckIsDig : Ck
  | [.int .u8 c] => some (True, .bool (isDig c))
  | _ => none
theorem conIsDig : Con pg 81 ckIsDig := by
  intro args q r h hq
  unfold ckIsDig at h
  split at h
  · cases h
    refine w81 (fun _ => false) [] rfl (ctN_ok _) rfl rfl ?_
    push_cast (config := { maxSteps := 10000000 })
    rfl
  · cases h
attribute [push_cast] ckIsDig

theorem conIdxStr : Con pg 128 ckIndexByte := con_IndexByteString (fn := Tryz.f128) (by kernel_rfl) (by kernel_rfl) (by kernel_rfl) (by kernel_rfl) (by kernel_rfl)
theorem conIndexByte1 : Con pg 94 ckIndexByte := by
  intro args q r h hq
  obtain ⟨s, c, rfl, _, rfl⟩ := ckIndexByte_inv h
  refine w94 (fun _ => false) [] rfl (ctA_ok conIdxStr (ctN_ok _)) rfl rfl ?_
  push_cast (config := { maxSteps := 10000000 })
theorem conIndexByte : Con pg 83 ckIndexByte := by
  intro args q r h hq
  obtain ⟨s, c, rfl, _, rfl⟩ := ckIndexByte_inv h
  refine w83 (fun _ => false) [] rfl (ctA_ok conIndexByte1 (ctN_ok _)) rfl rfl ?_
  push_cast (config := { maxSteps := 10000000 })

/- own slices of bytes -/
theorem appF_byF (l m : List UInt8) : appF l.length (byF l) (byF m) = byF (l ++ m) := by
  funext i
  simp only [appF, byF]
  by_cases h : i < l.length
  · simp [h, List.getElem?_append_left]
  · simp [h, List.getElem?_append_right (by omega : l.length ≤ i)]
/-- bytes, as they are written into a literal -/
theorem litF_byF {vs : List V} {bs : List UInt8} (h : vs = bs.map fun b => V.int .u8 b.toNat) {i : Nat} (hi : i < bs.length) : litF vs i = byF bs i := by
  subst h
  simp [litF, byF, hi]
theorem appF_lit {l bs : List UInt8} {vs : List V} (h : vs = bs.map fun b => V.int .u8 b.toNat) {i : Nat} (hi : i < l.length + bs.length) : appF l.length (byF l) (litF vs) i = byF (l ++ bs) i := by
  rw [← appF_byF]
  simp only [appF]
  by_cases hl : i < l.length
  · simp [hl]
  · simp only [hl, decide_false, cond_false]
    exact litF_byF h (by omega)
theorem bytesOf_byF (l : List UInt8) : bytesOf l.length (byF l) = l := by
  apply List.ext_getElem?
  intro i
  simp only [bytesOf, byF, V.toByte, Int.toNat_natCast]
  by_cases h : i < l.length
  · simp [h]
  · simp [h]
theorem bytesOf_of {n : Nat} {l : List UInt8} {f : Nat → V} (hn : n = l.length) (h : ∀ i, i < n → f i = byF l i) : bytesOf n f = l := by
  subst hn
  rw [← bytesOf_byF l]
  unfold bytesOf
  simp only [List.length_map, List.length_range]
  apply List.map_congr_left
  intro i hi
  rw [h i (by simpa using hi)]
theorem u8_eq (a b : UInt8) : a = b ↔ (a.toNat : Int) = b.toNat := by rw [← UInt8.toNat_inj]; omega
theorem u8_lt (a : UInt8) : a.toNat < 256 := UInt8.toNat_lt a
theorem drop_at {s : List UInt8} {i : Nat} (h : i < s.length) : s.drop i = s.getD i 0 :: s.drop (i + 1) := by
  rw [List.drop_eq_getElem_cons h, List.getD_eq_getElem?_getD, List.getElem?_eq_getElem h]; rfl
theorem take_one {s : List UInt8} {i : Nat} (h : i < s.length) : (s.drop i).take 1 = [s.getD i 0] := by rw [drop_at h]; rfl
theorem take_next {s : List UInt8} {k : Nat} (h : k < s.length) : s.take (k + 1) = s.take k ++ [s.getD k 0] := by
  rw [List.take_add_one, List.getD_eq_getElem?_getD, List.getElem?_eq_getElem h]; rfl

/-- f's first n are the bytes s -/
def ByI (n : Nat) (f : Nat → V) (s : List UInt8) : Prop := n = s.length ∧ ∀ i, i < n → f i = byF s i
theorem ByI.by (s : List UInt8) : ByI s.length (byF s) s := ⟨rfl, fun _ _ => rfl⟩
theorem ByI.app {n m k : Nat} {f g : Nat → V} {a b : List UInt8} (h1 : ByI n f a) (h2 : ByI m g b) (hk : k = n + m) : ByI k (appF n f g) (a ++ b) := by
  obtain ⟨e1, h1⟩ := h1
  obtain ⟨e2, h2⟩ := h2
  refine ⟨by simp; omega, fun i hi => ?_⟩
  unfold appF
  by_cases h : i < n
  · rw [show decide (i < n) = true from by simp [h], cond_true, h1 i h]
    unfold byF
    rw [List.getD_eq_getElem?_getD, List.getD_eq_getElem?_getD, List.getElem?_append_left (by omega)]
  · rw [show decide (i < n) = false from by simp [h], cond_false, h2 (i - n) (by omega)]
    unfold byF
    rw [List.getD_eq_getElem?_getD, List.getD_eq_getElem?_getD, List.getElem?_append_right (by omega), e1]
theorem ByI.sh {n l k : Nat} {f : Nat → V} {s : List UInt8} (h : ByI n f s) (hk : l + k ≤ n) : ByI k (shF f l) ((s.drop l).take k) := by
  obtain ⟨e, h⟩ := h
  refine ⟨by simp; omega, fun i hi => ?_⟩
  unfold shF
  rw [h (i + l) (by omega)]
  unfold byF
  rw [List.getD_eq_getElem?_getD, List.getD_eq_getElem?_getD, List.getElem?_take_of_lt hi, List.getElem?_drop, Nat.add_comm]
theorem ByI.eq {n : Nat} {f : Nat → V} {s t : List UInt8} (h : ByI n f s) (e : s = t) : ByI n f t := e ▸ h
theorem ByI.len {n m : Nat} {f : Nat → V} {s : List UInt8} (h : ByI n f s) (e : n = m) : ByI m f s := e ▸ h
theorem bytesOf_by (s : List UInt8) : bytesOf s.length (byF s) = s := by
  unfold bytesOf byF
  apply List.ext_getElem
  · simp
  · intro i h1 h2
    simp only [List.getElem_map, List.getElem_range, V.toByte, Int.toNat_natCast]
    rw [List.getD_eq_getElem?_getD, List.getElem?_eq_getElem h2]
    simp
theorem bytesOf_len (n : Nat) (f : Nat → V) : (bytesOf n f).length = n := by simp [bytesOf]
/-- bytes, as they come -/
def isBy (n : Nat) (f : Nat → V) : Prop := ByI n f (bytesOf n f)
theorem isBy.vle {n : Nat} {f : Nat → V} (h : isBy n f) : VLe (.sl n f) (.sl (bytesOf n f).length (byF (bytesOf n f))) := VLe.sl h.1 h.2
theorem isBy_by (s : List UInt8) : isBy s.length (byF s) := by unfold isBy; rw [bytesOf_by]; exact ByI.by s
theorem ByI.bytes {n : Nat} {f : Nat → V} {s : List UInt8} (h : ByI n f s) : bytesOf n f = s := by
  obtain ⟨rfl, h⟩ := h
  have : bytesOf s.length f = bytesOf s.length (byF s) := by
    unfold bytesOf
    exact List.map_congr_left fun i hi => by rw [h i (by simpa using hi)]
  rw [this, bytesOf_by]
theorem ByI.is {n : Nat} {f : Nat → V} {s : List UInt8} (h : ByI n f s) : isBy n f := by unfold isBy; rw [h.bytes]; exact h
theorem ByI.pure {n : Nat} {f : Nat → V} {s : List UInt8} (h : ByI n f s) : ∀ i, i < n → (f i).isPure = true := fun i hi => by rw [h.2 i hi]; rfl
theorem ByI.flat {n : Nat} {f : Nat → V} {s : List UInt8} (h : ByI n f s) : ∀ i, i < n → (f i).flat.length = 1 := fun i hi => by rw [h.2 i hi]; rfl
theorem ByI.bytesP {n : Nat} {f : Nat → V} {s : List UInt8} (h : ByI n f s) : ∀ i, i < n → ∃ m, f i = .int .u8 m := fun i hi => ⟨_, h.2 i hi⟩
attribute [push_cast] UInt8.ofNat_toNat Int.toNat_natCast

def tokB (c : UInt8) : Bool := decide (97 ≤ c.toNat ∧ c.toNat ≤ 122 ∨ 65 ≤ c.toNat ∧ c.toNat ≤ 90 ∨ 48 ≤ c.toNat ∧ c.toNat ≤ 57 ∨ 0 ≤ Lib.indexByte [33, 35, 36, 37, 38, 39, 42, 43, 45, 46, 94, 95, 124, 126] c)
def tokL (s : List UInt8) : Bool := decide (1 ≤ s.length) && decide (s.length ≤ 40) && s.all tokB
def ckIsToken : Ck
  | [.str s] => some (True, .bool (tokL s))
  | _ => none
theorem all_at {p : UInt8 → Bool} {s : List UInt8} (h : ∀ j, j < s.length → p (s.getD j 0) = true) : s.all p = true := by
  rw [List.all_eq_true]
  intro x hx
  obtain ⟨j, hj, rfl⟩ := List.getElem_of_mem hx
  have := h j hj
  rwa [List.getD_eq_getElem?_getD, List.getElem?_eq_getElem hj] at this
theorem all_no {p : UInt8 → Bool} {s : List UInt8} {j : Nat} (hj : j < s.length) (h : p (s.getD j 0) = false) : s.all p = false := by
  rw [List.all_eq_false]
  refine ⟨s[j], List.getElem_mem hj, ?_⟩
  rw [List.getD_eq_getElem?_getD, List.getElem?_eq_getElem hj] at h
  simpa using h
attribute [push_cast] ckIsToken
def lowB (c : UInt8) : UInt8 := if 65 ≤ c.toNat ∧ c.toNat ≤ 90 then UInt8.ofNat (c.toNat + 32) else c
def lowL (s : List UInt8) : List UInt8 := s.map lowB
def ckSmall : Ck
  | [.str s] => some (s.length ≤ 140737488355328, .str (lowL s))
  | _ => none
theorem low_at (s : List UInt8) (i j : Nat) : (lowL (s.take i) ++ s.drop i).getD j 0 = if j < i then (if j < s.length then lowB (s.getD j 0) else 0) else s.getD j 0 := by
  unfold lowL
  simp only [List.getD_eq_getElem?_getD]
  by_cases h : j < s.length
  · by_cases h1 : j < i
    · rw [List.getElem?_append_left (by simp; omega), if_pos h1, if_pos h]
      simp [h1, h]
    · rw [List.getElem?_append_right (by simp; omega), if_neg h1, List.getElem?_drop]
      simp only [List.length_map, List.length_take]
      rw [show i + (j - min i s.length) = j by omega]
  · rw [List.getElem?_eq_none (by simp; omega), List.getElem?_eq_none (by omega), if_neg h]
    split <;> rfl
theorem low_len (s : List UInt8) (i : Nat) : (lowL (s.take i) ++ s.drop i).length = s.length := by simp [lowL]; omega
theorem low_by (s : List UInt8) (i : Nat) {j : Nat} (hj : j < s.length) : byF (lowL (s.take i) ++ s.drop i) j = .int .u8 (if j < i then lowB (s.getD j 0) else s.getD j 0).toNat := by
  unfold byF
  rw [low_at, if_pos hj]
theorem byF_app (s t : List UInt8) (j : Nat) : byF (s ++ t) j = .int .u8 ((s ++ t).getD j 0).toNat := rfl
theorem conSmall : Con pg 151 ckSmall := by
  have hct := ctN_ok pg
  intro args q r h hq
  unfold ckSmall at h
  split at h
  · cases h
    rename_i s
    refine w151 (fun _ => false) [] rfl hct rfl rfl ?_
    push_cast (config := { maxSteps := 10000000 })
    refine LoopW.adj ⟨hct, fol⟩ (by kernel_rfl) [] (fun i : Nat => [(0, .str s), (3, .vec 6 s.length), (4, .int .i64 i)]) (fun i => [(6, .vec 1 s.length (byF (lowL (s.take i) ++ s.drop i)))]) (fun i => i ≤ s.length) (fun i => s.length - i) 0 ?_ fun i hi => ?_
    · push_cast (config := { maxSteps := 10000000 })
      exact ⟨Nat.zero_le _, fun _ _ => rfl⟩
    · push_cast (config := { maxSteps := 10000000 })
      have e := low_at s i i
      rw [if_neg (Nat.lt_irrefl i)] at e
      rw [e]
      refine ⟨fun h => ⟨h, h, fun h1 => ⟨h1, h⟩, fun h1 => ⟨h1, h⟩, fun h1 => ⟨h, h, h, h, by omega, i + 1, by omega, by omega, by omega, fun j hj => ?_⟩, fun h1 => ⟨by omega, i + 1, by omega, by omega, by omega, fun j hj => ?_⟩⟩, fun h => ?_⟩
      · rw [low_by s (i + 1) hj]
        show setF (byF (lowL (List.take i s) ++ List.drop i s)) i (V.int IntKind.u8 ((((s.getD i 0).toNat : Int) + 32) % 256)) j = _
        unfold setF
        by_cases hji : j = i
        · subst hji
          rw [show decide (j = j) = true by simp, cond_true, if_pos (by omega)]
          have : (lowB (s.getD j 0)).toNat = (s.getD j 0).toNat + 32 := by
            unfold lowB
            rw [if_pos (by omega)]
            rw [UInt8.toNat_ofNat']
            omega
          rw [this]
          congr 1
          omega
        · rw [show decide (j = i) = false by simp [hji], cond_false, low_by s i hj]
          by_cases h3 : j < i
          · rw [if_pos h3, if_pos (by omega)]
          · rw [if_neg h3, if_neg (by omega)]
      · rw [low_by s (i + 1) hj, low_by s i hj]
        by_cases hji : j = i
        · subst hji
          rw [if_neg (Nat.lt_irrefl j), if_pos (by omega)]
          have : lowB (s.getD j 0) = s.getD j 0 := by
            unfold lowB
            rw [if_neg (by omega)]
          rw [this]
        · by_cases h3 : j < i
          · rw [if_pos h3, if_pos (by omega)]
          · rw [if_neg h3, if_neg (by omega)]
      · have : i = s.length := by omega
        subst this
        rw [List.take_length, List.drop_eq_nil_of_le (Nat.le_refl _), List.append_nil]
        have := bytesOf_by (lowL s)
        rw [show (lowL s).length = s.length by simp [lowL]] at this
        exact this
  · cases h
attribute [push_cast] ckSmall

theorem conSmallA : Con pg 42 ckSmall := by
  have hct := ctN_ok pg
  intro args q r h hq
  unfold ckSmall at h
  split at h
  · cases h
    rename_i s
    refine w42 (fun _ => false) [] rfl hct rfl rfl ?_
    push_cast (config := { maxSteps := 10000000 })
    refine LoopW.adj ⟨hct, fol⟩ (by kernel_rfl) [] (fun i : Nat => [(3, .vec 7 s.length), (8, .vec 7 s.length), (9, .int .i64 s.length), (10, .int .i64 i)]) (fun i => [(7, .vec 1 s.length (byF (lowL (s.take i) ++ s.drop i)))]) (fun i => i ≤ s.length) (fun i => s.length - i) 0 ?_ fun i hi => ?_
    · push_cast (config := { maxSteps := 10000000 })
      exact ⟨Nat.zero_le _, fun _ _ => rfl⟩
    · push_cast (config := { maxSteps := 10000000 })
      have e := low_at s i i
      rw [if_neg (Nat.lt_irrefl i)] at e
      rw [e]
      refine ⟨fun h => ⟨h, h, fun h1 => ⟨h, h, by omega, i + 1, by omega, by omega, by omega, fun j hj => ?_⟩, fun h1 => ⟨by omega, i + 1, by omega, by omega, by omega, fun j hj => ?_⟩⟩, fun h => ?_⟩
      · rw [low_by s (i + 1) hj]
        show setF (byF (lowL (List.take i s) ++ List.drop i s)) i (V.int IntKind.u8 (((((s.getD i 0).toNat : Int) + 97) % 256 - 65) % 256)) j = _
        unfold setF
        by_cases hji : j = i
        · subst hji
          rw [show decide (j = j) = true by simp, cond_true, if_pos (by omega)]
          have : (lowB (s.getD j 0)).toNat = (s.getD j 0).toNat + 32 := by
            unfold lowB
            rw [if_pos (by omega)]
            rw [UInt8.toNat_ofNat']
            omega
          rw [this]
          congr 1
          omega
        · rw [show decide (j = i) = false by simp [hji], cond_false, low_by s i hj]
          by_cases h3 : j < i
          · rw [if_pos h3, if_pos (by omega)]
          · rw [if_neg h3, if_neg (by omega)]
      · rw [low_by s (i + 1) hj, low_by s i hj]
        by_cases hji : j = i
        · subst hji
          rw [if_neg (Nat.lt_irrefl j), if_pos (by omega)]
          have : lowB (s.getD j 0) = s.getD j 0 := by
            unfold lowB
            rw [if_neg (by omega)]
          rw [this]
        · by_cases h3 : j < i
          · rw [if_pos h3, if_pos (by omega)]
          · rw [if_neg h3, if_neg (by omega)]
      · have : i = s.length := by omega
        subst this
        rw [List.take_length, List.drop_eq_nil_of_le (Nat.le_refl _), List.append_nil]
        have := bytesOf_by (lowL s)
        rw [show (lowL s).length = s.length by simp [lowL]] at this
        exact this
  · cases h

def ckIsHex : Ck
  | [.int .u8 c] => some (True, .bool (isHex c))
  | _ => none
theorem conIsHex : Con pg 100 ckIsHex := by
  intro args q r h hq
  unfold ckIsHex at h
  split at h
  · cases h
    refine w100 (fun _ => false) [] rfl (ctA_ok conIsDig (ctN_ok _)) rfl rfl ?_
    push_cast (config := { maxSteps := 10000000 })
    exact ⟨by grind, by grind, rfl⟩
  · cases h
attribute [push_cast] ckIsHex

theorem isBy_lit {l : List V} (h : ∀ i, i < l.length → ∃ n, l.getD i .any = .int .u8 n ∧ 0 ≤ n ∧ n < 256) : isBy l.length (litF l) := by
  refine ⟨(bytesOf_len _ _).symm, fun i hi => ?_⟩
  obtain ⟨n, e, h0, h1⟩ := h i hi
  have : litF l i = .int .u8 n := e
  rw [this]
  unfold byF bytesOf
  rw [List.getD_eq_getElem?_getD, List.getElem?_map, List.getElem?_range hi]
  simp only [Option.map_some, Option.getD_some, this, V.toByte]
  rw [UInt8.toNat_ofNat']
  congr 1
  omega
theorem shBytes {m : Nat} {v : V} (h : Sh.has (.list (.int .u8)) m v) : ∃ (n : Nat) (f : Nat → V), v = .sl n f ∧ isBy n f ∧ n ≤ reachBytes := by
  obtain ⟨l, ms, rfl, h1, h2, h3, h4⟩ := h
  have wf : ∀ n : Int, (Lit.int .u8 n).wf = true → 0 ≤ n ∧ n < 256 := fun n hn => by
    simp only [Lit.wf, Bool.and_eq_true, decide_eq_true_eq] at hn
    have e1 : IntKind.u8.min = 0 := rfl
    have e2 : IntKind.u8.max = 255 := rfl
    omega
  refine ⟨_, _, rfl, isBy_lit fun i hi => ?_, h3⟩
  obtain ⟨n, e, w, _⟩ := h4 i hi
  exact ⟨n, e, wf n w⟩
theorem hasD3 {H : Type} {s1 s2 s3 : Sh} {ds : List (DataW H)} (h : hasD [s1, s2, s3] ds) : ∃ a b c, ds = [a, b, c] ∧ s1.has (bulkD a) (toV a) ∧ s2.has (bulkD b) (toV b) ∧ s3.has (bulkD c) (toV c) := by
  match ds, h with
  | [a, b, c], ⟨h1, h2, h3, _⟩ => exact ⟨a, b, c, rfl, h1, h2, h3⟩
theorem shInt {k : IntKind} {m : Nat} {v : V} (h : Sh.has (.int k) m v) : ∃ n, v = .int k n ∧ (Lit.int k n).wf = true := by
  obtain ⟨n, e, w, _⟩ := h
  exact ⟨n, e, w⟩

def okAt (s : List UInt8) (i : Nat) : Bool := !(decide ((s.getD i 0).toNat < 33) || decide (126 < (s.getD i 0).toNat) || (s.getD i 0).toNat == 35 || ((s.getD i 0).toNat == 36 && decide (i + 1 < s.length)))
def patOk (s : List UInt8) : Bool := decide (1 ≤ s.length) && decide (s.length ≤ 300) && ((s.getD 0 0).toNat == 47 || (s.getD 0 0).toNat == 42) && (List.range s.length).all (okAt s)
theorem okAt_iff (s : List UInt8) (i : Nat) : okAt s i = true ↔ ¬ (s.getD i 0).toNat < 33 ∧ ¬ 126 < (s.getD i 0).toNat ∧ ¬ (s.getD i 0).toNat = 35 ∧ ¬ ((s.getD i 0).toNat = 36 ∧ i + 1 < s.length) := by
  simp [okAt]
  omega
theorem patOk_iff (s : List UInt8) : patOk s = true ↔ 1 ≤ s.length ∧ s.length ≤ 300 ∧ ((s.getD 0 0).toNat = 47 ∨ (s.getD 0 0).toNat = 42) ∧ ∀ i, i < s.length → okAt s i = true := by
  simp only [patOk, Bool.and_eq_true, Bool.or_eq_true, decide_eq_true_eq, beq_iff_eq, List.all_eq_true, List.mem_range, and_assoc]
theorem boolF {b : Bool} (h : ¬ b = true) : false = b := by cases b <;> simp_all

/-- a cutset of ASCII bytes -/
def asciiC (c : List UInt8) : Bool := c.all fun b => decide (b.toNat < 128)
theorem asciiC_at {c : List UInt8} (h : asciiC c = true) : ∀ (j : Nat) b, c[j]? = some b → b.toNat < 128 := by
  intro j b hb
  simp only [asciiC, List.all_eq_true, decide_eq_true_eq] at h
  exact h b (List.mem_of_getElem? hb)
def ckTrim : Ck
  | [.str s, .str c] => some (s.length ≤ 4611686018427387904 ∧ c.length < 4294967281 ∧ asciiC c = true, .str (Lib.trimS s c))
  | _ => none
theorem conTrim : Con pg 41 ckTrim := by
  intro args q r h hq
  unfold ckTrim at h
  split at h
  · cases h
    rename_i s c
    refine pcall_shelf (by kernel_rfl) rfl fun w hw => (Tryz.strings_TrimL ⟨s.toArray⟩ ⟨c.toArray⟩ w ?_ ?_ ?_).mono fun e w' h => ?_
    · show s.toArray.size ≤ _
      have := hq.1
      simp; omega
    · show c.toArray.size < _
      have := hq.2.1
      simp; omega
    · exact asciiC_at hq.2.2
    · exact shelf_str h.1 (grow_below h.2)
  · cases h
attribute [push_cast] ckTrim
@[push_cast] theorem asciiC_nil : asciiC [] = true := rfl
@[push_cast] theorem asciiC_cons (b : UInt8) (c : List UInt8) : asciiC (b :: c) = (decide (b.toNat < 128) && asciiC c) := rfl

def hasPre (s t : List UInt8) : Bool := decide (t.length ≤ s.length) && (s.take t.length == t)
theorem hasPre_iff {s t : List UInt8} : hasPre s t = true ↔ ∃ r, s = t ++ r := by
  simp only [hasPre, Bool.and_eq_true, decide_eq_true_eq, beq_iff_eq]
  constructor
  · rintro ⟨h1, h2⟩
    exact ⟨s.drop t.length, by conv => lhs; rw [← List.take_append_drop t.length s, h2]⟩
  · rintro ⟨r, rfl⟩
    exact ⟨by simp, by simp⟩
def ckHasPre : Ck
  | [.str s, .str t] => some ((s.length : Int) ≤ 4611686018427387904, .bool (hasPre s t))
  | _ => none
theorem conHasPre1 : Con pg 109 ckHasPre := by
  have hct := ctN_ok pg
  intro args q r h hq
  unfold ckHasPre at h
  split at h
  · cases h
    rename_i s t
    refine w109 (fun _ => false) [] rfl hct rfl rfl ?_
    push_cast (config := { maxSteps := 10000000 })
    rfl
  · cases h
attribute [push_cast] ckHasPre
theorem conHasPre : Con pg 80 ckHasPre := by
  have hct := (ctA_ok conHasPre1 (ctN_ok _))
  intro args q r h hq
  unfold ckHasPre at h
  split at h
  · cases h
    rename_i s t
    refine w80 (fun _ => false) [] rfl hct rfl rfl ?_
    push_cast (config := { maxSteps := 10000000 })
    exact hq
  · cases h
def ckCutPre : Ck
  | [.str s, .str t] => some ((s.length : Int) ≤ 4611686018427387904, .tup [.str (bif hasPre s t then s.drop t.length else s), .bool (hasPre s t)])
  | _ => none
attribute [push_cast] ckCutPre
def isHexB (c : UInt8) : Bool := isHex (c.toNat : Int)
def hexN (c : UInt8) : Nat := (hexV (c.toNat : Int)).toNat
def encB (v : Nat) : List UInt8 := if isFreeI (v : Int) = true then [UInt8.ofNat v] else [37, hexRow.getD (v / 16) 0, hexRow.getD (v % 16) 0]
/-- the normal form of what is escaped -/
def normL : List UInt8 → List UInt8
  | c :: a :: b :: r => if c = 37 ∧ isHexB a = true ∧ isHexB b = true then encB (16 * hexN a + hexN b) ++ normL r else c :: normL (a :: b :: r)
  | l => l
/-- every mark has its two digits -/
def wfL : List UInt8 → Bool
  | [] => true
  | [a] => !(a == 37)
  | [a, b] => !(a == 37) && !(b == 37)
  | c :: a :: b :: r => if c = 37 then isHexB a && isHexB b && wfL r else wfL (a :: b :: r)
theorem normL_hex {s : List UInt8} {i : Nat} (h : i + 2 < s.length) (h0 : s.getD i 0 = 37) (h1 : isHexB (s.getD (i + 1) 0) = true) (h2 : isHexB (s.getD (i + 2) 0) = true) :
    normL (s.drop i) = encB (16 * hexN (s.getD (i + 1) 0) + hexN (s.getD (i + 2) 0)) ++ normL (s.drop (i + 3)) := by
  rw [drop_at (by omega : i < s.length), drop_at (by omega : i + 1 < s.length), drop_at (by omega : i + 1 + 1 < s.length), normL, if_pos ⟨h0, h1, h2⟩]
theorem normL_no {s : List UInt8} {i : Nat} (h : i < s.length) (hn : ¬ (s.getD i 0 = 37 ∧ i + 2 < s.length ∧ isHexB (s.getD (i + 1) 0) = true ∧ isHexB (s.getD (i + 2) 0) = true)) :
    normL (s.drop i) = s.getD i 0 :: normL (s.drop (i + 1)) := by
  by_cases h2 : i + 2 < s.length
  · rw [drop_at (by omega : i < s.length), drop_at (by omega : i + 1 < s.length), drop_at (by omega : i + 1 + 1 < s.length), normL, if_neg (fun hh => hn ⟨hh.1, h2, hh.2.1, hh.2.2⟩)]
  · rw [drop_at h]
    generalize s.getD i 0 = c
    have hl : (s.drop (i + 1)).length ≤ 1 := by simp; omega
    match hd : s.drop (i + 1), hl with
    | [], _ => simp [normL]
    | [a], _ => simp [normL]
theorem wfL_hex {s : List UInt8} {i : Nat} (h : i < s.length) (h0 : s.getD i 0 = 37) (hw : wfL (s.drop i) = true) : i + 2 < s.length ∧ isHexB (s.getD (i + 1) 0) = true ∧ isHexB (s.getD (i + 2) 0) = true ∧ wfL (s.drop (i + 3)) = true := by
  by_cases h2 : i + 2 < s.length
  · rw [drop_at (by omega : i < s.length), drop_at (by omega : i + 1 < s.length), drop_at (by omega : i + 1 + 1 < s.length), wfL, if_pos h0] at hw
    simp only [Bool.and_eq_true] at hw
    exact ⟨h2, hw.1.1, hw.1.2, hw.2⟩
  · rw [drop_at h, h0] at hw
    have hl : (s.drop (i + 1)).length ≤ 1 := by simp; omega
    match hd : s.drop (i + 1), hl with
    | [], _ => rw [hd] at hw; simp [wfL] at hw
    | [a], _ => rw [hd] at hw; simp [wfL] at hw
theorem wfL_no {s : List UInt8} {i : Nat} (h : i < s.length) (h0 : ¬ s.getD i 0 = 37) (hw : wfL (s.drop i) = true) : wfL (s.drop (i + 1)) = true := by
  rw [drop_at h] at hw
  revert hw h0
  generalize s.getD i 0 = c
  generalize s.drop (i + 1) = t
  intro h0 hw
  match t with
  | [] => rfl
  | [a] => simp [wfL] at hw ⊢; exact hw.2
  | a :: b :: r => simpa [wfL, h0] using hw
theorem normL_len (s : List UInt8) : (normL s).length ≤ s.length := by
  refine normL.induct (motive := fun s => (normL s).length ≤ s.length) ?_ ?_ ?_ s
  · intro c a b r h ih
    rw [normL, if_pos h]
    simp only [List.length_append, List.length_cons]
    have : (encB (16 * hexN a + hexN b)).length ≤ 3 := by unfold encB; split <;> simp
    omega
  · intro c a b r h ih
    rw [normL, if_neg h]
    simp only [List.length_cons] at ih ⊢
    omega
  · intro l h
    match l with
    | [] => simp [normL]
    | [a] => simp [normL]
    | [a, b] => simp [normL]
    | c :: a :: b :: r => exact (h c a b r rfl).elim
theorem hexV_lt {c : Int} (h : isHex c = true) : 0 ≤ hexV c ∧ hexV c < 16 := by
  simp only [isHex, isDig, Bool.or_eq_true, Bool.and_eq_true, decide_eq_true_eq] at h
  simp only [hexV, isDig, Bool.and_eq_true, decide_eq_true_eq]
  split <;> (try split) <;> omega
theorem nib_or : ∀ a b : Fin 16, bitsI .or .u8 (((a.1 : Nat) : Int) * 2 ^ min 4 IntKind.u8.bits % 256) ((b.1 : Nat) : Int) = 16 * a.1 + b.1 := by decide
theorem nib_and : ∀ v : Fin 256, bitsI .and .u8 ((v.1 : Nat) : Int) 15 = ((v.1 % 16 : Nat) : Int) := by decide
theorem nib_shr (v : Nat) : Int.fdiv ((v : Nat) : Int) (2 ^ min 4 IntKind.u8.bits) = ((v / 16 : Nat) : Int) := by
  show Int.fdiv (v : Int) 16 = _
  rw [Int.fdiv_eq_ediv_of_nonneg _ (by omega)]; omega
theorem or_hex {a b : UInt8} (ha : isHexB a = true) (hb : isHexB b = true) : bitsI .or .u8 (hexV (a.toNat : Int) * 2 ^ min 4 IntKind.u8.bits % 256) (hexV (b.toNat : Int)) = ((16 * hexN a + hexN b : Nat) : Int) := by
  have h1 := hexV_lt ha
  have h2 := hexV_lt hb
  have := nib_or ⟨hexN a, by unfold hexN; omega⟩ ⟨hexN b, by unfold hexN; omega⟩
  have e1 : ((hexN a : Nat) : Int) = hexV (a.toNat : Int) := by unfold hexN; omega
  have e2 : ((hexN b : Nat) : Int) = hexV (b.toNat : Int) := by unfold hexN; omega
  simp only [e1, e2] at this
  rw [this, ← e1, ← e2]; omega
theorem hexN_lt {a : UInt8} (ha : isHexB a = true) : hexN a < 16 := by have := hexV_lt ha; unfold hexN; omega
theorem ofNat_toNat {v : Nat} (h : v < 256) : (UInt8.ofNat v).toNat = v := by simp [UInt8.toNat_ofNat']; omega

def stepR (s : List UInt8) (can : Nat → Bool) (c : Nat) : Nat → Bool := fun k => if c = 42 then (List.range (k + 1)).any can else decide (0 < k) && can (k - 1) && (s.getD (k - 1) 0).toNat == c
def reachN (p s : List UInt8) : Nat → Nat → Bool
  | 0 => fun k => k == 0
  | i + 1 => stepR s (reachN p s i) (p.getD i 0).toNat
def fitsB (p s : List UInt8) (whole : Bool) : Bool := if whole = true then reachN p s p.length s.length else (List.range (s.length + 1)).any (reachN p s p.length)

def hasSuf (s t : List UInt8) : Bool := decide (t.length ≤ s.length) && (s.drop (s.length - t.length) == t)

theorem last_app (a : List UInt8) {b : List UInt8} (h : b ≠ []) : (a ++ b).getLast? = b.getLast? := by
  rw [List.getLast?_append]
  cases hb : b.getLast? with
  | none => simp [h] at hb
  | some x => rfl
theorem encB_last (v : Nat) (h : v < 256) : (encB v).getLast? ≠ some 36 := by
  unfold encB
  split
  · rename_i hf
    intro he
    simp only [List.getLast?_singleton, Option.some.injEq] at he
    have : v = 36 := by have := congrArg UInt8.toNat he; rw [ofNat_toNat h] at this; exact this
    subst this
    revert hf; decide
  · intro he
    have aux : ∀ n : Fin 16, ¬ hexRow.getD n.1 0 = 36 := by decide
    simp only [List.getLast?_cons_cons, List.getLast?_singleton, Option.some.injEq] at he
    exact aux ⟨v % 16, by omega⟩ he
theorem encB_ne (v : Nat) : encB v ≠ [] := by unfold encB; split <;> simp
theorem normL_nil {s : List UInt8} (h : normL s = []) : s = [] := by
  match s with
  | [] => rfl
  | [a] => simp [normL] at h
  | [a, b] => simp [normL] at h
  | c :: a :: b :: r =>
    simp only [normL] at h
    split at h
    · simp [encB_ne] at h
    · simp at h
theorem normL_last (s : List UInt8) : (normL s).getLast? = some 36 → s.getLast? = some 36 := by
  refine normL.induct (motive := fun s => (normL s).getLast? = some 36 → s.getLast? = some 36) ?_ ?_ ?_ s
  · intro c a b r h ih hl
    rw [normL, if_pos h] at hl
    cases r with
    | nil =>
      simp only [normL, List.append_nil] at hl
      exact absurd hl (encB_last _ (by have := hexN_lt h.2.1; have := hexN_lt h.2.2; omega))
    | cons d r =>
      have hne : normL (d :: r) ≠ [] := fun e => by have := normL_nil e; cases this
      rw [last_app _ hne] at hl
      have := ih hl
      simpa using this
  · intro c a b r h ih hl
    rw [normL, if_neg h] at hl
    have hne : normL (a :: b :: r) ≠ [] := fun e => by have := normL_nil e; cases this
    have : (c :: normL (a :: b :: r)).getLast? = (normL (a :: b :: r)).getLast? := by
      rw [show c :: normL (a :: b :: r) = [c] ++ normL (a :: b :: r) from rfl, last_app _ hne]
    rw [this] at hl
    simpa using ih hl
  · intro l h hl
    match l with
    | [] => simp [normL] at hl
    | [a] => simpa [normL] using hl
    | [a, b] => simpa [normL] using hl
    | c :: a :: b :: r => exact (h c a b r rfl).elim
theorem normL_dollar (s : List UInt8) : normL (s ++ [36]) = normL s ++ [36] := by
  refine normL.induct (motive := fun s => normL (s ++ [36]) = normL s ++ [36]) ?_ ?_ ?_ s
  · intro c a b r h ih
    simp only [List.cons_append, normL, if_pos h, ih, List.append_assoc]
  · intro c a b r h ih
    simp only [List.cons_append, normL, if_neg h]
    simpa using ih
  · intro l h
    match l with
    | [] => rfl
    | [a] => rfl
    | [a, b] =>
      have : isHexB 36 = false := by decide
      simp [normL, this]
    | c :: a :: b :: r => exact (h c a b r rfl).elim
theorem reachN_app (p q s : List UInt8) : ∀ i, i ≤ p.length → reachN (p ++ q) s i = reachN p s i
  | 0, _ => rfl
  | i + 1, h => by
    simp only [reachN]
    rw [reachN_app p q s i (by omega)]
    congr 1
    rw [List.getD_eq_getElem?_getD, List.getElem?_append_left (by omega), List.getD_eq_getElem?_getD]
theorem fits_star (p s : List UInt8) : fitsB (p ++ [42]) s true = fitsB p s false := by
  have h : ((p ++ [42]).getD p.length 0).toNat = 42 := by simp
  simp only [fitsB, if_true, List.length_append, List.length_cons, List.length_nil, reachN]
  rw [h, reachN_app p [42] s p.length (Nat.le_refl _)]
  simp [stepR]
def matchesB (p s : List UInt8) : Bool := if hasSuf p [36] = true then fitsB (normL (p.take (p.length - 1))) s true else fitsB (normL p) s false
theorem suf_iff (p : List UInt8) (c : UInt8) : hasSuf p [c] = true ↔ p = p.take (p.length - 1) ++ [c] := by
  unfold hasSuf
  simp only [List.length_cons, List.length_nil, Bool.and_eq_true, decide_eq_true_eq, beq_iff_eq]
  constructor
  · intro ⟨h1, h2⟩
    conv => lhs; rw [← List.take_append_drop (p.length - 1) p]
    rw [h2]
  · intro h
    have hl : 1 ≤ p.length := by rw [h]; simp
    refine ⟨by omega, ?_⟩
    conv => lhs; rw [h]
    rw [List.drop_append_of_le_length (by simp)]
    simp
theorem suf_last (p : List UInt8) (c : UInt8) : hasSuf p [c] = true ↔ p.getLast? = some c := by
  rw [suf_iff]
  constructor
  · intro h; rw [h]; simp
  · intro h
    obtain ⟨ys, rfl⟩ := List.getLast?_eq_some_iff.1 h
    simp
theorem matches_ref (p s : List UInt8) : fitsB ((if hasSuf (normL p) [36] = true then (normL p).take ((normL p).length - 1) else normL p) ++ (if hasSuf (normL p) [36] = true then [] else [42])) s true = matchesB p s := by
  unfold matchesB
  by_cases h : hasSuf p [36] = true
  · have hp := (suf_iff p 36).1 h
    have hn : normL p = normL (p.take (p.length - 1)) ++ [36] := by
      conv => lhs; rw [hp]
      exact normL_dollar _
    have h2 : hasSuf (normL p) [36] = true := (suf_last _ _).2 (by rw [hn]; simp)
    rw [if_pos h, if_pos h2, if_pos h2, List.append_nil, hn]
    simp
  · have h2 : ¬ hasSuf (normL p) [36] = true := fun h2 => h ((suf_last _ _).2 (normL_last _ ((suf_last _ _).1 h2)))
    rw [if_neg h, if_neg h2, if_neg h2, fits_star]
/-- Matches: whether, and the error -/
def matchesR (p s : List UInt8) : Bool × Int := if patOk p = true then (if 2000 < s.length then (false, 2) else (matchesB p s, 0)) else (false, 3)

def ckPat : Ck
  | [.str s] => some (True, .bool (patOk s))
  | _ => none
theorem conPat : Con pg 37 ckPat := by
  have hct := ctN_ok pg
  intro args q r h hq
  unfold ckPat at h
  split at h
  · cases h
    rename_i s
    refine w37 (fun _ => false) [] rfl hct rfl rfl ?_
    push_cast (config := { maxSteps := 10000000 })
    refine ⟨by omega, by omega, by omega, fun h0 => ?_, fun h0 => LoopW.by ⟨hct, fol⟩ (by kernel_rfl) (fun i : Nat => [(0, .str s), (23, .int .i64 s.length), (24, .int .i64 i)]) (fun _ => []) (fun i => i ≤ s.length ∧ ∀ j, j < i → okAt s j = true) (fun i => s.length - i) 0 ⟨⟨by omega, fun j hj => by omega⟩, by push_cast⟩ fun i hi => ?_⟩
    · refine boolF fun hp => ?_
      have := (patOk_iff s).1 hp
      omega
    · push_cast (config := { maxSteps := 10000000 })
      refine ⟨fun h1 => ⟨by omega, by omega, by omega, by omega, by omega, by omega, fun h2 => boolF fun hp => ?_, fun h2 => ⟨by omega, i + 1, ⟨by omega, fun j hj => ?_⟩, by omega, by omega⟩⟩, fun h1 => ((patOk_iff s).2 ⟨by omega, by omega, by omega, fun j hj => hi.2 j (by omega)⟩).symm⟩
      · have := (okAt_iff s i).1 (((patOk_iff s).1 hp).2.2.2 i (by omega))
        omega
      · by_cases e : j = i
        · subst e
          exact (okAt_iff s j).2 (by omega)
        · exact hi.2 j (by omega)
  · cases h
attribute [push_cast] ckPat

def ckWithin : Ck
  | [.int .i64 n, .int .i64 a, .int .i64 b] => some (True, .bool (decide (a ≤ n) && decide (n ≤ b)))
  | _ => none
theorem conWithin : Con pg 59 ckWithin := by
  intro args q r h hq
  unfold ckWithin at h
  split at h
  · cases h
    refine w59 (fun _ => false) [] rfl (ctN_ok _) rfl rfl ?_
    push_cast (config := { maxSteps := 10000000 })
  · cases h
attribute [push_cast] ckWithin

theorem conPat4 : Con pg 56 ckPat := by
  have hct := (ctA_ok conWithin (ctN_ok _))
  intro args q r h hq
  unfold ckPat at h
  split at h
  · cases h
    rename_i s
    refine w56 (fun _ => false) [] rfl hct rfl rfl ?_
    push_cast (config := { maxSteps := 10000000 })
    refine ⟨by omega, by omega, ?_, fun h0 => ?_, fun h0 => LoopW.by ⟨hct, fol⟩ (by kernel_rfl) (fun i : Nat => [(0, .str s), (19, .int .i64 s.length), (20, .int .i64 i)]) (fun _ => []) (fun i => i ≤ s.length ∧ ∀ j, j < i → okAt s j = true) (fun i => s.length - i) 0 ⟨⟨by omega, fun j hj => by omega⟩, by push_cast⟩ fun i hi => ?_⟩
    · omega
    · refine boolF fun hp => ?_
      have := (patOk_iff s).1 hp
      omega
    · push_cast (config := { maxSteps := 10000000 })
      refine ⟨fun h1 => ⟨by omega, by omega, by omega, by omega, by omega, by omega, fun h2 => boolF fun hp => ?_, fun h2 => ⟨by omega, i + 1, ⟨by omega, fun j hj => ?_⟩, by omega, by omega⟩⟩, fun h1 => ((patOk_iff s).2 ⟨by omega, by omega, by omega, fun j hj => hi.2 j (by omega)⟩).symm⟩
      · have := (okAt_iff s i).1 (((patOk_iff s).1 hp).2.2.2 i (by omega))
        omega
      · by_cases e : j = i
        · subst e
          exact (okAt_iff s j).2 (by omega)
        · exact hi.2 j (by omega)
  · cases h
attribute [push_cast] ckPat

end Go.Abs
