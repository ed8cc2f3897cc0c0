/- what functions of this program compute: contracts, each a function's own -/
import Derived.Test.YtoahlpjghbhbaaaGreatDoorAbsK3
import Derived.Test.YtoahlpjghbhbaaaGreatDoorAbsFacts
import Derived.Test.YtoahlpjghbhbaaaGreatDoorAbsShelf
import Derived.Lib.SplitLaws
import Derived.Lib.Overlaps
import Derived.Deep.AppendSrc
import Derived.Laws.NewBlocks
import Derived.WalkKit
import Derived.Lib.Walk
import Derived.Lib.AppendStr
import Derived.Lib.AppendZeros
import Derived.Lib.UnsafeStr
import Derived.Lib.Builder
import Derived.Laws.Externs
import Derived.Lib.Repeat
import Derived.Lib.ItoaLen
import Derived.Lib.SlTrimSet
import Derived.Lib.Atoi
import Derived.Lib.Itoa
import Derived.Lib.ItoaNum
import Derived.Lib.AtoiErrMem
import Derived.Lib.Replace
import Derived.Lib.ReplaceLaws
namespace Go.Abs
open Go Go.Proofs
set_option maxHeartbeats 4000000
set_option maxRecDepth 100000
set_option linter.unusedVariables false
set_option linter.unusedSimpArgs false
def isDig (c : Int) : Bool := decide (48 ≤ c) && decide (c ≤ 57)
def isLet (c : Int) : Bool := decide (97 ≤ c) && decide (c ≤ 122) || decide (65 ≤ c) && decide (c ≤ 90)
def isHex (c : Int) : Bool := isDig c || decide (97 ≤ c) && decide (c ≤ 102) || decide (65 ≤ c) && decide (c ≤ 70)
def hexV (c : Int) : Int := if isDig c = true then c - 48 else if 97 ≤ c then c - 87 else c - 55
def hexRow : List UInt8 := [48, 49, 50, 51, 52, 53, 54, 55, 56, 57, 65, 66, 67, 68, 69, 70]
def digI (c : Int) : Int := if isHex c = true then hexV c else -1
def isFreeI (c : Int) : Bool := isLet c || isDig c || c == 45 || c == 46 || c == 95 || c == 126

def ckIsLet : Ck
  | [.int .u8 c] => some (True, .bool (isLet c))
  | _ => none
theorem conIsLet : Con pg 113 ckIsLet := by
  intro args q r h hq
  unfold ckIsLet at h
  split at h
  · cases h
    refine w113 (fun _ => false) [] rfl (ctN_ok _) rfl rfl ?_
    push_cast (config := { maxSteps := 10000000 })
    exact ⟨by grind, rfl⟩
  · cases h
attribute [push_cast] ckIsLet

def ckIsDig : Ck
  | [.int .u8 c] => some (True, .bool (isDig c))
  | _ => none
theorem conIsDig : Con pg 87 ckIsDig := by
  intro args q r h hq
  unfold ckIsDig at h
  split at h
  · cases h
    refine w87 (fun _ => false) [] rfl (ctN_ok _) rfl rfl ?_
    push_cast (config := { maxSteps := 10000000 })
    rfl
  · cases h
attribute [push_cast] ckIsDig

theorem conIdxStr : Con pg 101 ckIndexByte := con_IndexByteString (fn := Tryz.f101) (by kernel_rfl) (by kernel_rfl) (by kernel_rfl) (by kernel_rfl) (by kernel_rfl)
theorem conIndexByte1 : Con pg 69 ckIndexByte := by
  intro args q r h hq
  obtain ⟨s, c, rfl, _, rfl⟩ := ckIndexByte_inv h
  refine w69 (fun _ => false) [] rfl (ctA_ok conIdxStr (ctN_ok _)) rfl rfl ?_
  push_cast (config := { maxSteps := 10000000 })
theorem conIndexByte : Con pg 40 ckIndexByte := by
  intro args q r h hq
  obtain ⟨s, c, rfl, _, rfl⟩ := ckIndexByte_inv h
  refine w40 (fun _ => false) [] rfl (ctA_ok conIndexByte1 (ctN_ok _)) rfl rfl ?_
  push_cast (config := { maxSteps := 10000000 })

/- own slices of bytes -/
theorem appF_byF (l m : List UInt8) : appF l.length (byF l) (byF m) = byF (l ++ m) := by
  funext i
  simp only [appF, byF]
  by_cases h : i < l.length
  · simp [h, List.getElem?_append_left]
  · simp [h, List.getElem?_append_right (by omega : l.length ≤ i)]
/-- bytes, as they are written into a literal -/
theorem litF_byF {vs : List V} {bs : List UInt8} (h : vs = bs.map fun b => V.int .u8 b.toNat) {i : Nat} (hi : i < bs.length) : litF vs i = byF bs i := by
  subst h
  simp [litF, byF, hi]
theorem appF_lit {l bs : List UInt8} {vs : List V} (h : vs = bs.map fun b => V.int .u8 b.toNat) {i : Nat} (hi : i < l.length + bs.length) : appF l.length (byF l) (litF vs) i = byF (l ++ bs) i := by
  rw [← appF_byF]
  simp only [appF]
  by_cases hl : i < l.length
  · simp [hl]
  · simp only [hl, decide_false, cond_false]
    exact litF_byF h (by omega)
theorem bytesOf_byF (l : List UInt8) : bytesOf l.length (byF l) = l := by
  apply List.ext_getElem?
  intro i
  simp only [bytesOf, byF, V.toByte, Int.toNat_natCast]
  by_cases h : i < l.length
  · simp [h]
  · simp [h]
theorem bytesOf_of {n : Nat} {l : List UInt8} {f : Nat → V} (hn : n = l.length) (h : ∀ i, i < n → f i = byF l i) : bytesOf n f = l := by
  subst hn
  rw [← bytesOf_byF l]
  unfold bytesOf
  simp only [List.length_map, List.length_range]
  apply List.map_congr_left
  intro i hi
  rw [h i (by simpa using hi)]
theorem u8_eq (a b : UInt8) : a = b ↔ (a.toNat : Int) = b.toNat := by rw [← UInt8.toNat_inj]; omega
theorem u8_lt (a : UInt8) : a.toNat < 256 := UInt8.toNat_lt a
theorem drop_at {s : List UInt8} {i : Nat} (h : i < s.length) : s.drop i = s.getD i 0 :: s.drop (i + 1) := by
  rw [List.drop_eq_getElem_cons h, List.getD_eq_getElem?_getD, List.getElem?_eq_getElem h]; rfl
theorem take_one {s : List UInt8} {i : Nat} (h : i < s.length) : (s.drop i).take 1 = [s.getD i 0] := by rw [drop_at h]; rfl
theorem take_next {s : List UInt8} {k : Nat} (h : k < s.length) : s.take (k + 1) = s.take k ++ [s.getD k 0] := by
  rw [List.take_add_one, List.getD_eq_getElem?_getD, List.getElem?_eq_getElem h]; rfl

/-- f's first n are the bytes s -/
def ByI (n : Nat) (f : Nat → V) (s : List UInt8) : Prop := n = s.length ∧ ∀ i, i < n → f i = byF s i
theorem ByI.by (s : List UInt8) : ByI s.length (byF s) s := ⟨rfl, fun _ _ => rfl⟩
theorem ByI.app {n m k : Nat} {f g : Nat → V} {a b : List UInt8} (h1 : ByI n f a) (h2 : ByI m g b) (hk : k = n + m) : ByI k (appF n f g) (a ++ b) := by
  obtain ⟨e1, h1⟩ := h1
  obtain ⟨e2, h2⟩ := h2
  refine ⟨by simp; omega, fun i hi => ?_⟩
  unfold appF
  by_cases h : i < n
  · rw [show decide (i < n) = true from by simp [h], cond_true, h1 i h]
    unfold byF
    rw [List.getD_eq_getElem?_getD, List.getD_eq_getElem?_getD, List.getElem?_append_left (by omega)]
  · rw [show decide (i < n) = false from by simp [h], cond_false, h2 (i - n) (by omega)]
    unfold byF
    rw [List.getD_eq_getElem?_getD, List.getD_eq_getElem?_getD, List.getElem?_append_right (by omega), e1]
theorem ByI.sh {n l k : Nat} {f : Nat → V} {s : List UInt8} (h : ByI n f s) (hk : l + k ≤ n) : ByI k (shF f l) ((s.drop l).take k) := by
  obtain ⟨e, h⟩ := h
  refine ⟨by simp; omega, fun i hi => ?_⟩
  unfold shF
  rw [h (i + l) (by omega)]
  unfold byF
  rw [List.getD_eq_getElem?_getD, List.getD_eq_getElem?_getD, List.getElem?_take_of_lt hi, List.getElem?_drop, Nat.add_comm]
theorem ByI.eq {n : Nat} {f : Nat → V} {s t : List UInt8} (h : ByI n f s) (e : s = t) : ByI n f t := e ▸ h
theorem ByI.len {n m : Nat} {f : Nat → V} {s : List UInt8} (h : ByI n f s) (e : n = m) : ByI m f s := e ▸ h
theorem bytesOf_by (s : List UInt8) : bytesOf s.length (byF s) = s := by
  unfold bytesOf byF
  apply List.ext_getElem
  · simp
  · intro i h1 h2
    simp only [List.getElem_map, List.getElem_range, V.toByte, Int.toNat_natCast]
    rw [List.getD_eq_getElem?_getD, List.getElem?_eq_getElem h2]
    simp
theorem bytesOf_len (n : Nat) (f : Nat → V) : (bytesOf n f).length = n := by simp [bytesOf]
/-- bytes, as they come -/
def isBy (n : Nat) (f : Nat → V) : Prop := ByI n f (bytesOf n f)
theorem isBy.vle {n : Nat} {f : Nat → V} (h : isBy n f) : VLe (.sl n f) (.sl (bytesOf n f).length (byF (bytesOf n f))) := VLe.sl h.1 h.2
theorem isBy_by (s : List UInt8) : isBy s.length (byF s) := by unfold isBy; rw [bytesOf_by]; exact ByI.by s
theorem ByI.bytes {n : Nat} {f : Nat → V} {s : List UInt8} (h : ByI n f s) : bytesOf n f = s := by
  obtain ⟨rfl, h⟩ := h
  have : bytesOf s.length f = bytesOf s.length (byF s) := by
    unfold bytesOf
    exact List.map_congr_left fun i hi => by rw [h i (by simpa using hi)]
  rw [this, bytesOf_by]
theorem ByI.is {n : Nat} {f : Nat → V} {s : List UInt8} (h : ByI n f s) : isBy n f := by unfold isBy; rw [h.bytes]; exact h
theorem ByI.pure {n : Nat} {f : Nat → V} {s : List UInt8} (h : ByI n f s) : ∀ i, i < n → (f i).isPure = true := fun i hi => by rw [h.2 i hi]; rfl
theorem ByI.flat {n : Nat} {f : Nat → V} {s : List UInt8} (h : ByI n f s) : ∀ i, i < n → (f i).flat.length = 1 := fun i hi => by rw [h.2 i hi]; rfl
theorem ByI.bytesP {n : Nat} {f : Nat → V} {s : List UInt8} (h : ByI n f s) : ∀ i, i < n → ∃ m, f i = .int .u8 m := fun i hi => ⟨_, h.2 i hi⟩
attribute [push_cast] UInt8.ofNat_toNat Int.toNat_natCast

def tokB (c : UInt8) : Bool := decide (97 ≤ c.toNat ∧ c.toNat ≤ 122 ∨ 65 ≤ c.toNat ∧ c.toNat ≤ 90 ∨ 48 ≤ c.toNat ∧ c.toNat ≤ 57 ∨ 0 ≤ Lib.indexByte [33, 35, 36, 37, 38, 39, 42, 43, 45, 46, 94, 95, 124, 126] c)
def tokL (s : List UInt8) : Bool := decide (1 ≤ s.length) && decide (s.length ≤ 40) && s.all tokB
def ckIsToken : Ck
  | [.str s] => some (True, .bool (tokL s))
  | _ => none
theorem all_at {p : UInt8 → Bool} {s : List UInt8} (h : ∀ j, j < s.length → p (s.getD j 0) = true) : s.all p = true := by
  rw [List.all_eq_true]
  intro x hx
  obtain ⟨j, hj, rfl⟩ := List.getElem_of_mem hx
  have := h j hj
  rwa [List.getD_eq_getElem?_getD, List.getElem?_eq_getElem hj] at this
theorem all_no {p : UInt8 → Bool} {s : List UInt8} {j : Nat} (hj : j < s.length) (h : p (s.getD j 0) = false) : s.all p = false := by
  rw [List.all_eq_false]
  refine ⟨s[j], List.getElem_mem hj, ?_⟩
  rw [List.getD_eq_getElem?_getD, List.getElem?_eq_getElem hj] at h
  simpa using h
attribute [push_cast] ckIsToken
def lowB (c : UInt8) : UInt8 := if 65 ≤ c.toNat ∧ c.toNat ≤ 90 then UInt8.ofNat (c.toNat + 32) else c
def lowL (s : List UInt8) : List UInt8 := s.map lowB
def ckSmall : Ck
  | [.str s] => some (s.length ≤ 140737488355328, .str (lowL s))
  | _ => none
theorem low_at (s : List UInt8) (i j : Nat) : (lowL (s.take i) ++ s.drop i).getD j 0 = if j < i then (if j < s.length then lowB (s.getD j 0) else 0) else s.getD j 0 := by
  unfold lowL
  simp only [List.getD_eq_getElem?_getD]
  by_cases h : j < s.length
  · by_cases h1 : j < i
    · rw [List.getElem?_append_left (by simp; omega), if_pos h1, if_pos h]
      simp [h1, h]
    · rw [List.getElem?_append_right (by simp; omega), if_neg h1, List.getElem?_drop]
      simp only [List.length_map, List.length_take]
      rw [show i + (j - min i s.length) = j by omega]
  · rw [List.getElem?_eq_none (by simp; omega), List.getElem?_eq_none (by omega), if_neg h]
    split <;> rfl
theorem low_len (s : List UInt8) (i : Nat) : (lowL (s.take i) ++ s.drop i).length = s.length := by simp [lowL]; omega
theorem low_by (s : List UInt8) (i : Nat) {j : Nat} (hj : j < s.length) : byF (lowL (s.take i) ++ s.drop i) j = .int .u8 (if j < i then lowB (s.getD j 0) else s.getD j 0).toNat := by
  unfold byF
  rw [low_at, if_pos hj]
theorem byF_app (s t : List UInt8) (j : Nat) : byF (s ++ t) j = .int .u8 ((s ++ t).getD j 0).toNat := rfl
theorem conSmall : Con pg 175 ckSmall := by
  have hct := ctN_ok pg
  intro args q r h hq
  unfold ckSmall at h
  split at h
  · cases h
    rename_i s
    refine w175 (fun _ => false) [] rfl hct rfl rfl ?_
    push_cast (config := { maxSteps := 10000000 })
    refine LoopW.adj ⟨hct, fol⟩ (by kernel_rfl) [] (fun i : Nat => [(0, .str s), (3, .vec 6 s.length), (4, .int .i64 i)]) (fun i => [(6, .vec 1 s.length (byF (lowL (s.take i) ++ s.drop i)))]) (fun i => i ≤ s.length) (fun i => s.length - i) 0 ?_ fun i hi => ?_
    · push_cast (config := { maxSteps := 10000000 })
      exact ⟨Nat.zero_le _, fun _ _ => rfl⟩
    · push_cast (config := { maxSteps := 10000000 })
      have e := low_at s i i
      rw [if_neg (Nat.lt_irrefl i)] at e
      rw [e]
      refine ⟨fun h => ⟨h, h, fun h1 => ⟨h1, h⟩, fun h1 => ⟨h1, h⟩, fun h1 => ⟨h, h, h, h, by omega, i + 1, by omega, by omega, by omega, fun j hj => ?_⟩, fun h1 => ⟨by omega, i + 1, by omega, by omega, by omega, fun j hj => ?_⟩⟩, fun h => ?_⟩
      · rw [low_by s (i + 1) hj]
        show setF (byF (lowL (List.take i s) ++ List.drop i s)) i (V.int IntKind.u8 ((((s.getD i 0).toNat : Int) + 32) % 256)) j = _
        unfold setF
        by_cases hji : j = i
        · subst hji
          rw [show decide (j = j) = true by simp, cond_true, if_pos (by omega)]
          have : (lowB (s.getD j 0)).toNat = (s.getD j 0).toNat + 32 := by
            unfold lowB
            rw [if_pos (by omega)]
            rw [UInt8.toNat_ofNat']
            omega
          rw [this]
          congr 1
          omega
        · rw [show decide (j = i) = false by simp [hji], cond_false, low_by s i hj]
          by_cases h3 : j < i
          · rw [if_pos h3, if_pos (by omega)]
          · rw [if_neg h3, if_neg (by omega)]
      · rw [low_by s (i + 1) hj, low_by s i hj]
        by_cases hji : j = i
        · subst hji
          rw [if_neg (Nat.lt_irrefl j), if_pos (by omega)]
          have : lowB (s.getD j 0) = s.getD j 0 := by
            unfold lowB
            rw [if_neg (by omega)]
          rw [this]
        · by_cases h3 : j < i
          · rw [if_pos h3, if_pos (by omega)]
          · rw [if_neg h3, if_neg (by omega)]
      · have : i = s.length := by omega
        subst this
        rw [List.take_length, List.drop_eq_nil_of_le (Nat.le_refl _), List.append_nil]
        have := bytesOf_by (lowL s)
        rw [show (lowL s).length = s.length by simp [lowL]] at this
        exact this
  · cases h
attribute [push_cast] ckSmall

theorem conSmallA : Con pg 84 ckSmall := by
  have hct := ctN_ok pg
  intro args q r h hq
  unfold ckSmall at h
  split at h
  · cases h
    rename_i s
    refine w84 (fun _ => false) [] rfl hct rfl rfl ?_
    push_cast (config := { maxSteps := 10000000 })
    refine LoopW.adj ⟨hct, fol⟩ (by kernel_rfl) [] (fun i : Nat => [(3, .vec 7 s.length), (8, .vec 7 s.length), (9, .int .i64 s.length), (10, .int .i64 i)]) (fun i => [(7, .vec 1 s.length (byF (lowL (s.take i) ++ s.drop i)))]) (fun i => i ≤ s.length) (fun i => s.length - i) 0 ?_ fun i hi => ?_
    · push_cast (config := { maxSteps := 10000000 })
      exact ⟨Nat.zero_le _, fun _ _ => rfl⟩
    · push_cast (config := { maxSteps := 10000000 })
      have e := low_at s i i
      rw [if_neg (Nat.lt_irrefl i)] at e
      rw [e]
      refine ⟨fun h => ⟨h, h, fun h1 => ⟨h, h, by omega, i + 1, by omega, by omega, by omega, fun j hj => ?_⟩, fun h1 => ⟨by omega, i + 1, by omega, by omega, by omega, fun j hj => ?_⟩⟩, fun h => ?_⟩
      · rw [low_by s (i + 1) hj]
        show setF (byF (lowL (List.take i s) ++ List.drop i s)) i (V.int IntKind.u8 (((((s.getD i 0).toNat : Int) + 97) % 256 - 65) % 256)) j = _
        unfold setF
        by_cases hji : j = i
        · subst hji
          rw [show decide (j = j) = true by simp, cond_true, if_pos (by omega)]
          have : (lowB (s.getD j 0)).toNat = (s.getD j 0).toNat + 32 := by
            unfold lowB
            rw [if_pos (by omega)]
            rw [UInt8.toNat_ofNat']
            omega
          rw [this]
          congr 1
          omega
        · rw [show decide (j = i) = false by simp [hji], cond_false, low_by s i hj]
          by_cases h3 : j < i
          · rw [if_pos h3, if_pos (by omega)]
          · rw [if_neg h3, if_neg (by omega)]
      · rw [low_by s (i + 1) hj, low_by s i hj]
        by_cases hji : j = i
        · subst hji
          rw [if_neg (Nat.lt_irrefl j), if_pos (by omega)]
          have : lowB (s.getD j 0) = s.getD j 0 := by
            unfold lowB
            rw [if_neg (by omega)]
          rw [this]
        · by_cases h3 : j < i
          · rw [if_pos h3, if_pos (by omega)]
          · rw [if_neg h3, if_neg (by omega)]
      · have : i = s.length := by omega
        subst this
        rw [List.take_length, List.drop_eq_nil_of_le (Nat.le_refl _), List.append_nil]
        have := bytesOf_by (lowL s)
        rw [show (lowL s).length = s.length by simp [lowL]] at this
        exact this
  · cases h

def ckIsHex : Ck
  | [.int .u8 c] => some (True, .bool (isHex c))
  | _ => none
theorem conIsHex : Con pg 105 ckIsHex := by
  intro args q r h hq
  unfold ckIsHex at h
  split at h
  · cases h
    refine w105 (fun _ => false) [] rfl (ctA_ok conIsDig (ctN_ok _)) rfl rfl ?_
    push_cast (config := { maxSteps := 10000000 })
    exact ⟨by grind, by grind, rfl⟩
  · cases h
attribute [push_cast] ckIsHex

def hasPre (s t : List UInt8) : Bool := decide (t.length ≤ s.length) && (s.take t.length == t)
theorem hasPre_iff {s t : List UInt8} : hasPre s t = true ↔ ∃ r, s = t ++ r := by
  simp only [hasPre, Bool.and_eq_true, decide_eq_true_eq, beq_iff_eq]
  constructor
  · rintro ⟨h1, h2⟩
    exact ⟨s.drop t.length, by conv => lhs; rw [← List.take_append_drop t.length s, h2]⟩
  · rintro ⟨r, rfl⟩
    exact ⟨by simp, by simp⟩
def ckHasPre : Ck
  | [.str s, .str t] => some ((s.length : Int) ≤ 4611686018427387904, .bool (hasPre s t))
  | _ => none
theorem conHasPre1 : Con pg 91 ckHasPre := by
  have hct := ctN_ok pg
  intro args q r h hq
  unfold ckHasPre at h
  split at h
  · cases h
    rename_i s t
    refine w91 (fun _ => false) [] rfl hct rfl rfl ?_
    push_cast (config := { maxSteps := 10000000 })
    rfl
  · cases h
attribute [push_cast] ckHasPre
theorem conHasPre : Con pg 65 ckHasPre := by
  have hct := (ctA_ok conHasPre1 (ctN_ok _))
  intro args q r h hq
  unfold ckHasPre at h
  split at h
  · cases h
    rename_i s t
    refine w65 (fun _ => false) [] rfl hct rfl rfl ?_
    push_cast (config := { maxSteps := 10000000 })
    exact hq
  · cases h
def ckCutPre : Ck
  | [.str s, .str t] => some ((s.length : Int) ≤ 4611686018427387904, .tup [.str (bif hasPre s t then s.drop t.length else s), .bool (hasPre s t)])
  | _ => none
theorem conCutPre1 : Con pg 126 ckCutPre := by
  have hct := (ctA_ok conHasPre1 (ctN_ok _))
  intro args q r h hq
  unfold ckCutPre at h
  split at h
  · cases h
    rename_i s t
    refine w126 (fun _ => false) [] rfl hct rfl rfl ?_
    push_cast (config := { maxSteps := 10000000 })
    refine ⟨hq, fun h => by rw [h]; exact ⟨rfl, rfl⟩, fun h => ?_⟩
    have hl : t.length ≤ s.length := by
      obtain ⟨r, rfl⟩ := hasPre_iff.1 h
      simp
    rw [h]
    exact ⟨hl, rfl, rfl⟩
  · cases h
attribute [push_cast] ckCutPre
theorem conCutPre : Con pg 102 ckCutPre := by
  have hct := (ctA_ok conCutPre1 (ctN_ok _))
  intro args q r h hq
  unfold ckCutPre at h
  split at h
  · cases h
    rename_i s t
    refine w102 (fun _ => false) [] rfl hct rfl rfl ?_
    push_cast (config := { maxSteps := 10000000 })
    exact hq
  · cases h

theorem idx_at {s : List UInt8} {c : UInt8} {k : Nat} (h : Lib.indexByte s c = (k : Int)) : k < s.length ∧ s.getD k 0 = c ∧ ∀ j, j < k → s.getD j 0 ≠ c := by
  induction s generalizing k with
  | nil => simp only [Lib.indexByte] at h; omega
  | cons b l ih =>
    unfold Lib.indexByte at h
    by_cases hb : b = c
    · subst hb
      simp only [beq_self_eq_true, if_true] at h
      have : k = 0 := by omega
      subst this
      exact ⟨by simp, by simp, fun j hj => by omega⟩
    · rw [if_neg (by simpa using hb)] at h
      have hge := Lib.indexByte_ge l c
      by_cases h1 : Lib.indexByte l c = -1
      · rw [if_pos (by simpa using h1)] at h; omega
      · rw [if_neg (by simpa using h1)] at h
        obtain ⟨k', hk'⟩ : ∃ k' : Nat, Lib.indexByte l c = (k' : Int) := ⟨(Lib.indexByte l c).toNat, by omega⟩
        obtain ⟨a1, a2, a3⟩ := ih hk'
        have : k = k' + 1 := by omega
        subst this
        refine ⟨by simp; omega, by simpa using a2, fun j hj => ?_⟩
        cases j with
        | zero => simpa using hb
        | succ j => simpa using a3 j (by omega)
theorem idx_no {s : List UInt8} {c : UInt8} (h : Lib.indexByte s c < 0) : ∀ j, j < s.length → s.getD j 0 ≠ c := by
  induction s with
  | nil => intro j hj; simp at hj
  | cons b l ih =>
    unfold Lib.indexByte at h
    by_cases hb : b = c
    · subst hb; simp at h
    · rw [if_neg (by simpa using hb)] at h
      have hge := Lib.indexByte_ge l c
      by_cases h1 : Lib.indexByte l c = -1
      · intro j hj
        cases j with
        | zero => simpa using hb
        | succ j => simpa using ih (by omega) j (by simpa using hj)
      · rw [if_neg (by simpa using h1)] at h; omega
theorem idx_no_mem {s : List UInt8} {c : UInt8} (h : Lib.indexByte s c < 0) : c ∉ s := by
  intro hm
  obtain ⟨j, hj, he⟩ := List.getElem_of_mem hm
  have := idx_no h j hj
  rw [List.getD_eq_getElem?_getD, List.getElem?_eq_getElem hj] at this
  exact this he
theorem idx_take_mem {s : List UInt8} {c : UInt8} {k : Nat} (h : Lib.indexByte s c = (k : Int)) : c ∉ s.take k := by
  intro hm
  obtain ⟨j, hj, he⟩ := List.getElem_of_mem hm
  have hk := idx_at h
  simp at hj
  have := hk.2.2 j (by omega)
  rw [List.getD_eq_getElem?_getD, List.getElem?_eq_getElem (by omega)] at this
  rw [List.getElem_take] at he
  exact this he
theorem idx_split {s : List UInt8} {c : UInt8} {k : Nat} (h : Lib.indexByte s c = (k : Int)) : s = s.take k ++ c :: s.drop (k + 1) := by
  have hk := idx_at h
  rw [← hk.2.1]
  rw [List.getD_eq_getElem?_getD, List.getElem?_eq_getElem hk.1, Option.getD_some, ← List.drop_eq_getElem_cons hk.1, List.take_append_drop]

/-- cells laid into a row -/
def layB (arr : Array Value) (o : Nat) (l : List Value) : Array Value := (l.zipIdx 0).foldl (fun cs (p : Value × Nat) => cs.setIfInBounds (o + p.2) p.1) arr
theorem layB_ok (l : List Value) (o : Nat) (arr : Array Value) (h : o + l.length ≤ arr.size) : (layB arr o l).size = arr.size ∧ ∀ k, (layB arr o l).getD k undef = if o ≤ k ∧ k < o + l.length then l.getD (k - o) undef else arr.getD k undef := by
  have := lay_cells l o 0 arr (by omega)
  exact this
def cellsB (s : List UInt8) : List Value := s.map fun b => Value.int IntKind.u8 (b.toNat : Int)
theorem cellsB_len (s : List UInt8) : (cellsB s).length = s.length := by simp [cellsB]
theorem cellsB_at {s : List UInt8} {j : Nat} {x : UInt8} (h : s[j]? = some x) : (cellsB s)[j]? = some (Value.int IntKind.u8 (x.toNat : Int)) := by
  unfold cellsB; rw [List.getElem?_map, h]; rfl
/-- how a row of bytes goes on -/
structure FrB (w w' : World) (v v' : Value) : Prop where
  os : w'.os = w.os
  tape : w'.tape = w.tape
  output : w'.output = w.output
  size : w.heap.size ≤ w'.heap.size
  same : ∀ c, c < w.heap.size → blkOf v ≠ some c → w'.heap[c]? = w.heap[c]?
  blk : ∀ c, blkOf v' = some c → blkOf v = some c ∨ w.heap.size ≤ c
  evo : Evo v v'
theorem infoByte : ∃ i, Tryz.prog.info? 5 = some i ∧ i.zero = some (.int .u8 0) ∧ i.size = 1 ∧ i.bytes = 1 := by
  have h1 : (Tryz.prog.info? 5).map (fun i => (i.zero, i.size, i.bytes)) = some (some (.int .u8 0), 1, 1) := by kernel_rfl
  cases hq : (Tryz.prog.info? 5) with
  | none => rw [hq] at h1; cases h1
  | some i =>
    rw [hq] at h1
    simp only [Option.map_some, Option.some.injEq, Prod.mk.injEq] at h1
    exact ⟨i, rfl, h1.1, h1.2.1, h1.2.2⟩
theorem appB {w : World} {v x : Value} {tx : TypeId} {q s : List UInt8} (hs : Go.Src Tryz.prog 1 tx x s.length (cellsB s) w) (h0 : s ≠ []) (hv : TbOk w 5 q v) (hlen : q.length + s.length ≤ 70368744177664) :
    ∃ v' w', (∀ ty, (Builtin.append_ #[52, tx] ty #[v, x]).run Tryz.prog w = .ok v' w') ∧ TbOk w' 5 (q ++ s) v' ∧ FrB w w' v v' ∧ (∃ a n c, v' = .slice a n c) := by
  have hs0 : 0 < s.length := List.length_pos_iff.2 h0
  obtain ⟨i, hi, hz, h1, h2⟩ := infoByte
  have t67 := Tryz.underlying52
  have grow : ∀ (base : Option Addr) (cap : Nat) (olds : List Value), olds = cellsB q → (Builtin.firstCells 1 q.length (.slice base q.length cap)).run Tryz.prog w.drew = .ok olds.toArray w.drew → cap < q.length + s.length → q.length ≤ cap → (q.length = 0 ∨ True) →
      ∃ v' w', (∀ ty, (Builtin.append_ #[52, tx] ty #[.slice base q.length cap, x]).run Tryz.prog w = .ok v' w') ∧ TbOk w' 5 (q ++ s) v' ∧ FrB w w' (.slice base q.length cap) v' ∧ (∃ a n c, v' = .slice a n c) := by
    intro base cap olds ho hold hc hqc _
    have hG := grownCap_ge w (q.length + s.length) cap 5
    refine ⟨_, _, fun ty => run_append_grow_src w 52 tx ty 5 i _ t67 hi hz base q.length cap olds (by rw [h1]; exact hold) x s.length (cellsB s) (by rw [h1]; exact hs) hc (by omega) (by rw [h2]; exact growslice_fits hc (by omega)), ?_, ⟨rfl, rfl, rfl, by simp, fun c hcl _ => RowKit.Below.heap_alloc w.drew _ _ hcl, fun c hcb => .inr ?_, .inr ⟨_, _, _, _, _, _, rfl, rfl, by omega⟩⟩, _, _, _, rfl⟩
    · refine .inr ⟨w.heap.size, _, _, by rw [List.length_append], by rw [List.length_append]; exact hG, by omega, World.alloc_heap_new w.drew _, ?_, fun j y hj => ?_⟩
      · rw [Array.size_append, size_zeroCells, List.size_toArray, List.length_append, ho, cellsB_len, cellsB_len]
        show q.length + s.length + _ * 1 = _
        omega
      · have hlt : j < (q ++ s).length := (List.getElem?_eq_some_iff.1 hj).1
        rw [List.length_append] at hlt
        rw [Array.getElem?_append, if_pos (by rw [List.size_toArray, List.length_append, ho, cellsB_len, cellsB_len]; exact hlt), List.getElem?_toArray, ho]
        have : cellsB q ++ cellsB s = cellsB (q ++ s) := by unfold cellsB; rw [List.map_append]
        rw [this]
        exact cellsB_at hj
    · simp only [blkOf] at hcb; split at hcb <;> simp_all
  rcases hv with ⟨rfl, rfl⟩ | ⟨g, cap, arr, rfl, hqc, hc0, hg, hsz, hcl⟩
  · exact grow none 0 [] rfl (run_firstCells_none w.drew 1 0 0 0) (by simpa using hs0) (Nat.le_refl _) (.inr trivial)
  · have hcells : ∀ j u, (cellsB q)[j]? = some u → w.cell? ((⟨g, 0, none⟩ : Addr).add j) = some u := fun j u hj => by
      unfold cellsB at hj
      rw [List.getElem?_map] at hj
      obtain ⟨y, hy, rfl⟩ := Option.map_eq_some_iff.1 hj
      rw [addr_add, Nat.zero_add, cell_of_heap hg]
      exact hcl j y hy
    by_cases hroom : q.length + s.length ≤ cap
    · have hA := layB_ok (cellsB s) q.length arr (by rw [cellsB_len]; omega)
      have hst := store_run (P := Tryz.prog) g q.length 5 0 0 (cellsB s) 0 arr w hg (.inl rfl) (by rw [cellsB_len]; omega) hs.one
      refine ⟨.slice (some ⟨g, 0, none⟩) (q.length + s.length) cap, w.setRow g (layB arr q.length (cellsB s)), fun ty => ?_, .inr ⟨g, cap, _, by rw [List.length_append], by rw [List.length_append]; exact hroom, hc0, setRow_heap _ _ _ _ _ _ hg, hA.1.trans hsz, fun j y hj => ?_⟩, ⟨rfl, rfl, rfl, by simp, fun c hcl hcb => setRow_other _ _ _ _ (fun e => hcb (by simp [blkOf, e]; omega)), fun c hcb => .inl (by simp only [blkOf] at hcb ⊢; exact hcb), .inr ⟨_, _, _, _, _, _, rfl, rfl, by omega⟩⟩, _, _, _, rfl⟩
      · have hx := hs.cells
        rcases hs.kind with ⟨e', hk⟩ | hk <;> simp [Builtin.append_, run_underlying t67, run_underlying hk, sizeOf, typeInfo, hi, h1, hs.len, hroom, hx, addr_add, hst, layB]
      · have hlt : j < (q ++ s).length := (List.getElem?_eq_some_iff.1 hj).1
        rw [List.length_append] at hlt
        have hjs : j < (layB arr q.length (cellsB s)).size := by rw [hA.1]; omega
        have := hA.2 j
        rw [Array.getD_eq_getD_getElem?, Array.getElem?_eq_getElem hjs, Option.getD_some] at this
        rw [Array.getElem?_eq_getElem hjs, this]
        by_cases hjq : j < q.length
        · rw [if_neg (by omega)]
          rw [List.getElem?_append, if_pos hjq] at hj
          rw [Array.getD_eq_getD_getElem?, hcl j y hj]; rfl
        · rw [if_pos ⟨by omega, by rw [cellsB_len]; omega⟩]
          rw [List.getElem?_append, if_neg hjq] at hj
          rw [List.getD_eq_getElem?_getD, cellsB_at hj]; rfl
    · exact grow (some ⟨g, 0, none⟩) cap (cellsB q) rfl (run_firstCells_some w.drew 1 q.length ⟨g, 0, none⟩ q.length cap (cellsB q) (by rw [cellsB_len, Nat.mul_one]) hcells) (by omega) hqc (.inr trivial)
def selfB (b : Nat) : Value := .pointer (some ⟨b, 0, none⟩)
theorem sizeBld : (Tryz.prog.info? 54).map (·.size) = some 2 := by kernel_rfl
theorem liesBld : liesAt Tryz.prog Tryz.prog.depth 54 (2 / Tryz.prog.cellsOf 54) 0 54 1 = true := by kernel_rfl
open Go.RowKit Go.Shelf in
set_option maxRecDepth 100000 in
theorem copyC (b : Nat) (p v : Value) (lo hi : Nat) (w : World) (hb : w.heap[b]? = some (.cells #[p, v] 54 (lo, hi))) (hfr : lo = hi ∨ 2 ≤ lo) (hp : p = .pointer none ∨ p = selfB b) :
    Calls Tryz.prog 47 #[selfB b] w fun e w1 => e = .returned (.tuple #[]) ∧ w1.heap[b]? = some (.cells #[selfB b, v] 54 (lo, hi)) ∧ (∀ c, c ≠ b → w1.heap[c]? = w.heap[c]?) ∧ w1.os = w.os ∧ w1.tape = w.tape ∧ w1.output = w.output ∧ w1.heap.size = w.heap.size := by
  have c0 : w.cell? ⟨b, 0, none⟩ = some p := by rw [cell_of_heap hb]; rfl
  obtain ⟨bi, hbi, hbs⟩ := Option.map_eq_some_iff.1 sizeBld
  have t66 := Tryz.underlying51
  have tU := Tryz.underlying102
  have t69 := Tryz.underlying54
  have mixed : Tryz.prog.follows .mixedOrders = true := fol
  have hsh : w.shape? b = some (54, 2) := by unfold World.shape?; rw [hb]; rfl
  have hfz : w.frozen? ⟨b, 0, none⟩ = false := by simp only [World.frozen?, hb, Bool.and_eq_false_iff, decide_eq_false_iff_not]; omega
  unfold selfB at *
  rcases hp with rfl | rfl
  · go_enter Tryz.func47, Tryz.ntmps47
    go_wp2
    rw [Lib.run_to_unsafe w ⟨b, 0, none⟩ t66 tU hbi (by rw [hbs]; decide) hsh (Nat.zero_lt_succ 1)]
    simp only [Result.andThen]
    rw [Oper.upon_value]
    go_wp2
    rw [run_callFunc_extern Tryz.func79 (by kernel_rfl) (by kernel_rfl) (by kernel_rfl) (e := Extern.AbiNoEscape.same) (by kernel_rfl)]
    rw [Lib.run_noEscape]
    simp only [Result.andThen]
    rw [Oper.upon_value]
    go_wp2
    rw [Lib.run_from_unsafe w ⟨b, 0, none⟩ tU t66 hbi hsh liesBld]
    simp only [Result.andThen]
    rw [Oper.upon_value]
    go_wp2
    go_end0
    refine ⟨rfl, ?_, fun c hc => ?_, rfl, rfl, rfl, ?_⟩
    · unfold World.setCell; simp [Array.getElem?_modify, hb]
    · unfold World.setCell; simp [Array.getElem?_modify, Ne.symm hc]
    · unfold World.setCell; simp
  · go_enter Tryz.func47, Tryz.ntmps47
    go_wp2
    rw [Lib.run_neq_ptr_same w _ t66 hbi]
    go_wp2
    go_end0
    exact ⟨rfl, hb, fun _ _ => rfl, rfl, rfl, rfl, rfl⟩
/-- a builder goes on: to the bytes q -/
def BldS (w w' : World) (b : Nat) (lo hi : Nat) (v : Value) (q : List UInt8) : Prop := ∃ v', w'.heap[b]? = some (.cells #[selfB b, v'] 54 (lo, hi)) ∧ TbOk w' 5 q v' ∧ blkOf v' ≠ some b ∧ w'.os = w.os ∧ w'.tape = w.tape ∧ w'.output = w.output ∧ w.heap.size ≤ w'.heap.size ∧
  (∀ c, c < w.heap.size → c ≠ b → blkOf v ≠ some c → w'.heap[c]? = w.heap[c]?) ∧ (∀ c, blkOf v' = some c → blkOf v = some c ∨ w.heap.size ≤ c) ∧ Evo v v'
theorem TbOk.same {w w' : World} {t : TypeId} {q : List UInt8} {v : Value} (h : TbOk w t q v) (hw : ∀ c, blkOf v = some c → w'.heap[c]? = w.heap[c]?) : TbOk w' t q v := by
  rcases h with h | ⟨g, cap, arr, h1, h2, h3, h4, h5⟩
  · exact .inl h
  · exact .inr ⟨g, cap, arr, h1, h2, h3, by rw [hw g (by simp [h1, blkOf]; omega)]; exact h4, h5⟩
theorem TbOk.slice {w : World} {t : TypeId} {q : List UInt8} {v : Value} (h : TbOk w t q v) : ∃ a n c, v = .slice a n c := by
  rcases h with ⟨_, h⟩ | ⟨g, cap, arr, h, _⟩ <;> exact ⟨_, _, _, h⟩
open Go.RowKit Go.Shelf in
set_option maxRecDepth 100000 in
theorem writeS_w (b : Nat) (p v : Value) (q s : List UInt8) (lo hi : Nat) (w : World) (hb : w.heap[b]? = some (.cells #[p, v] 54 (lo, hi))) (hfr : lo = hi ∨ 2 ≤ lo) (hp : p = .pointer none ∨ p = selfB b) (hv : TbOk w 5 q v) (hne : blkOf v ≠ some b) (h0 : s ≠ []) (hlen : q.length + s.length ≤ 70368744177664) :
    Calls Tryz.prog 23 #[selfB b, .string ⟨s.toArray⟩] w fun e w' => e = .returned (.tuple #[.int .i64 s.length, .nilIface]) ∧ BldS w w' b lo hi v (q ++ s) := by
  have hlt : b < w.heap.size := (Array.getElem?_eq_some_iff.1 hb).1
  have e72 : ∀ args w, (callFunc 47 args).run Tryz.prog w = .ok (.enter 47 args) w := enters_of Tryz.func47 (by kernel_rfl) rfl
  have t67 := Tryz.underlying52
  have t9 := Tryz.underlying9
  have t69 := Tryz.underlying54
  have mixed : Tryz.prog.follows .mixedOrders = true := fol
  unfold selfB
  go_enter Tryz.func23, Tryz.ntmps23
  go_wp2_with (go_at_fn 47; refine (copyC b p v lo hi _ hb hfr hp).mono ?_)
  rintro e w1 ⟨rfl, h1, h2, h3, h4, h5, h6⟩
  have hv1 : TbOk w1 5 q v := hv.same fun c hc => h2 c fun e => hne (e ▸ hc)
  obtain ⟨v', w2, hr, k1, k2, a', n', c', rfl⟩ := appB (x := .string ⟨s.toArray⟩) (Go.Src.ofString w1 t9 ⟨s.toArray⟩) h0 hv1 hlen
  have hb2 : w2.heap[b]? = some (.cells #[selfB b, v] 54 (lo, hi)) := by rw [k2.same b (by omega) hne]; exact h1
  have c1 : w1.cell? ⟨b, 1, none⟩ = some v := by rw [cell_of_heap h1]; rfl
  have d1 : w2.cell? ⟨b, 1, none⟩ = some v := by rw [cell_of_heap hb2]; rfl
  have f1 : w2.frozen? ⟨b, 1, none⟩ = false := by simp only [World.frozen?, hb2, Bool.and_eq_false_iff, decide_eq_false_iff_not]; omega
  go_wp2_with (at_builtin; refine Lib.wpList_append_run _ rfl _ _ _ _ rfl _ _ rfl rfl _ _ (hr _) ?_)
  go_ret2
  have hlt2 : w1.heap.size ≤ w2.heap.size := k2.size
  have hbk : ∀ c, blkOf (.slice a' n' c') = some c → c ≠ b := fun c hc e => by
    rcases k2.blk c hc with h | h
    · exact hne (e ▸ h)
    · omega
  have so : ∀ c, c ≠ b → (w2.setCell ⟨b, 1, none⟩ (.slice a' n' c')).heap[c]? = w2.heap[c]? := fun c hc => by
    unfold World.setCell; simp [Array.getElem?_modify, Ne.symm hc]
  refine ⟨rfl, .slice a' n' c', ?_, k1.same fun c hc => so c (hbk c hc), fun h => hbk b h rfl, k2.os.trans h3, k2.tape.trans h4, k2.output.trans h5, ?_, fun c hc hcb hcv => ?_, fun c hc => ?_, k2.evo⟩
  · unfold World.setCell; simp [Array.getElem?_modify, hb2]
  · unfold World.setCell; simp; omega
  · rw [so c hcb, k2.same c (by omega) hcv]; exact h2 c hcb
  · rcases k2.blk c hc with h | h
    · exact .inl h
    · exact .inr (by omega)
/-- what is left of a builder whose string was taken -/
structure FrS (w w' : World) (b : Nat) (v : Value) : Prop where
  os : w'.os = w.os
  tape : w'.tape = w.tape
  output : w'.output = w.output
  size : w.heap.size ≤ w'.heap.size
  same : ∀ c, c < w.heap.size → c ≠ b → blkOf v ≠ some c → w'.heap[c]? = w.heap[c]?
open Go.RowKit Go.Shelf in
set_option maxRecDepth 100000 in
theorem string_w (b : Nat) (p v : Value) (q : List UInt8) (lo hi : Nat) (w : World) (hb : w.heap[b]? = some (.cells #[p, v] 54 (lo, hi))) (hv : TbOk w 5 q v) (hlen : q.length ≤ 70368744177664) :
    Calls Tryz.prog 28 #[selfB b] w fun e w' => e = .returned (.string ⟨q.toArray⟩) ∧ FrS w w' b v := by
  have t67 := Tryz.underlying52
  have t9 := Tryz.underlying9
  have t3 := Tryz.underlying3
  have t108 := Tryz.underlying84
  have t69 := Tryz.underlying54
  have cB : Tryz.prog.cellsOf 5 = 1 := by kernel_rfl
  have mixed : Tryz.prog.follows .mixedOrders = true := fol
  have c1 : w.drew.cell? ⟨b, 1, none⟩ = some v := by
    have : w.drew.heap[b]? = some (.cells #[p, v] 54 (lo, hi)) := hb
    rw [cell_of_heap this]; rfl
  have hNone : ∀ (W : World) (x : Option Addr), (Builtin.unsafeString_ #[84, 3] 9 #[.pointer x, .int .i64 0]).run Tryz.prog W = .ok (.string .empty) W := fun W x => Lib.run_unsafeString_none W _ _ _ x
  unfold selfB
  rcases hv with ⟨rfl, rfl⟩ | ⟨g, cap, arr, rfl, h2, h3, h4, h5, h6⟩
  · have hSD : (Builtin.unsafeSliceData_ #[52] 84 #[.slice none 0 0]).run Tryz.prog w.drew = .ok (.pointer none) w.drew := rfl
    go_enter Tryz.func28, Tryz.ntmps28
    go_wp2
    go_region_o
    all_goals (go_wp2; go_ret; exact ⟨rfl, ⟨rfl, rfl, rfl, Nat.le_refl _, fun _ _ _ _ => rfl⟩⟩)
  · have hSD : (Builtin.unsafeSliceData_ #[52] 84 #[.slice (some ⟨g, 0, none⟩) q.length cap]).run Tryz.prog w.drew = .ok (.pointer (some ⟨g, 0, none⟩)) w.drew := Lib.run_unsafeSliceData_row _ _ _ _ _ _ (by omega)
    by_cases h0 : q = []
    · subst h0
      simp only [List.length_nil] at hSD c1
      go_enter Tryz.func28, Tryz.ntmps28
      go_wp2
      go_region_o
      all_goals (go_wp2; go_ret; exact ⟨rfl, ⟨rfl, rfl, rfl, Nat.le_refl _, fun _ _ _ _ => rfl⟩⟩)
    · have hUS : (Builtin.unsafeString_ #[84, 3] 9 #[.pointer (some ⟨g, 0, none⟩), .int .i64 q.length]).run Tryz.prog w.drew = .ok (.string ⟨q.toArray⟩) (w.drew.freeze ⟨g, 0, none⟩ q.length) :=
        Lib.run_unsafeString_row w.drew 84 3 9 5 t108 cB g arr.size (by have h4' : w.drew.heap[g]? = some (.cells arr 5 (0, 0)) := h4; unfold World.shape?; rw [h4']) q h0 (by omega) (by omega) (fun j x hj => by
          have h4' : w.drew.heap[g]? = some (.cells arr 5 (0, 0)) := h4
          rw [addr_add, Nat.zero_add, cell_of_heap h4']; exact h6 j x hj)
      have hF : FrS w (w.drew.freeze ⟨g, 0, none⟩ q.length) b (.slice (some ⟨g, 0, none⟩) q.length cap) := by
        have hq : ¬ q.length = 0 := fun e => h0 (List.length_eq_zero_iff.1 e)
        have e : w.drew.freeze ⟨g, 0, none⟩ q.length = { w.drew with heap := (w.drew.freeze ⟨g, 0, none⟩ q.length).heap } := by unfold World.freeze; rw [if_neg hq]
        refine ⟨by rw [e]; rfl, by rw [e]; rfl, by rw [e]; rfl, ?_, fun c hc hcb hcv => ?_⟩
        · unfold World.freeze
          rw [if_neg hq]
          simp
        · have hcg : c ≠ g := fun x => hcv (by simp [blkOf, x]; omega)
          unfold World.freeze
          rw [if_neg hq]
          simp [Array.getElem?_modify, Ne.symm hcg]
          rfl
      go_enter Tryz.func28, Tryz.ntmps28
      go_wp2
      go_region_o
      all_goals (go_wp2; go_ret; exact ⟨rfl, hF⟩)
theorem TbOk.vec {γ : Gh} {imm : Nat → Prop} {w : World} {t : TypeId} {q : List UInt8} {J : Nat} (h : TbOk w t q (γ J)) : RepC γ imm w (.vec J q.length) (γ J) := by
  rcases h with ⟨rfl, h⟩ | ⟨g, cap, arr, h, _⟩
  · exact ⟨.vec J _ _ none 0 0 h (Nat.le_refl _) (fun _ => rfl) (by rw [h]; rfl), by rw [h]; rfl⟩
  · exact ⟨.vec J _ _ _ q.length cap h (Nat.le_refl _) (fun _ => rfl) (by rw [h]; rfl), by rw [h]; rfl⟩
theorem bld_in {S : Sv} (hs : Sim pg S) {I J n : Nat} {p : V} {q : List UInt8} (hIJ : I ≠ J) (hh : S.h = hOf [(I, .tc 54 [p, .vec J n]), (J, .tb 5 q)]) (hp : p = .con (.pointer none) ∨ p = .ptr I 0) (hn : n = q.length) :
    ∃ b pv lo hi, S.γ I = selfB b ∧ S.w.heap[b]? = some (.cells #[pv, S.γ J] 54 (lo, hi)) ∧ (lo = hi ∨ 2 ≤ lo) ∧ (pv = .pointer none ∨ pv = selfB b) ∧ TbOk S.w 5 q (S.γ J) ∧ blkOf (S.γ J) ≠ some b := by
  have eI : S.h I = some (.tc 54 [p, .vec J n]) := by rw [hh]; simp [hOf]
  have eJ : S.h J = some (.tb 5 q) := by
    rw [hh]
    show upd _ I _ J = _
    rw [upd_ne _ _ (Ne.symm hIJ)]; simp [hOf]
  obtain ⟨b, arr, lo, hi, h1, h2, h3, h4, h5⟩ := hs.blk I _ eI
  have hT : TbOk S.w 5 q (S.γ J) := hs.blk J _ eJ
  have h3 : arr.size = 2 := h3
  have c0 := (h5 0 (by simp)).1
  have c1 := (h5 1 (by simp)).1
  simp only [List.getD_cons_zero, List.getD_cons_succ] at c0 c1
  obtain ⟨a, m, c, g1, g2, g3⟩ := inv_vec (S := S) c1
  have hm : n = m := by
    rcases hT with ⟨hq, h⟩ | ⟨g, cap, ar, h, _⟩
    · rw [h] at g1; cases g1; rw [hn, hq]; rfl
    · rw [h] at g1; cases g1; exact hn
  have e1 := g3 hm
  have ea : arr = #[arr.getD 0 undef, S.γ J] := by
    rw [← e1]
    apply Array.ext
    · simp [h3]
    · intro k hk1 hk2
      match k, hk1 with
      | 0, _ => simp [Array.getD, h3]
      | 1, _ => simp [Array.getD, h3]
      | k + 2, hk => omega
  refine ⟨b, arr.getD 0 undef, lo, hi, h1, by rw [← ea]; exact h2, by omega, ?_, hT, fun h => hIJ (hs.inj I J b (by rw [eI]; rfl) (by rw [eJ]; rfl) (by rw [h1]; rfl) h)⟩
  rcases hp with rfl | rfl
  · exact .inl (inv_con (S := S) c0)
  · obtain ⟨b', e, e'⟩ := inv_ptr (S := S) c0
    rw [h1] at e; cases e
    exact .inr e'
theorem bld_out {S : Sv} (hs : Sim pg S) {I J n : Nat} {p : V} {q q' : List UInt8} (hIJ : I ≠ J) (hh : S.h = hOf [(I, .tc 54 [p, .vec J n]), (J, .tb 5 q)]) {b lo hi : Nat} (hI : S.γ I = selfB b) (hfr : lo = hi ∨ 2 ≤ lo) (hne : blkOf (S.γ J) ≠ some b) {w' : World} (h : BldS S.w w' b lo hi (S.γ J) q') :
    ∃ γ', Sim pg ⟨γ', S.imm, hOf [(I, .tc 54 [.ptr I 0, .vec J q'.length]), (J, .tb 5 q')], w'⟩ ∧ Ext (fun _ => False) S ⟨γ', S.imm, hOf [(I, .tc 54 [.ptr I 0, .vec J q'.length]), (J, .tb 5 q')], w'⟩ ∧ ∀ id, hOf [(I, .tc 54 [p, .vec J n]), (J, .tb 5 q)] id = none → γ' id = S.γ id := by
  obtain ⟨v', k1, k2, k3, k4, k5, k6, k7, k8, k9, k10⟩ := h
  have eI : S.h I = some (.tc 54 [p, .vec J n]) := by rw [hh]; simp [hOf]
  have eJ : S.h J = some (.tb 5 q) := by
    rw [hh]
    show upd _ I _ J = _
    rw [upd_ne _ _ (Ne.symm hIJ)]; simp [hOf]
  have oI : S.own b := ⟨I, by rw [eI]; rfl, by rw [hI]; rfl⟩
  have oJ : ∀ c, blkOf (S.γ J) = some c → S.own c := fun c hc => ⟨J, by rw [eJ]; rfl, hc⟩
  have gI : upd S.γ J v' I = selfB b := by rw [upd_ne _ _ hIJ]; exact hI
  have gJ : upd S.γ J v' J = v' := upd_same _ _ _
  have only : ∀ id B, hOf [(I, .tc 54 [.ptr I 0, .vec J q'.length]), (J, .tb 5 q')] id = some B → (id = I ∧ B = .tc 54 [.ptr I 0, .vec J q'.length]) ∨ (id = J ∧ B = .tb 5 q') := fun id B hB => by
    simp only [hOf] at hB
    by_cases e1 : id = I
    · subst e1; rw [upd_same] at hB; cases hB; exact .inl ⟨rfl, rfl⟩
    · rw [upd_ne _ _ e1] at hB
      by_cases e2 : id = J
      · subst e2; rw [upd_same] at hB; cases hB; exact .inr ⟨rfl, rfl⟩
      · rw [upd_ne _ _ e2] at hB; cases hB
  have onlyS : ∀ id, (hOf [(I, .tc 54 [.ptr I 0, .vec J q'.length]), (J, .tb 5 q')] id).isSome = true → id = I ∨ id = J := fun id hid => by
    obtain ⟨B, hB⟩ := Option.isSome_iff_exists.1 hid
    exact (only id B hB).elim (fun x => .inl x.1) fun x => .inr x.1
  have himm : ∀ c, S.imm c → w'.heap[c]? = S.w.heap[c]? := fun c hc => k8 c (hs.immLt c hc) (fun e => hs.disj b oI (e ▸ hc)) fun e => hs.disj c (oJ c e) hc
  have T' : TbOk w' 5 q' (upd S.γ J v' J) := by rw [gJ]; exact k2
  have own' : ∀ c, Sv.own ⟨upd S.γ J v', S.imm, hOf [(I, .tc 54 [.ptr I 0, .vec J q'.length]), (J, .tb 5 q')], w'⟩ c → S.own c ∨ S.w.heap.size ≤ c := by
    rintro c ⟨id, hid, hc⟩
    rcases onlyS id hid with rfl | rfl
    · have hc : blkOf (upd S.γ J v' id) = some c := hc
      rw [gI] at hc
      cases hc
      exact .inl oI
    · have hc : blkOf (upd S.γ id v' id) = some c := hc
      rw [gJ] at hc
      rcases k9 c hc with h | h
      · exact .inl (oJ c h)
      · exact .inr h
  refine ⟨upd S.γ J v', ⟨fun id B hB => ?_, fun x y c hx hy hcx hcy => ?_, fun c hc => Nat.lt_of_lt_of_le (hs.immLt c hc) k7, fun c hc hi => ?_, hs.tab.of (fun _ h => h) himm⟩, ⟨k4, k5, k6, k7, fun c hc ho => k8 c hc (fun e => ho (e ▸ oI)) fun e => ho (oJ c e), fun _ h => h, fun _ h => .inl h, own', fun id _ => ?_⟩, fun id hid => ?_⟩
  · rcases only id B hB with ⟨rfl, rfl⟩ | ⟨rfl, rfl⟩
    · refine ⟨b, #[selfB b, v'], lo, hi, gI, k1, rfl, hfr, fun k hk => ?_⟩
      match k, hk with
      | 0, _ => exact ⟨.ptr id 0 b gI, rfl⟩
      | 1, _ =>
        have := TbOk.vec (γ := upd S.γ J v') (imm := S.imm) T'
        rw [gJ] at this
        exact this
    · exact T'
  · have bI : ∀ c, blkOf (upd S.γ J v' I) = some c → c = b := fun c hc => by rw [gI] at hc; cases hc; rfl
    have bJ : ∀ c, blkOf (upd S.γ J v' J) = some c → c ≠ b := fun c hc e => by rw [gJ] at hc; exact k3 (e ▸ hc)
    rcases onlyS x hx with rfl | rfl <;> rcases onlyS y hy with rfl | rfl
    · rfl
    · exact absurd (bI c hcx) (bJ c hcy)
    · exact absurd (bI c hcy) (bJ c hcx)
    · rfl
  · rcases own' c hc with h | h
    · exact hs.disj c h hi
    · have := hs.immLt c hi; omega
  · show Evo (S.γ id) (upd S.γ J v' id)
    by_cases e : id = J
    · subst e; rw [upd_same]; exact k10
    · rw [upd_ne _ _ e]; exact .refl _
  · by_cases e : id = J
    · subst e
      rw [← hh, eJ] at hid; cases hid
    · exact upd_ne _ _ e
def zB : V := .con (.pointer none)
def ckWSK : List V → List Blk → Option (Prop × V × List Blk)
  | [.ptr i 0, .str s], [.tc T [p, .vec j n], .tb e q] => some (T = 54 ∧ e = 5 ∧ j = i + 4000 ∧ n = q.length ∧ (p = zB ∨ p = .ptr i 0) ∧ s ≠ [] ∧ q.length + s.length ≤ 70368744177664, .tup [.int .i64 s.length, .con .nilIface], [.tc 54 [.ptr i 0, .vec (i + 4000) (q ++ s).length], .tb 5 (q ++ s)])
  | _, _ => none
def bldIds : List V → List Nat
  | .ptr i _ :: _ => [i, i + 4000]
  | _ => []
def ckWS : Cf := ⟨bldIds, ckWSK⟩
theorem pB {i : Nat} {p : V} (h : p = zB ∨ p = .ptr i 0) : V.shift p = .con (.pointer none) ∨ V.shift p = .ptr (i + 9000) 0 := h.imp (fun e => by rw [e]; rfl) fun e => by rw [e]; rfl
theorem conWS : FCon pg 23 ckWS := by
  intro args bs q r bs' h hq
  replace h : ckWSK args bs = some (q, r, bs') := h
  unfold ckWSK at h
  split at h
  · cases h
    rename_i i s T p j n e q
    refine ⟨rfl, Nat.le_refl _, ?_⟩
    obtain ⟨rfl, rfl, rfl, hn, hp, h0, hlen⟩ := hq
    intro S vals hs hh hl hr
    have hh : S.h = hOf [(i + 9000, .tc 54 [V.shift p, .vec (i + 4000 + 9000) n]), (i + 4000 + 9000, .tb 5 q)] := hh
    match vals, hl with
    | [v0, v1], _ =>
      have r0 : S.rep (.ptr (i + 9000) 0) v0 := hr 0 (by simp)
      have r1 : S.rep (.str s) v1 := hr 1 (by simp)
      obtain rfl := inv_str (S := S) r1
      have hIJ : i + 9000 ≠ i + 4000 + 9000 := by omega
      obtain ⟨b, pv, lo, hi, a1, a2, a3, a4, a5, a6⟩ := bld_in hs hIJ hh (pB hp) hn
      obtain ⟨b', e1, rfl⟩ := inv_ptr (S := S) r0
      rw [a1] at e1; cases e1
      refine .inl ⟨by kernel_rfl, (writeS_w b pv (S.γ (i + 4000 + 9000)) q s lo hi S.w a2 a3 a4 a5 a6 h0 hlen).mono ?_⟩
      rintro e w' ⟨rfl, hB⟩
      obtain ⟨γ', m1, m2, m3⟩ := bld_out hs hIJ hh a1 a3 a6 hB
      exact ⟨_, γ', S.imm, rfl, m1, m2, m3, .tup _ [_, _] rfl fun k hk => by
        match k, hk with
        | 0, _ => exact .pure (.int _ _)
        | 1, _ => exact .pure (.con _)⟩
  · cases h
@[push_cast] theorem ws_ids (i o : Nat) (l : List V) : ckWS.ids (.ptr i o :: l) = [i, i + 4000] := rfl
@[push_cast] theorem ws_k (i j n : Nat) (T e : TypeId) (p : V) (s q : List UInt8) : ckWS.k [.ptr i 0, .str s] [.tc T [p, .vec j n], .tb e q] = some (T = 54 ∧ e = 5 ∧ j = i + 4000 ∧ n = q.length ∧ (p = zB ∨ p = .ptr i 0) ∧ s ≠ [] ∧ q.length + s.length ≤ 70368744177664, .tup [.int .i64 s.length, .con .nilIface], [.tc 54 [.ptr i 0, .vec (i + 4000) (q ++ s).length], .tb 5 (q ++ s)]) := rfl
/- String: the builder is gone -/
def ckBSK : List V → List Blk → Option (Prop × V × List Blk)
  | [.ptr i 0], [.tc T [p, .vec j n], .tb e q] => some (T = 54 ∧ e = 5 ∧ j = i + 4000 ∧ n = q.length ∧ (p = zB ∨ p = .ptr i 0) ∧ q.length ≤ 70368744177664, .str q, [])
  | _, _ => none
def ckBS : Cf := ⟨bldIds, ckBSK⟩
theorem bld_gone {S : Sv} (hs : Sim pg S) {I J b : Nat} {w' : World} (hI : (S.h I).isSome = true) (hJ : (S.h J).isSome = true) (h1 : S.γ I = selfB b) (h : FrS S.w w' b (S.γ J)) : Sim pg ⟨S.γ, S.imm, hOf [], w'⟩ ∧ Ext (fun _ => False) S ⟨S.γ, S.imm, hOf [], w'⟩ := by
  have oI : S.own b := ⟨I, hI, by rw [h1]; rfl⟩
  have oJ : ∀ c, blkOf (S.γ J) = some c → S.own c := fun c hc => ⟨J, hJ, hc⟩
  have himm : ∀ c, S.imm c → w'.heap[c]? = S.w.heap[c]? := fun c hc => h.same c (hs.immLt c hc) (fun e => hs.disj b oI (e ▸ hc)) fun e => hs.disj c (oJ c e) hc
  have noOwn : ∀ c, ¬ Sv.own ⟨S.γ, S.imm, hOf [], w'⟩ c := fun c ⟨i, hi, _⟩ => by cases hi
  exact ⟨⟨fun id B hB => (by cases hB), fun x y c hx => (by cases hx), fun c hc => Nat.lt_of_lt_of_le (hs.immLt c hc) h.size, fun c hc => absurd hc (noOwn c), hs.tab.of (fun _ h => h) himm⟩, ⟨h.os, h.tape, h.output, h.size, fun c hc ho => h.same c hc (fun e => ho (e ▸ oI)) fun e => ho (oJ c e), fun _ h => h, fun _ h => .inl h, fun c hc => absurd hc (noOwn c), fun _ _ => .refl _⟩⟩
theorem conBS : FCon pg 28 ckBS := by
  intro args bs q r bs' h hq
  replace h : ckBSK args bs = some (q, r, bs') := h
  unfold ckBSK at h
  split at h
  · cases h
    rename_i i T p j n e q
    refine ⟨rfl, Nat.zero_le _, ?_⟩
    obtain ⟨rfl, rfl, rfl, hn, hp, hlen⟩ := hq
    intro S vals hs hh hl hr
    have hh : S.h = hOf [(i + 9000, .tc 54 [V.shift p, .vec (i + 4000 + 9000) n]), (i + 4000 + 9000, .tb 5 q)] := hh
    match vals, hl with
    | [v0], _ =>
      have r0 : S.rep (.ptr (i + 9000) 0) v0 := hr 0 (by simp)
      have hIJ : i + 9000 ≠ i + 4000 + 9000 := by omega
      obtain ⟨b, pv, lo, hi, a1, a2, a3, a4, a5, a6⟩ := bld_in hs hIJ hh (pB hp) hn
      obtain ⟨b', e1, rfl⟩ := inv_ptr (S := S) r0
      rw [a1] at e1; cases e1
      refine .inl ⟨by kernel_rfl, (string_w b pv (S.γ (i + 4000 + 9000)) q lo hi S.w a2 a5 hlen).mono ?_⟩
      rintro e w' ⟨rfl, hB⟩
      obtain ⟨m1, m2⟩ := bld_gone hs (I := i + 9000) (J := i + 4000 + 9000) (by rw [hh]; simp [hOf]) (by
        rw [hh]
        simp only [hOf]
        rw [upd_ne _ _ (Ne.symm hIJ)]; simp) a1 hB
      exact ⟨_, _, _, rfl, m1, m2, fun _ _ => rfl, .pure (.str _)⟩
  · cases h
@[push_cast] theorem bs_ids (i o : Nat) (l : List V) : ckBS.ids (.ptr i o :: l) = [i, i + 4000] := rfl
@[push_cast] theorem bs_k (i j n : Nat) (T e : TypeId) (p : V) (q : List UInt8) : ckBS.k [.ptr i 0] [.tc T [p, .vec j n], .tb e q] = some (T = 54 ∧ e = 5 ∧ j = i + 4000 ∧ n = q.length ∧ (p = zB ∨ p = .ptr i 0) ∧ q.length ≤ 70368744177664, .str q, []) := rfl

open Go.RowKit Go.Shelf in
set_option maxRecDepth 100000 in
theorem writeB_w (b : Nat) (p v : Value) (q : List UInt8) (x : UInt8) (lo hi : Nat) (w : World) (hb : w.heap[b]? = some (.cells #[p, v] 54 (lo, hi))) (hfr : lo = hi ∨ 2 ≤ lo) (hp : p = .pointer none ∨ p = selfB b) (hv : TbOk w 5 q v) (hne : blkOf v ≠ some b) (hlen : q.length + 1 ≤ 70368744177664) :
    Calls Tryz.prog 66 #[selfB b, .int .u8 (x.toNat : Int)] w fun e w' => e = .returned .nilIface ∧ BldS w w' b lo hi v (q ++ [x]) := by
  have hlt : b < w.heap.size := (Array.getElem?_eq_some_iff.1 hb).1
  have e72 : ∀ args w, (callFunc 47 args).run Tryz.prog w = .ok (.enter 47 args) w := enters_of Tryz.func47 (by kernel_rfl) rfl
  have t67 := Tryz.underlying52
  have t5 := Tryz.underlying5
  have t69 := Tryz.underlying54
  have mixed : Tryz.prog.follows .mixedOrders = true := fol
  unfold selfB
  go_enter Tryz.func66, Tryz.ntmps66
  go_wp2_with (go_at_fn 47; refine (copyC b p v lo hi _ hb hfr hp).mono ?_)
  rintro e w1 ⟨rfl, h1, h2, h3, h4, h5, h6⟩
  have c1 : w1.cell? ⟨b, 1, none⟩ = some v := by rw [cell_of_heap h1]; rfl
  obtain ⟨W, hW⟩ : ∃ W, W = w1.alloc (.cells #[.int .u8 (x.toNat : Int)] 5) := ⟨_, rfl⟩
  have hWo : ∀ c, c < w1.heap.size → W.heap[c]? = w1.heap[c]? := fun c hc => by rw [hW]; exact RowKit.Below.heap_alloc w1 _ _ hc
  have hWn : W.heap[w1.heap.size]? = some (.cells #[.int .u8 (x.toNat : Int)] 5 (0, 0)) := by rw [hW]; exact World.alloc_heap_new w1 _
  have hWs : W.heap.size = w1.heap.size + 1 := by rw [hW]; simp
  have hvl : ∀ c, blkOf v = some c → c < w.heap.size := fun c hc => by
    rcases hv with ⟨_, h⟩ | ⟨g, cap, arr, h, _, _, hg, _⟩
    · rw [h] at hc; simp [blkOf] at hc
    · rw [h] at hc
      simp only [blkOf] at hc
      split at hc
      · cases hc
      · cases hc; exact (Array.getElem?_eq_some_iff.1 hg).1
  have hv1 : TbOk W 5 q v := hv.same fun c hc => (hWo c (by have := hvl c hc; omega)).trans (h2 c fun e => hne (e ▸ hc))
  obtain ⟨v', w2, hr, k1, k2, a', n', c', rfl⟩ := appB (s := [x]) (x := .slice (some ⟨w1.heap.size, 0, none⟩) 1 1) (Go.Src.ofSlice W t67 ⟨w1.heap.size, 0, none⟩ 1 1 (cellsB [x]) rfl (fun j u hj => by
    rw [addr_add, Nat.zero_add, cell_of_heap hWn]
    match j, hj with
    | 0, hj => exact hj) (fun u hu => by
    obtain rfl : u = Value.int IntKind.u8 (x.toNat : Int) := by simpa [cellsB] using hu
    rfl)) (by simp) hv1 (by simpa using hlen)
  have hb1 : W.heap[b]? = some (.cells #[selfB b, v] 54 (lo, hi)) := (hWo b (by omega)).trans h1
  have hb2 : w2.heap[b]? = some (.cells #[selfB b, v] 54 (lo, hi)) := by rw [k2.same b (by omega) hne]; exact hb1
  have f1 : w2.frozen? ⟨b, 1, none⟩ = false := by simp only [World.frozen?, hb2, Bool.and_eq_false_iff, decide_eq_false_iff_not]; omega
  have d1 : w2.cell? ⟨b, 1, none⟩ = some v := by rw [cell_of_heap hb2]; rfl
  have hbk : ∀ c, blkOf (.slice a' n' c') = some c → c ≠ b := fun c hc e => by
    rcases k2.blk c hc with h | h
    · exact hne (e ▸ h)
    · omega
  have so : ∀ c, c ≠ b → (w2.setCell ⟨b, 1, none⟩ (.slice a' n' c')).heap[c]? = w2.heap[c]? := fun c hc => by
    unfold World.setCell; simp [Array.getElem?_modify, Ne.symm hc]
  have hs2 := k2.size
  have wo : W.os = w1.os := by rw [hW]; rfl
  have wt : W.tape = w1.tape := by rw [hW]; rfl
  have wu : W.output = w1.output := by rw [hW]; rfl
  have hfin : BldS w (w2.setCell ⟨b, 1, none⟩ (.slice a' n' c')) b lo hi v (q ++ [x]) := by
    refine ⟨.slice a' n' c', ?_, k1.same fun c hc => so c (hbk c hc), fun h => hbk b h rfl, (k2.os.trans wo).trans h3, (k2.tape.trans wt).trans h4, (k2.output.trans wu).trans h5, ?_, fun c hc hcb hcv => ?_, fun c hc => ?_, k2.evo⟩
    · unfold World.setCell selfB; simp [Array.getElem?_modify, hb2, selfB]
    · unfold World.setCell; simp; omega
    · rw [so c hcb, k2.same c (by omega) hcv, hWo c (by omega)]; exact h2 c hcb
    · rcases k2.blk c hc with h | h
      · exact .inl h
      · exact .inr (by omega)
  have c2 : W.cell? ⟨b, 1, none⟩ = some v := by rw [cell_of_heap hb1]; rfl
  subst hW
  clear hWo hWn hWs hvl hv1 k1 k2 hb1 hb2 hbk so hs2 wo wt wu h1 h2 h3 h4 h5 h6 hv hb hfr hp
  go_wp2_with (at_builtin; refine Lib.wpList_append_run _ rfl _ _ _ _ rfl _ _ rfl rfl _ _ (hr _) ?_)
  go_ret
  exact ⟨rfl, hfin⟩
open Go.RowKit Go.Shelf in
set_option maxRecDepth 100000 in
theorem len_w (b : Nat) (p v : Value) (q : List UInt8) (lo hi : Nat) (w : World) (hb : w.heap[b]? = some (.cells #[p, v] 54 (lo, hi))) (hv : TbOk w 5 q v) :
    Calls Tryz.prog 27 #[selfB b] w fun e w' => e = .returned (.int .i64 q.length) ∧ w' = w := by
  have t69 := Tryz.underlying54
  have t67 := Tryz.underlying52
  obtain ⟨a, c, e⟩ : ∃ a c, v = .slice a q.length c := by
    rcases hv with ⟨rfl, h⟩ | ⟨g, cap, arr, h, _⟩ <;> exact ⟨_, _, h⟩
  subst e
  have c1 : w.cell? ⟨b, 1, none⟩ = some (.slice a q.length c) := by rw [cell_of_heap hb]; rfl
  unfold selfB
  clear hv
  go_enter Tryz.func27, Tryz.ntmps27
  go_wp2
  go_ret
  exact ⟨rfl, rfl⟩
def ckWBK : List V → List Blk → Option (Prop × V × List Blk)
  | [.ptr i 0, .int .u8 x], [.tc T [p, .vec j n], .tb e q] => some (T = 54 ∧ e = 5 ∧ j = i + 4000 ∧ n = q.length ∧ (p = zB ∨ p = .ptr i 0) ∧ 0 ≤ x ∧ x < 256 ∧ q.length + 1 ≤ 70368744177664, .con .nilIface, [.tc 54 [.ptr i 0, .vec (i + 4000) (q ++ [UInt8.ofNat x.toNat]).length], .tb 5 (q ++ [UInt8.ofNat x.toNat])])
  | _, _ => none
def ckWB : Cf := ⟨bldIds, ckWBK⟩
theorem conWB : FCon pg 66 ckWB := by
  intro args bs q r bs' h hq
  replace h : ckWBK args bs = some (q, r, bs') := h
  unfold ckWBK at h
  split at h
  · cases h
    rename_i i x T p j n e q
    refine ⟨rfl, Nat.le_refl _, ?_⟩
    obtain ⟨rfl, rfl, rfl, hn, hp, hx0, hx1, hlen⟩ := hq
    obtain ⟨x, rfl, hx⟩ : ∃ b : UInt8, x = b.toNat ∧ b.toNat < 256 := ⟨UInt8.ofNat x.toNat, by simp [UInt8.toNat_ofNat']; omega, UInt8.toNat_lt _⟩
    rw [Int.toNat_natCast, UInt8.ofNat_toNat]
    intro S vals hs hh hl hr
    have hh : S.h = hOf [(i + 9000, .tc 54 [V.shift p, .vec (i + 4000 + 9000) n]), (i + 4000 + 9000, .tb 5 q)] := hh
    match vals, hl with
    | [v0, v1], _ =>
      have r0 : S.rep (.ptr (i + 9000) 0) v0 := hr 0 (by simp)
      have r1 : S.rep (.int .u8 (x.toNat : Int)) v1 := hr 1 (by simp)
      obtain rfl := inv_int (S := S) r1
      have hIJ : i + 9000 ≠ i + 4000 + 9000 := by omega
      obtain ⟨b, pv, lo, hi, a1, a2, a3, a4, a5, a6⟩ := bld_in hs hIJ hh (pB hp) hn
      obtain ⟨b', e1, rfl⟩ := inv_ptr (S := S) r0
      rw [a1] at e1; cases e1
      refine .inl ⟨by kernel_rfl, (writeB_w b pv (S.γ (i + 4000 + 9000)) q x lo hi S.w a2 a3 a4 a5 a6 hlen).mono ?_⟩
      rintro e w' ⟨rfl, hB⟩
      obtain ⟨γ', m1, m2, m3⟩ := bld_out hs hIJ hh a1 a3 a6 hB
      exact ⟨_, γ', S.imm, rfl, m1, m2, m3, .pure (.con _)⟩
  · cases h
@[push_cast] theorem wb_ids (i o : Nat) (l : List V) : ckWB.ids (.ptr i o :: l) = [i, i + 4000] := rfl
@[push_cast] theorem wb_k (i j n : Nat) (T e : TypeId) (p : V) (x : Int) (q : List UInt8) : ckWB.k [.ptr i 0, .int .u8 x] [.tc T [p, .vec j n], .tb e q] = some (T = 54 ∧ e = 5 ∧ j = i + 4000 ∧ n = q.length ∧ (p = zB ∨ p = .ptr i 0) ∧ 0 ≤ x ∧ x < 256 ∧ q.length + 1 ≤ 70368744177664, .con .nilIface, [.tc 54 [.ptr i 0, .vec (i + 4000) (q ++ [UInt8.ofNat x.toNat]).length], .tb 5 (q ++ [UInt8.ofNat x.toNat])]) := rfl
def ckBLK : List V → List Blk → Option (Prop × V × List Blk)
  | [.ptr i 0], [.tc T [p, .vec j n], .tb e q] => some (T = 54 ∧ e = 5 ∧ j = i + 4000 ∧ n = q.length ∧ (p = zB ∨ p = .ptr i 0), .int .i64 q.length, [.tc T [p, .vec j n], .tb e q])
  | _, _ => none
def ckBL : Cf := ⟨bldIds, ckBLK⟩
theorem conBL : FCon pg 27 ckBL := by
  intro args bs q r bs' h hq
  replace h : ckBLK args bs = some (q, r, bs') := h
  unfold ckBLK at h
  split at h
  · cases h
    rename_i i T p j n e q
    refine ⟨rfl, Nat.le_refl _, ?_⟩
    obtain ⟨rfl, rfl, rfl, hn, hp⟩ := hq
    intro S vals hs hh hl hr
    have hh' : S.h = hOf [(i + 9000, .tc 54 [V.shift p, .vec (i + 4000 + 9000) n]), (i + 4000 + 9000, .tb 5 q)] := hh
    match vals, hl with
    | [v0], _ =>
      have r0 : S.rep (.ptr (i + 9000) 0) v0 := hr 0 (by simp)
      have hIJ : i + 9000 ≠ i + 4000 + 9000 := by omega
      obtain ⟨b, pv, lo, hi, a1, a2, a3, a4, a5, a6⟩ := bld_in hs hIJ hh' (pB hp) hn
      obtain ⟨b', e1, rfl⟩ := inv_ptr (S := S) r0
      rw [a1] at e1; cases e1
      refine .inl ⟨by kernel_rfl, (len_w b pv (S.γ (i + 4000 + 9000)) q lo hi S.w a2 a5).mono ?_⟩
      rintro e w' ⟨rfl, rfl⟩
      exact ⟨_, S.γ, S.imm, rfl, by rw [← hh]; exact hs, by rw [← hh]; exact Ext.refl _ _, fun _ _ => rfl, .pure (.int _ _)⟩
  · cases h
@[push_cast] theorem bl_ids (i o : Nat) (l : List V) : ckBL.ids (.ptr i o :: l) = [i, i + 4000] := rfl
@[push_cast] theorem bl_k (i j n : Nat) (T e : TypeId) (p : V) (q : List UInt8) : ckBL.k [.ptr i 0] [.tc T [p, .vec j n], .tb e q] = some (T = 54 ∧ e = 5 ∧ j = i + 4000 ∧ n = q.length ∧ (p = zB ∨ p = .ptr i 0), .int .i64 q.length, [.tc T [p, .vec j n], .tb e q]) := rfl
@[push_cast] theorem infoBld : ((pg.prog.info? 54).bind (fun i => i.zero) = some (.agg #[.pointer none, .slice none 0 0])) = True := eq_true (by kernel_rfl)

def monthLongI (y m : Int) : Int :=
  if m = 4 ∨ m = 6 ∨ m = 9 ∨ m = 11 then 30 else if m = 2 then (if y % 4 = 0 ∧ (y % 100 ≠ 0 ∨ y % 400 = 0) then 29 else 28) else 31
def ckMonthLong : Ck
  | [.int .i64 y, .int .i64 m] => some (0 ≤ y ∧ y ≤ 1000000, .int .i64 (monthLongI y m))
  | _ => none
attribute [push_cast] ckMonthLong
def monthsSum (y : Int) : Nat → Int
  | 0 => 0
  | k + 1 => monthsSum y k + monthLongI y ((k : Int) + 1)
def daysI (y m : Int) : Int := 365 * (y - 1) + (y - 1) / 4 - (y - 1) / 100 + (y - 1) / 400 - 719162 + monthsSum y (m - 1).toNat
theorem monthLongI_b (y m : Int) : 28 ≤ monthLongI y m ∧ monthLongI y m ≤ 31 := by
  unfold monthLongI
  (repeat' (first | apply And.intro | intro _)) <;> (try first | assumption | contradiction | omega | exact rfl | exact trivial)
theorem monthsSum_b (y : Int) (k : Nat) : 0 ≤ monthsSum y k ∧ monthsSum y k ≤ 31 * k := by
  induction k with
  | zero => simp [monthsSum]
  | succ k ih => have := monthLongI_b y ((k : Int) + 1); simp only [monthsSum]; omega
theorem daysI_1 (y : Int) : daysI y 1 = 365 * (y - 1) + (y - 1) / 4 - (y - 1) / 100 + (y - 1) / 400 - 719162 := by
  unfold daysI
  rw [show ((1 : Int) - 1).toNat = 0 from rfl]
  simp only [monthsSum]; omega
attribute [irreducible] daysI
def ckDays : Ck
  | [.int .i64 y, .int .i64 m] => some (1 ≤ y ∧ y ≤ 1000000 ∧ m ≤ 13, .int .i64 (daysI y m))
  | _ => none
attribute [push_cast] ckDays
end Go.Abs
