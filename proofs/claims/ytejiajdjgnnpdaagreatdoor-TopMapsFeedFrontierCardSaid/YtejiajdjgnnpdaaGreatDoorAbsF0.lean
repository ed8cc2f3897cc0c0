/- what functions of this program compute: contracts, each a function's own -/
import Derived.Test.YtejiajdjgnnpdaaGreatDoorAbsK3
import Derived.Test.YtejiajdjgnnpdaaGreatDoorAbsFacts
import Derived.Test.YtejiajdjgnnpdaaGreatDoorAbsShelf
import Derived.Lib.SplitLaws
import Derived.Lib.SlTrimSet
import Derived.Lib.Atoi
import Derived.Lib.Itoa
import Derived.Lib.ItoaNum
import Derived.Lib.AtoiErrMem
import Derived.Lib.Join
import Derived.Lib.Repeat
import Derived.Lib.IndexMore
import Derived.Lib.AsciiSet
import Derived.Lib.IndexAny
import Derived.Sort.Walk0
import Derived.Lib.ItoaLen
import Derived.Shelf.Spec.SlicesInsert
import Derived.Shelf.Spec.SlicesInsertGrow
import Derived.Lib.Overlaps
import Derived.Lib.AppendZerosOnto
import Derived.Laws.NewBlocks
import Derived.WalkKit
import Derived.Lib.Walk
namespace Go.Abs
open Go Go.Proofs
set_option maxHeartbeats 4000000
set_option maxRecDepth 100000
set_option linter.unusedVariables false
set_option linter.unusedSimpArgs false
/- own slices of bytes -/
theorem appF_byF (l m : List UInt8) : appF l.length (byF l) (byF m) = byF (l ++ m) := by
  funext i
  simp only [appF, byF]
  by_cases h : i < l.length
  · simp [h, List.getElem?_append_left]
  · simp [h, List.getElem?_append_right (by omega : l.length ≤ i)]
/-- bytes, as they are written into a literal -/
theorem litF_byF {vs : List V} {bs : List UInt8} (h : vs = bs.map fun b => V.int .u8 b.toNat) {i : Nat} (hi : i < bs.length) : litF vs i = byF bs i := by
  subst h
  simp [litF, byF, hi]
theorem appF_lit {l bs : List UInt8} {vs : List V} (h : vs = bs.map fun b => V.int .u8 b.toNat) {i : Nat} (hi : i < l.length + bs.length) : appF l.length (byF l) (litF vs) i = byF (l ++ bs) i := by
  rw [← appF_byF]
  simp only [appF]
  by_cases hl : i < l.length
  · simp [hl]
  · simp only [hl, decide_false, cond_false]
    exact litF_byF h (by omega)
theorem bytesOf_byF (l : List UInt8) : bytesOf l.length (byF l) = l := by
  apply List.ext_getElem?
  intro i
  simp only [bytesOf, byF, V.toByte, Int.toNat_natCast]
  by_cases h : i < l.length
  · simp [h]
  · simp [h]
theorem bytesOf_of {n : Nat} {l : List UInt8} {f : Nat → V} (hn : n = l.length) (h : ∀ i, i < n → f i = byF l i) : bytesOf n f = l := by
  subst hn
  rw [← bytesOf_byF l]
  unfold bytesOf
  simp only [List.length_map, List.length_range]
  apply List.map_congr_left
  intro i hi
  rw [h i (by simpa using hi)]
theorem u8_eq (a b : UInt8) : a = b ↔ (a.toNat : Int) = b.toNat := by rw [← UInt8.toNat_inj]; omega
theorem u8_lt (a : UInt8) : a.toNat < 256 := UInt8.toNat_lt a
theorem drop_at {s : List UInt8} {i : Nat} (h : i < s.length) : s.drop i = s.getD i 0 :: s.drop (i + 1) := by
  rw [List.drop_eq_getElem_cons h, List.getD_eq_getElem?_getD, List.getElem?_eq_getElem h]; rfl
theorem take_one {s : List UInt8} {i : Nat} (h : i < s.length) : (s.drop i).take 1 = [s.getD i 0] := by rw [drop_at h]; rfl
theorem take_next {s : List UInt8} {k : Nat} (h : k < s.length) : s.take (k + 1) = s.take k ++ [s.getD k 0] := by
  rw [List.take_add_one, List.getD_eq_getElem?_getD, List.getElem?_eq_getElem h]; rfl

/-- f's first n are the bytes s -/
def ByI (n : Nat) (f : Nat → V) (s : List UInt8) : Prop := n = s.length ∧ ∀ i, i < n → f i = byF s i
theorem ByI.by (s : List UInt8) : ByI s.length (byF s) s := ⟨rfl, fun _ _ => rfl⟩
theorem ByI.app {n m k : Nat} {f g : Nat → V} {a b : List UInt8} (h1 : ByI n f a) (h2 : ByI m g b) (hk : k = n + m) : ByI k (appF n f g) (a ++ b) := by
  obtain ⟨e1, h1⟩ := h1
  obtain ⟨e2, h2⟩ := h2
  refine ⟨by simp; omega, fun i hi => ?_⟩
  unfold appF
  by_cases h : i < n
  · rw [show decide (i < n) = true from by simp [h], cond_true, h1 i h]
    unfold byF
    rw [List.getD_eq_getElem?_getD, List.getD_eq_getElem?_getD, List.getElem?_append_left (by omega)]
  · rw [show decide (i < n) = false from by simp [h], cond_false, h2 (i - n) (by omega)]
    unfold byF
    rw [List.getD_eq_getElem?_getD, List.getD_eq_getElem?_getD, List.getElem?_append_right (by omega), e1]
theorem ByI.sh {n l k : Nat} {f : Nat → V} {s : List UInt8} (h : ByI n f s) (hk : l + k ≤ n) : ByI k (shF f l) ((s.drop l).take k) := by
  obtain ⟨e, h⟩ := h
  refine ⟨by simp; omega, fun i hi => ?_⟩
  unfold shF
  rw [h (i + l) (by omega)]
  unfold byF
  rw [List.getD_eq_getElem?_getD, List.getD_eq_getElem?_getD, List.getElem?_take_of_lt hi, List.getElem?_drop, Nat.add_comm]
theorem ByI.eq {n : Nat} {f : Nat → V} {s t : List UInt8} (h : ByI n f s) (e : s = t) : ByI n f t := e ▸ h
theorem ByI.len {n m : Nat} {f : Nat → V} {s : List UInt8} (h : ByI n f s) (e : n = m) : ByI m f s := e ▸ h
theorem bytesOf_by (s : List UInt8) : bytesOf s.length (byF s) = s := by
  unfold bytesOf byF
  apply List.ext_getElem
  · simp
  · intro i h1 h2
    simp only [List.getElem_map, List.getElem_range, V.toByte, Int.toNat_natCast]
    rw [List.getD_eq_getElem?_getD, List.getElem?_eq_getElem h2]
    simp
theorem bytesOf_len (n : Nat) (f : Nat → V) : (bytesOf n f).length = n := by simp [bytesOf]
/-- bytes, as they come -/
def isBy (n : Nat) (f : Nat → V) : Prop := ByI n f (bytesOf n f)
theorem isBy.vle {n : Nat} {f : Nat → V} (h : isBy n f) : VLe (.sl n f) (.sl (bytesOf n f).length (byF (bytesOf n f))) := VLe.sl h.1 h.2
theorem isBy_by (s : List UInt8) : isBy s.length (byF s) := by unfold isBy; rw [bytesOf_by]; exact ByI.by s
theorem ByI.bytes {n : Nat} {f : Nat → V} {s : List UInt8} (h : ByI n f s) : bytesOf n f = s := by
  obtain ⟨rfl, h⟩ := h
  have : bytesOf s.length f = bytesOf s.length (byF s) := by
    unfold bytesOf
    exact List.map_congr_left fun i hi => by rw [h i (by simpa using hi)]
  rw [this, bytesOf_by]
theorem ByI.is {n : Nat} {f : Nat → V} {s : List UInt8} (h : ByI n f s) : isBy n f := by unfold isBy; rw [h.bytes]; exact h
theorem ByI.pure {n : Nat} {f : Nat → V} {s : List UInt8} (h : ByI n f s) : ∀ i, i < n → (f i).isPure = true := fun i hi => by rw [h.2 i hi]; rfl
theorem ByI.flat {n : Nat} {f : Nat → V} {s : List UInt8} (h : ByI n f s) : ∀ i, i < n → (f i).flat.length = 1 := fun i hi => by rw [h.2 i hi]; rfl
theorem ByI.bytesP {n : Nat} {f : Nat → V} {s : List UInt8} (h : ByI n f s) : ∀ i, i < n → ∃ m, f i = .int .u8 m := fun i hi => ⟨_, h.2 i hi⟩
attribute [push_cast] UInt8.ofNat_toNat Int.toNat_natCast

def isDig (c : Int) : Bool := decide (48 ≤ c) && decide (c ≤ 57)
def isLet (c : Int) : Bool := decide (97 ≤ c) && decide (c ≤ 122) || decide (65 ≤ c) && decide (c ≤ 90)
def isHex (c : Int) : Bool := isDig c || decide (97 ≤ c) && decide (c ≤ 102) || decide (65 ≤ c) && decide (c ≤ 70)
def hexV (c : Int) : Int := if isDig c = true then c - 48 else if 97 ≤ c then c - 87 else c - 55
def hexRow : List UInt8 := [48, 49, 50, 51, 52, 53, 54, 55, 56, 57, 65, 66, 67, 68, 69, 70]
def digI (c : Int) : Int := if isHex c = true then hexV c else -1
def isFreeI (c : Int) : Bool := isLet c || isDig c || c == 45 || c == 46 || c == 95 || c == 126

def ckIsLet : Ck
  | [.int .u8 c] => some (True, .bool (isLet c))
  | _ => none
theorem conIsLet : Con pg 92 ckIsLet := by
  intro args q r h hq
  unfold ckIsLet at h
  split at h
  · cases h
    refine w92 (fun _ => false) [] rfl (ctN_ok _) rfl rfl ?_
    push_cast (config := { maxSteps := 10000000 })
    exact ⟨by grind, rfl⟩
  · cases h
attribute [push_cast] ckIsLet

def ckIsDig : Ck
  | [.int .u8 c] => some (True, .bool (isDig c))
  | _ => none
theorem conIsDig : Con pg 47 ckIsDig := by
  intro args q r h hq
  unfold ckIsDig at h
  split at h
  · cases h
    refine w47 (fun _ => false) [] rfl (ctN_ok _) rfl rfl ?_
    push_cast (config := { maxSteps := 10000000 })
    rfl
  · cases h
attribute [push_cast] ckIsDig

theorem conIdxStr : Con pg 133 ckIndexByte := con_IndexByteString (fn := Tryz.f133) (by kernel_rfl) (by kernel_rfl) (by kernel_rfl) (by kernel_rfl) (by kernel_rfl)
theorem conIndexByte1 : Con pg 97 ckIndexByte := by
  intro args q r h hq
  obtain ⟨s, c, rfl, _, rfl⟩ := ckIndexByte_inv h
  refine w97 (fun _ => false) [] rfl (ctA_ok conIdxStr (ctN_ok _)) rfl rfl ?_
  push_cast (config := { maxSteps := 10000000 })
theorem conIndexByte : Con pg 49 ckIndexByte := by
  intro args q r h hq
  obtain ⟨s, c, rfl, _, rfl⟩ := ckIndexByte_inv h
  refine w49 (fun _ => false) [] rfl (ctA_ok conIndexByte1 (ctN_ok _)) rfl rfl ?_
  push_cast (config := { maxSteps := 10000000 })

def tokB (c : UInt8) : Bool := decide (97 ≤ c.toNat ∧ c.toNat ≤ 122 ∨ 65 ≤ c.toNat ∧ c.toNat ≤ 90 ∨ 48 ≤ c.toNat ∧ c.toNat ≤ 57 ∨ 0 ≤ Lib.indexByte [33, 35, 36, 37, 38, 39, 42, 43, 45, 46, 94, 95, 124, 126] c)
def tokL (s : List UInt8) : Bool := decide (1 ≤ s.length) && decide (s.length ≤ 40) && s.all tokB
def ckIsToken : Ck
  | [.str s] => some (True, .bool (tokL s))
  | _ => none
theorem all_at {p : UInt8 → Bool} {s : List UInt8} (h : ∀ j, j < s.length → p (s.getD j 0) = true) : s.all p = true := by
  rw [List.all_eq_true]
  intro x hx
  obtain ⟨j, hj, rfl⟩ := List.getElem_of_mem hx
  have := h j hj
  rwa [List.getD_eq_getElem?_getD, List.getElem?_eq_getElem hj] at this
theorem all_no {p : UInt8 → Bool} {s : List UInt8} {j : Nat} (hj : j < s.length) (h : p (s.getD j 0) = false) : s.all p = false := by
  rw [List.all_eq_false]
  refine ⟨s[j], List.getElem_mem hj, ?_⟩
  rw [List.getD_eq_getElem?_getD, List.getElem?_eq_getElem hj] at h
  simpa using h
attribute [push_cast] ckIsToken
def lowB (c : UInt8) : UInt8 := if 65 ≤ c.toNat ∧ c.toNat ≤ 90 then UInt8.ofNat (c.toNat + 32) else c
def lowL (s : List UInt8) : List UInt8 := s.map lowB
def ckSmall : Ck
  | [.str s] => some (s.length ≤ 140737488355328, .str (lowL s))
  | _ => none
theorem low_at (s : List UInt8) (i j : Nat) : (lowL (s.take i) ++ s.drop i).getD j 0 = if j < i then (if j < s.length then lowB (s.getD j 0) else 0) else s.getD j 0 := by
  unfold lowL
  simp only [List.getD_eq_getElem?_getD]
  by_cases h : j < s.length
  · by_cases h1 : j < i
    · rw [List.getElem?_append_left (by simp; omega), if_pos h1, if_pos h]
      simp [h1, h]
    · rw [List.getElem?_append_right (by simp; omega), if_neg h1, List.getElem?_drop]
      simp only [List.length_map, List.length_take]
      rw [show i + (j - min i s.length) = j by omega]
  · rw [List.getElem?_eq_none (by simp; omega), List.getElem?_eq_none (by omega), if_neg h]
    split <;> rfl
theorem low_len (s : List UInt8) (i : Nat) : (lowL (s.take i) ++ s.drop i).length = s.length := by simp [lowL]; omega
theorem low_by (s : List UInt8) (i : Nat) {j : Nat} (hj : j < s.length) : byF (lowL (s.take i) ++ s.drop i) j = .int .u8 (if j < i then lowB (s.getD j 0) else s.getD j 0).toNat := by
  unfold byF
  rw [low_at, if_pos hj]
theorem byF_app (s t : List UInt8) (j : Nat) : byF (s ++ t) j = .int .u8 ((s ++ t).getD j 0).toNat := rfl
attribute [push_cast] ckSmall
theorem conSmallA : Con pg 43 ckSmall := by
  have hct := ctN_ok pg
  intro args q r h hq
  unfold ckSmall at h
  split at h
  · cases h
    rename_i s
    refine w43 (fun _ => false) [] rfl hct rfl rfl ?_
    push_cast (config := { maxSteps := 10000000 })
    refine LoopW.adj ⟨hct, fol⟩ (by kernel_rfl) [] (fun i : Nat => [(3, .vec 7 s.length), (8, .vec 7 s.length), (9, .int .i64 s.length), (10, .int .i64 i)]) (fun i => [(7, .vec 1 s.length (byF (lowL (s.take i) ++ s.drop i)))]) (fun i => i ≤ s.length) (fun i => s.length - i) 0 ?_ fun i hi => ?_
    · push_cast (config := { maxSteps := 10000000 })
      exact ⟨Nat.zero_le _, fun _ _ => rfl⟩
    · push_cast (config := { maxSteps := 10000000 })
      have e := low_at s i i
      rw [if_neg (Nat.lt_irrefl i)] at e
      rw [e]
      refine ⟨fun h => ⟨h, h, fun h1 => ⟨h, h, by omega, i + 1, by omega, by omega, by omega, fun j hj => ?_⟩, fun h1 => ⟨by omega, i + 1, by omega, by omega, by omega, fun j hj => ?_⟩⟩, fun h => ?_⟩
      · rw [low_by s (i + 1) hj]
        show setF (byF (lowL (List.take i s) ++ List.drop i s)) i (V.int IntKind.u8 (((((s.getD i 0).toNat : Int) + 97) % 256 - 65) % 256)) j = _
        unfold setF
        by_cases hji : j = i
        · subst hji
          rw [show decide (j = j) = true by simp, cond_true, if_pos (by omega)]
          have : (lowB (s.getD j 0)).toNat = (s.getD j 0).toNat + 32 := by
            unfold lowB
            rw [if_pos (by omega)]
            rw [UInt8.toNat_ofNat']
            omega
          rw [this]
          congr 1
          omega
        · rw [show decide (j = i) = false by simp [hji], cond_false, low_by s i hj]
          by_cases h3 : j < i
          · rw [if_pos h3, if_pos (by omega)]
          · rw [if_neg h3, if_neg (by omega)]
      · rw [low_by s (i + 1) hj, low_by s i hj]
        by_cases hji : j = i
        · subst hji
          rw [if_neg (Nat.lt_irrefl j), if_pos (by omega)]
          have : lowB (s.getD j 0) = s.getD j 0 := by
            unfold lowB
            rw [if_neg (by omega)]
          rw [this]
        · by_cases h3 : j < i
          · rw [if_pos h3, if_pos (by omega)]
          · rw [if_neg h3, if_neg (by omega)]
      · have : i = s.length := by omega
        subst this
        rw [List.take_length, List.drop_eq_nil_of_le (Nat.le_refl _), List.append_nil]
        have := bytesOf_by (lowL s)
        rw [show (lowL s).length = s.length by simp [lowL]] at this
        exact this
  · cases h

def ckIsHex : Ck
  | [.int .u8 c] => some (True, .bool (isHex c))
  | _ => none
theorem conIsHex : Con pg 113 ckIsHex := by
  intro args q r h hq
  unfold ckIsHex at h
  split at h
  · cases h
    refine w113 (fun _ => false) [] rfl (ctA_ok conIsDig (ctN_ok _)) rfl rfl ?_
    push_cast (config := { maxSteps := 10000000 })
    exact ⟨by grind, by grind, rfl⟩
  · cases h
attribute [push_cast] ckIsHex

/-- a cutset of ASCII bytes -/
def asciiC (c : List UInt8) : Bool := c.all fun b => decide (b.toNat < 128)
theorem asciiC_at {c : List UInt8} (h : asciiC c = true) : ∀ (j : Nat) b, c[j]? = some b → b.toNat < 128 := by
  intro j b hb
  simp only [asciiC, List.all_eq_true, decide_eq_true_eq] at h
  exact h b (List.mem_of_getElem? hb)
def ckTrim : Ck
  | [.str s, .str c] => some (s.length ≤ 4611686018427387904 ∧ c.length < 4294967281 ∧ asciiC c = true, .str (Lib.trimS s c))
  | _ => none
theorem conTrim : Con pg 96 ckTrim := by
  intro args q r h hq
  unfold ckTrim at h
  split at h
  · cases h
    rename_i s c
    refine pcall_shelf (by kernel_rfl) rfl fun w hw => (Tryz.strings_TrimL ⟨s.toArray⟩ ⟨c.toArray⟩ w ?_ ?_ ?_).mono fun e w' h => ?_
    · show s.toArray.size ≤ _
      have := hq.1
      simp; omega
    · show c.toArray.size < _
      have := hq.2.1
      simp; omega
    · exact asciiC_at hq.2.2
    · exact shelf_str h.1 (grow_below h.2)
  · cases h
attribute [push_cast] ckTrim
@[push_cast] theorem asciiC_nil : asciiC [] = true := rfl
@[push_cast] theorem asciiC_cons (b : UInt8) (c : List UInt8) : asciiC (b :: c) = (decide (b.toNat < 128) && asciiC c) := rfl

def hasPre (s t : List UInt8) : Bool := decide (t.length ≤ s.length) && (s.take t.length == t)
theorem hasPre_iff {s t : List UInt8} : hasPre s t = true ↔ ∃ r, s = t ++ r := by
  simp only [hasPre, Bool.and_eq_true, decide_eq_true_eq, beq_iff_eq]
  constructor
  · rintro ⟨h1, h2⟩
    exact ⟨s.drop t.length, by conv => lhs; rw [← List.take_append_drop t.length s, h2]⟩
  · rintro ⟨r, rfl⟩
    exact ⟨by simp, by simp⟩
def ckHasPre : Ck
  | [.str s, .str t] => some ((s.length : Int) ≤ 4611686018427387904, .bool (hasPre s t))
  | _ => none
theorem conHasPre1 : Con pg 95 ckHasPre := by
  have hct := ctN_ok pg
  intro args q r h hq
  unfold ckHasPre at h
  split at h
  · cases h
    rename_i s t
    refine w95 (fun _ => false) [] rfl hct rfl rfl ?_
    push_cast (config := { maxSteps := 10000000 })
    rfl
  · cases h
attribute [push_cast] ckHasPre
theorem conHasPre : Con pg 46 ckHasPre := by
  have hct := (ctA_ok conHasPre1 (ctN_ok _))
  intro args q r h hq
  unfold ckHasPre at h
  split at h
  · cases h
    rename_i s t
    refine w46 (fun _ => false) [] rfl hct rfl rfl ?_
    push_cast (config := { maxSteps := 10000000 })
    exact hq
  · cases h
def ckCutPre : Ck
  | [.str s, .str t] => some ((s.length : Int) ≤ 4611686018427387904, .tup [.str (bif hasPre s t then s.drop t.length else s), .bool (hasPre s t)])
  | _ => none
theorem conCutPre1 : Con pg 104 ckCutPre := by
  have hct := (ctA_ok conHasPre1 (ctN_ok _))
  intro args q r h hq
  unfold ckCutPre at h
  split at h
  · cases h
    rename_i s t
    refine w104 (fun _ => false) [] rfl hct rfl rfl ?_
    push_cast (config := { maxSteps := 10000000 })
    refine ⟨hq, fun h => by rw [h]; exact ⟨rfl, rfl⟩, fun h => ?_⟩
    have hl : t.length ≤ s.length := by
      obtain ⟨r, rfl⟩ := hasPre_iff.1 h
      simp
    rw [h]
    exact ⟨hl, rfl, rfl⟩
  · cases h
attribute [push_cast] ckCutPre
theorem conCutPre : Con pg 56 ckCutPre := by
  have hct := (ctA_ok conCutPre1 (ctN_ok _))
  intro args q r h hq
  unfold ckCutPre at h
  split at h
  · cases h
    rename_i s t
    refine w56 (fun _ => false) [] rfl hct rfl rfl ?_
    push_cast (config := { maxSteps := 10000000 })
    exact hq
  · cases h

theorem isBy_lit {l : List V} (h : ∀ i, i < l.length → ∃ n, l.getD i .any = .int .u8 n ∧ 0 ≤ n ∧ n < 256) : isBy l.length (litF l) := by
  refine ⟨(bytesOf_len _ _).symm, fun i hi => ?_⟩
  obtain ⟨n, e, h0, h1⟩ := h i hi
  have : litF l i = .int .u8 n := e
  rw [this]
  unfold byF bytesOf
  rw [List.getD_eq_getElem?_getD, List.getElem?_map, List.getElem?_range hi]
  simp only [Option.map_some, Option.getD_some, this, V.toByte]
  rw [UInt8.toNat_ofNat']
  congr 1
  omega
theorem shBytes {m : Nat} {v : V} (h : Sh.has (.list (.int .u8)) m v) : ∃ (n : Nat) (f : Nat → V), v = .sl n f ∧ isBy n f ∧ n ≤ reachBytes := by
  obtain ⟨l, ms, rfl, h1, h2, h3, h4⟩ := h
  have wf : ∀ n : Int, (Lit.int .u8 n).wf = true → 0 ≤ n ∧ n < 256 := fun n hn => by
    simp only [Lit.wf, Bool.and_eq_true, decide_eq_true_eq] at hn
    have e1 : IntKind.u8.min = 0 := rfl
    have e2 : IntKind.u8.max = 255 := rfl
    omega
  refine ⟨_, _, rfl, isBy_lit fun i hi => ?_, h3⟩
  obtain ⟨n, e, w, _⟩ := h4 i hi
  exact ⟨n, e, wf n w⟩
theorem hasD3 {H : Type} {s1 s2 s3 : Sh} {ds : List (DataW H)} (h : hasD [s1, s2, s3] ds) : ∃ a b c, ds = [a, b, c] ∧ s1.has (bulkD a) (toV a) ∧ s2.has (bulkD b) (toV b) ∧ s3.has (bulkD c) (toV c) := by
  match ds, h with
  | [a, b, c], ⟨h1, h2, h3, _⟩ => exact ⟨a, b, c, rfl, h1, h2, h3⟩
theorem shInt {k : IntKind} {m : Nat} {v : V} (h : Sh.has (.int k) m v) : ∃ n, v = .int k n ∧ (Lit.int k n).wf = true := by
  obtain ⟨n, e, w, _⟩ := h
  exact ⟨n, e, w⟩

def okAt (s : List UInt8) (i : Nat) : Bool := !(decide ((s.getD i 0).toNat < 33) || decide (126 < (s.getD i 0).toNat) || (s.getD i 0).toNat == 35 || ((s.getD i 0).toNat == 36 && decide (i + 1 < s.length)))
def patOk (s : List UInt8) : Bool := decide (1 ≤ s.length) && decide (s.length ≤ 300) && ((s.getD 0 0).toNat == 47 || (s.getD 0 0).toNat == 42) && (List.range s.length).all (okAt s)
theorem okAt_iff (s : List UInt8) (i : Nat) : okAt s i = true ↔ ¬ (s.getD i 0).toNat < 33 ∧ ¬ 126 < (s.getD i 0).toNat ∧ ¬ (s.getD i 0).toNat = 35 ∧ ¬ ((s.getD i 0).toNat = 36 ∧ i + 1 < s.length) := by
  simp [okAt]
  omega
theorem patOk_iff (s : List UInt8) : patOk s = true ↔ 1 ≤ s.length ∧ s.length ≤ 300 ∧ ((s.getD 0 0).toNat = 47 ∨ (s.getD 0 0).toNat = 42) ∧ ∀ i, i < s.length → okAt s i = true := by
  simp only [patOk, Bool.and_eq_true, Bool.or_eq_true, decide_eq_true_eq, beq_iff_eq, List.all_eq_true, List.mem_range, and_assoc]
theorem boolF {b : Bool} (h : ¬ b = true) : false = b := by cases b <;> simp_all

def isHexB (c : UInt8) : Bool := isHex (c.toNat : Int)
def hexN (c : UInt8) : Nat := (hexV (c.toNat : Int)).toNat
def encB (v : Nat) : List UInt8 := if isFreeI (v : Int) = true then [UInt8.ofNat v] else [37, hexRow.getD (v / 16) 0, hexRow.getD (v % 16) 0]
/-- the normal form of what is escaped -/
def normL : List UInt8 → List UInt8
  | c :: a :: b :: r => if c = 37 ∧ isHexB a = true ∧ isHexB b = true then encB (16 * hexN a + hexN b) ++ normL r else c :: normL (a :: b :: r)
  | l => l
/-- every mark has its two digits -/
def wfL : List UInt8 → Bool
  | [] => true
  | [a] => !(a == 37)
  | [a, b] => !(a == 37) && !(b == 37)
  | c :: a :: b :: r => if c = 37 then isHexB a && isHexB b && wfL r else wfL (a :: b :: r)
theorem normL_hex {s : List UInt8} {i : Nat} (h : i + 2 < s.length) (h0 : s.getD i 0 = 37) (h1 : isHexB (s.getD (i + 1) 0) = true) (h2 : isHexB (s.getD (i + 2) 0) = true) :
    normL (s.drop i) = encB (16 * hexN (s.getD (i + 1) 0) + hexN (s.getD (i + 2) 0)) ++ normL (s.drop (i + 3)) := by
  rw [drop_at (by omega : i < s.length), drop_at (by omega : i + 1 < s.length), drop_at (by omega : i + 1 + 1 < s.length), normL, if_pos ⟨h0, h1, h2⟩]
theorem normL_no {s : List UInt8} {i : Nat} (h : i < s.length) (hn : ¬ (s.getD i 0 = 37 ∧ i + 2 < s.length ∧ isHexB (s.getD (i + 1) 0) = true ∧ isHexB (s.getD (i + 2) 0) = true)) :
    normL (s.drop i) = s.getD i 0 :: normL (s.drop (i + 1)) := by
  by_cases h2 : i + 2 < s.length
  · rw [drop_at (by omega : i < s.length), drop_at (by omega : i + 1 < s.length), drop_at (by omega : i + 1 + 1 < s.length), normL, if_neg (fun hh => hn ⟨hh.1, h2, hh.2.1, hh.2.2⟩)]
  · rw [drop_at h]
    generalize s.getD i 0 = c
    have hl : (s.drop (i + 1)).length ≤ 1 := by simp; omega
    match hd : s.drop (i + 1), hl with
    | [], _ => simp [normL]
    | [a], _ => simp [normL]
theorem wfL_hex {s : List UInt8} {i : Nat} (h : i < s.length) (h0 : s.getD i 0 = 37) (hw : wfL (s.drop i) = true) : i + 2 < s.length ∧ isHexB (s.getD (i + 1) 0) = true ∧ isHexB (s.getD (i + 2) 0) = true ∧ wfL (s.drop (i + 3)) = true := by
  by_cases h2 : i + 2 < s.length
  · rw [drop_at (by omega : i < s.length), drop_at (by omega : i + 1 < s.length), drop_at (by omega : i + 1 + 1 < s.length), wfL, if_pos h0] at hw
    simp only [Bool.and_eq_true] at hw
    exact ⟨h2, hw.1.1, hw.1.2, hw.2⟩
  · rw [drop_at h, h0] at hw
    have hl : (s.drop (i + 1)).length ≤ 1 := by simp; omega
    match hd : s.drop (i + 1), hl with
    | [], _ => rw [hd] at hw; simp [wfL] at hw
    | [a], _ => rw [hd] at hw; simp [wfL] at hw
theorem wfL_no {s : List UInt8} {i : Nat} (h : i < s.length) (h0 : ¬ s.getD i 0 = 37) (hw : wfL (s.drop i) = true) : wfL (s.drop (i + 1)) = true := by
  rw [drop_at h] at hw
  revert hw h0
  generalize s.getD i 0 = c
  generalize s.drop (i + 1) = t
  intro h0 hw
  match t with
  | [] => rfl
  | [a] => simp [wfL] at hw ⊢; exact hw.2
  | a :: b :: r => simpa [wfL, h0] using hw
theorem normL_len (s : List UInt8) : (normL s).length ≤ s.length := by
  refine normL.induct (motive := fun s => (normL s).length ≤ s.length) ?_ ?_ ?_ s
  · intro c a b r h ih
    rw [normL, if_pos h]
    simp only [List.length_append, List.length_cons]
    have : (encB (16 * hexN a + hexN b)).length ≤ 3 := by unfold encB; split <;> simp
    omega
  · intro c a b r h ih
    rw [normL, if_neg h]
    simp only [List.length_cons] at ih ⊢
    omega
  · intro l h
    match l with
    | [] => simp [normL]
    | [a] => simp [normL]
    | [a, b] => simp [normL]
    | c :: a :: b :: r => exact (h c a b r rfl).elim
theorem hexV_lt {c : Int} (h : isHex c = true) : 0 ≤ hexV c ∧ hexV c < 16 := by
  simp only [isHex, isDig, Bool.or_eq_true, Bool.and_eq_true, decide_eq_true_eq] at h
  simp only [hexV, isDig, Bool.and_eq_true, decide_eq_true_eq]
  split <;> (try split) <;> omega
theorem nib_or : ∀ a b : Fin 16, bitsI .or .u8 (((a.1 : Nat) : Int) * 2 ^ min 4 IntKind.u8.bits % 256) ((b.1 : Nat) : Int) = 16 * a.1 + b.1 := by decide
theorem nib_and : ∀ v : Fin 256, bitsI .and .u8 ((v.1 : Nat) : Int) 15 = ((v.1 % 16 : Nat) : Int) := by decide
theorem nib_shr (v : Nat) : Int.fdiv ((v : Nat) : Int) (2 ^ min 4 IntKind.u8.bits) = ((v / 16 : Nat) : Int) := by
  show Int.fdiv (v : Int) 16 = _
  rw [Int.fdiv_eq_ediv_of_nonneg _ (by omega)]; omega
theorem or_hex {a b : UInt8} (ha : isHexB a = true) (hb : isHexB b = true) : bitsI .or .u8 (hexV (a.toNat : Int) * 2 ^ min 4 IntKind.u8.bits % 256) (hexV (b.toNat : Int)) = ((16 * hexN a + hexN b : Nat) : Int) := by
  have h1 := hexV_lt ha
  have h2 := hexV_lt hb
  have := nib_or ⟨hexN a, by unfold hexN; omega⟩ ⟨hexN b, by unfold hexN; omega⟩
  have e1 : ((hexN a : Nat) : Int) = hexV (a.toNat : Int) := by unfold hexN; omega
  have e2 : ((hexN b : Nat) : Int) = hexV (b.toNat : Int) := by unfold hexN; omega
  simp only [e1, e2] at this
  rw [this, ← e1, ← e2]; omega
theorem hexN_lt {a : UInt8} (ha : isHexB a = true) : hexN a < 16 := by have := hexV_lt ha; unfold hexN; omega
theorem ofNat_toNat {v : Nat} (h : v < 256) : (UInt8.ofNat v).toNat = v := by simp [UInt8.toNat_ofNat']; omega

def ckPat : Ck
  | [.str s] => some (True, .bool (patOk s))
  | _ => none
theorem conPat : Con pg 144 ckPat := by
  have hct := ctN_ok pg
  intro args q r h hq
  unfold ckPat at h
  split at h
  · cases h
    rename_i s
    refine w144 (fun _ => false) [] rfl hct rfl rfl ?_
    push_cast (config := { maxSteps := 10000000 })
    refine ⟨by omega, by omega, by omega, fun h0 => ?_, fun h0 => LoopW.by ⟨hct, fol⟩ (by kernel_rfl) (fun i : Nat => [(0, .str s), (23, .int .i64 s.length), (24, .int .i64 i)]) (fun _ => []) (fun i => i ≤ s.length ∧ ∀ j, j < i → okAt s j = true) (fun i => s.length - i) 0 ⟨⟨by omega, fun j hj => by omega⟩, by push_cast⟩ fun i hi => ?_⟩
    · refine boolF fun hp => ?_
      have := (patOk_iff s).1 hp
      omega
    · push_cast (config := { maxSteps := 10000000 })
      refine ⟨fun h1 => ⟨by omega, by omega, by omega, by omega, by omega, by omega, fun h2 => boolF fun hp => ?_, fun h2 => ⟨by omega, i + 1, ⟨by omega, fun j hj => ?_⟩, by omega, by omega⟩⟩, fun h1 => ((patOk_iff s).2 ⟨by omega, by omega, by omega, fun j hj => hi.2 j (by omega)⟩).symm⟩
      · have := (okAt_iff s i).1 (((patOk_iff s).1 hp).2.2.2 i (by omega))
        omega
      · by_cases e : j = i
        · subst e
          exact (okAt_iff s j).2 (by omega)
        · exact hi.2 j (by omega)
  · cases h
attribute [push_cast] ckPat

def ckWithin : Ck
  | [.int .i64 n, .int .i64 a, .int .i64 b] => some (True, .bool (decide (a ≤ n) && decide (n ≤ b)))
  | _ => none
attribute [push_cast] ckWithin

attribute [push_cast] ckPat
def ckHexV : Ck
  | [.int .u8 c] => some (0 ≤ c ∧ c < 256 ∧ isHex c = true, .int .u8 (hexV c))
  | _ => none
theorem conHexV : Con pg 137 ckHexV := by
  intro args q r h hq
  unfold ckHexV at h
  split at h
  · cases h
    refine w137 (fun _ => false) [] rfl (ctA_ok conIsDig (ctN_ok _)) rfl rfl ?_
    push_cast (config := { maxSteps := 10000000 })
    rename_i c
    obtain ⟨h1, h2, h3⟩ := hq
    simp only [hexV]
    simp only [isHex, isDig, Bool.or_eq_true, Bool.and_eq_true, decide_eq_true_eq] at h3
    simp only [isDig, Bool.and_eq_true, decide_eq_true_eq, Bool.and_eq_false_imp, decide_eq_false_iff_not]
    refine ⟨fun h => ?_, fun h => ⟨fun h' => ?_, fun h' => ?_⟩⟩
    · rw [if_pos h]; omega
    · rw [if_neg (by omega), if_pos h']; omega
    · rw [if_neg (by omega), if_neg h']; omega
  · cases h
attribute [push_cast] ckHexV

def ckNormalRow : Ck
  | [.str s] => some (wfL s = true ∧ s.length ≤ 1073741824, .str (normL s))
  | _ => none
theorem conNormalRow : Con pg 102 ckNormalRow := by
  have hct := (ctA_ok conHexV (ctA_ok conIsLet (ctA_ok conIsDig (ctN_ok _))))
  intro args q r h hq
  unfold ckNormalRow at h
  split at h
  · cases h
    rename_i s
    refine w102 (fun _ => false) [] rfl hct rfl rfl ?_
    push_cast (config := { maxSteps := 10000000 })
    refine LoopW.adj ⟨hct, fol⟩ (by kernel_rfl) [.nv 3 21 1 (byF [])] (fun t : Nat × List UInt8 => [(0, .str s), (3, .vec 21 t.2.length), (4, .int .i64 t.1)]) (fun t => [(21, .vec 1 t.2.length (byF t.2))]) (fun t => t.1 ≤ s.length ∧ t.2 ++ normL (s.drop t.1) = normL s ∧ wfL (s.drop t.1) = true) (fun t => s.length - t.1) (0, []) ?_ fun t ht => ?_
    · push_cast (config := { maxSteps := 10000000 })
      simp [hq.1]
    · obtain ⟨i, l⟩ := t
      push_cast (config := { maxSteps := 10000000 })
      obtain ⟨h1, h2, h3⟩ : i ≤ s.length ∧ l ++ normL (s.drop i) = normL s ∧ wfL (s.drop i) = true := ht
      have hl : l.length ≤ s.length := by
        have k1 := congrArg List.length h2
        have k2 := normL_len s
        simp only [List.length_append] at k1; omega
      refine ⟨fun hi => ⟨hi, fun hc => ⟨hi, by omega, by omega, (i + 1, l ++ [s.getD i 0]), ⟨by simp; omega, ?_, ?_⟩, by simp; omega, by simp, by simp, fun j hj => ?_⟩, fun hc => ?_⟩, fun hn => ?_⟩
      · rw [normL_no hi (fun h => hc (by rw [h.1]; rfl))] at h2
        simpa using h2
      · exact wfL_no hi (fun h => hc (by rw [h]; rfl)) h3
      · exact appF_lit (bs := [s.getD i 0]) rfl hj
      · have hc' : s.getD i 0 = 37 := (u8_eq _ _).2 hc
        obtain ⟨k1, k2, k3, k4⟩ := wfL_hex hi hc' h3
        have hN1 := hexN_lt k2
        have hN2 := hexN_lt k3
        rw [or_hex k2 k3]
        have e := normL_hex k1 hc' k2 k3
        generalize hv : 16 * hexN (s.getD (i + 1) 0) + hexN (s.getD (i + 2) 0) = v at *
        have hv' : v < 256 := by omega
        have a1 := nib_and ⟨v, hv'⟩
        simp only at a1
        rw [a1, nib_shr]
        have hle := u8_lt (s.getD (i + 1) 0)
        have hle2 := u8_lt (s.getD (i + 2) 0)
        refine ⟨by omega, by omega, ⟨by omega, k2⟩, by omega, by omega, ⟨by omega, k3⟩, fun hf => ⟨by omega, by omega, by omega, (i + 3, l ++ [UInt8.ofNat v]), ⟨by simp; omega, ?_, k4⟩, by simp; omega, by simp; omega, by simp, fun j hj => ?_⟩, fun hf => ⟨by omega, by omega, by omega, by omega, by omega, (i + 3, l ++ [37, hexRow.getD (v / 16) 0, hexRow.getD (v % 16) 0]), ⟨by simp; omega, ?_, k4⟩, by simp; omega, by simp; omega, by simp, fun j hj => ?_⟩⟩
        · rw [e, encB, if_pos (by simp only [isFreeI]; grind)] at h2
          simpa using h2
        · refine appF_lit ?_ hj
          simp [ofNat_toNat hv']
        · rw [e, encB, if_neg (by simp only [isFreeI]; grind)] at h2
          simpa using h2
        · refine appF_lit ?_ hj
          have e1 : ((v : Int) / 16).toNat = v / 16 := by omega
          have e2 : ((v : Int) % 16).toNat = v % 16 := by omega
          simp [hexRow, e1, e2]
      · have : i = s.length := by omega
        subst this
        rw [bytesOf_byF]
        simpa [normL] using h2
  · cases h
attribute [push_cast] ckNormalRow

theorem idx_at {s : List UInt8} {c : UInt8} {k : Nat} (h : Lib.indexByte s c = (k : Int)) : k < s.length ∧ s.getD k 0 = c ∧ ∀ j, j < k → s.getD j 0 ≠ c := by
  induction s generalizing k with
  | nil => simp only [Lib.indexByte] at h; omega
  | cons b l ih =>
    unfold Lib.indexByte at h
    by_cases hb : b = c
    · subst hb
      simp only [beq_self_eq_true, if_true] at h
      have : k = 0 := by omega
      subst this
      exact ⟨by simp, by simp, fun j hj => by omega⟩
    · rw [if_neg (by simpa using hb)] at h
      have hge := Lib.indexByte_ge l c
      by_cases h1 : Lib.indexByte l c = -1
      · rw [if_pos (by simpa using h1)] at h; omega
      · rw [if_neg (by simpa using h1)] at h
        obtain ⟨k', hk'⟩ : ∃ k' : Nat, Lib.indexByte l c = (k' : Int) := ⟨(Lib.indexByte l c).toNat, by omega⟩
        obtain ⟨a1, a2, a3⟩ := ih hk'
        have : k = k' + 1 := by omega
        subst this
        refine ⟨by simp; omega, by simpa using a2, fun j hj => ?_⟩
        cases j with
        | zero => simpa using hb
        | succ j => simpa using a3 j (by omega)
theorem idx_no {s : List UInt8} {c : UInt8} (h : Lib.indexByte s c < 0) : ∀ j, j < s.length → s.getD j 0 ≠ c := by
  induction s with
  | nil => intro j hj; simp at hj
  | cons b l ih =>
    unfold Lib.indexByte at h
    by_cases hb : b = c
    · subst hb; simp at h
    · rw [if_neg (by simpa using hb)] at h
      have hge := Lib.indexByte_ge l c
      by_cases h1 : Lib.indexByte l c = -1
      · intro j hj
        cases j with
        | zero => simpa using hb
        | succ j => simpa using ih (by omega) j (by simpa using hj)
      · rw [if_neg (by simpa using h1)] at h; omega
theorem idx_no_mem {s : List UInt8} {c : UInt8} (h : Lib.indexByte s c < 0) : c ∉ s := by
  intro hm
  obtain ⟨j, hj, he⟩ := List.getElem_of_mem hm
  have := idx_no h j hj
  rw [List.getD_eq_getElem?_getD, List.getElem?_eq_getElem hj] at this
  exact this he
theorem idx_take_mem {s : List UInt8} {c : UInt8} {k : Nat} (h : Lib.indexByte s c = (k : Int)) : c ∉ s.take k := by
  intro hm
  obtain ⟨j, hj, he⟩ := List.getElem_of_mem hm
  have hk := idx_at h
  simp at hj
  have := hk.2.2 j (by omega)
  rw [List.getD_eq_getElem?_getD, List.getElem?_eq_getElem (by omega)] at this
  rw [List.getElem_take] at he
  exact this he
theorem idx_split {s : List UInt8} {c : UInt8} {k : Nat} (h : Lib.indexByte s c = (k : Int)) : s = s.take k ++ c :: s.drop (k + 1) := by
  have hk := idx_at h
  rw [← hk.2.1]
  rw [List.getD_eq_getElem?_getD, List.getElem?_eq_getElem hk.1, Option.getD_some, ← List.drop_eq_getElem_cons hk.1, List.take_append_drop]

theorem normL_app {a b : List UInt8} (h : (37 : UInt8) ∉ a) : normL (a ++ b) = a ++ normL b := by
  induction a with
  | nil => rfl
  | cons c r ih =>
    have h1 : c ≠ 37 := fun e => h (by simp [e])
    have h2 := ih fun hm => h (by simp [hm])
    have := normL_no (s := c :: (r ++ b)) (i := 0) (by simp) (fun hh => h1 (by simpa using hh.1))
    simp only [List.drop_zero, List.getD_cons_zero] at this
    rw [List.cons_append, this]
    simp [h2]
def ckNormalRowS : Ck
  | [.str s] => some (s.length ≤ 1073741824, .str (normL s))
  | _ => none
theorem conNormalRowS : Con pg 66 ckNormalRowS := by
  have hct := (ctA_ok conIndexByte (ctA_ok conIsHex (ctA_ok conNormalRow (ctN_ok _))))
  intro args q r h hq
  unfold ckNormalRowS at h
  split at h
  · cases h
    rename_i s
    refine w66 (fun _ => false) [] rfl hct rfl rfl ?_
    push_cast (config := { maxSteps := 10000000 })
    refine LoopW.adj ⟨hct, fol⟩ (by kernel_rfl) [] (fun t : List UInt8 × List UInt8 => [(0, .str t.1), (3, .str t.2)]) (fun _ => []) (fun t => t.2 ++ normL t.1 = normL s ∧ t.1.length ≤ s.length) (fun t => t.1.length) (s, []) ?_ fun t ht => ?_
    · push_cast (config := { maxSteps := 10000000 })
      simp
    · obtain ⟨r, l⟩ := t
      push_cast (config := { maxSteps := 10000000 })
      obtain ⟨h1, h2⟩ : l ++ normL r = normL s ∧ r.length ≤ s.length := ht
      have key : ∀ k : Nat, Lib.indexByte r 37 = (k : Int) → normL r = r.take k ++ normL (r.drop k) ∧ k < r.length ∧ r.getD k 0 = 37 := fun k hk => ⟨by
        conv => lhs; rw [← List.take_append_drop k r]
        exact normL_app (idx_take_mem hk), (idx_at hk).1, (idx_at hk).2.1⟩
      have hl : l.length + (normL r).length ≤ s.length := by
        have k1 := congrArg List.length h1
        have k2 := normL_len s
        simp only [List.length_append] at k1; omega
      refine ⟨fun hr => ⟨fun hn => ?_, fun hn => ?_⟩, fun hr => ?_⟩
      · have := normL_app (a := r) (b := []) (idx_no_mem hn)
        simp [normL] at this
        rw [this] at h1
        exact ⟨by omega, h1⟩
      · obtain ⟨k, hk⟩ : ∃ k : Nat, Lib.indexByte r 37 = (k : Int) := ⟨(Lib.indexByte r 37).toNat, by omega⟩
        obtain ⟨k1, k2, k3⟩ := key k hk
        rw [hk]
        push_cast (config := { maxSteps := 10000000 })
        rw [k1] at h1
        refine ⟨by omega, fun h => by omega, fun h => by omega, fun h => ⟨h, by omega⟩, fun h => ⟨h, by omega⟩, fun h => ?_, fun h => ?_⟩
        · obtain ⟨⟨a1, a2⟩, a3⟩ := h
          have e := normL_hex (s := r) (i := k) (by omega) k3 a2 a3
          have e2 : normL ((r.drop k).take 3) = encB (16 * hexN (r.getD (k + 1) 0) + hexN (r.getD (k + 2) 0)) := by
            rw [drop_at (by omega : k < r.length), drop_at (by omega : k + 1 < r.length), drop_at (by omega : k + 1 + 1 < r.length)]
            simp only [List.take_succ_cons, List.take_zero, normL]
            rw [if_pos ⟨k3, a2, a3⟩, List.append_nil]
          have e3 : wfL ((r.drop k).take 3) = true := by
            rw [drop_at (by omega : k < r.length), drop_at (by omega : k + 1 < r.length), drop_at (by omega : k + 1 + 1 < r.length)]
            simp only [List.take_succ_cons, List.take_zero, wfL]
            rw [if_pos k3]
            simp only [Bool.and_true, Bool.and_eq_true]
            exact ⟨a2, a3⟩
          have e4 := normL_len ((r.drop k).take 3)
          simp only [List.length_take, List.length_drop] at e4
          refine ⟨by omega, by omega, by omega, by omega, ⟨e3, by omega⟩, by omega, by omega, by omega, (r.drop (k + 3), l ++ r.take k ++ normL ((r.drop k).take 3)), ⟨?_, by simp; omega⟩, by simp; omega, rfl, rfl⟩
          rw [e] at h1
          rw [e2]
          simpa using h1
        · have e := normL_no (s := r) (i := k) k2 (fun hh => by
            have := h ⟨by omega, hh.2.2.1⟩
            have h3 := hh.2.2.2
            simp only [isHexB] at h3
            rw [this] at h3; cases h3)
          refine ⟨by omega, by omega, by omega, by omega, by omega, (r.drop (k + 1), l ++ r.take (k + 1)), ⟨?_, by simp; omega⟩, by simp; omega, rfl, rfl⟩
          rw [e] at h1
          have : r.take (k + 1) = r.take k ++ [r.getD k 0] := by
            rw [List.take_add_one, List.getD_eq_getElem?_getD, List.getElem?_eq_getElem k2]; rfl
          rw [this]
          simpa using h1
      · subst hr
        simpa [normL] using h1
  · cases h
attribute [push_cast] ckNormalRowS

def ckItoa : Ck
  | [.int .i64 n] => some (-9223372036854775808 ≤ n ∧ n ≤ 9223372036854775807, .str (Lib.itoa n))
  | _ => none
attribute [push_cast] ckItoa
def ckRepeat : Ck
  | [.str s, .int .i64 n] => some (0 ≤ n ∧ n ≤ 1000000 ∧ s.length ≤ 1000000, .str (Lib.repeatL s n.toNat))
  | _ => none
attribute [push_cast] ckRepeat

/- whether a string has one of some bytes (of ASCII, two or more), however long it is -/
def setA (l : List UInt8) : List V := (List.range 256).map fun j => .bool (l.contains (UInt8.ofNat j))
theorem setA_len (l : List UInt8) : (setA l).length = 256 := by simp [setA]
theorem setA_at (l : List UInt8) {j : Nat} (h : j < 256) : (setA l).getD j .any = .bool (l.contains (UInt8.ofNat j)) := by
  simp [setA, List.getD_eq_getElem?_getD, h]
theorem setC_list (l : List UInt8) : Lib.setCells l = ((List.range 256).map fun j => Value.bool (l.contains (UInt8.ofNat j))).toArray := by
  rw [Lib.setCells_eq]
  apply Array.ext'
  simp
def ckShould : Ck
  | [.int .i64 n] => some (True, .bool (decide (8 < n)))
  | _ => none
theorem conShould : Con pg 135 ckShould := by
  have hct := ctN_ok pg
  intro args q r h hq
  unfold ckShould at h
  split at h
  · cases h
    rename_i n
    refine w135 (fun _ => false) [] rfl hct rfl rfl ?_
    push_cast (config := { maxSteps := 10000000 })
    done
  · cases h
attribute [push_cast] ckShould
def ckMkSet : Ck
  | [.str c] => some (c.length < 4294967281 ∧ asciiC c = true, .tup [.agg (setA c), .bool true])
  | _ => none
theorem conMkSet : Con pg 128 ckMkSet := by
  intro args q r h hq
  unfold ckMkSet at h
  split at h
  · cases h
    rename_i c
    have hz : ∀ w, (zeroValue 159).run Tryz.prog w = .ok (.agg (Array.replicate 256 (.bool false))) w := by
      have h0 : (Tryz.prog.info? 159).map (fun i => (i.zero, i.size)) = some (some (.agg (Array.replicate 256 (.bool false))), 256) := by kernel_rfl
      exact (zero_of_info h0).1
    refine pcall_shelf (by kernel_rfl) rfl fun w hw => (Tryz.strings_makeASCIISet hz ⟨c.toArray⟩ w ?_ ?_).mono fun e w' h => ?_
    · show c.toArray.size < _
      have := hq.1
      simp; omega
    · exact asciiC_at hq.2
    · obtain ⟨he, hw'⟩ := h
      refine ⟨_, he, ?_, fun γ imm => .tup _ [_, _] rfl fun i hi => ?_⟩
      · rw [hw']; exact ⟨rfl, rfl, rfl, by show w.heap.size ≤ (w.heap.push _).size; rw [Array.size_push]; omega, fun b hb => RowKit.Below.heap_alloc w _ _ hb⟩
      · match i, hi with
        | 0, _ =>
          show RepV γ imm w' (.agg (setA c)) (.agg (Lib.setCells c))
          rw [setC_list]
          refine .agg _ _ (by rw [setA_len, List.length_map, List.length_range]) (fun j hj => ?_) (fun j hj => ?_)
          · rw [setA_len] at hj
            rw [setA_at c hj, List.getD_eq_getElem?_getD, List.getElem?_map, List.getElem?_range hj]
            exact .pure (.bool _)
          · rw [setA_len] at hj
            rw [List.getD_eq_getElem?_getD, List.getElem?_map, List.getElem?_range hj]
            rfl
        | 1, _ => exact .pure (.bool _)
  · cases h
attribute [push_cast] ckMkSet
def ckAscHasK (c : List UInt8) : List V → List Blk → Option (Prop × V × List Blk)
  | [.ptr _ 0, .int .u8 x], [.cells cs] => some (cs = setA c ∧ 0 ≤ x ∧ x < 256, .bool (c.contains (UInt8.ofNat x.toNat)), [.cells cs])
  | _, _ => none
def ckAscHas (c : List UInt8) : Cf := ⟨fun | .ptr i _ :: _ => [i] | _ => [], ckAscHasK c⟩
theorem conAscHas (c : List UInt8) : FCon pg 136 (ckAscHas c) := by
  intro args bs q r bs' h hq
  replace h : ckAscHasK c args bs = some (q, r, bs') := h
  unfold ckAscHasK at h
  split at h
  · cases h
    rename_i i x cs
    obtain ⟨rfl, h0, h1⟩ := hq
    obtain ⟨x, rfl⟩ := Int.eq_ofNat_of_zero_le h0
    refine ⟨rfl, Nat.le_refl _, ?_⟩
    intro S vals hs hh hl hr
    have hsh : ∀ l : List UInt8, Blk.shift (.cells (setA l)) = .cells (setA l) := fun l => by
      show Blk.cells ((setA l).map V.shift) = _
      unfold setA
      rw [List.map_map]; rfl
    have hid : S.h (i + 9000) = some (.cells (setA c)) := by
      rw [hh, ← hsh]
      show hOf [(i + 9000, Blk.shift (.cells (setA c)))] (i + 9000) = _
      simp [hOf]
    obtain ⟨v0, v1, rfl⟩ := vals2 hl
    have r0 : S.rep (.ptr (i + 9000) 0) v0 := hr 0 (by simp)
    have r1 : S.rep (.int .u8 x) v1 := hr 1 (by simp)
    obtain rfl := inv_int r1
    obtain ⟨b, arr, t, lo, hi, k1, k2, k3, k4, k5⟩ := hs.blk _ _ hid
    obtain ⟨b', e1, rfl⟩ := inv_ptr r0
    rw [k1] at e1
    cases e1
    have hx : (UInt8.ofNat x).toNat = x := by rw [UInt8.toNat_ofNat']; omega
    have hc : S.w.cell? ⟨b, (UInt8.ofNat x).toNat, none⟩ = some (.bool (c.contains (UInt8.ofNat x))) := by
      rw [hx, cell_of_heap k2]
      have h5 := k5 x (by rw [setA_len]; omega)
      rw [setA_at c (by omega)] at h5
      have h6 := inv_bool h5.1
      rw [Array.getD_eq_getD_getElem?] at h6
      rw [setA_len] at k3
      rw [Array.getElem?_eq_getElem (by omega)] at h6 ⊢
      exact congrArg some h6
    have hcal := Tryz.asciiSet_contains b (UInt8.ofNat x) _ S.w hc
    rw [hx] at hcal
    refine .inl ⟨by kernel_rfl, hcal.mono fun e w' h => ?_⟩
    obtain ⟨rfl, rfl⟩ := h
    rw [← hh]
    exact ⟨_, S.γ, S.imm, rfl, hs, Ext.refl _ S, fun _ _ => rfl, .pure (.bool _)⟩
  · cases h
@[push_cast] theorem ascHas_ids (c : List UInt8) (i o : Nat) (l : List V) : (ckAscHas c).ids (.ptr i o :: l) = [i] := rfl
@[push_cast] theorem ascHas_k (c : List UInt8) (i : Nat) (x : Int) (cs : List V) : (ckAscHas c).k [.ptr i 0, .int .u8 x] [.cells cs] = some (cs = setA c ∧ 0 ≤ x ∧ x < 256, .bool (c.contains (UInt8.ofNat x.toNat)), [.cells cs]) := rfl
def samX : List UInt8 := [47, 63, 38, 61, 37, 65, 66, 67, 68, 69, 70, 71, 72, 73, 74, 75, 76, 77, 78, 79, 80, 81, 82, 83, 84, 85, 86, 87, 88, 89, 90]
def ckAscX : Cf := ckAscHas samX
theorem conAscX : FCon pg 136 ckAscX := conAscHas samX
@[push_cast] theorem ascX_ids (i o : Nat) (l : List V) : ckAscX.ids (.ptr i o :: l) = [i] := rfl
@[push_cast] theorem ascX_k (i : Nat) (x : Int) (cs : List V) : ckAscX.k [.ptr i 0, .int .u8 x] [.cells cs] = some (cs = setA samX ∧ 0 ≤ x ∧ x < 256, .bool (samX.contains (UInt8.ofNat x.toNat)), [.cells cs]) := rfl
theorem killL_setA (d : Nat) (l : List UInt8) : V.killL d (setA l) = setA l := by
  unfold setA
  generalize List.range 256 = R
  induction R with
  | nil => rfl
  | cons a t ih => rw [List.map_cons, V.killL, ih]; rfl
theorem vleR_setA (l : List UInt8) : vleR vle1 (setA l) (setA l) := by
  unfold setA
  generalize List.range 256 = R
  induction R with
  | nil => exact trivial
  | cons a t ih => exact ⟨rfl, ih⟩
theorem noIdL_setA (l : List UInt8) : V.noIdL (setA l) = true := by
  unfold setA
  generalize List.range 256 = R
  induction R with
  | nil => rfl
  | cons a t ih => rw [List.map_cons, V.noIdL, ih]; rfl
theorem idxAny_at {s c : List UInt8} : ∀ {i : Nat}, i < s.length → (∀ j, j < i → c.contains (s.getD j 0) = false) → c.contains (s.getD i 0) = true → Lib.indexAny s c = i := by
  induction s with
  | nil => intro i h; simp at h
  | cons b t ih =>
    intro i h h1 h2
    unfold Lib.indexAny
    cases i with
    | zero => rw [if_pos (by simpa using h2)]; rfl
    | succ i =>
      have e := ih (i := i) (by simpa using h) (fun j hj => by simpa using h1 (j + 1) (by omega)) (by simpa using h2)
      have h0 : c.contains b = false := by simpa using h1 0 (by omega)
      rw [if_neg (by rw [h0]; simp), e]
      rw [if_neg (by simp only [beq_iff_eq]; omega)]
      omega
theorem idxAny_no {s c : List UInt8} : (∀ j, j < s.length → c.contains (s.getD j 0) = false) → Lib.indexAny s c = -1 := by
  induction s with
  | nil => intro _; rfl
  | cons b t ih =>
    intro h
    unfold Lib.indexAny
    have e := ih (fun j hj => by simpa using h (j + 1) (by simpa using hj))
    have h0 : c.contains b = false := by simpa using h 0 (by simp)
    rw [if_neg (by rw [h0]; simp), e]
    simp
def ckIdxAny : Ck
  | [.str s, .str c] => some (8 < s.length ∧ s.length ≤ 4611686018427387900 ∧ c = samX, .int .i64 (Lib.indexAny s samX))
  | _ => none
theorem conIdxAny : Con pg 100 ckIdxAny := by
  have hct := (ctA_ok conShould (ctA_ok conMkSet (ctF_ok conAscX (ctN_ok _))))
  intro args q r h hq
  unfold ckIdxAny at h
  split at h
  · cases h
    rename_i s c
    refine w100 (fun _ => false) [] rfl hct rfl rfl ?_
    push_cast (config := { maxSteps := 10000000 })
    obtain ⟨h8, hsl, rfl⟩ := hq
    have hcl : samX.length = 31 := rfl
    have hca : asciiC samX = true := by decide
    have hne : ¬ samX = [] := by decide
    have hk := killL_setA
    have hn := noIdL_setA samX
    have hl := setA_len samX
    generalize hX : samX = X at *
    refine ⟨fun h => absurd h hne, fun _ => ⟨fun h => by omega, fun _ => ⟨fun _ => ⟨⟨by omega, hca⟩, hn, by rw [hk]; exact hl, ?_⟩, fun h => by omega⟩⟩⟩
    rw [hk]
    refine LoopW.adj ⟨hct, fol⟩ (by kernel_rfl) [] (fun i : Nat => [(0, .str s), (6, .ptr 6 0), (8, .int .i64 i)]) (fun _ => [(6, .cells (setA X))]) (fun i => i ≤ s.length ∧ ∀ j, j < i → X.contains (s.getD j 0) = false) (fun i => s.length - i) 0 ?_ fun i hi => ?_
    · push_cast (config := { maxSteps := 10000000 })
      refine ⟨⟨Nat.zero_le _, fun j hj => by omega⟩, ?_⟩
      rw [hl]
      show vleR vle1 (setA X ++ []) (setA X)
      rw [List.append_nil]
      exact vleR_setA X
    · obtain ⟨i1, i2⟩ := hi
      push_cast (config := { maxSteps := 10000000 })
      rw [hX]
      have c8 := UInt8.toNat_lt (s.getD i 0)
      refine ⟨fun h => ⟨h, ⟨rfl, by omega⟩, fun h2 => (idxAny_at h i2 h2).symm, fun h2 => ⟨by omega, i + 1, ⟨by omega, fun j hj => ?_⟩, by omega, by omega, vleR_setA X⟩⟩, fun h => (idxAny_no fun j hj => i2 j (by omega)).symm⟩
      by_cases e : j = i
      · subst e; exact h2
      · exact i2 j (by omega)
  · cases h
attribute [push_cast] ckIdxAny
def ckCanyL : Ck
  | [.str s, .str c] => some (8 < s.length ∧ s.length ≤ 4611686018427387900 ∧ c = samX, .bool (Lib.containsAny s samX))
  | _ => none
theorem conCanyL : Con pg 53 ckCanyL := by
  have hct := (ctA_ok conIdxAny (ctN_ok _))
  intro args q r h hq
  unfold ckCanyL at h
  split at h
  · cases h
    rename_i s c
    refine w53 (fun _ => false) [] rfl hct rfl rfl ?_
    push_cast (config := { maxSteps := 10000000 })
    exact ⟨hq, rfl⟩
  · cases h
attribute [push_cast] ckCanyL
def ckCany : Ck
  | [.str s, .str c] => some (s.length ≤ 4611686018427387900 ∧ asciiC s = true ∧ c = samX, .bool (Lib.containsAny s samX))
  | _ => none
theorem conCany : Con pg 53 ckCany := by
  intro args q r h hq
  unfold ckCany at h
  split at h
  · cases h
    rename_i s c
    obtain ⟨h1, h2, rfl⟩ := hq
    by_cases h8 : 8 < s.length
    · exact conCanyL _ _ _ rfl ⟨h8, h1, rfl⟩
    · refine pcall_shelf (by kernel_rfl) rfl fun w hw => (Tryz.strings_ContainsAny_laid ⟨s.toArray⟩ ⟨samX.toArray⟩ w ?_ ?_ ?_ ?_).mono fun e w' h => ?_
      · show s.toArray.size < _
        simp; omega
      · decide
      · exact asciiC_at h2
      · exact asciiC_at (by decide)
      · exact shelf_bool h.1 (grow_below h.2)
  · cases h
attribute [push_cast] ckCany

/- strings compared -/
def ckCmpS : Ck
  | [.str a, .str b] => some (True, .int .i64 (Lib.compareBytes a b))
  | _ => none
theorem conCmpS : Con pg 34 ckCmpS := by
  intro args q r h hq
  unfold ckCmpS at h
  split at h
  · cases h
    rename_i a b
    exact pcall_shelf (by kernel_rfl) rfl fun w hw => (Tryz.strings_Compare ⟨a.toArray⟩ ⟨b.toArray⟩ w).mono fun e w' h => shelf_int h.1 (grow_eq h.2)
  · cases h
attribute [push_cast] ckCmpS
theorem cmpB_eq (a b : List UInt8) : Lib.compareBytes a b = if a < b then -1 else if a = b then 0 else 1 := by
  induction a generalizing b with
  | nil =>
    cases b with
    | nil => simp [Lib.compareBytes]
    | cons y b => simp [Lib.compareBytes]
  | cons x a ih =>
    cases b with
    | nil => simp [Lib.compareBytes]
    | cons y b =>
      unfold Lib.compareBytes
      by_cases h1 : x < y
      · rw [if_pos h1, if_pos (List.cons_lt_cons_iff.2 (.inl h1))]
      · rw [if_neg h1]
        by_cases h2 : y < x
        · rw [if_pos h2, if_neg (fun h => (List.cons_lt_cons_iff.1 h).elim h1 fun e => by rw [e.1] at h2; exact UInt8.lt_irrefl _ h2), if_neg (fun h => by cases h; exact UInt8.lt_irrefl _ h2)]
        · rw [if_neg h2, ih b]
          have e : x = y := UInt8.le_antisymm (UInt8.not_lt.1 h2) (UInt8.not_lt.1 h1)
          subst e
          by_cases h3 : a < b
          · rw [if_pos h3, if_pos (List.cons_lt_cons_iff.2 (.inr ⟨rfl, h3⟩))]
          · rw [if_neg h3, if_neg (fun h => (List.cons_lt_cons_iff.1 h).elim h1 fun e => h3 e.2)]
            by_cases h4 : a = b
            · rw [if_pos h4, if_pos (by rw [h4])]
            · rw [if_neg h4, if_neg (fun h => h4 (by injection h))]

def ckWithin2b : Ck
  | [.int .i64 n, .int .i64 a, .int .i64 b] => some (True, .bool (decide (a ≤ n) && decide (n ≤ b)))
  | _ => none
attribute [push_cast] ckWithin2b
def ckIsToken2 : Ck
  | [.str s] => some (s.length ≤ 4611686018427387904, .bool (tokL s))
  | _ => none
attribute [push_cast] ckIsToken2
def monthLongI (y m : Int) : Int :=
  if m = 4 ∨ m = 6 ∨ m = 9 ∨ m = 11 then 30 else if m = 2 then (if y % 4 = 0 ∧ (y % 100 ≠ 0 ∨ y % 400 = 0) then 29 else 28) else 31
def ckMonthLong : Ck
  | [.int .i64 y, .int .i64 m] => some (0 ≤ y ∧ y ≤ 1000000, .int .i64 (monthLongI y m))
  | _ => none
attribute [push_cast] ckMonthLong
def monthsSum (y : Int) : Nat → Int
  | 0 => 0
  | k + 1 => monthsSum y k + monthLongI y ((k : Int) + 1)
def daysI (y m : Int) : Int := 365 * (y - 1) + (y - 1) / 4 - (y - 1) / 100 + (y - 1) / 400 - 719162 + monthsSum y (m - 1).toNat
theorem monthLongI_b (y m : Int) : 28 ≤ monthLongI y m ∧ monthLongI y m ≤ 31 := by
  unfold monthLongI
  (repeat' (first | apply And.intro | intro _)) <;> (try first | assumption | contradiction | omega | exact rfl | exact trivial)
theorem monthsSum_b (y : Int) (k : Nat) : 0 ≤ monthsSum y k ∧ monthsSum y k ≤ 31 * k := by
  induction k with
  | zero => simp [monthsSum]
  | succ k ih => have := monthLongI_b y ((k : Int) + 1); simp only [monthsSum]; omega
theorem daysI_1 (y : Int) : daysI y 1 = 365 * (y - 1) + (y - 1) / 4 - (y - 1) / 100 + (y - 1) / 400 - 719162 := by
  unfold daysI
  rw [show ((1 : Int) - 1).toNat = 0 from rfl]
  simp only [monthsSum]; omega
attribute [irreducible] daysI
def ckDays : Ck
  | [.int .i64 y, .int .i64 m] => some (1 ≤ y ∧ y ≤ 1000000 ∧ m ≤ 13, .int .i64 (daysI y m))
  | _ => none
attribute [push_cast] ckDays
def yearF (d : Int) : Nat → Int → Int
  | 0, y => y
  | n + 1, y => if daysI (y + 1) 1 ≤ d then yearF d n (y + 1) else y
def monthF (y d : Int) : Nat → Int → Int
  | 0, m => m
  | n + 1, m => if m < 12 ∧ daysI y (m + 1) ≤ d then monthF y d n (m + 1) else m
def yearI (d : Int) : Int := yearF d 1000 (1970 + d / 366)
def monthI (d : Int) : Int := monthF (yearI d) d 12 1
def dateI (n : Int) : V := .agg [.int .i64 (yearI (n / 86400)), .int .i64 (monthI (n / 86400)), .int .i64 (n / 86400 - daysI (yearI (n / 86400)) (monthI (n / 86400)) + 1), .int .i64 (n % 86400 / 3600), .int .i64 (n % 86400 / 60 % 60), .int .i64 (n % 86400 % 60)]
def ckDateOf : Ck
  | [.int .i64 n] => some (0 ≤ n ∧ n ≤ 253402300799, dateI n)
  | _ => none
theorem daysI_lo {y d : Int} (h : daysI y 1 ≤ d) (hy : 1 ≤ y) (hd : d ≤ 2932896) : y ≤ 10100 := by
  rw [daysI_1] at h
  omega
theorem daysI_y0 (d : Int) (h0 : 0 ≤ d) (hd : d ≤ 2932896) : daysI (1970 + d / 366) 1 ≤ d := by
  rw [daysI_1]
  omega
theorem daysI_step {y d : Int} (h : daysI y 1 ≤ d) (hy : 1970 + d / 366 ≤ y) (h0 : 0 ≤ d) (hd : d ≤ 2932896) : y ≤ 1970 + d / 366 + 900 := by
  rw [daysI_1] at h
  omega
attribute [push_cast] ckDateOf
def paddedL (n k : Int) : List UInt8 := Lib.repeatL [48] (max 0 (k - (Lib.itoa n).length)).toNat ++ Lib.itoa n
def ckPadded : Ck
  | [.int .i64 n, .int .i64 k] => some (-9223372036854775808 ≤ n ∧ n ≤ 9223372036854775807 ∧ 0 ≤ k ∧ k ≤ 1000, .str (paddedL n k))
  | _ => none
theorem paddedL_len {n k : Int} (h1 : -9223372036854775808 ≤ n) (h2 : n ≤ 9223372036854775807) (h3 : 0 ≤ k) (h4 : k ≤ 1000) : (paddedL n k).length ≤ 1021 := by
  have := Lib.itoa_length_le n h1 h2
  unfold paddedL
  simp only [List.length_append, Lib.repeatL_length, List.length_cons, List.length_nil]
  omega
attribute [push_cast] ckPadded
def wdN : List (List UInt8) := [[77, 111, 110], [84, 117, 101], [87, 101, 100], [84, 104, 117], [70, 114, 105], [83, 97, 116], [83, 117, 110]]
def mnN : List (List UInt8) := [[74, 97, 110], [70, 101, 98], [77, 97, 114], [65, 112, 114], [77, 97, 121], [74, 117, 110], [74, 117, 108], [65, 117, 103], [83, 101, 112], [79, 99, 116], [78, 111, 118], [68, 101, 99]]
def ckWeekdays : Ck
  | [] => some (True, .sl 7 fun i => .str (wdN.getD i []))
  | _ => none
attribute [push_cast] ckWeekdays
def ckMonths : Ck
  | [] => some (True, .sl 12 fun i => .str (mnN.getD i []))
  | _ => none
attribute [push_cast] ckMonths
theorem yearF_b (d : Int) : ∀ (n : Nat) (y : Int), daysI y 1 ≤ d → y ≤ yearF d n y ∧ daysI (yearF d n y) 1 ≤ d
  | 0, y, h => ⟨Int.le_refl _, h⟩
  | n + 1, y, h => by
    simp only [yearF]
    split
    · rename_i h1
      have := yearF_b d n (y + 1) h1
      exact ⟨by omega, this.2⟩
    · exact ⟨Int.le_refl _, h⟩
theorem monthF_b (y d : Int) : ∀ (n : Nat) (m : Int), 1 ≤ m → m ≤ 12 → daysI y m ≤ d → 1 ≤ monthF y d n m ∧ monthF y d n m ≤ 12 ∧ daysI y (monthF y d n m) ≤ d
  | 0, m, h1, h2, h => ⟨h1, h2, h⟩
  | n + 1, m, h1, h2, h => by
    simp only [monthF]
    split
    · rename_i h3
      exact monthF_b y d n (m + 1) (by omega) (by omega) h3.2
    · exact ⟨h1, h2, h⟩
theorem date_b {d : Int} (h0 : 0 ≤ d) (h1 : d ≤ 2932896) : 1970 ≤ yearI d ∧ yearI d ≤ 10100 ∧ 1 ≤ monthI d ∧ monthI d ≤ 12 ∧ -800000 ≤ daysI (yearI d) (monthI d) ∧ daysI (yearI d) (monthI d) ≤ d := by
  have a := yearF_b d 1000 _ (daysI_y0 d h0 h1)
  have hy : 1970 ≤ yearI d := by have := a.1; unfold yearI; omega
  have hd : daysI (yearI d) 1 ≤ d := a.2
  have b := monthF_b (yearI d) d 12 1 (by omega) (by omega) hd
  have c := daysI_lo hd (by omega) h1
  refine ⟨hy, c, b.1, b.2.1, ?_, b.2.2⟩
  have := monthsSum_b (yearI d) (monthI d - 1).toNat
  unfold daysI
  omega
theorem wdN_b (i : Nat) : (wdN.getD i []).length ≤ 3 := by
  by_cases h : i < 7
  · rcases (by omega : i = 0 ∨ i = 1 ∨ i = 2 ∨ i = 3 ∨ i = 4 ∨ i = 5 ∨ i = 6) with rfl | rfl | rfl | rfl | rfl | rfl | rfl <;> decide
  · rw [List.getD_eq_getElem?_getD, List.getElem?_eq_none (by simp [wdN]; omega)]; simp
theorem mnN_b (i : Nat) : (mnN.getD i []).length ≤ 3 := by
  by_cases h : i < 12
  · rcases (by omega : i = 0 ∨ i = 1 ∨ i = 2 ∨ i = 3 ∨ i = 4 ∨ i = 5 ∨ i = 6 ∨ i = 7 ∨ i = 8 ∨ i = 9 ∨ i = 10 ∨ i = 11) with rfl | rfl | rfl | rfl | rfl | rfl | rfl | rfl | rfl | rfl | rfl | rfl <;> decide
  · rw [List.getD_eq_getElem?_getD, List.getElem?_eq_none (by simp [mnN]; omega)]; simp
def dateTextL (n : Int) : List UInt8 :=
  let d := n / 86400
  let y := yearI d
  let m := monthI d
  wdN.getD ((d + 3) % 7).toNat [] ++ [44, 32] ++ paddedL (d - daysI y m + 1) 2 ++ [32] ++ mnN.getD (m - 1).toNat [] ++ [32] ++ paddedL y 4 ++ [32] ++ paddedL (n % 86400 / 3600) 2 ++ [58] ++ paddedL (n % 86400 / 60 % 60) 2 ++ [58] ++ paddedL (n % 86400 % 60) 2 ++ [32, 71, 77, 84]
def ckDateText0 : Ck
  | [.int .i64 n] => some (0 ≤ n ∧ n ≤ 253402300799, .str (dateTextL n))
  | _ => none
attribute [push_cast] ckDateText0
def ckIsMoment : Ck
  | [.int .i64 n] => some (True, .bool (decide (0 ≤ n) && decide (n ≤ 253402300799)))
  | _ => none
attribute [push_cast] ckIsMoment
def ckDateText : Ck
  | [.int .i64 n] => some (-9223372036854775808 ≤ n ∧ n ≤ 9223372036854775807, .tup [.str (if 0 ≤ n ∧ n ≤ 253402300799 then dateTextL n else []), .int .i64 (if 0 ≤ n ∧ n ≤ 253402300799 then 0 else 1)])
  | _ => none
attribute [push_cast] ckDateText
def stepR (s : List UInt8) (can : Nat → Bool) (c : Nat) : Nat → Bool := fun k => if c = 42 then (List.range (k + 1)).any can else decide (0 < k) && can (k - 1) && (s.getD (k - 1) 0).toNat == c
def reachN (p s : List UInt8) : Nat → Nat → Bool
  | 0 => fun k => k == 0
  | i + 1 => stepR s (reachN p s i) (p.getD i 0).toNat
def fitsB (p s : List UInt8) (whole : Bool) : Bool := if whole = true then reachN p s p.length s.length else (List.range (s.length + 1)).any (reachN p s p.length)

def hasSuf (s t : List UInt8) : Bool := decide (t.length ≤ s.length) && (s.drop (s.length - t.length) == t)

end Go.Abs
