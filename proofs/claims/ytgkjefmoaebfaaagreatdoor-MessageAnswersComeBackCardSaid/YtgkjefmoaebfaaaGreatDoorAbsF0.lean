/- what functions of this program compute: contracts, each a function's own -/
import Derived.Test.YtgkjefmoaebfaaaGreatDoorAbsK2
import Derived.Test.YtgkjefmoaebfaaaGreatDoorAbsFacts
import Derived.Test.YtgkjefmoaebfaaaGreatDoorAbsShelf
import Derived.Lib.SplitLaws
import Derived.Lib.SlTrimSet
import Derived.Lib.Atoi
import Derived.Lib.Itoa
import Derived.Lib.ItoaNum
import Derived.Lib.AtoiErrMem
import Derived.Lib.Index
import Derived.Lib.IndexBytes
import Derived.Lib.Walk
import Derived.Lib.BitFns
import Derived.Lib.TrailingZeros
import Derived.Lib.ItoaLen
namespace Go.Abs
open Go Go.Proofs
set_option maxHeartbeats 4000000
set_option maxRecDepth 100000
set_option linter.unusedVariables false
set_option linter.unusedSimpArgs false
/- own slices of bytes -/
theorem appF_byF (l m : List UInt8) : appF l.length (byF l) (byF m) = byF (l ++ m) := by
  funext i
  simp only [appF, byF]
  by_cases h : i < l.length
  · simp [h, List.getElem?_append_left]
  · simp [h, List.getElem?_append_right (by omega : l.length ≤ i)]
/-- bytes, as they are written into a literal -/
theorem litF_byF {vs : List V} {bs : List UInt8} (h : vs = bs.map fun b => V.int .u8 b.toNat) {i : Nat} (hi : i < bs.length) : litF vs i = byF bs i := by
  subst h
  simp [litF, byF, hi]
theorem appF_lit {l bs : List UInt8} {vs : List V} (h : vs = bs.map fun b => V.int .u8 b.toNat) {i : Nat} (hi : i < l.length + bs.length) : appF l.length (byF l) (litF vs) i = byF (l ++ bs) i := by
  rw [← appF_byF]
  simp only [appF]
  by_cases hl : i < l.length
  · simp [hl]
  · simp only [hl, decide_false, cond_false]
    exact litF_byF h (by omega)
theorem bytesOf_byF (l : List UInt8) : bytesOf l.length (byF l) = l := by
  apply List.ext_getElem?
  intro i
  simp only [bytesOf, byF, V.toByte, Int.toNat_natCast]
  by_cases h : i < l.length
  · simp [h]
  · simp [h]
theorem bytesOf_of {n : Nat} {l : List UInt8} {f : Nat → V} (hn : n = l.length) (h : ∀ i, i < n → f i = byF l i) : bytesOf n f = l := by
  subst hn
  rw [← bytesOf_byF l]
  unfold bytesOf
  simp only [List.length_map, List.length_range]
  apply List.map_congr_left
  intro i hi
  rw [h i (by simpa using hi)]
theorem u8_eq (a b : UInt8) : a = b ↔ (a.toNat : Int) = b.toNat := by rw [← UInt8.toNat_inj]; omega
theorem u8_lt (a : UInt8) : a.toNat < 256 := UInt8.toNat_lt a
theorem drop_at {s : List UInt8} {i : Nat} (h : i < s.length) : s.drop i = s.getD i 0 :: s.drop (i + 1) := by
  rw [List.drop_eq_getElem_cons h, List.getD_eq_getElem?_getD, List.getElem?_eq_getElem h]; rfl
theorem take_one {s : List UInt8} {i : Nat} (h : i < s.length) : (s.drop i).take 1 = [s.getD i 0] := by rw [drop_at h]; rfl
theorem take_next {s : List UInt8} {k : Nat} (h : k < s.length) : s.take (k + 1) = s.take k ++ [s.getD k 0] := by
  rw [List.take_add_one, List.getD_eq_getElem?_getD, List.getElem?_eq_getElem h]; rfl

/-- f's first n are the bytes s -/
def ByI (n : Nat) (f : Nat → V) (s : List UInt8) : Prop := n = s.length ∧ ∀ i, i < n → f i = byF s i
theorem ByI.by (s : List UInt8) : ByI s.length (byF s) s := ⟨rfl, fun _ _ => rfl⟩
theorem ByI.app {n m k : Nat} {f g : Nat → V} {a b : List UInt8} (h1 : ByI n f a) (h2 : ByI m g b) (hk : k = n + m) : ByI k (appF n f g) (a ++ b) := by
  obtain ⟨e1, h1⟩ := h1
  obtain ⟨e2, h2⟩ := h2
  refine ⟨by simp; omega, fun i hi => ?_⟩
  unfold appF
  by_cases h : i < n
  · rw [show decide (i < n) = true from by simp [h], cond_true, h1 i h]
    unfold byF
    rw [List.getD_eq_getElem?_getD, List.getD_eq_getElem?_getD, List.getElem?_append_left (by omega)]
  · rw [show decide (i < n) = false from by simp [h], cond_false, h2 (i - n) (by omega)]
    unfold byF
    rw [List.getD_eq_getElem?_getD, List.getD_eq_getElem?_getD, List.getElem?_append_right (by omega), e1]
theorem ByI.sh {n l k : Nat} {f : Nat → V} {s : List UInt8} (h : ByI n f s) (hk : l + k ≤ n) : ByI k (shF f l) ((s.drop l).take k) := by
  obtain ⟨e, h⟩ := h
  refine ⟨by simp; omega, fun i hi => ?_⟩
  unfold shF
  rw [h (i + l) (by omega)]
  unfold byF
  rw [List.getD_eq_getElem?_getD, List.getD_eq_getElem?_getD, List.getElem?_take_of_lt hi, List.getElem?_drop, Nat.add_comm]
theorem ByI.eq {n : Nat} {f : Nat → V} {s t : List UInt8} (h : ByI n f s) (e : s = t) : ByI n f t := e ▸ h
theorem ByI.len {n m : Nat} {f : Nat → V} {s : List UInt8} (h : ByI n f s) (e : n = m) : ByI m f s := e ▸ h
theorem bytesOf_by (s : List UInt8) : bytesOf s.length (byF s) = s := by
  unfold bytesOf byF
  apply List.ext_getElem
  · simp
  · intro i h1 h2
    simp only [List.getElem_map, List.getElem_range, V.toByte, Int.toNat_natCast]
    rw [List.getD_eq_getElem?_getD, List.getElem?_eq_getElem h2]
    simp
theorem bytesOf_len (n : Nat) (f : Nat → V) : (bytesOf n f).length = n := by simp [bytesOf]
/-- bytes, as they come -/
def isBy (n : Nat) (f : Nat → V) : Prop := ByI n f (bytesOf n f)
theorem isBy.vle {n : Nat} {f : Nat → V} (h : isBy n f) : VLe (.sl n f) (.sl (bytesOf n f).length (byF (bytesOf n f))) := VLe.sl h.1 h.2
theorem isBy_by (s : List UInt8) : isBy s.length (byF s) := by unfold isBy; rw [bytesOf_by]; exact ByI.by s
theorem ByI.bytes {n : Nat} {f : Nat → V} {s : List UInt8} (h : ByI n f s) : bytesOf n f = s := by
  obtain ⟨rfl, h⟩ := h
  have : bytesOf s.length f = bytesOf s.length (byF s) := by
    unfold bytesOf
    exact List.map_congr_left fun i hi => by rw [h i (by simpa using hi)]
  rw [this, bytesOf_by]
theorem ByI.is {n : Nat} {f : Nat → V} {s : List UInt8} (h : ByI n f s) : isBy n f := by unfold isBy; rw [h.bytes]; exact h
theorem ByI.pure {n : Nat} {f : Nat → V} {s : List UInt8} (h : ByI n f s) : ∀ i, i < n → (f i).isPure = true := fun i hi => by rw [h.2 i hi]; rfl
theorem ByI.flat {n : Nat} {f : Nat → V} {s : List UInt8} (h : ByI n f s) : ∀ i, i < n → (f i).flat.length = 1 := fun i hi => by rw [h.2 i hi]; rfl
theorem ByI.bytesP {n : Nat} {f : Nat → V} {s : List UInt8} (h : ByI n f s) : ∀ i, i < n → ∃ m, f i = .int .u8 m := fun i hi => ⟨_, h.2 i hi⟩
attribute [push_cast] UInt8.ofNat_toNat Int.toNat_natCast

theorem isBy_lit {l : List V} (h : ∀ i, i < l.length → ∃ n, l.getD i .any = .int .u8 n ∧ 0 ≤ n ∧ n < 256) : isBy l.length (litF l) := by
  refine ⟨(bytesOf_len _ _).symm, fun i hi => ?_⟩
  obtain ⟨n, e, h0, h1⟩ := h i hi
  have : litF l i = .int .u8 n := e
  rw [this]
  unfold byF bytesOf
  rw [List.getD_eq_getElem?_getD, List.getElem?_map, List.getElem?_range hi]
  simp only [Option.map_some, Option.getD_some, this, V.toByte]
  rw [UInt8.toNat_ofNat']
  congr 1
  omega
theorem shBytes {m : Nat} {v : V} (h : Sh.has (.list (.int .u8)) m v) : ∃ (n : Nat) (f : Nat → V), v = .sl n f ∧ isBy n f ∧ n ≤ reachBytes := by
  obtain ⟨l, ms, rfl, h1, h2, h3, h4⟩ := h
  have wf : ∀ n : Int, (Lit.int .u8 n).wf = true → 0 ≤ n ∧ n < 256 := fun n hn => by
    simp only [Lit.wf, Bool.and_eq_true, decide_eq_true_eq] at hn
    have e1 : IntKind.u8.min = 0 := rfl
    have e2 : IntKind.u8.max = 255 := rfl
    omega
  refine ⟨_, _, rfl, isBy_lit fun i hi => ?_, h3⟩
  obtain ⟨n, e, w, _⟩ := h4 i hi
  exact ⟨n, e, wf n w⟩
theorem hasD3 {H : Type} {s1 s2 s3 : Sh} {ds : List (DataW H)} (h : hasD [s1, s2, s3] ds) : ∃ a b c, ds = [a, b, c] ∧ s1.has (bulkD a) (toV a) ∧ s2.has (bulkD b) (toV b) ∧ s3.has (bulkD c) (toV c) := by
  match ds, h with
  | [a, b, c], ⟨h1, h2, h3, _⟩ => exact ⟨a, b, c, rfl, h1, h2, h3⟩
theorem shInt {k : IntKind} {m : Nat} {v : V} (h : Sh.has (.int k) m v) : ∃ n, v = .int k n ∧ (Lit.int k n).wf = true := by
  obtain ⟨n, e, w, _⟩ := h
  exact ⟨n, e, w⟩

/-- a cutset of ASCII bytes -/
def asciiC (c : List UInt8) : Bool := c.all fun b => decide (b.toNat < 128)
theorem asciiC_at {c : List UInt8} (h : asciiC c = true) : ∀ (j : Nat) b, c[j]? = some b → b.toNat < 128 := by
  intro j b hb
  simp only [asciiC, List.all_eq_true, decide_eq_true_eq] at h
  exact h b (List.mem_of_getElem? hb)
def ckTrim : Ck
  | [.str s, .str c] => some (s.length ≤ 4611686018427387904 ∧ c.length < 4294967281 ∧ asciiC c = true, .str (Lib.trimS s c))
  | _ => none
theorem conTrim : Con pg 115 ckTrim := by
  intro args q r h hq
  unfold ckTrim at h
  split at h
  · cases h
    rename_i s c
    refine pcall_shelf (by kernel_rfl) rfl fun w hw => (Tryz.strings_TrimL ⟨s.toArray⟩ ⟨c.toArray⟩ w ?_ ?_ ?_).mono fun e w' h => ?_
    · show s.toArray.size ≤ _
      have := hq.1
      simp; omega
    · show c.toArray.size < _
      have := hq.2.1
      simp; omega
    · exact asciiC_at hq.2.2
    · exact shelf_str h.1 (grow_below h.2)
  · cases h
attribute [push_cast] ckTrim
@[push_cast] theorem asciiC_nil : asciiC [] = true := rfl
@[push_cast] theorem asciiC_cons (b : UInt8) (c : List UInt8) : asciiC (b :: c) = (decide (b.toNat < 128) && asciiC c) := rfl

theorem conIdxStr : Con pg 145 ckIndexByte := con_IndexByteString (fn := Tryz.f145) (by kernel_rfl) (by kernel_rfl) (by kernel_rfl) (by kernel_rfl) (by kernel_rfl)
theorem conIndexByte1 : Con pg 106 ckIndexByte := by
  intro args q r h hq
  obtain ⟨s, c, rfl, _, rfl⟩ := ckIndexByte_inv h
  refine w106 (fun _ => false) [] rfl (ctA_ok conIdxStr (ctN_ok _)) rfl rfl ?_
  push_cast (config := { maxSteps := 10000000 })
theorem conIndexByte : Con pg 55 ckIndexByte := by
  intro args q r h hq
  obtain ⟨s, c, rfl, _, rfl⟩ := ckIndexByte_inv h
  refine w55 (fun _ => false) [] rfl (ctA_ok conIndexByte1 (ctN_ok _)) rfl rfl ?_
  push_cast (config := { maxSteps := 10000000 })

def tokB (c : UInt8) : Bool := decide (97 ≤ c.toNat ∧ c.toNat ≤ 122 ∨ 65 ≤ c.toNat ∧ c.toNat ≤ 90 ∨ 48 ≤ c.toNat ∧ c.toNat ≤ 57 ∨ 0 ≤ Lib.indexByte [33, 35, 36, 37, 38, 39, 42, 43, 45, 46, 94, 95, 124, 126] c)
def tokL (s : List UInt8) : Bool := decide (1 ≤ s.length) && decide (s.length ≤ 40) && s.all tokB
def ckIsToken : Ck
  | [.str s] => some (True, .bool (tokL s))
  | _ => none
theorem all_at {p : UInt8 → Bool} {s : List UInt8} (h : ∀ j, j < s.length → p (s.getD j 0) = true) : s.all p = true := by
  rw [List.all_eq_true]
  intro x hx
  obtain ⟨j, hj, rfl⟩ := List.getElem_of_mem hx
  have := h j hj
  rwa [List.getD_eq_getElem?_getD, List.getElem?_eq_getElem hj] at this
theorem all_no {p : UInt8 → Bool} {s : List UInt8} {j : Nat} (hj : j < s.length) (h : p (s.getD j 0) = false) : s.all p = false := by
  rw [List.all_eq_false]
  refine ⟨s[j], List.getElem_mem hj, ?_⟩
  rw [List.getD_eq_getElem?_getD, List.getElem?_eq_getElem hj] at h
  simpa using h
theorem conIsToken : Con pg 50 ckIsToken := by
  have hct := (ctA_ok conIndexByte (ctN_ok _))
  intro args q r h hq
  unfold ckIsToken at h
  split at h
  · cases h
    rename_i s
    refine w50 (fun _ => false) [] rfl hct rfl rfl ?_
    push_cast (config := { maxSteps := 10000000 })
    refine ⟨fun h => ?_, fun h => ?_⟩
    · unfold tokL
      rcases h with h | h
      · rw [show decide (1 ≤ s.length) = false from decide_eq_false (by omega)]; rfl
      · rw [show decide (s.length ≤ 40) = false from decide_eq_false (by omega)]; simp
    · have e0 : tokL s = s.all tokB := by
        unfold tokL
        rw [show decide (1 ≤ s.length) = true from decide_eq_true (by omega), show decide (s.length ≤ 40) = true from decide_eq_true (by omega)]; rfl
      rw [e0]
      refine LoopW.adj ⟨hct, fol⟩ (by kernel_rfl) [] (fun i : Nat => [(0, .str s), (14, .int .i64 s.length), (15, .int .i64 i)]) (fun _ => []) (fun i => i ≤ s.length ∧ ∀ j, j < i → tokB (s.getD j 0) = true) (fun i => s.length - i) 0 ?_ fun i hi => ?_
      · push_cast (config := { maxSteps := 10000000 })
        exact ⟨Nat.zero_le _, fun j hj => by omega⟩
      · push_cast (config := { maxSteps := 10000000 })
        obtain ⟨h1, h2⟩ := hi
        refine ⟨fun hw => ⟨hw, fun a => ⟨a, fun b => ⟨a, b⟩⟩, fun a => ⟨a, fun b => ⟨a, b⟩⟩, fun a => ?_, fun a => ⟨by omega, i + 1, ⟨by omega, fun j hj => ?_⟩, by omega, by omega⟩⟩, fun hw => ?_⟩
        · refine (all_no hw (decide_eq_false ?_)).symm
          rintro (b | b | b | b)
          · exact absurd b.2 (by have := a.1.1.1; omega)
          · exact absurd b.2 (by have := a.1.1.2; omega)
          · exact absurd b.2 (by have := a.1.2; omega)
          · exact a.2 b
        · by_cases e : j = i
          · subst e
            refine decide_eq_true ?_
            rcases a with ((a | a) | a) | a
            · exact .inl (by omega)
            · exact .inr (.inl (by omega))
            · exact .inr (.inr (.inl (by omega)))
            · exact .inr (.inr (.inr a))
          · exact h2 j (by omega)
        · exact (all_at fun j hj => h2 j (by omega)).symm
  · cases h
attribute [push_cast] ckIsToken

def ckWithin2b : Ck
  | [.int .i64 n, .int .i64 a, .int .i64 b] => some (True, .bool (decide (a ≤ n) && decide (n ≤ b)))
  | _ => none
theorem conWithin2b : Con pg 46 ckWithin2b := by
  have hct := ctN_ok pg
  intro args q r h hq
  unfold ckWithin2b at h
  split at h
  · cases h
    rename_i n a b
    refine w46 (fun _ => false) [] rfl hct rfl rfl ?_
    push_cast (config := { maxSteps := 10000000 })
  · cases h
attribute [push_cast] ckWithin2b
def ckIsToken2 : Ck
  | [.str s] => some (s.length ≤ 4611686018427387904, .bool (tokL s))
  | _ => none
theorem conIsToken2 : Con pg 57 ckIsToken2 := by
  have hct := (ctA_ok conIndexByte (ctA_ok conWithin2b (ctN_ok _)))
  intro args q r h hq
  unfold ckIsToken2 at h
  split at h
  · cases h
    rename_i s
    refine w57 (fun _ => false) [] rfl hct rfl rfl ?_
    push_cast (config := { maxSteps := 10000000 })
    refine LoopW.adj ⟨hct, fol⟩ (by kernel_rfl) [] (fun i : Nat => [(0, .str s), (3, .int .i64 i)]) (fun _ => []) (fun i => i ≤ s.length ∧ ∀ j, j < i → tokB (s.getD j 0) = true) (fun i => s.length - i) 0 ?_ fun i hi => ?_
    · push_cast (config := { maxSteps := 10000000 })
      exact ⟨Nat.zero_le _, fun j hj => by omega⟩
    · push_cast (config := { maxSteps := 10000000 })
      obtain ⟨h1, h2⟩ := hi
      refine ⟨fun hw => ⟨hw, fun a => ⟨a, fun b => ⟨a, b⟩⟩, fun a => ⟨a, fun b => ⟨a, b⟩⟩, fun a => ?_, fun a => ⟨by omega, i + 1, ⟨by omega, fun j hj => ?_⟩, by omega, by omega⟩⟩, fun hw => ?_⟩
      · have : s.all tokB = false := by
          refine all_no hw (decide_eq_false ?_)
          rintro (b | b | b | b)
          · exact absurd b.2 (by have := a.1.1.1; omega)
          · exact absurd b.2 (by have := a.1.1.2; omega)
          · exact absurd b.2 (by have := a.1.2; omega)
          · have := a.2; omega
        unfold tokL
        rw [this, Bool.and_false]
      · by_cases e : j = i
        · subst e
          refine decide_eq_true ?_
          refine Classical.byContradiction fun hn => ?_
          have n1 : ¬(97 ≤ (s.getD j 0).toNat ∧ (s.getD j 0).toNat ≤ 122) := fun h => hn (.inl h)
          have n2 : ¬(65 ≤ (s.getD j 0).toNat ∧ (s.getD j 0).toNat ≤ 90) := fun h => hn (.inr (.inl h))
          have n3 : ¬(48 ≤ (s.getD j 0).toNat ∧ (s.getD j 0).toNat ≤ 57) := fun h => hn (.inr (.inr (.inl h)))
          have n4 := fun h => hn (.inr (.inr (.inr h)))
          have := a ⟨⟨fun _ => by omega, fun _ => by omega⟩, fun _ => by omega⟩
          exact n4 (by omega)
        · exact h2 j (by omega)
      · unfold tokL
        rw [all_at fun j hj => h2 j (by omega), Bool.and_true]
        congr 1 <;> exact decide_eq_decide.2 (by omega)
  · cases h
attribute [push_cast] ckIsToken2

def lowB (c : UInt8) : UInt8 := if 65 ≤ c.toNat ∧ c.toNat ≤ 90 then UInt8.ofNat (c.toNat + 32) else c
def lowL (s : List UInt8) : List UInt8 := s.map lowB
def ckSmall : Ck
  | [.str s] => some (s.length ≤ 140737488355328, .str (lowL s))
  | _ => none
theorem low_at (s : List UInt8) (i j : Nat) : (lowL (s.take i) ++ s.drop i).getD j 0 = if j < i then (if j < s.length then lowB (s.getD j 0) else 0) else s.getD j 0 := by
  unfold lowL
  simp only [List.getD_eq_getElem?_getD]
  by_cases h : j < s.length
  · by_cases h1 : j < i
    · rw [List.getElem?_append_left (by simp; omega), if_pos h1, if_pos h]
      simp [h1, h]
    · rw [List.getElem?_append_right (by simp; omega), if_neg h1, List.getElem?_drop]
      simp only [List.length_map, List.length_take]
      rw [show i + (j - min i s.length) = j by omega]
  · rw [List.getElem?_eq_none (by simp; omega), List.getElem?_eq_none (by omega), if_neg h]
    split <;> rfl
theorem low_len (s : List UInt8) (i : Nat) : (lowL (s.take i) ++ s.drop i).length = s.length := by simp [lowL]; omega
theorem low_by (s : List UInt8) (i : Nat) {j : Nat} (hj : j < s.length) : byF (lowL (s.take i) ++ s.drop i) j = .int .u8 (if j < i then lowB (s.getD j 0) else s.getD j 0).toNat := by
  unfold byF
  rw [low_at, if_pos hj]
theorem byF_app (s t : List UInt8) (j : Nat) : byF (s ++ t) j = .int .u8 ((s ++ t).getD j 0).toNat := rfl
theorem conSmall : Con pg 94 ckSmall := by
  have hct := ctN_ok pg
  intro args q r h hq
  unfold ckSmall at h
  split at h
  · cases h
    rename_i s
    refine w94 (fun _ => false) [] rfl hct rfl rfl ?_
    push_cast (config := { maxSteps := 10000000 })
    refine LoopW.adj ⟨hct, fol⟩ (by kernel_rfl) [] (fun i : Nat => [(0, .str s), (3, .vec 6 s.length), (4, .int .i64 i)]) (fun i => [(6, .vec 1 s.length (byF (lowL (s.take i) ++ s.drop i)))]) (fun i => i ≤ s.length) (fun i => s.length - i) 0 ?_ fun i hi => ?_
    · push_cast (config := { maxSteps := 10000000 })
      exact ⟨Nat.zero_le _, fun _ _ => rfl⟩
    · push_cast (config := { maxSteps := 10000000 })
      have e := low_at s i i
      rw [if_neg (Nat.lt_irrefl i)] at e
      rw [e]
      refine ⟨fun h => ⟨h, h, fun h1 => ⟨h1, h⟩, fun h1 => ⟨h1, h⟩, fun h1 => ⟨h, h, h, h, by omega, i + 1, by omega, by omega, by omega, fun j hj => ?_⟩, fun h1 => ⟨by omega, i + 1, by omega, by omega, by omega, fun j hj => ?_⟩⟩, fun h => ?_⟩
      · rw [low_by s (i + 1) hj]
        show setF (byF (lowL (List.take i s) ++ List.drop i s)) i (V.int IntKind.u8 ((((s.getD i 0).toNat : Int) + 32) % 256)) j = _
        unfold setF
        by_cases hji : j = i
        · subst hji
          rw [show decide (j = j) = true by simp, cond_true, if_pos (by omega)]
          have : (lowB (s.getD j 0)).toNat = (s.getD j 0).toNat + 32 := by
            unfold lowB
            rw [if_pos (by omega)]
            rw [UInt8.toNat_ofNat']
            omega
          rw [this]
          congr 1
          omega
        · rw [show decide (j = i) = false by simp [hji], cond_false, low_by s i hj]
          by_cases h3 : j < i
          · rw [if_pos h3, if_pos (by omega)]
          · rw [if_neg h3, if_neg (by omega)]
      · rw [low_by s (i + 1) hj, low_by s i hj]
        by_cases hji : j = i
        · subst hji
          rw [if_neg (Nat.lt_irrefl j), if_pos (by omega)]
          have : lowB (s.getD j 0) = s.getD j 0 := by
            unfold lowB
            rw [if_neg (by omega)]
          rw [this]
        · by_cases h3 : j < i
          · rw [if_pos h3, if_pos (by omega)]
          · rw [if_neg h3, if_neg (by omega)]
      · have : i = s.length := by omega
        subst this
        rw [List.take_length, List.drop_eq_nil_of_le (Nat.le_refl _), List.append_nil]
        have := bytesOf_by (lowL s)
        rw [show (lowL s).length = s.length by simp [lowL]] at this
        exact this
  · cases h
attribute [push_cast] ckSmall

theorem conSmallA : Con pg 73 ckSmall := by
  have hct := ctN_ok pg
  intro args q r h hq
  unfold ckSmall at h
  split at h
  · cases h
    rename_i s
    refine w73 (fun _ => false) [] rfl hct rfl rfl ?_
    push_cast (config := { maxSteps := 10000000 })
    refine LoopW.adj ⟨hct, fol⟩ (by kernel_rfl) [] (fun i : Nat => [(3, .vec 7 s.length), (8, .vec 7 s.length), (9, .int .i64 s.length), (10, .int .i64 i)]) (fun i => [(7, .vec 1 s.length (byF (lowL (s.take i) ++ s.drop i)))]) (fun i => i ≤ s.length) (fun i => s.length - i) 0 ?_ fun i hi => ?_
    · push_cast (config := { maxSteps := 10000000 })
      exact ⟨Nat.zero_le _, fun _ _ => rfl⟩
    · push_cast (config := { maxSteps := 10000000 })
      have e := low_at s i i
      rw [if_neg (Nat.lt_irrefl i)] at e
      rw [e]
      refine ⟨fun h => ⟨h, h, fun h1 => ⟨h, h, by omega, i + 1, by omega, by omega, by omega, fun j hj => ?_⟩, fun h1 => ⟨by omega, i + 1, by omega, by omega, by omega, fun j hj => ?_⟩⟩, fun h => ?_⟩
      · rw [low_by s (i + 1) hj]
        show setF (byF (lowL (List.take i s) ++ List.drop i s)) i (V.int IntKind.u8 (((((s.getD i 0).toNat : Int) + 97) % 256 - 65) % 256)) j = _
        unfold setF
        by_cases hji : j = i
        · subst hji
          rw [show decide (j = j) = true by simp, cond_true, if_pos (by omega)]
          have : (lowB (s.getD j 0)).toNat = (s.getD j 0).toNat + 32 := by
            unfold lowB
            rw [if_pos (by omega)]
            rw [UInt8.toNat_ofNat']
            omega
          rw [this]
          congr 1
          omega
        · rw [show decide (j = i) = false by simp [hji], cond_false, low_by s i hj]
          by_cases h3 : j < i
          · rw [if_pos h3, if_pos (by omega)]
          · rw [if_neg h3, if_neg (by omega)]
      · rw [low_by s (i + 1) hj, low_by s i hj]
        by_cases hji : j = i
        · subst hji
          rw [if_neg (Nat.lt_irrefl j), if_pos (by omega)]
          have : lowB (s.getD j 0) = s.getD j 0 := by
            unfold lowB
            rw [if_neg (by omega)]
          rw [this]
        · by_cases h3 : j < i
          · rw [if_pos h3, if_pos (by omega)]
          · rw [if_neg h3, if_neg (by omega)]
      · have : i = s.length := by omega
        subst this
        rw [List.take_length, List.drop_eq_nil_of_le (Nat.le_refl _), List.append_nil]
        have := bytesOf_by (lowL s)
        rw [show (lowL s).length = s.length by simp [lowL]] at this
        exact this
  · cases h

def ckItoa : Ck
  | [.int .i64 n] => some (-9223372036854775808 ≤ n ∧ n ≤ 9223372036854775807, .str (Lib.itoa n))
  | _ => none
theorem conItoa : Con pg 28 ckItoa := by
  intro args q r h hq
  unfold ckItoa at h
  split at h
  · cases h
    refine pcall_shelf (by kernel_rfl) rfl fun w hw => (Tryz.strconv_Itoa _ hq.1 hq.2 w (tabPow hw)).mono fun e w' h => ?_
    obtain ⟨he, k, os, rfl⟩ := h
    exact shelf_str he (grow_drew _ _ _)
  · cases h
attribute [push_cast] ckItoa
def ckRepeat : Ck
  | [.str s, .int .i64 n] => some (0 ≤ n ∧ n ≤ 1000000 ∧ s.length ≤ 1000000, .str (Lib.repeatL s n.toNat))
  | _ => none
theorem conRepeat : Con pg 147 ckRepeat := by
  intro args q r h hq
  unfold ckRepeat at h
  split at h
  · cases h
    rename_i s n
    obtain ⟨k, rfl⟩ : ∃ k : Nat, n = k := ⟨n.toNat, by omega⟩
    refine pcall_shelf (by kernel_rfl) rfl fun w hw => (Tryz.strings_Repeat ⟨s.toArray⟩ k w (by omega) ?_).mono fun e w' h => ?_
    · show s.toArray.size * k ≤ _
      have : s.length * k ≤ 1000000 * 1000000 := Nat.mul_le_mul (by omega) (by omega)
      simp; omega
    · exact shelf_str (by simpa using h.1) (grow_below h.2)
  · cases h
attribute [push_cast] ckRepeat

/-- the value of a hexadecimal digit; 16: none -/
def hx (c : UInt8) : Nat := if 48 ≤ c.toNat ∧ c.toNat ≤ 57 then c.toNat - 48 else if 97 ≤ c.toNat ∧ c.toNat ≤ 102 then c.toNat - 87 else if 65 ≤ c.toNat ∧ c.toNat ≤ 70 then c.toNat - 55 else 16
theorem hx_le (c : UInt8) : hx c ≤ 16 := by unfold hx; (repeat' split) <;> omega
/-- digits: whether they are right, the number, how many were read -/
def numF : List UInt8 → Nat → Nat → Bool × Nat × Nat
  | [], a, n => (true, n, a)
  | c :: r, a, n => if hx c < 16 then (if (0 < a ∧ n = 0) ∨ 65536 < 16 * n + hx c then (false, 0, a + 1) else numF r (a + 1) (16 * n + hx c)) else (true, n, a)
/-- how far bytes begin with those that are wanted: 0 all, 1 too few, 2 others -/
def begF : List UInt8 → List UInt8 → Nat
  | _, [] => 0
  | [], _ :: _ => 1
  | x :: r, c :: w => if x = c then begF r w else 2
/-- and how many -/
def begN : List UInt8 → List UInt8 → Nat
  | x :: r, c :: w => if x = c then begN r w + 1 else 0
  | _, _ => 0
def crlf : List UInt8 := [13, 10]
/-- a chunk: its bytes, its length, how it is -/
def readL (b : List UInt8) : List UInt8 × Nat × Nat :=
  let p := numF b 0 0
  if p.1 = false then ([], 0, 2) else
  if p.2.2 = b.length then ([], 0, 1) else
  if p.2.2 = 0 then ([], 0, 2) else
  if begF (b.drop p.2.2) crlf ≠ 0 then ([], 0, begF (b.drop p.2.2) crlf) else
  if (b.length : Int) - (p.2.2 + 2) < p.2.1 then ([], 0, 1) else
  if begF (b.drop (p.2.2 + 2 + p.2.1)) crlf ≠ 0 then ([], 0, begF (b.drop (p.2.2 + 2 + p.2.1)) crlf) else
  ((b.drop (p.2.2 + 2)).take p.2.1, p.2.2 + 2 + p.2.1 + 2, 0)
theorem numF_b : ∀ (b : List UInt8) (a n : Nat), n ≤ 65536 → (numF b a n).2.1 ≤ 65536 ∧ a ≤ (numF b a n).2.2 ∧ (numF b a n).2.2 ≤ a + b.length
  | [], a, n, h => ⟨h, Nat.le_refl _, Nat.le_add_right _ _⟩
  | c :: r, a, n, h => by
    simp only [numF]
    split
    · split
      · simp
      · have := numF_b r (a + 1) (16 * n + hx c) (by omega)
        simp only [List.length_cons]
        omega
    · simp [h]
theorem begF_b : ∀ (r w : List UInt8), begF r w ≤ 2
  | _, [] => by simp [begF]
  | [], _ :: _ => by simp [begF]
  | x :: r, c :: w => by
    simp only [begF]
    split
    · exact begF_b r w
    · omega
theorem begF_len : ∀ {r w : List UInt8}, begF r w = 0 → w.length ≤ r.length
  | _, [], _ => by simp
  | [], _ :: _, h => by simp [begF] at h
  | x :: r, c :: w, h => by
    simp only [begF] at h
    split at h
    · have := begF_len h; simp; omega
    · omega
theorem begN_len : ∀ {r w : List UInt8}, begF r w = 0 → begN r w = w.length
  | _, [], _ => by simp [begN]
  | [], _ :: _, h => by simp [begF] at h
  | x :: r, c :: w, h => by
    simp only [begF] at h
    split at h
    · rename_i e
      have := begN_len h
      simp only [begN, if_pos e, List.length_cons]; omega
    · omega
theorem numF_end {s : List UInt8} {i n : Nat} (h1 : i ≤ s.length) (h : i < s.length → ¬hx (s.getD i 0) < 16) : numF (s.drop i) i n = (true, n, i) := by
  by_cases hi : i < s.length
  · rw [drop_at hi, numF, if_neg (h hi)]
  · rw [List.drop_eq_nil_of_le (by omega), numF]
theorem numF_bad {s : List UInt8} {i n : Nat} (h1 : i < s.length) (h : hx (s.getD i 0) < 16) (h2 : (0 < i ∧ n = 0) ∨ 65536 < 16 * n + hx (s.getD i 0)) : numF (s.drop i) i n = (false, 0, i + 1) := by
  rw [drop_at h1, numF, if_pos h, if_pos h2]
theorem numF_next {s : List UInt8} {i n : Nat} (h1 : i < s.length) (h : hx (s.getD i 0) < 16) (h2 : ¬((0 < i ∧ n = 0) ∨ 65536 < 16 * n + hx (s.getD i 0))) : numF (s.drop i) i n = numF (s.drop (i + 1)) (i + 1) (16 * n + hx (s.getD i 0)) := by
  rw [drop_at h1, numF, if_pos h, if_neg h2]
theorem readL_bad {s : List UInt8} {m a : Nat} (e : numF s 0 0 = (false, m, a)) : readL s = ([], 0, 2) := by
  unfold readL; rw [e]; rfl
theorem readL_of {s : List UInt8} {n i : Nat} (e : numF s 0 0 = (true, n, i)) : readL s = if i = s.length then ([], 0, 1) else if i = 0 then ([], 0, 2) else
  if begF (s.drop i) crlf ≠ 0 then ([], 0, begF (s.drop i) crlf) else
  if (s.length : Int) - (i + 2) < n then ([], 0, 1) else
  if begF (s.drop (i + 2 + n)) crlf ≠ 0 then ([], 0, begF (s.drop (i + 2 + n)) crlf) else
  ((s.drop (i + 2)).take n, i + 2 + n + 2, 0) := by
  unfold readL; rw [e]; simp only [Bool.true_eq_false, if_false]
theorem isBy_drop (s : List UInt8) (i : Nat) (h : i ≤ s.length) : isBy (s.length - i) (shF (byF s) i) ∧ bytesOf (s.length - i) (shF (byF s) i) = s.drop i := by
  have b := ByI.sh (l := i) (k := s.length - i) (ByI.by s) (by omega)
  rw [List.take_of_length_le (by simp)] at b
  exact ⟨b.is, b.bytes⟩

def ckHexValue : Ck
  | [.int .u8 c] => some (0 ≤ c ∧ c < 256, .int .i64 (hx (UInt8.ofNat c.toNat)))
  | _ => none
theorem conHexValue : Con pg 119 ckHexValue := by
  have hct := ctN_ok pg
  intro args q r h hq
  unfold ckHexValue at h
  split at h
  · cases h
    rename_i c
    refine w119 (fun _ => false) [] rfl hct rfl rfl ?_
    push_cast (config := { maxSteps := 10000000 })
    obtain ⟨n, rfl⟩ : ∃ n : Nat, c = n := ⟨c.toNat, by omega⟩
    have e : (UInt8.ofNat n).toNat = n := by simp; omega
    unfold hx
    rw [Int.toNat_natCast, e]
    (repeat' (first | apply And.intro | intro _)) <;> (repeat' split) <;> omega
  · cases h
attribute [push_cast] ckHexValue
def ckIsBegun : Ck
  | [.sl n f, .str w] => some (isBy n f ∧ n ≤ 4611686018427387904 ∧ w.length ≤ 1000, .int .i64 (begF (bytesOf n f) w))
  | _ => none
theorem conIsBegun : Con pg 120 ckIsBegun := by
  have hct := ctN_ok pg
  intro args q r h hq
  unfold ckIsBegun at h
  split at h
  · cases h
    rename_i n f w
    refine pcall_args (args' := [.sl (bytesOf n f).length (byF (bytesOf n f)), .str w]) ⟨hq.1.vle, VLe.refl _, trivial⟩ ?_
    have hn : (bytesOf n f).length ≤ 4611686018427387904 := by rw [bytesOf_len]; exact hq.2.1
    have hw := hq.2.2
    generalize bytesOf n f = s at hn ⊢
    refine w120 (fun _ => false) [] rfl hct rfl rfl ?_
    push_cast (config := { maxSteps := 10000000 })
    refine LoopW.adj ⟨hct, fol⟩ (by kernel_rfl) [] (fun i : Nat => [(0, .sl s.length (byF s)), (1, .str w), (7, .int .i64 w.length), (8, .int .i64 i)]) (fun _ => []) (fun i => i ≤ w.length ∧ i ≤ s.length ∧ begF (s.drop i) (w.drop i) = begF s w) (fun i => w.length - i) 0 ?_ fun i hi => ?_
    · push_cast (config := { maxSteps := 10000000 })
      exact ⟨Nat.zero_le _, Nat.zero_le _⟩
    · push_cast (config := { maxSteps := 10000000 })
      obtain ⟨h1, h2, h3⟩ := hi
      refine ⟨fun hw => ⟨fun hs => ?_, fun hs => ⟨by omega, hw, fun hc => ?_, fun hc => ⟨by omega, i + 1, ⟨by omega, by omega, ?_⟩, by omega, by omega⟩⟩⟩, fun hw => ?_⟩
      · rw [← h3, List.drop_eq_nil_of_le hs, drop_at hw]; rfl
      · rw [← h3, drop_at hw, drop_at (by omega : i < s.length), begF, if_neg (fun e => hc (by rw [e]))]; rfl
      · rw [← h3, drop_at hw, drop_at (by omega : i < s.length), begF, if_pos (UInt8.toNat_inj.1 hc)]
      · rw [← h3, List.drop_eq_nil_of_le (by omega : w.length ≤ i)]
        cases s.drop i <;> rfl
  · cases h
attribute [push_cast] ckIsBegun
def ckReadChunk : Ck
  | [.sl n f] => some (isBy n f ∧ n ≤ 4611686018427000000, .tup [.sl (readL (bytesOf n f)).1.length (byF (readL (bytesOf n f)).1), .int .i64 (readL (bytesOf n f)).2.1, .int .i64 (readL (bytesOf n f)).2.2])
  | _ => none
theorem conReadChunk : Con pg 68 ckReadChunk := by
  have hct := ctA_ok conHexValue (ctA_ok conIsBegun (ctN_ok pg))
  intro args q r h hq
  unfold ckReadChunk at h
  split at h
  · cases h
    rename_i n f
    refine pcall_args (args' := [.sl (bytesOf n f).length (byF (bytesOf n f))]) ⟨hq.1.vle, trivial⟩ ?_
    have hn : (bytesOf n f).length ≤ 4611686018427000000 := by rw [bytesOf_len]; exact hq.2
    generalize bytesOf n f = s at hn ⊢
    refine w68 (fun _ => false) [] rfl hct rfl rfl ?_
    push_cast (config := { maxSteps := 10000000 })
    refine LoopW.adj ⟨hct, fol⟩ (by kernel_rfl) [] (fun t : Nat × Nat => [(0, .sl s.length (byF s)), (5, .int .i64 t.2), (6, .int .i64 t.1)]) (fun _ => []) (fun t => t.1 ≤ s.length ∧ t.2 ≤ 65536 ∧ numF (s.drop t.1) t.1 t.2 = numF s 0 0) (fun t => s.length - t.1) (0, 0) ?_ fun t ht => ?_
    · push_cast (config := { maxSteps := 10000000 })
      exact Nat.zero_le _
    · obtain ⟨i, n⟩ := t
      push_cast (config := { maxSteps := 10000000 })
      obtain ⟨h1, h2, h3⟩ : i ≤ s.length ∧ n ≤ 65536 ∧ numF (s.drop i) i n = numF s 0 0 := ht
      have hh := hx_le (s.getD i 0)
      have hu := u8_lt (s.getD i 0)
      refine ⟨fun hi => ⟨hi, by omega⟩, fun ⟨hi, hc⟩ => ⟨fun hz => ?_, fun hz => ⟨by omega, hi, by omega, by omega, fun hz2 => ?_, fun hz2 => ⟨by omega, (i + 1, 16 * n + hx (s.getD i 0)), ⟨by show i + 1 ≤ s.length; omega, by show 16 * n + hx (s.getD i 0) ≤ 65536; omega, ?_⟩, by show s.length - (i + 1) < s.length - i; omega, by simp, by simp⟩⟩⟩, fun hc => ?_⟩
      · rw [readL_bad (m := 0) (a := i + 1) (h3 ▸ numF_bad hi (by omega) (.inl (by omega)))]; exact ⟨rfl, rfl, rfl⟩
      · rw [readL_bad (m := 0) (a := i + 1) (h3 ▸ numF_bad hi (by omega) (.inr (by omega)))]; exact ⟨rfl, rfl, rfl⟩
      · rw [← h3, numF_next hi (by omega) (by omega)]
      · have e := h3 ▸ numF_end (n := n) h1 (fun hi hh => hc hi (by omega))
        have er := readL_of e.symm.symm
        obtain ⟨d1, d2⟩ := isBy_drop s i h1
        rw [d2]
        refine ⟨fun hl => ?_, fun hl => ⟨fun hz => ?_, fun hz => ⟨h1, ⟨d1, by omega⟩, fun hb => ?_, fun hb => ⟨by omega, by omega, fun hs => ?_, fun hs => ?_⟩⟩⟩⟩
        · rw [er, if_pos hl]; exact ⟨rfl, rfl, rfl⟩
        · rw [er, if_neg hl, if_pos (by omega)]; exact ⟨rfl, rfl, rfl⟩
        · rw [er, if_neg hl, if_neg (by omega), if_pos (show begF (s.drop i) crlf ≠ 0 from fun hh => hb (by rw [show ([13, 10] : List UInt8) = crlf from rfl, hh]; rfl))]; exact ⟨rfl, rfl, rfl⟩
        · have hb' : ¬begF (s.drop i) crlf ≠ 0 := fun hh => hh (by have : begF (s.drop i) crlf = begF (s.drop i) [13, 10] := rfl; omega)
          rw [er, if_neg hl, if_neg (by omega), if_neg hb', if_pos (by omega)]; exact ⟨rfl, rfl, rfl⟩
        · have hb' : ¬begF (s.drop i) crlf ≠ 0 := fun hh => hh (by have : begF (s.drop i) crlf = begF (s.drop i) [13, 10] := rfl; omega)
          rw [if_neg hl, if_neg (by omega), if_neg hb', if_neg (by omega)] at er
          have ei : ((i : Int) + 2 + n).toNat = i + 2 + n := by omega
          rw [ei]
          obtain ⟨d3, d4⟩ := isBy_drop s (i + 2 + n) (by omega)
          rw [d4]
          refine ⟨by omega, by omega, ⟨d3, by omega⟩, fun hb2 => ?_, fun hb2 => ⟨by omega, by omega, by omega, by omega, ?_⟩⟩
          · rw [er, if_pos (show begF (s.drop (i + 2 + n)) crlf ≠ 0 from fun hh => hb2 (by rw [show ([13, 10] : List UInt8) = crlf from rfl, hh]; rfl))]; exact ⟨rfl, rfl, rfl⟩
          · have hb3 : ¬begF (s.drop (i + 2 + n)) crlf ≠ 0 := fun hh => hh (by have : begF (s.drop (i + 2 + n)) crlf = begF (s.drop (i + 2 + n)) [13, 10] := rfl; omega)
            rw [if_neg hb3] at er
            rw [er]
            have b := ByI.sh (l := i + 2) (k := i + 2 + n - (i + 2)) (ByI.by s) (by omega)
            rw [show i + 2 + n - (i + 2) = n by omega] at b ⊢
            exact ⟨b, by simp, rfl⟩
  · cases h
attribute [push_cast] ckReadChunk

/-- all chunks from a place on -/
def readAll (b : List UInt8) : Nat → Nat → List UInt8 → List UInt8 × Nat × Nat × Nat
  | 0, _, _ => ([], 0, 0, 0)
  | k + 1, a, out =>
    if (readL (b.drop a)).2.2 = 2 then ([], 0, a, 10) else
    if (readL (b.drop a)).2.2 = 1 then (if out.length ≤ 200000 then (out, a, b.length, 15) else ([], 0, 0, 2)) else
    if 0 < (readL (b.drop a)).1.length then readAll b k (a + (readL (b.drop a)).2.1) (out ++ (readL (b.drop a)).1) else
    if 200000 < (out ++ (readL (b.drop a)).1).length then ([], 0, 0, 2) else
    if a + (readL (b.drop a)).2.1 < b.length then (out ++ (readL (b.drop a)).1, a + (readL (b.drop a)).2.1, a + (readL (b.drop a)).2.1, 3) else
    (out ++ (readL (b.drop a)).1, a + (readL (b.drop a)).2.1, 0, 0)
def readC (b : List UInt8) : List UInt8 × Nat × Nat × Nat := readAll b (b.length + 1) 0 []
theorem readL_b (s : List UInt8) : (readL s).2.2 ≤ 2 ∧ ((readL s).2.2 = 0 → (readL s).1.length + 5 ≤ (readL s).2.1 ∧ (readL s).2.1 ≤ s.length) := by
  cases he : numF s 0 0 with
  | mk ok p =>
    obtain ⟨n, i⟩ := p
    cases ok with
    | false => rw [readL_bad he]; simp
    | true =>
      rw [readL_of he]
      have hb1 := begF_b (s.drop i) crlf
      have hb2 := begF_b (s.drop (i + 2 + n)) crlf
      split
      · simp
      · split
        · simp
        · split
          · refine ⟨hb1, fun h => ?_⟩
            rename_i hh
            exact absurd h hh
          · split
            · simp
            · split
              · refine ⟨hb2, fun h => ?_⟩
                rename_i hh
                exact absurd h hh
              · rename_i h
                have hl := begF_len (Classical.not_not.1 h)
                simp only [crlf, List.length_cons, List.length_nil, List.length_drop] at hl
                refine ⟨by simp, fun _ => ⟨?_, ?_⟩⟩
                · simp only [List.length_take, List.length_drop]; omega
                · simp only; omega
def ckReadChunks : Ck
  | [.sl n f] => some (isBy n f ∧ n ≤ 140737488355328, .tup [.sl (readC (bytesOf n f)).1.length (byF (readC (bytesOf n f)).1), .int .i64 (readC (bytesOf n f)).2.1, .int .i64 (readC (bytesOf n f)).2.2.1, .int .i64 (readC (bytesOf n f)).2.2.2])
  | _ => none
theorem conReadChunks : Con pg 34 ckReadChunks := by
  have hct := ctA_ok conReadChunk (ctN_ok pg)
  intro args q r h hq
  unfold ckReadChunks at h
  split at h
  · cases h
    rename_i n f
    refine pcall_args (args' := [.sl (bytesOf n f).length (byF (bytesOf n f))]) ⟨hq.1.vle, trivial⟩ ?_
    have hn : (bytesOf n f).length ≤ 140737488355328 := by rw [bytesOf_len]; exact hq.2
    generalize bytesOf n f = s at hn ⊢
    refine w34 (fun _ => false) [.frz 41] rfl hct rfl rfl ?_
    push_cast (config := { maxSteps := 10000000 })
    refine LoopW.adj ⟨hct, fol⟩ (by kernel_rfl) [.nv 6 41 1 (byF [])] (fun t : Nat × Nat × List UInt8 => [(0, .sl s.length (byF s)), (6, .vec 41 t.2.2.length), (7, .int .i64 t.2.1)]) (fun t => [(41, .vec 1 t.2.2.length (byF t.2.2))]) (fun t => t.2.1 ≤ s.length ∧ t.2.2.length ≤ t.2.1 ∧ s.length - t.2.1 < t.1 ∧ readAll s t.1 t.2.1 t.2.2 = readC s) (fun t => t.1) (s.length + 1, 0, []) ?_ fun t ht => ?_
    · push_cast (config := { maxSteps := 10000000 })
      exact ⟨Nat.zero_le _, Nat.lt_succ_self _, rfl⟩
    · obtain ⟨k, i, l⟩ := t
      obtain ⟨h1, h2, h3, h4⟩ : i ≤ s.length ∧ l.length ≤ i ∧ s.length - i < k ∧ readAll s k i l = readC s := ht
      push_cast (config := { maxSteps := 10000000 })
      obtain ⟨d1, d2⟩ := isBy_drop s i h1
      rw [d2]
      obtain ⟨r1, r2⟩ := readL_b (s.drop i)
      simp only [List.length_drop] at r2
      have bp := ByI.pure (ByI.by l)
      obtain ⟨k, rfl⟩ : ∃ k', k = k' + 1 := ⟨k - 1, by omega⟩
      simp only [readAll] at h4
      generalize readL (s.drop i) = R at h4 r1 r2 ⊢
      obtain ⟨body, long, how⟩ := R
      simp only at h4 r1 r2 ⊢
      have ba := ByI.app (ByI.by l) (ByI.by body) rfl
      refine ⟨h1, ⟨d1, by omega⟩, fun hc => ⟨bp, ?_⟩, fun hc => ⟨fun hd => ⟨bp, ?_⟩, fun hd => ⟨fun he => ⟨bp, ?_⟩, fun he => ⟨by have := r2 (by omega); omega, by have := r2 (by omega); omega, fun hb => ⟨(k, i + long, l ++ body), ⟨by have := r2 (by omega); show i + long ≤ s.length; omega, by have := r2 (by omega); simp; omega, by have := r2 (by omega); show s.length - (i + long) < k; omega, ?_⟩, Nat.lt_succ_self _, ⟨by simp, by simp⟩, ba⟩, fun hb => ⟨fun hl => ⟨ba.pure, ?_⟩, fun hl => ⟨fun hs => ⟨ba.pure, ?_⟩, fun hs => ⟨ba.pure, ?_⟩⟩⟩⟩⟩⟩⟩
      · rw [if_pos (by omega)] at h4
        rw [← h4]; exact ⟨rfl, rfl, rfl, rfl⟩
      · rw [if_neg (by omega), if_pos (by omega), if_pos (by omega)] at h4
        rw [← h4]; exact ⟨⟨rfl, fun _ _ => rfl⟩, rfl, rfl, rfl⟩
      · rw [if_neg (by omega), if_pos (by omega), if_neg (by omega)] at h4
        rw [← h4]; exact ⟨rfl, rfl, rfl, rfl⟩
      · rw [if_neg (by omega), if_neg (by omega), if_pos (by omega)] at h4
        exact h4
      · rw [if_neg (by omega), if_neg (by omega), if_neg (by omega), if_pos (by simp; omega)] at h4
        rw [← h4]; exact ⟨rfl, rfl, rfl, rfl⟩
      · rw [if_neg (by omega), if_neg (by omega), if_neg (by omega), if_neg (by simp; omega), if_pos (by omega)] at h4
        rw [← h4]; exact ⟨ba, by simp, by simp, rfl⟩
      · rw [if_neg (by omega), if_neg (by omega), if_neg (by omega), if_neg (by simp; omega), if_neg (by omega)] at h4
        rw [← h4]; exact ⟨ba, by simp, rfl, rfl⟩
  · cases h
attribute [push_cast] ckReadChunks

theorem tz64_16 (w : World) (hc : w.cell? ⟨7, 15, none⟩ = some (.int .u8 4)) :
    Calls Tryz.prog 195 #[.int .u64 16] w fun e w' => e = .returned (.int .i64 4) ∧ w' = w := by
  have key : IntKind.u64.wrap (bits BinOp.and IntKind.u64 16 (IntKind.u64.wrap (-16)) * 285870213051353865) / 288230376151711744 = 15 := by decide
  go_enter Tryz.func195, Tryz.ntmps195
  go_wp2_with (simp only [key])
  go_ret
  exact ⟨rfl, rfl⟩
def ckTz : Ck
  | [.int .u64 n] => some (n = 16, .int .i64 4)
  | _ => none
theorem conTz64 : Con pg 195 ckTz := by
  intro args q r h hq
  unfold ckTz at h
  split at h
  · cases h
    obtain rfl := hq
    refine pcall_shelf (by kernel_rfl) rfl fun w hw => (tz64_16 w ?_).mono fun e w' h => shelf_int h.1 (grow_eq h.2)
    exact (tabDb64 hw).cell (g := 7) (by kernel_rfl) 15 (by decide)
  · cases h
attribute [push_cast] ckTz
theorem conTz : Con pg 183 ckTz := by
  have hct := (ctA_ok conTz64 (ctN_ok _))
  intro args q r h hq
  unfold ckTz at h
  split at h
  · cases h
    rename_i n
    refine w183 (fun _ => false) [] rfl hct rfl rfl ?_
    push_cast (config := { maxSteps := 10000000 })
    exact hq
  · cases h

def ckPow2 : Ck
  | [.int .i64 n] => some (n = 16, .bool true)
  | _ => none
theorem conPow2 : Con pg 182 ckPow2 := by
  have hct := ctN_ok pg
  intro args q r h hq
  unfold ckPow2 at h
  split at h
  · cases h
    rename_i n
    refine w182 (fun _ => false) [] rfl hct rfl rfl ?_
    push_cast (config := { maxSteps := 10000000 })
    subst hq
    decide
  · cases h
attribute [push_cast] ckPow2
def hexC (n : Nat) : UInt8 := if n < 10 then UInt8.ofNat (48 + n) else UInt8.ofNat (87 + n)
def hexL (u : Nat) : List UInt8 := if h : u < 16 then [hexC u] else hexL (u / 16) ++ [hexC (u % 16)]
termination_by u
decreasing_by omega
def arrV (m : List UInt8) : List V := List.replicate (65 - m.length) (.int .u8 0) ++ m.map fun c => .int .u8 c.toNat
theorem arrV_len {m : List UInt8} (h : m.length ≤ 65) : (arrV m).length = 65 := by simp [arrV]; omega
theorem vle1_refl (x : V) : vle1 x x := by cases x <;> simp [vle1]
theorem vleR_refl (l : List V) : vleR vle1 l l := by
  induction l with
  | nil => trivial
  | cons x l ih => exact ⟨vle1_refl x, ih⟩
theorem setR_arr {m : List UInt8} (h : m.length ≤ 64) (c : UInt8) : setR (arrV m) (64 - m.length) [.int .u8 c.toNat] = arrV (c :: m) := by
  obtain ⟨k, hk⟩ : ∃ k, 64 - m.length = k := ⟨_, rfl⟩
  have e1 : 65 - m.length = k + 1 := by omega
  have e2 : 65 - (c :: m).length = k := by simp; omega
  unfold setR arrV
  rw [e1, e2, hk, List.replicate_succ']
  have t1 : (List.replicate k (V.int .u8 0) ++ [V.int .u8 0] ++ m.map fun c => V.int .u8 c.toNat).take k = List.replicate k (V.int .u8 0) := by
    rw [List.append_assoc, List.take_left' (by simp)]
  have t2 : (List.replicate k (V.int .u8 0) ++ [V.int .u8 0] ++ m.map fun c => V.int .u8 c.toNat).drop (k + [V.int .u8 (c.toNat : Int)].length) = m.map fun c => V.int .u8 c.toNat := by
    rw [List.drop_left' (by simp)]
  rw [t1, t2]
  simp
theorem arrV_at {m : List UInt8} (h : m.length ≤ 65) {i : Nat} (hi : i < m.length) : (arrV m).getD (65 - m.length + i) .any = .int .u8 (m.getD i 0).toNat := by
  unfold arrV
  rw [List.getD_eq_getElem?_getD, List.getElem?_append_right (by simp)]
  simp [hi, List.getD_eq_getElem?_getD]
theorem bytesOf_arr {m : List UInt8} (h : m.length ≤ 65) : bytesOf m.length (fun i => (arrV m).getD (65 - m.length + i) .any) = m := by
  unfold bytesOf
  apply List.ext_getElem
  · simp
  · intro i h1 h2
    simp only [List.getElem_map, List.getElem_range]
    rw [arrV_at h (by simpa using h1)]
    simp only [V.toByte, Int.toNat_natCast]
    rw [List.getD_eq_getElem?_getD, List.getElem?_eq_getElem h2]
    simp
theorem hexC_at : ∀ d, d < 16 → [48, 49, 50, 51, 52, 53, 54, 55, 56, 57, 97, 98, 99, 100, 101, 102, 103, 104, 105, 106, 107, 108, 109, 110, 111, 112, 113, 114, 115, 116, 117, 118, 119, 120, 121, 122].getD d 0 = hexC d := by decide
theorem and15 (u : Nat) (h : u < 18446744073709551616) : bitsI .and .u64 (u : Int) 15 = ((u % 16 : Nat) : Int) := by
  show IntKind.u64.wrap (((BitVec.ofInt 64 (u : Int) &&& BitVec.ofInt 64 15 : BitVec 64).toNat : Nat) : Int) = _
  have e3 : (BitVec.ofInt 64 (u : Int) &&& BitVec.ofInt 64 15 : BitVec 64).toNat = u % 16 := by
    rw [BitVec.ofInt_natCast, BitVec.toNat_and, show (BitVec.ofInt 64 15 : BitVec 64).toNat = 2 ^ 4 - 1 from rfl, BitVec.toNat_ofNat, Nat.mod_eq_of_lt (by omega), Nat.and_two_pow_sub_one_eq_mod]
  rw [e3, IntKind.wrap_u64]
  omega
theorem fdiv16 (u : Nat) : (u : Int).fdiv (2 ^ min 4 IntKind.u64.bits) = ((u / 16 : Nat) : Int) := by
  rw [show (2 : Int) ^ min 4 IntKind.u64.bits = 16 from rfl, Int.fdiv_eq_ediv_of_nonneg _ (by omega)]
  omega
theorem hexL_big {u : Nat} (h : 16 ≤ u) : hexL u = hexL (u / 16) ++ [hexC (u % 16)] := by rw [hexL, dif_neg (by omega)]
theorem hexL_small {u : Nat} (h : u < 16) : hexL u = [hexC u] := by rw [hexL, dif_pos h]
def ckBits : Ck
  | [.nilsl, .int .u64 u, .int .i64 b, .bool g, .bool ap] => some (b = 16 ∧ g = false ∧ ap = false ∧ 0 ≤ u ∧ u < 4294967296, .tup [.nilsl, .str (hexL u.toNat)])
  | _ => none
theorem conBits : Con pg 151 ckBits := by
  have hct := (ctA_ok conPow2 (ctA_ok conTz (ctN_ok _)))
  intro args q r h hq
  unfold ckBits at h
  split at h
  · cases h
    rename_i u b g ap
    refine w151 (fun _ => false) [] rfl hct rfl rfl ?_
    push_cast (config := { maxSteps := 10000000 })
    obtain ⟨rfl, rfl, rfl, hq⟩ := hq
    obtain ⟨n, rfl⟩ : ∃ n : Nat, u = n := ⟨u.toNat, by omega⟩
    push_cast (config := { maxSteps := 10000000 })
    refine LoopW.adj ⟨hct, fol⟩ (by kernel_rfl) [] (fun t : List UInt8 × Nat => [(0, .nilsl), (1, .int .u64 t.2), (3, .bool false), (4, .bool false), (10, .nilsl), (11, .str []), (12, .ptr 12 0), (13, .int .i64 (65 - t.1.length)), (14, .int .u64 4), (15, .int .u64 16), (16, .int .u64 15)]) (fun t => [(12, .cells (arrV t.1))]) (fun t => hexL t.2 ++ t.1 = hexL n ∧ t.1.length ≤ 7 ∧ t.2 < 16 ^ (8 - t.1.length)) (fun t => t.2) ([], n) ?_ fun t ht => ?_
    · push_cast (config := { maxSteps := 10000000 })
      exact ⟨by omega, vleR_refl _⟩
    · obtain ⟨m, u⟩ := t
      obtain ⟨h1, h2, h3⟩ := ht
      simp only at h1 h2 h3
      have hm : (arrV m).length = 65 := arrV_len (by omega)
      have hu : u < 4294967296 := by
        refine Nat.lt_of_lt_of_le h3 (Nat.le_trans (Nat.pow_le_pow_right (by omega) (Nat.sub_le 8 m.length)) (by decide))
      have ek : (65 - (m.length : Int) - 1).toNat = 64 - m.length := by omega
      push_cast (config := { maxSteps := 10000000 })
      rw [and15 u (by omega), fdiv16, ek, hm]
      simp only [Nat.zero_add, Nat.mul_one, Int.toNat_natCast]
      have hmod : u % 16 < 16 := Nat.mod_lt _ (by omega)
      rw [hexC_at _ hmod, setR_arr (by omega), setR_arr (by omega)]
      refine ⟨fun h => ⟨by omega, by omega, by omega, by omega, (hexC (u % 16) :: m, u / 16), ⟨?_, ?_, ?_⟩, by omega, ⟨rfl, by simp; omega⟩, vleR_refl _⟩, fun h => ⟨by omega, by omega, by omega, by omega, by omega, ?_⟩⟩
      · rw [hexL_big (by omega)] at h1; simpa using h1
      · have : m.length ≠ 7 := fun e => by rw [e] at h3; omega
        simp; omega
      · have : m.length ≠ 7 := fun e => by rw [e] at h3; omega
        simp only [List.length_cons]
        obtain ⟨k, hk⟩ : ∃ k, 8 - m.length = k + 1 := ⟨7 - m.length, by omega⟩
        rw [hk, Nat.pow_succ] at h3
        rw [show 8 - (m.length + 1) = k by omega]
        omega
      · have e5 : 65 - (64 - m.length) = (hexC u :: m).length := by rw [List.length_cons]; omega
        have e6 : 64 - m.length = 65 - (hexC u :: m).length := by rw [List.length_cons]; omega
        rw [hexC_at u (by omega), e5]
        rw [hexL_small (by omega)] at h1
        rw [← h1]
        rw [e6]
        have hl : (hexC u :: m).length ≤ 65 := by simp; omega
        refine ⟨⟨by rw [arrV_len hl]; omega, fun i hi => ⟨_, arrV_at hl hi⟩⟩, bytesOf_arr hl⟩
  · cases h
attribute [push_cast] ckBits
def ckFmt : Ck
  | [.int .i64 u, .int .i64 b] => some (b = 16 ∧ 0 ≤ u ∧ u < 4294967296, .str (hexL u.toNat))
  | _ => none
theorem conFmt1 : Con pg 113 ckFmt := by
  have hct := (ctA_ok conBits (ctN_ok _))
  intro args q r h hq
  unfold ckFmt at h
  split at h
  · cases h
    rename_i u b
    refine w113 (fun _ => false) [] rfl hct rfl rfl ?_
    push_cast (config := { maxSteps := 10000000 })
    obtain ⟨rfl, hq⟩ := hq
    push_cast (config := { maxSteps := 10000000 })
    rw [show u % 18446744073709551616 = u by omega]
    exact ⟨⟨by omega, by omega⟩, rfl⟩
  · cases h
attribute [push_cast] ckFmt
theorem conFmt : Con pg 63 ckFmt := by
  have hct := (ctA_ok conFmt1 (ctN_ok _))
  intro args q r h hq
  unfold ckFmt at h
  split at h
  · cases h
    rename_i u b
    refine w63 (fun _ => false) [] rfl hct rfl rfl ?_
    push_cast (config := { maxSteps := 10000000 })
    obtain ⟨rfl, hq⟩ := hq
    push_cast (config := { maxSteps := 10000000 })
    exact hq
  · cases h

def chunksL (k : Nat) (s : List UInt8) : List UInt8 :=
  if h : s = [] ∨ k = 0 then [48, 13, 10, 13, 10] else hexL (min k s.length) ++ [13, 10] ++ s.take (min k s.length) ++ [13, 10] ++ chunksL k (s.drop (min k s.length))
termination_by s.length
decreasing_by
  have : s.length ≠ 0 := fun e => h (.inl (List.length_eq_zero_iff.1 e))
  simp only [List.length_drop]
  omega
def ckChunks0 : Ck
  | [.sl n f, .int .i64 k] => some (isBy n f ∧ n ≤ 1000000 ∧ 1 ≤ k ∧ k ≤ 65536, .sl (chunksL k.toNat (bytesOf n f)).length (byF (chunksL k.toNat (bytesOf n f))))
  | _ => none
theorem hexL_len : ∀ (k u : Nat), u < 16 ^ k → (hexL u).length ≤ k + 1
  | 0, u, h => by rw [hexL_small (by omega)]; simp
  | k + 1, u, h => by
    by_cases h1 : u < 16
    · rw [hexL_small h1]; simp
    · rw [hexL_big (by omega)]
      have := hexL_len k (u / 16) (by rw [Nat.pow_succ] at h; omega)
      simp; omega
theorem chunksL_more {k : Nat} {s : List UInt8} (hs : 0 < s.length) (hk : 0 < k) : chunksL k s = hexL (min k s.length) ++ [13, 10] ++ s.take (min k s.length) ++ [13, 10] ++ chunksL k (s.drop (min k s.length)) := by
  rw [chunksL, dif_neg]
  rintro (h | h)
  · subst h; simp at hs
  · omega
theorem chunksL_len {k : Nat} (h1 : 1 ≤ k) (h2 : k ≤ 65536) : ∀ (n : Nat) (s : List UInt8), s.length ≤ n → (chunksL k s).length ≤ 5 + 11 * s.length := by
  intro n
  induction n with
  | zero =>
    intro s hs
    have : s = [] := List.length_eq_zero_iff.1 (by omega)
    subst this
    rw [chunksL, dif_pos (.inl rfl)]; simp
  | succ n ih =>
    intro s hs
    by_cases h0 : s.length = 0
    · have : s = [] := List.length_eq_zero_iff.1 (by omega)
      subst this
      rw [chunksL, dif_pos (.inl rfl)]; simp
    · rw [chunksL_more (by omega) (by omega)]
      have hx := hexL_len 5 (min k s.length) (by omega)
      have hm : 1 ≤ min k s.length ∧ min k s.length ≤ s.length := by omega
      have := ih (s.drop (min k s.length)) (by simp; omega)
      simp only [List.length_append, List.length_cons, List.length_nil, List.length_take, List.length_drop] at this ⊢
      omega
theorem conChunks0 : Con pg 29 ckChunks0 := by
  have hct := ctA_ok conFmt (ctN_ok pg)
  intro args q r h hq
  unfold ckChunks0 at h
  split at h
  · cases h
    rename_i n f k
    refine pcall_args (args' := [.sl (bytesOf n f).length (byF (bytesOf n f)), .int .i64 k]) ⟨hq.1.vle, VLe.refl _, trivial⟩ ?_
    have hn : (bytesOf n f).length ≤ 1000000 := by rw [bytesOf_len]; exact hq.2.1
    have hk := hq.2.2
    generalize bytesOf n f = s at hn ⊢
    obtain ⟨k, rfl⟩ : ∃ k' : Nat, k = k' := ⟨k.toNat, by omega⟩
    refine w29 (fun _ => false) [.frz 18] rfl hct rfl rfl ?_
    push_cast (config := { maxSteps := 10000000 })
    refine LoopW.adj ⟨hct, fol⟩ (by kernel_rfl) [.nv 5 18 1 (byF [])] (fun t : List UInt8 × List UInt8 => [(0, .sl t.1.length (byF t.1)), (1, .int .i64 k), (5, .vec 18 t.2.length)]) (fun t => [(18, .vec 1 t.2.length (byF t.2))]) (fun t => t.2 ++ chunksL k t.1 = chunksL k s ∧ t.1.length ≤ 1000000) (fun t => t.1.length) (s, []) ?_ fun t ht => ?_
    · push_cast (config := { maxSteps := 10000000 })
      exact hn
    · obtain ⟨r, l⟩ := t
      push_cast (config := { maxSteps := 10000000 })
      obtain ⟨h1, h2⟩ : l ++ chunksL k r = chunksL k s ∧ r.length ≤ 1000000 := ht
      have hl := chunksL_len (k := k) (by omega) (by omega) _ s (Nat.le_refl _)
      have hl2 := congrArg List.length h1
      simp only [List.length_append] at hl2
      have e : min (k : Int) (r.length : Int) = ((min k r.length : Nat) : Int) := by omega
      rw [e]
      simp only [Int.toNat_natCast]
      refine ⟨fun hr => ?_, fun hr => ?_⟩
      · have h3 := chunksL_more (k := k) (s := r) (by omega) (by omega)
        rw [h3] at h1 hl2
        have hx := hexL_len 5 (min k r.length) (by omega)
        have hm : 1 ≤ min k r.length ∧ min k r.length ≤ r.length ∧ min k r.length ≤ 65536 := by omega
        generalize min k r.length = m at *
        have b1 := ByI.app (ByI.by l) (ByI.by (hexL m ++ [13, 10])) (k := l.length + ((hexL m).length + 2)) (by simp)
        have b2 := ByI.app b1 (ByI.sh (l := 0) (k := m) (ByI.by r) (by omega)) rfl
        have b3 := ByI.app b2 (ByI.by [13, 10]) rfl
        have b4 := ByI.sh (l := m) (k := r.length - m) (ByI.by r) (by omega)
        have e4 : (r.drop m).take (r.length - m) = r.drop m := List.take_of_length_le (by simp)
        rw [e4] at b4
        simp only [List.drop_zero] at b3
        simp only [List.length_append, List.length_cons, List.length_nil, List.length_take, Nat.zero_add] at hl2
        refine ⟨by omega, by omega, by omega, by omega, by omega, by omega, by omega, (r.drop m, l ++ (hexL m ++ [13, 10]) ++ r.take m ++ [13, 10]), ⟨?_, by simp; omega⟩, by simp; omega, ⟨b4, b3.1⟩, b3⟩
        rw [← h1]; simp
      · have : r = [] := List.length_eq_zero_iff.1 (by omega)
        subst this
        have h3 : chunksL k [] = [48, 13, 10, 13, 10] := by rw [chunksL, dif_pos (.inl rfl)]
        rw [h3] at h1
        have b := ByI.app (ByI.by l) (ByI.by [48, 13, 10, 13, 10]) (k := l.length + 5) rfl
        have b' := b
        rw [h1] at b'
        push_cast (config := { maxSteps := 10000000 })
        exact ⟨by omega, b.pure, b'⟩
  · cases h
attribute [push_cast] ckChunks0

def chunksR (k : Int) (s : List UInt8) : List UInt8 × Int := if 200000 < s.length then ([], 2) else if k < 1 ∨ 65536 < k then ([], 1) else (chunksL k.toNat s, 0)
def ckChunks : Ck
  | [.sl n f, .int .i64 k] => some (isBy n f, .tup [.sl (chunksR k (bytesOf n f)).1.length (byF (chunksR k (bytesOf n f)).1), .int .i64 (chunksR k (bytesOf n f)).2])
  | _ => none
theorem chunksR_all {k : Int} {n : Nat} {f : Nat → V} (hq : isBy n f) : (200000 < (n : Int) → (chunksR k (bytesOf n f)).fst.length = 0 ∧ 2 = (chunksR k (bytesOf n f)).snd) ∧
    (¬200000 < (n : Int) → (k < 1 ∨ 65536 < k → (chunksR k (bytesOf n f)).fst.length = 0 ∧ 1 = (chunksR k (bytesOf n f)).snd) ∧
        (¬k < 1 ∧ ¬65536 < k → (isBy n f ∧ n ≤ 1000000 ∧ 1 ≤ k ∧ k ≤ 65536) ∧
            ((chunksL k.toNat (bytesOf n f)).length = (chunksR k (bytesOf n f)).fst.length ∧ ∀ (i : Nat), i < (chunksL k.toNat (bytesOf n f)).length → byF (chunksL k.toNat (bytesOf n f)) i = byF (chunksR k (bytesOf n f)).fst i) ∧
              0 = (chunksR k (bytesOf n f)).snd)) := by
  have hl : (bytesOf n f).length = n := bytesOf_len n f
  unfold chunksR
  rw [hl]
  refine ⟨fun h => ?_, fun h => ⟨fun h1 => ?_, fun h1 => ⟨⟨hq, by omega, by omega, by omega⟩, ?_⟩⟩⟩
  · rw [if_pos (by omega)]; exact ⟨rfl, rfl⟩
  · rw [if_neg (by omega), if_pos h1]; exact ⟨rfl, rfl⟩
  · rw [if_neg (by omega), if_neg (by omega)]; exact ⟨⟨rfl, fun _ _ => rfl⟩, rfl⟩
end Go.Abs
