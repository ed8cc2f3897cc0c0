/- what functions of this program compute: contracts, each a function's own -/
import Derived.Test.YtpamahgbkmcpoaaGreatDoorAbsK2
import Derived.Test.YtpamahgbkmcpoaaGreatDoorAbsFacts
import Derived.Test.YtpamahgbkmcpoaaGreatDoorAbsShelf
import Derived.Lib.SlTrimSet
import Derived.Lib.Atoi
import Derived.Lib.Itoa
import Derived.Lib.ItoaNum
import Derived.Lib.AtoiErrMem
import Derived.Lib.Walk
import Derived.Lib.BitFns
import Derived.Lib.TrailingZeros
import Derived.Lib.ItoaLen
namespace Go.Abs
open Go Go.Proofs
set_option maxHeartbeats 4000000
set_option maxRecDepth 100000
set_option linter.unusedVariables false
set_option linter.unusedSimpArgs false
/- own slices of bytes -/
theorem appF_byF (l m : List UInt8) : appF l.length (byF l) (byF m) = byF (l ++ m) := by
  funext i
  simp only [appF, byF]
  by_cases h : i < l.length
  · simp [h, List.getElem?_append_left]
  · simp [h, List.getElem?_append_right (by omega : l.length ≤ i)]
/-- bytes, as they are written into a literal -/
theorem litF_byF {vs : List V} {bs : List UInt8} (h : vs = bs.map fun b => V.int .u8 b.toNat) {i : Nat} (hi : i < bs.length) : litF vs i = byF bs i := by
  subst h
  simp [litF, byF, hi]
theorem appF_lit {l bs : List UInt8} {vs : List V} (h : vs = bs.map fun b => V.int .u8 b.toNat) {i : Nat} (hi : i < l.length + bs.length) : appF l.length (byF l) (litF vs) i = byF (l ++ bs) i := by
  rw [← appF_byF]
  simp only [appF]
  by_cases hl : i < l.length
  · simp [hl]
  · simp only [hl, decide_false, cond_false]
    exact litF_byF h (by omega)
theorem bytesOf_byF (l : List UInt8) : bytesOf l.length (byF l) = l := by
  apply List.ext_getElem?
  intro i
  simp only [bytesOf, byF, V.toByte, Int.toNat_natCast]
  by_cases h : i < l.length
  · simp [h]
  · simp [h]
theorem bytesOf_of {n : Nat} {l : List UInt8} {f : Nat → V} (hn : n = l.length) (h : ∀ i, i < n → f i = byF l i) : bytesOf n f = l := by
  subst hn
  rw [← bytesOf_byF l]
  unfold bytesOf
  simp only [List.length_map, List.length_range]
  apply List.map_congr_left
  intro i hi
  rw [h i (by simpa using hi)]
theorem u8_eq (a b : UInt8) : a = b ↔ (a.toNat : Int) = b.toNat := by rw [← UInt8.toNat_inj]; omega
theorem u8_lt (a : UInt8) : a.toNat < 256 := UInt8.toNat_lt a
theorem drop_at {s : List UInt8} {i : Nat} (h : i < s.length) : s.drop i = s.getD i 0 :: s.drop (i + 1) := by
  rw [List.drop_eq_getElem_cons h, List.getD_eq_getElem?_getD, List.getElem?_eq_getElem h]; rfl
theorem take_one {s : List UInt8} {i : Nat} (h : i < s.length) : (s.drop i).take 1 = [s.getD i 0] := by rw [drop_at h]; rfl
theorem take_next {s : List UInt8} {k : Nat} (h : k < s.length) : s.take (k + 1) = s.take k ++ [s.getD k 0] := by
  rw [List.take_add_one, List.getD_eq_getElem?_getD, List.getElem?_eq_getElem h]; rfl

/-- f's first n are the bytes s -/
def ByI (n : Nat) (f : Nat → V) (s : List UInt8) : Prop := n = s.length ∧ ∀ i, i < n → f i = byF s i
theorem ByI.by (s : List UInt8) : ByI s.length (byF s) s := ⟨rfl, fun _ _ => rfl⟩
theorem ByI.app {n m k : Nat} {f g : Nat → V} {a b : List UInt8} (h1 : ByI n f a) (h2 : ByI m g b) (hk : k = n + m) : ByI k (appF n f g) (a ++ b) := by
  obtain ⟨e1, h1⟩ := h1
  obtain ⟨e2, h2⟩ := h2
  refine ⟨by simp; omega, fun i hi => ?_⟩
  unfold appF
  by_cases h : i < n
  · rw [show decide (i < n) = true from by simp [h], cond_true, h1 i h]
    unfold byF
    rw [List.getD_eq_getElem?_getD, List.getD_eq_getElem?_getD, List.getElem?_append_left (by omega)]
  · rw [show decide (i < n) = false from by simp [h], cond_false, h2 (i - n) (by omega)]
    unfold byF
    rw [List.getD_eq_getElem?_getD, List.getD_eq_getElem?_getD, List.getElem?_append_right (by omega), e1]
theorem ByI.sh {n l k : Nat} {f : Nat → V} {s : List UInt8} (h : ByI n f s) (hk : l + k ≤ n) : ByI k (shF f l) ((s.drop l).take k) := by
  obtain ⟨e, h⟩ := h
  refine ⟨by simp; omega, fun i hi => ?_⟩
  unfold shF
  rw [h (i + l) (by omega)]
  unfold byF
  rw [List.getD_eq_getElem?_getD, List.getD_eq_getElem?_getD, List.getElem?_take_of_lt hi, List.getElem?_drop, Nat.add_comm]
theorem ByI.eq {n : Nat} {f : Nat → V} {s t : List UInt8} (h : ByI n f s) (e : s = t) : ByI n f t := e ▸ h
theorem ByI.len {n m : Nat} {f : Nat → V} {s : List UInt8} (h : ByI n f s) (e : n = m) : ByI m f s := e ▸ h
theorem bytesOf_by (s : List UInt8) : bytesOf s.length (byF s) = s := by
  unfold bytesOf byF
  apply List.ext_getElem
  · simp
  · intro i h1 h2
    simp only [List.getElem_map, List.getElem_range, V.toByte, Int.toNat_natCast]
    rw [List.getD_eq_getElem?_getD, List.getElem?_eq_getElem h2]
    simp
theorem bytesOf_len (n : Nat) (f : Nat → V) : (bytesOf n f).length = n := by simp [bytesOf]
/-- bytes, as they come -/
def isBy (n : Nat) (f : Nat → V) : Prop := ByI n f (bytesOf n f)
theorem isBy.vle {n : Nat} {f : Nat → V} (h : isBy n f) : VLe (.sl n f) (.sl (bytesOf n f).length (byF (bytesOf n f))) := VLe.sl h.1 h.2
theorem isBy_by (s : List UInt8) : isBy s.length (byF s) := by unfold isBy; rw [bytesOf_by]; exact ByI.by s
theorem ByI.bytes {n : Nat} {f : Nat → V} {s : List UInt8} (h : ByI n f s) : bytesOf n f = s := by
  obtain ⟨rfl, h⟩ := h
  have : bytesOf s.length f = bytesOf s.length (byF s) := by
    unfold bytesOf
    exact List.map_congr_left fun i hi => by rw [h i (by simpa using hi)]
  rw [this, bytesOf_by]
theorem ByI.is {n : Nat} {f : Nat → V} {s : List UInt8} (h : ByI n f s) : isBy n f := by unfold isBy; rw [h.bytes]; exact h
theorem ByI.pure {n : Nat} {f : Nat → V} {s : List UInt8} (h : ByI n f s) : ∀ i, i < n → (f i).isPure = true := fun i hi => by rw [h.2 i hi]; rfl
theorem ByI.flat {n : Nat} {f : Nat → V} {s : List UInt8} (h : ByI n f s) : ∀ i, i < n → (f i).flat.length = 1 := fun i hi => by rw [h.2 i hi]; rfl
theorem ByI.bytesP {n : Nat} {f : Nat → V} {s : List UInt8} (h : ByI n f s) : ∀ i, i < n → ∃ m, f i = .int .u8 m := fun i hi => ⟨_, h.2 i hi⟩
attribute [push_cast] UInt8.ofNat_toNat Int.toNat_natCast

theorem isBy_lit {l : List V} (h : ∀ i, i < l.length → ∃ n, l.getD i .any = .int .u8 n ∧ 0 ≤ n ∧ n < 256) : isBy l.length (litF l) := by
  refine ⟨(bytesOf_len _ _).symm, fun i hi => ?_⟩
  obtain ⟨n, e, h0, h1⟩ := h i hi
  have : litF l i = .int .u8 n := e
  rw [this]
  unfold byF bytesOf
  rw [List.getD_eq_getElem?_getD, List.getElem?_map, List.getElem?_range hi]
  simp only [Option.map_some, Option.getD_some, this, V.toByte]
  rw [UInt8.toNat_ofNat']
  congr 1
  omega
theorem shBytes {m : Nat} {v : V} (h : Sh.has (.list (.int .u8)) m v) : ∃ (n : Nat) (f : Nat → V), v = .sl n f ∧ isBy n f ∧ n ≤ reachBytes := by
  obtain ⟨l, ms, rfl, h1, h2, h3, h4⟩ := h
  have wf : ∀ n : Int, (Lit.int .u8 n).wf = true → 0 ≤ n ∧ n < 256 := fun n hn => by
    simp only [Lit.wf, Bool.and_eq_true, decide_eq_true_eq] at hn
    have e1 : IntKind.u8.min = 0 := rfl
    have e2 : IntKind.u8.max = 255 := rfl
    omega
  refine ⟨_, _, rfl, isBy_lit fun i hi => ?_, h3⟩
  obtain ⟨n, e, w, _⟩ := h4 i hi
  exact ⟨n, e, wf n w⟩
theorem hasD3 {H : Type} {s1 s2 s3 : Sh} {ds : List (DataW H)} (h : hasD [s1, s2, s3] ds) : ∃ a b c, ds = [a, b, c] ∧ s1.has (bulkD a) (toV a) ∧ s2.has (bulkD b) (toV b) ∧ s3.has (bulkD c) (toV c) := by
  match ds, h with
  | [a, b, c], ⟨h1, h2, h3, _⟩ => exact ⟨a, b, c, rfl, h1, h2, h3⟩
theorem shInt {k : IntKind} {m : Nat} {v : V} (h : Sh.has (.int k) m v) : ∃ n, v = .int k n ∧ (Lit.int k n).wf = true := by
  obtain ⟨n, e, w, _⟩ := h
  exact ⟨n, e, w⟩

/-- a cutset of ASCII bytes -/
def asciiC (c : List UInt8) : Bool := c.all fun b => decide (b.toNat < 128)
theorem asciiC_at {c : List UInt8} (h : asciiC c = true) : ∀ (j : Nat) b, c[j]? = some b → b.toNat < 128 := by
  intro j b hb
  simp only [asciiC, List.all_eq_true, decide_eq_true_eq] at h
  exact h b (List.mem_of_getElem? hb)
def ckTrim : Ck
  | [.str s, .str c] => some (s.length ≤ 4611686018427387904 ∧ c.length < 4294967281 ∧ asciiC c = true, .str (Lib.trimS s c))
  | _ => none
theorem conTrim : Con pg 86 ckTrim := by
  intro args q r h hq
  unfold ckTrim at h
  split at h
  · cases h
    rename_i s c
    refine pcall_shelf (by kernel_rfl) rfl fun w hw => (Tryz.strings_TrimL ⟨s.toArray⟩ ⟨c.toArray⟩ w ?_ ?_ ?_).mono fun e w' h => ?_
    · show s.toArray.size ≤ _
      have := hq.1
      simp; omega
    · show c.toArray.size < _
      have := hq.2.1
      simp; omega
    · exact asciiC_at hq.2.2
    · exact shelf_str h.1 (grow_below h.2)
  · cases h
attribute [push_cast] ckTrim
@[push_cast] theorem asciiC_nil : asciiC [] = true := rfl
@[push_cast] theorem asciiC_cons (b : UInt8) (c : List UInt8) : asciiC (b :: c) = (decide (b.toNat < 128) && asciiC c) := rfl

theorem conIdxStr : Con pg 159 ckIndexByte := con_IndexByteString (fn := Tryz.f159) (by kernel_rfl) (by kernel_rfl) (by kernel_rfl) (by kernel_rfl) (by kernel_rfl)
theorem conIndexByte1 : Con pg 131 ckIndexByte := by
  intro args q r h hq
  obtain ⟨s, c, rfl, _, rfl⟩ := ckIndexByte_inv h
  refine w131 (fun _ => false) [] rfl (ctA_ok conIdxStr (ctN_ok _)) rfl rfl ?_
  push_cast (config := { maxSteps := 10000000 })
theorem conIndexByte : Con pg 91 ckIndexByte := by
  intro args q r h hq
  obtain ⟨s, c, rfl, _, rfl⟩ := ckIndexByte_inv h
  refine w91 (fun _ => false) [] rfl (ctA_ok conIndexByte1 (ctN_ok _)) rfl rfl ?_
  push_cast (config := { maxSteps := 10000000 })

def tokB (c : UInt8) : Bool := decide (97 ≤ c.toNat ∧ c.toNat ≤ 122 ∨ 65 ≤ c.toNat ∧ c.toNat ≤ 90 ∨ 48 ≤ c.toNat ∧ c.toNat ≤ 57 ∨ 0 ≤ Lib.indexByte [33, 35, 36, 37, 38, 39, 42, 43, 45, 46, 94, 95, 124, 126] c)
def tokL (s : List UInt8) : Bool := decide (1 ≤ s.length) && decide (s.length ≤ 40) && s.all tokB
def ckIsToken : Ck
  | [.str s] => some (True, .bool (tokL s))
  | _ => none
theorem all_at {p : UInt8 → Bool} {s : List UInt8} (h : ∀ j, j < s.length → p (s.getD j 0) = true) : s.all p = true := by
  rw [List.all_eq_true]
  intro x hx
  obtain ⟨j, hj, rfl⟩ := List.getElem_of_mem hx
  have := h j hj
  rwa [List.getD_eq_getElem?_getD, List.getElem?_eq_getElem hj] at this
theorem all_no {p : UInt8 → Bool} {s : List UInt8} {j : Nat} (hj : j < s.length) (h : p (s.getD j 0) = false) : s.all p = false := by
  rw [List.all_eq_false]
  refine ⟨s[j], List.getElem_mem hj, ?_⟩
  rw [List.getD_eq_getElem?_getD, List.getElem?_eq_getElem hj] at h
  simpa using h
theorem conIsToken : Con pg 68 ckIsToken := by
  have hct := (ctA_ok conIndexByte (ctN_ok _))
  intro args q r h hq
  unfold ckIsToken at h
  split at h
  · cases h
    rename_i s
    refine w68 (fun _ => false) [] rfl hct rfl rfl ?_
    push_cast (config := { maxSteps := 10000000 })
    refine ⟨fun h => ?_, fun h => ?_⟩
    · unfold tokL
      rcases h with h | h
      · rw [show decide (1 ≤ s.length) = false from decide_eq_false (by omega)]; rfl
      · rw [show decide (s.length ≤ 40) = false from decide_eq_false (by omega)]; simp
    · have e0 : tokL s = s.all tokB := by
        unfold tokL
        rw [show decide (1 ≤ s.length) = true from decide_eq_true (by omega), show decide (s.length ≤ 40) = true from decide_eq_true (by omega)]; rfl
      rw [e0]
      refine LoopW.adj ⟨hct, fol⟩ (by kernel_rfl) [] (fun i : Nat => [(0, .str s), (14, .int .i64 s.length), (15, .int .i64 i)]) (fun _ => []) (fun i => i ≤ s.length ∧ ∀ j, j < i → tokB (s.getD j 0) = true) (fun i => s.length - i) 0 ?_ fun i hi => ?_
      · push_cast (config := { maxSteps := 10000000 })
        exact ⟨Nat.zero_le _, fun j hj => by omega⟩
      · push_cast (config := { maxSteps := 10000000 })
        obtain ⟨h1, h2⟩ := hi
        refine ⟨fun hw => ⟨hw, fun a => ⟨a, fun b => ⟨a, b⟩⟩, fun a => ⟨a, fun b => ⟨a, b⟩⟩, fun a => ?_, fun a => ⟨by omega, i + 1, ⟨by omega, fun j hj => ?_⟩, by omega, by omega⟩⟩, fun hw => ?_⟩
        · refine (all_no hw (decide_eq_false ?_)).symm
          rintro (b | b | b | b)
          · exact absurd b.2 (by have := a.1.1.1; omega)
          · exact absurd b.2 (by have := a.1.1.2; omega)
          · exact absurd b.2 (by have := a.1.2; omega)
          · exact a.2 b
        · by_cases e : j = i
          · subst e
            refine decide_eq_true ?_
            rcases a with ((a | a) | a) | a
            · exact .inl (by omega)
            · exact .inr (.inl (by omega))
            · exact .inr (.inr (.inl (by omega)))
            · exact .inr (.inr (.inr a))
          · exact h2 j (by omega)
        · exact (all_at fun j hj => h2 j (by omega)).symm
  · cases h
attribute [push_cast] ckIsToken

def ckWithin2b : Ck
  | [.int .i64 n, .int .i64 a, .int .i64 b] => some (True, .bool (decide (a ≤ n) && decide (n ≤ b)))
  | _ => none
theorem conWithin2b : Con pg 30 ckWithin2b := by
  have hct := ctN_ok pg
  intro args q r h hq
  unfold ckWithin2b at h
  split at h
  · cases h
    rename_i n a b
    refine w30 (fun _ => false) [] rfl hct rfl rfl ?_
    push_cast (config := { maxSteps := 10000000 })
  · cases h
attribute [push_cast] ckWithin2b
def ckIsToken2 : Ck
  | [.str s] => some (s.length ≤ 4611686018427387904, .bool (tokL s))
  | _ => none
theorem conIsToken2 : Con pg 93 ckIsToken2 := by
  have hct := (ctA_ok conIndexByte (ctA_ok conWithin2b (ctN_ok _)))
  intro args q r h hq
  unfold ckIsToken2 at h
  split at h
  · cases h
    rename_i s
    refine w93 (fun _ => false) [] rfl hct rfl rfl ?_
    push_cast (config := { maxSteps := 10000000 })
    refine LoopW.adj ⟨hct, fol⟩ (by kernel_rfl) [] (fun i : Nat => [(0, .str s), (3, .int .i64 i)]) (fun _ => []) (fun i => i ≤ s.length ∧ ∀ j, j < i → tokB (s.getD j 0) = true) (fun i => s.length - i) 0 ?_ fun i hi => ?_
    · push_cast (config := { maxSteps := 10000000 })
      exact ⟨Nat.zero_le _, fun j hj => by omega⟩
    · push_cast (config := { maxSteps := 10000000 })
      obtain ⟨h1, h2⟩ := hi
      refine ⟨fun hw => ⟨hw, fun a => ⟨a, fun b => ⟨a, b⟩⟩, fun a => ⟨a, fun b => ⟨a, b⟩⟩, fun a => ?_, fun a => ⟨by omega, i + 1, ⟨by omega, fun j hj => ?_⟩, by omega, by omega⟩⟩, fun hw => ?_⟩
      · have : s.all tokB = false := by
          refine all_no hw (decide_eq_false ?_)
          rintro (b | b | b | b)
          · exact absurd b.2 (by have := a.1.1.1; omega)
          · exact absurd b.2 (by have := a.1.1.2; omega)
          · exact absurd b.2 (by have := a.1.2; omega)
          · have := a.2; omega
        unfold tokL
        rw [this, Bool.and_false]
      · by_cases e : j = i
        · subst e
          refine decide_eq_true ?_
          refine Classical.byContradiction fun hn => ?_
          have n1 : ¬(97 ≤ (s.getD j 0).toNat ∧ (s.getD j 0).toNat ≤ 122) := fun h => hn (.inl h)
          have n2 : ¬(65 ≤ (s.getD j 0).toNat ∧ (s.getD j 0).toNat ≤ 90) := fun h => hn (.inr (.inl h))
          have n3 : ¬(48 ≤ (s.getD j 0).toNat ∧ (s.getD j 0).toNat ≤ 57) := fun h => hn (.inr (.inr (.inl h)))
          have n4 := fun h => hn (.inr (.inr (.inr h)))
          have := a ⟨⟨fun _ => by omega, fun _ => by omega⟩, fun _ => by omega⟩
          exact n4 (by omega)
        · exact h2 j (by omega)
      · unfold tokL
        rw [all_at fun j hj => h2 j (by omega), Bool.and_true]
        congr 1 <;> exact decide_eq_decide.2 (by omega)
  · cases h
attribute [push_cast] ckIsToken2

def lowB (c : UInt8) : UInt8 := if 65 ≤ c.toNat ∧ c.toNat ≤ 90 then UInt8.ofNat (c.toNat + 32) else c
def lowL (s : List UInt8) : List UInt8 := s.map lowB
def ckSmall : Ck
  | [.str s] => some (s.length ≤ 140737488355328, .str (lowL s))
  | _ => none
theorem low_at (s : List UInt8) (i j : Nat) : (lowL (s.take i) ++ s.drop i).getD j 0 = if j < i then (if j < s.length then lowB (s.getD j 0) else 0) else s.getD j 0 := by
  unfold lowL
  simp only [List.getD_eq_getElem?_getD]
  by_cases h : j < s.length
  · by_cases h1 : j < i
    · rw [List.getElem?_append_left (by simp; omega), if_pos h1, if_pos h]
      simp [h1, h]
    · rw [List.getElem?_append_right (by simp; omega), if_neg h1, List.getElem?_drop]
      simp only [List.length_map, List.length_take]
      rw [show i + (j - min i s.length) = j by omega]
  · rw [List.getElem?_eq_none (by simp; omega), List.getElem?_eq_none (by omega), if_neg h]
    split <;> rfl
theorem low_len (s : List UInt8) (i : Nat) : (lowL (s.take i) ++ s.drop i).length = s.length := by simp [lowL]; omega
theorem low_by (s : List UInt8) (i : Nat) {j : Nat} (hj : j < s.length) : byF (lowL (s.take i) ++ s.drop i) j = .int .u8 (if j < i then lowB (s.getD j 0) else s.getD j 0).toNat := by
  unfold byF
  rw [low_at, if_pos hj]
theorem byF_app (s t : List UInt8) (j : Nat) : byF (s ++ t) j = .int .u8 ((s ++ t).getD j 0).toNat := rfl
theorem conSmall : Con pg 101 ckSmall := by
  have hct := ctN_ok pg
  intro args q r h hq
  unfold ckSmall at h
  split at h
  · cases h
    rename_i s
    refine w101 (fun _ => false) [] rfl hct rfl rfl ?_
    push_cast (config := { maxSteps := 10000000 })
    refine LoopW.adj ⟨hct, fol⟩ (by kernel_rfl) [] (fun i : Nat => [(0, .str s), (3, .vec 6 s.length), (4, .int .i64 i)]) (fun i => [(6, .vec 1 s.length (byF (lowL (s.take i) ++ s.drop i)))]) (fun i => i ≤ s.length) (fun i => s.length - i) 0 ?_ fun i hi => ?_
    · push_cast (config := { maxSteps := 10000000 })
      exact ⟨Nat.zero_le _, fun _ _ => rfl⟩
    · push_cast (config := { maxSteps := 10000000 })
      have e := low_at s i i
      rw [if_neg (Nat.lt_irrefl i)] at e
      rw [e]
      refine ⟨fun h => ⟨h, h, fun h1 => ⟨h1, h⟩, fun h1 => ⟨h1, h⟩, fun h1 => ⟨h, h, h, h, by omega, i + 1, by omega, by omega, by omega, fun j hj => ?_⟩, fun h1 => ⟨by omega, i + 1, by omega, by omega, by omega, fun j hj => ?_⟩⟩, fun h => ?_⟩
      · rw [low_by s (i + 1) hj]
        show setF (byF (lowL (List.take i s) ++ List.drop i s)) i (V.int IntKind.u8 ((((s.getD i 0).toNat : Int) + 32) % 256)) j = _
        unfold setF
        by_cases hji : j = i
        · subst hji
          rw [show decide (j = j) = true by simp, cond_true, if_pos (by omega)]
          have : (lowB (s.getD j 0)).toNat = (s.getD j 0).toNat + 32 := by
            unfold lowB
            rw [if_pos (by omega)]
            rw [UInt8.toNat_ofNat']
            omega
          rw [this]
          congr 1
          omega
        · rw [show decide (j = i) = false by simp [hji], cond_false, low_by s i hj]
          by_cases h3 : j < i
          · rw [if_pos h3, if_pos (by omega)]
          · rw [if_neg h3, if_neg (by omega)]
      · rw [low_by s (i + 1) hj, low_by s i hj]
        by_cases hji : j = i
        · subst hji
          rw [if_neg (Nat.lt_irrefl j), if_pos (by omega)]
          have : lowB (s.getD j 0) = s.getD j 0 := by
            unfold lowB
            rw [if_neg (by omega)]
          rw [this]
        · by_cases h3 : j < i
          · rw [if_pos h3, if_pos (by omega)]
          · rw [if_neg h3, if_neg (by omega)]
      · have : i = s.length := by omega
        subst this
        rw [List.take_length, List.drop_eq_nil_of_le (Nat.le_refl _), List.append_nil]
        have := bytesOf_by (lowL s)
        rw [show (lowL s).length = s.length by simp [lowL]] at this
        exact this
  · cases h
attribute [push_cast] ckSmall

theorem conSmallA : Con pg 76 ckSmall := by
  have hct := ctN_ok pg
  intro args q r h hq
  unfold ckSmall at h
  split at h
  · cases h
    rename_i s
    refine w76 (fun _ => false) [] rfl hct rfl rfl ?_
    push_cast (config := { maxSteps := 10000000 })
    refine LoopW.adj ⟨hct, fol⟩ (by kernel_rfl) [] (fun i : Nat => [(3, .vec 7 s.length), (8, .vec 7 s.length), (9, .int .i64 s.length), (10, .int .i64 i)]) (fun i => [(7, .vec 1 s.length (byF (lowL (s.take i) ++ s.drop i)))]) (fun i => i ≤ s.length) (fun i => s.length - i) 0 ?_ fun i hi => ?_
    · push_cast (config := { maxSteps := 10000000 })
      exact ⟨Nat.zero_le _, fun _ _ => rfl⟩
    · push_cast (config := { maxSteps := 10000000 })
      have e := low_at s i i
      rw [if_neg (Nat.lt_irrefl i)] at e
      rw [e]
      refine ⟨fun h => ⟨h, h, fun h1 => ⟨h, h, by omega, i + 1, by omega, by omega, by omega, fun j hj => ?_⟩, fun h1 => ⟨by omega, i + 1, by omega, by omega, by omega, fun j hj => ?_⟩⟩, fun h => ?_⟩
      · rw [low_by s (i + 1) hj]
        show setF (byF (lowL (List.take i s) ++ List.drop i s)) i (V.int IntKind.u8 (((((s.getD i 0).toNat : Int) + 97) % 256 - 65) % 256)) j = _
        unfold setF
        by_cases hji : j = i
        · subst hji
          rw [show decide (j = j) = true by simp, cond_true, if_pos (by omega)]
          have : (lowB (s.getD j 0)).toNat = (s.getD j 0).toNat + 32 := by
            unfold lowB
            rw [if_pos (by omega)]
            rw [UInt8.toNat_ofNat']
            omega
          rw [this]
          congr 1
          omega
        · rw [show decide (j = i) = false by simp [hji], cond_false, low_by s i hj]
          by_cases h3 : j < i
          · rw [if_pos h3, if_pos (by omega)]
          · rw [if_neg h3, if_neg (by omega)]
      · rw [low_by s (i + 1) hj, low_by s i hj]
        by_cases hji : j = i
        · subst hji
          rw [if_neg (Nat.lt_irrefl j), if_pos (by omega)]
          have : lowB (s.getD j 0) = s.getD j 0 := by
            unfold lowB
            rw [if_neg (by omega)]
          rw [this]
        · by_cases h3 : j < i
          · rw [if_pos h3, if_pos (by omega)]
          · rw [if_neg h3, if_neg (by omega)]
      · have : i = s.length := by omega
        subst this
        rw [List.take_length, List.drop_eq_nil_of_le (Nat.le_refl _), List.append_nil]
        have := bytesOf_by (lowL s)
        rw [show (lowL s).length = s.length by simp [lowL]] at this
        exact this
  · cases h

def ckItoa : Ck
  | [.int .i64 n] => some (-9223372036854775808 ≤ n ∧ n ≤ 9223372036854775807, .str (Lib.itoa n))
  | _ => none
theorem conItoa : Con pg 27 ckItoa := by
  intro args q r h hq
  unfold ckItoa at h
  split at h
  · cases h
    refine pcall_shelf (by kernel_rfl) rfl fun w hw => (Tryz.strconv_Itoa _ hq.1 hq.2 w (tabPow hw)).mono fun e w' h => ?_
    obtain ⟨he, k, os, rfl⟩ := h
    exact shelf_str he (grow_drew _ _ _)
  · cases h
attribute [push_cast] ckItoa
def ckRepeat : Ck
  | [.str s, .int .i64 n] => some (0 ≤ n ∧ n ≤ 1000000 ∧ s.length ≤ 1000000, .str (Lib.repeatL s n.toNat))
  | _ => none
theorem conRepeat : Con pg 142 ckRepeat := by
  intro args q r h hq
  unfold ckRepeat at h
  split at h
  · cases h
    rename_i s n
    obtain ⟨k, rfl⟩ : ∃ k : Nat, n = k := ⟨n.toNat, by omega⟩
    refine pcall_shelf (by kernel_rfl) rfl fun w hw => (Tryz.strings_Repeat ⟨s.toArray⟩ k w (by omega) ?_).mono fun e w' h => ?_
    · show s.toArray.size * k ≤ _
      have : s.length * k ≤ 1000000 * 1000000 := Nat.mul_le_mul (by omega) (by omega)
      simp; omega
    · exact shelf_str (by simpa using h.1) (grow_below h.2)
  · cases h
attribute [push_cast] ckRepeat

theorem tz64_16 (w : World) (hc : w.cell? ⟨7, 15, none⟩ = some (.int .u8 4)) :
    Calls Tryz.prog 182 #[.int .u64 16] w fun e w' => e = .returned (.int .i64 4) ∧ w' = w := by
  have key : IntKind.u64.wrap (bits BinOp.and IntKind.u64 16 (IntKind.u64.wrap (-16)) * 285870213051353865) / 288230376151711744 = 15 := by decide
  go_enter Tryz.func182, Tryz.ntmps182
  go_wp2_with (simp only [key])
  go_ret
  exact ⟨rfl, rfl⟩
def ckTz : Ck
  | [.int .u64 n] => some (n = 16, .int .i64 4)
  | _ => none
theorem conTz64 : Con pg 182 ckTz := by
  intro args q r h hq
  unfold ckTz at h
  split at h
  · cases h
    obtain rfl := hq
    refine pcall_shelf (by kernel_rfl) rfl fun w hw => (tz64_16 w ?_).mono fun e w' h => shelf_int h.1 (grow_eq h.2)
    exact (tabDb64 hw).cell (g := 7) (by kernel_rfl) 15 (by decide)
  · cases h
attribute [push_cast] ckTz
theorem conTz : Con pg 166 ckTz := by
  have hct := (ctA_ok conTz64 (ctN_ok _))
  intro args q r h hq
  unfold ckTz at h
  split at h
  · cases h
    rename_i n
    refine w166 (fun _ => false) [] rfl hct rfl rfl ?_
    push_cast (config := { maxSteps := 10000000 })
    exact hq
  · cases h

def ckPow2 : Ck
  | [.int .i64 n] => some (n = 16, .bool true)
  | _ => none
theorem conPow2 : Con pg 165 ckPow2 := by
  have hct := ctN_ok pg
  intro args q r h hq
  unfold ckPow2 at h
  split at h
  · cases h
    rename_i n
    refine w165 (fun _ => false) [] rfl hct rfl rfl ?_
    push_cast (config := { maxSteps := 10000000 })
    subst hq
    decide
  · cases h
attribute [push_cast] ckPow2
def hexC (n : Nat) : UInt8 := if n < 10 then UInt8.ofNat (48 + n) else UInt8.ofNat (87 + n)
def hexL (u : Nat) : List UInt8 := if h : u < 16 then [hexC u] else hexL (u / 16) ++ [hexC (u % 16)]
termination_by u
decreasing_by omega
def arrV (m : List UInt8) : List V := List.replicate (65 - m.length) (.int .u8 0) ++ m.map fun c => .int .u8 c.toNat
theorem arrV_len {m : List UInt8} (h : m.length ≤ 65) : (arrV m).length = 65 := by simp [arrV]; omega
theorem vle1_refl (x : V) : vle1 x x := by cases x <;> simp [vle1]
theorem vleR_refl (l : List V) : vleR vle1 l l := by
  induction l with
  | nil => trivial
  | cons x l ih => exact ⟨vle1_refl x, ih⟩
theorem setR_arr {m : List UInt8} (h : m.length ≤ 64) (c : UInt8) : setR (arrV m) (64 - m.length) [.int .u8 c.toNat] = arrV (c :: m) := by
  obtain ⟨k, hk⟩ : ∃ k, 64 - m.length = k := ⟨_, rfl⟩
  have e1 : 65 - m.length = k + 1 := by omega
  have e2 : 65 - (c :: m).length = k := by simp; omega
  unfold setR arrV
  rw [e1, e2, hk, List.replicate_succ']
  have t1 : (List.replicate k (V.int .u8 0) ++ [V.int .u8 0] ++ m.map fun c => V.int .u8 c.toNat).take k = List.replicate k (V.int .u8 0) := by
    rw [List.append_assoc, List.take_left' (by simp)]
  have t2 : (List.replicate k (V.int .u8 0) ++ [V.int .u8 0] ++ m.map fun c => V.int .u8 c.toNat).drop (k + [V.int .u8 (c.toNat : Int)].length) = m.map fun c => V.int .u8 c.toNat := by
    rw [List.drop_left' (by simp)]
  rw [t1, t2]
  simp
theorem arrV_at {m : List UInt8} (h : m.length ≤ 65) {i : Nat} (hi : i < m.length) : (arrV m).getD (65 - m.length + i) .any = .int .u8 (m.getD i 0).toNat := by
  unfold arrV
  rw [List.getD_eq_getElem?_getD, List.getElem?_append_right (by simp)]
  simp [hi, List.getD_eq_getElem?_getD]
theorem bytesOf_arr {m : List UInt8} (h : m.length ≤ 65) : bytesOf m.length (fun i => (arrV m).getD (65 - m.length + i) .any) = m := by
  unfold bytesOf
  apply List.ext_getElem
  · simp
  · intro i h1 h2
    simp only [List.getElem_map, List.getElem_range]
    rw [arrV_at h (by simpa using h1)]
    simp only [V.toByte, Int.toNat_natCast]
    rw [List.getD_eq_getElem?_getD, List.getElem?_eq_getElem h2]
    simp
theorem hexC_at : ∀ d, d < 16 → [48, 49, 50, 51, 52, 53, 54, 55, 56, 57, 97, 98, 99, 100, 101, 102, 103, 104, 105, 106, 107, 108, 109, 110, 111, 112, 113, 114, 115, 116, 117, 118, 119, 120, 121, 122].getD d 0 = hexC d := by decide
theorem and15 (u : Nat) (h : u < 18446744073709551616) : bitsI .and .u64 (u : Int) 15 = ((u % 16 : Nat) : Int) := by
  show IntKind.u64.wrap (((BitVec.ofInt 64 (u : Int) &&& BitVec.ofInt 64 15 : BitVec 64).toNat : Nat) : Int) = _
  have e3 : (BitVec.ofInt 64 (u : Int) &&& BitVec.ofInt 64 15 : BitVec 64).toNat = u % 16 := by
    rw [BitVec.ofInt_natCast, BitVec.toNat_and, show (BitVec.ofInt 64 15 : BitVec 64).toNat = 2 ^ 4 - 1 from rfl, BitVec.toNat_ofNat, Nat.mod_eq_of_lt (by omega), Nat.and_two_pow_sub_one_eq_mod]
  rw [e3, IntKind.wrap_u64]
  omega
theorem fdiv16 (u : Nat) : (u : Int).fdiv (2 ^ min 4 IntKind.u64.bits) = ((u / 16 : Nat) : Int) := by
  rw [show (2 : Int) ^ min 4 IntKind.u64.bits = 16 from rfl, Int.fdiv_eq_ediv_of_nonneg _ (by omega)]
  omega
theorem hexL_big {u : Nat} (h : 16 ≤ u) : hexL u = hexL (u / 16) ++ [hexC (u % 16)] := by rw [hexL, dif_neg (by omega)]
theorem hexL_small {u : Nat} (h : u < 16) : hexL u = [hexC u] := by rw [hexL, dif_pos h]
def ckBits : Ck
  | [.nilsl, .int .u64 u, .int .i64 b, .bool g, .bool ap] => some (b = 16 ∧ g = false ∧ ap = false ∧ 0 ≤ u ∧ u < 4294967296, .tup [.nilsl, .str (hexL u.toNat)])
  | _ => none
theorem conBits : Con pg 141 ckBits := by
  have hct := (ctA_ok conPow2 (ctA_ok conTz (ctN_ok _)))
  intro args q r h hq
  unfold ckBits at h
  split at h
  · cases h
    rename_i u b g ap
    refine w141 (fun _ => false) [] rfl hct rfl rfl ?_
    push_cast (config := { maxSteps := 10000000 })
    obtain ⟨rfl, rfl, rfl, hq⟩ := hq
    obtain ⟨n, rfl⟩ : ∃ n : Nat, u = n := ⟨u.toNat, by omega⟩
    push_cast (config := { maxSteps := 10000000 })
    refine LoopW.adj ⟨hct, fol⟩ (by kernel_rfl) [] (fun t : List UInt8 × Nat => [(0, .nilsl), (1, .int .u64 t.2), (3, .bool false), (4, .bool false), (10, .nilsl), (11, .str []), (12, .ptr 12 0), (13, .int .i64 (65 - t.1.length)), (14, .int .u64 4), (15, .int .u64 16), (16, .int .u64 15)]) (fun t => [(12, .cells (arrV t.1))]) (fun t => hexL t.2 ++ t.1 = hexL n ∧ t.1.length ≤ 7 ∧ t.2 < 16 ^ (8 - t.1.length)) (fun t => t.2) ([], n) ?_ fun t ht => ?_
    · push_cast (config := { maxSteps := 10000000 })
      exact ⟨by omega, vleR_refl _⟩
    · obtain ⟨m, u⟩ := t
      obtain ⟨h1, h2, h3⟩ := ht
      simp only at h1 h2 h3
      have hm : (arrV m).length = 65 := arrV_len (by omega)
      have hu : u < 4294967296 := by
        refine Nat.lt_of_lt_of_le h3 (Nat.le_trans (Nat.pow_le_pow_right (by omega) (Nat.sub_le 8 m.length)) (by decide))
      have ek : (65 - (m.length : Int) - 1).toNat = 64 - m.length := by omega
      push_cast (config := { maxSteps := 10000000 })
      rw [and15 u (by omega), fdiv16, ek, hm]
      simp only [Nat.zero_add, Nat.mul_one, Int.toNat_natCast]
      have hmod : u % 16 < 16 := Nat.mod_lt _ (by omega)
      rw [hexC_at _ hmod, setR_arr (by omega), setR_arr (by omega)]
      refine ⟨fun h => ⟨by omega, by omega, by omega, by omega, (hexC (u % 16) :: m, u / 16), ⟨?_, ?_, ?_⟩, by omega, ⟨rfl, by simp; omega⟩, vleR_refl _⟩, fun h => ⟨by omega, by omega, by omega, by omega, by omega, ?_⟩⟩
      · rw [hexL_big (by omega)] at h1; simpa using h1
      · have : m.length ≠ 7 := fun e => by rw [e] at h3; omega
        simp; omega
      · have : m.length ≠ 7 := fun e => by rw [e] at h3; omega
        simp only [List.length_cons]
        obtain ⟨k, hk⟩ : ∃ k, 8 - m.length = k + 1 := ⟨7 - m.length, by omega⟩
        rw [hk, Nat.pow_succ] at h3
        rw [show 8 - (m.length + 1) = k by omega]
        omega
      · have e5 : 65 - (64 - m.length) = (hexC u :: m).length := by rw [List.length_cons]; omega
        have e6 : 64 - m.length = 65 - (hexC u :: m).length := by rw [List.length_cons]; omega
        rw [hexC_at u (by omega), e5]
        rw [hexL_small (by omega)] at h1
        rw [← h1]
        rw [e6]
        have hl : (hexC u :: m).length ≤ 65 := by simp; omega
        refine ⟨⟨by rw [arrV_len hl]; omega, fun i hi => ⟨_, arrV_at hl hi⟩⟩, bytesOf_arr hl⟩
  · cases h
attribute [push_cast] ckBits
def ckFmt : Ck
  | [.int .i64 u, .int .i64 b] => some (b = 16 ∧ 0 ≤ u ∧ u < 4294967296, .str (hexL u.toNat))
  | _ => none
theorem conFmt1 : Con pg 100 ckFmt := by
  have hct := (ctA_ok conBits (ctN_ok _))
  intro args q r h hq
  unfold ckFmt at h
  split at h
  · cases h
    rename_i u b
    refine w100 (fun _ => false) [] rfl hct rfl rfl ?_
    push_cast (config := { maxSteps := 10000000 })
    obtain ⟨rfl, hq⟩ := hq
    push_cast (config := { maxSteps := 10000000 })
    rw [show u % 18446744073709551616 = u by omega]
    exact ⟨⟨by omega, by omega⟩, rfl⟩
  · cases h
attribute [push_cast] ckFmt
theorem conFmt : Con pg 61 ckFmt := by
  have hct := (ctA_ok conFmt1 (ctN_ok _))
  intro args q r h hq
  unfold ckFmt at h
  split at h
  · cases h
    rename_i u b
    refine w61 (fun _ => false) [] rfl hct rfl rfl ?_
    push_cast (config := { maxSteps := 10000000 })
    obtain ⟨rfl, hq⟩ := hq
    push_cast (config := { maxSteps := 10000000 })
    exact hq
  · cases h

def chunksL (k : Nat) (s : List UInt8) : List UInt8 :=
  if h : s = [] ∨ k = 0 then [48, 13, 10, 13, 10] else hexL (min k s.length) ++ [13, 10] ++ s.take (min k s.length) ++ [13, 10] ++ chunksL k (s.drop (min k s.length))
termination_by s.length
decreasing_by
  have : s.length ≠ 0 := fun e => h (.inl (List.length_eq_zero_iff.1 e))
  simp only [List.length_drop]
  omega
def ckChunks0 : Ck
  | [.sl n f, .int .i64 k] => some (isBy n f ∧ n ≤ 1000000 ∧ 1 ≤ k ∧ k ≤ 65536, .sl (chunksL k.toNat (bytesOf n f)).length (byF (chunksL k.toNat (bytesOf n f))))
  | _ => none
theorem hexL_len : ∀ (k u : Nat), u < 16 ^ k → (hexL u).length ≤ k + 1
  | 0, u, h => by rw [hexL_small (by omega)]; simp
  | k + 1, u, h => by
    by_cases h1 : u < 16
    · rw [hexL_small h1]; simp
    · rw [hexL_big (by omega)]
      have := hexL_len k (u / 16) (by rw [Nat.pow_succ] at h; omega)
      simp; omega
theorem chunksL_more {k : Nat} {s : List UInt8} (hs : 0 < s.length) (hk : 0 < k) : chunksL k s = hexL (min k s.length) ++ [13, 10] ++ s.take (min k s.length) ++ [13, 10] ++ chunksL k (s.drop (min k s.length)) := by
  rw [chunksL, dif_neg]
  rintro (h | h)
  · subst h; simp at hs
  · omega
theorem chunksL_len {k : Nat} (h1 : 1 ≤ k) (h2 : k ≤ 65536) : ∀ (n : Nat) (s : List UInt8), s.length ≤ n → (chunksL k s).length ≤ 5 + 11 * s.length := by
  intro n
  induction n with
  | zero =>
    intro s hs
    have : s = [] := List.length_eq_zero_iff.1 (by omega)
    subst this
    rw [chunksL, dif_pos (.inl rfl)]; simp
  | succ n ih =>
    intro s hs
    by_cases h0 : s.length = 0
    · have : s = [] := List.length_eq_zero_iff.1 (by omega)
      subst this
      rw [chunksL, dif_pos (.inl rfl)]; simp
    · rw [chunksL_more (by omega) (by omega)]
      have hx := hexL_len 5 (min k s.length) (by omega)
      have hm : 1 ≤ min k s.length ∧ min k s.length ≤ s.length := by omega
      have := ih (s.drop (min k s.length)) (by simp; omega)
      simp only [List.length_append, List.length_cons, List.length_nil, List.length_take, List.length_drop] at this ⊢
      omega
theorem conChunks0 : Con pg 28 ckChunks0 := by
  have hct := ctA_ok conFmt (ctN_ok pg)
  intro args q r h hq
  unfold ckChunks0 at h
  split at h
  · cases h
    rename_i n f k
    refine pcall_args (args' := [.sl (bytesOf n f).length (byF (bytesOf n f)), .int .i64 k]) ⟨hq.1.vle, VLe.refl _, trivial⟩ ?_
    have hn : (bytesOf n f).length ≤ 1000000 := by rw [bytesOf_len]; exact hq.2.1
    have hk := hq.2.2
    generalize bytesOf n f = s at hn ⊢
    obtain ⟨k, rfl⟩ : ∃ k' : Nat, k = k' := ⟨k.toNat, by omega⟩
    refine w28 (fun _ => false) [.frz 18] rfl hct rfl rfl ?_
    push_cast (config := { maxSteps := 10000000 })
    refine LoopW.adj ⟨hct, fol⟩ (by kernel_rfl) [.nv 5 18 1 (byF [])] (fun t : List UInt8 × List UInt8 => [(0, .sl t.1.length (byF t.1)), (1, .int .i64 k), (5, .vec 18 t.2.length)]) (fun t => [(18, .vec 1 t.2.length (byF t.2))]) (fun t => t.2 ++ chunksL k t.1 = chunksL k s ∧ t.1.length ≤ 1000000) (fun t => t.1.length) (s, []) ?_ fun t ht => ?_
    · push_cast (config := { maxSteps := 10000000 })
      exact hn
    · obtain ⟨r, l⟩ := t
      push_cast (config := { maxSteps := 10000000 })
      obtain ⟨h1, h2⟩ : l ++ chunksL k r = chunksL k s ∧ r.length ≤ 1000000 := ht
      have hl := chunksL_len (k := k) (by omega) (by omega) _ s (Nat.le_refl _)
      have hl2 := congrArg List.length h1
      simp only [List.length_append] at hl2
      have e : min (k : Int) (r.length : Int) = ((min k r.length : Nat) : Int) := by omega
      rw [e]
      simp only [Int.toNat_natCast]
      refine ⟨fun hr => ?_, fun hr => ?_⟩
      · have h3 := chunksL_more (k := k) (s := r) (by omega) (by omega)
        rw [h3] at h1 hl2
        have hx := hexL_len 5 (min k r.length) (by omega)
        have hm : 1 ≤ min k r.length ∧ min k r.length ≤ r.length ∧ min k r.length ≤ 65536 := by omega
        generalize min k r.length = m at *
        have b1 := ByI.app (ByI.by l) (ByI.by (hexL m ++ [13, 10])) (k := l.length + ((hexL m).length + 2)) (by simp)
        have b2 := ByI.app b1 (ByI.sh (l := 0) (k := m) (ByI.by r) (by omega)) rfl
        have b3 := ByI.app b2 (ByI.by [13, 10]) rfl
        have b4 := ByI.sh (l := m) (k := r.length - m) (ByI.by r) (by omega)
        have e4 : (r.drop m).take (r.length - m) = r.drop m := List.take_of_length_le (by simp)
        rw [e4] at b4
        simp only [List.drop_zero] at b3
        simp only [List.length_append, List.length_cons, List.length_nil, List.length_take, Nat.zero_add] at hl2
        refine ⟨by omega, by omega, by omega, by omega, by omega, by omega, by omega, (r.drop m, l ++ (hexL m ++ [13, 10]) ++ r.take m ++ [13, 10]), ⟨?_, by simp; omega⟩, by simp; omega, ⟨b4, b3.1⟩, b3⟩
        rw [← h1]; simp
      · have : r = [] := List.length_eq_zero_iff.1 (by omega)
        subst this
        have h3 : chunksL k [] = [48, 13, 10, 13, 10] := by rw [chunksL, dif_pos (.inl rfl)]
        rw [h3] at h1
        have b := ByI.app (ByI.by l) (ByI.by [48, 13, 10, 13, 10]) (k := l.length + 5) rfl
        have b' := b
        rw [h1] at b'
        push_cast (config := { maxSteps := 10000000 })
        exact ⟨by omega, b.pure, b'⟩
  · cases h
attribute [push_cast] ckChunks0

theorem byI_crlf : ByI 2 (litF [V.int IntKind.u8 13, V.int IntKind.u8 10]) [13, 10] := by
  refine ⟨rfl, fun i hi => ?_⟩
  rcases (by omega : i = 0 ∨ i = 1) with rfl | rfl <;> rfl
theorem conRchunks0 : Con pg 34 ckChunks0 := by
  have hct := ctA_ok conFmt (ctN_ok pg)
  intro args q r h hq
  unfold ckChunks0 at h
  split at h
  · cases h
    rename_i n f k
    refine pcall_args (args' := [.sl (bytesOf n f).length (byF (bytesOf n f)), .int .i64 k]) ⟨hq.1.vle, VLe.refl _, trivial⟩ ?_
    have hn : (bytesOf n f).length ≤ 1000000 := by rw [bytesOf_len]; exact hq.2.1
    have hk := hq.2.2
    generalize bytesOf n f = s at hn ⊢
    obtain ⟨k, rfl⟩ : ∃ k' : Nat, k = k' := ⟨k.toNat, by omega⟩
    refine w34 (fun _ => false) [.frz 17] rfl hct rfl rfl ?_
    push_cast (config := { maxSteps := 10000000 })
    refine LoopW.adj ⟨hct, fol⟩ (by kernel_rfl) [.nv 5 17 1 (byF [])] (fun t : List UInt8 × List UInt8 => [(0, .sl t.1.length (byF t.1)), (1, .int .i64 k), (5, .vec 17 t.2.length)]) (fun t => [(17, .vec 1 t.2.length (byF t.2))]) (fun t => t.2 ++ chunksL k t.1 = chunksL k s ∧ t.1.length ≤ 1000000) (fun t => t.1.length) (s, []) ?_ fun t ht => ?_
    · push_cast (config := { maxSteps := 10000000 })
      exact hn
    · obtain ⟨r, l⟩ := t
      push_cast (config := { maxSteps := 10000000 })
      obtain ⟨h1, h2⟩ : l ++ chunksL k r = chunksL k s ∧ r.length ≤ 1000000 := ht
      have hl := chunksL_len (k := k) (by omega) (by omega) _ s (Nat.le_refl _)
      have hl2 := congrArg List.length h1
      simp only [List.length_append] at hl2
      have e : min (k : Int) (r.length : Int) = ((min k r.length : Nat) : Int) := by omega
      rw [e]
      simp only [Int.toNat_natCast]
      refine ⟨fun hr => ?_, fun hr => ?_⟩
      · have h3 := chunksL_more (k := k) (s := r) (by omega) (by omega)
        rw [h3] at h1 hl2
        have hx := hexL_len 5 (min k r.length) (by omega)
        have hm : 1 ≤ min k r.length ∧ min k r.length ≤ r.length ∧ min k r.length ≤ 65536 := by omega
        generalize min k r.length = m at *
        have b1 := ByI.app (ByI.by l) (ByI.by (hexL m)) rfl
        have b2 := ByI.app b1 byI_crlf rfl
        have b2' := ByI.app b2 (ByI.sh (l := 0) (k := m) (ByI.by r) (by omega)) rfl
        have b3 := ByI.app b2' byI_crlf rfl
        have b4 := ByI.sh (l := m) (k := r.length - m) (ByI.by r) (by omega)
        have e4 : (r.drop m).take (r.length - m) = r.drop m := List.take_of_length_le (by simp)
        rw [e4] at b4
        simp only [List.drop_zero] at b3
        simp only [List.length_append, List.length_cons, List.length_nil, List.length_take, Nat.zero_add] at hl2
        refine ⟨by omega, by omega, by omega, by omega, by omega, by omega, by omega, (r.drop m, l ++ hexL m ++ [13, 10] ++ r.take m ++ [13, 10]), ⟨?_, by simp; omega⟩, by simp; omega, ⟨b4, b3.1⟩, b3⟩
        rw [← h1]; simp
      · have : r = [] := List.length_eq_zero_iff.1 (by omega)
        subst this
        have h3 : chunksL k [] = [48, 13, 10, 13, 10] := by rw [chunksL, dif_pos (.inl rfl)]
        rw [h3] at h1
        have b := ByI.app (ByI.by l) (ByI.by [48, 13, 10, 13, 10]) (k := l.length + 5) rfl
        have b' := b
        rw [h1] at b'
        push_cast (config := { maxSteps := 10000000 })
        exact ⟨by omega, b.pure, b'⟩
  · cases h

def ckBEqual : Ck
  | [.sl n f, .sl m g] => some (isBy n f ∧ isBy m g, .bool (bytesOf n f == bytesOf m g))
  | _ => none
theorem isBy.p {n : Nat} {f : Nat → V} (h : isBy n f) : ∀ i, i < n → ∃ m, f i = .int .u8 m := ByI.bytesP h
theorem conBEqual : Con pg 11 ckBEqual := by
  have hct := ctN_ok pg
  intro args q r h hq
  unfold ckBEqual at h
  split at h
  · cases h
    rename_i n f m g
    refine w11 (fun _ => false) [] rfl hct rfl rfl ?_
    push_cast (config := { maxSteps := 10000000 })
    exact ⟨hq.1.p, hq.2.p⟩
  · cases h
attribute [push_cast] ckBEqual

def monthLongI (y m : Int) : Int :=
  if m = 4 ∨ m = 6 ∨ m = 9 ∨ m = 11 then 30 else if m = 2 then (if y % 4 = 0 ∧ (y % 100 ≠ 0 ∨ y % 400 = 0) then 29 else 28) else 31
def ckMonthLong : Ck
  | [.int .i64 y, .int .i64 m] => some (0 ≤ y ∧ y ≤ 1000000, .int .i64 (monthLongI y m))
  | _ => none
theorem conMonthLong : Con pg 122 ckMonthLong := by
  have hct := ctN_ok pg
  intro args q r h hq
  unfold ckMonthLong at h
  split at h
  · cases h
    rename_i y m
    refine w122 (fun _ => false) [] rfl hct rfl rfl ?_
    push_cast (config := { maxSteps := 10000000 })
    unfold monthLongI
    (repeat' (first | apply And.intro | intro _)) <;> (try first | assumption | contradiction | omega | exact rfl | exact trivial)
  · cases h
attribute [push_cast] ckMonthLong
def monthsSum (y : Int) : Nat → Int
  | 0 => 0
  | k + 1 => monthsSum y k + monthLongI y ((k : Int) + 1)
def daysI (y m : Int) : Int := 365 * (y - 1) + (y - 1) / 4 - (y - 1) / 100 + (y - 1) / 400 - 719162 + monthsSum y (m - 1).toNat
theorem monthLongI_b (y m : Int) : 28 ≤ monthLongI y m ∧ monthLongI y m ≤ 31 := by
  unfold monthLongI
  (repeat' (first | apply And.intro | intro _)) <;> (try first | assumption | contradiction | omega | exact rfl | exact trivial)
theorem monthsSum_b (y : Int) (k : Nat) : 0 ≤ monthsSum y k ∧ monthsSum y k ≤ 31 * k := by
  induction k with
  | zero => simp [monthsSum]
  | succ k ih => have := monthLongI_b y ((k : Int) + 1); simp only [monthsSum]; omega
theorem daysI_1 (y : Int) : daysI y 1 = 365 * (y - 1) + (y - 1) / 4 - (y - 1) / 100 + (y - 1) / 400 - 719162 := by
  unfold daysI
  rw [show ((1 : Int) - 1).toNat = 0 from rfl]
  simp only [monthsSum]; omega
attribute [irreducible] daysI
def ckDays : Ck
  | [.int .i64 y, .int .i64 m] => some (1 ≤ y ∧ y ≤ 1000000 ∧ m ≤ 13, .int .i64 (daysI y m))
  | _ => none
theorem conDays : Con pg 88 ckDays := by
  have hct := (ctA_ok conMonthLong (ctN_ok _))
  intro args q r h hq
  unfold ckDays at h
  split at h
  · cases h
    rename_i y m
    refine w88 (fun _ => false) [] rfl hct rfl rfl ?_
    push_cast (config := { maxSteps := 10000000 })
    (repeat (refine ⟨by omega, ?_⟩))
    refine LoopW.adj ⟨hct, fol⟩ (by kernel_rfl) [] (fun k : Nat => [(0, .int .i64 y), (1, .int .i64 m), (6, .int .i64 (daysI y 1 + monthsSum y k)), (7, .int .i64 (k + 1))]) (fun _ => []) (fun k => (k : Int) + 1 ≤ 13 ∧ ((k : Int) + 1 ≤ m ∨ k = 0)) (fun k => 13 - k) 0 ?_ fun k hk => ?_
    · push_cast (config := { maxSteps := 10000000 })
      have e1 : daysI y 1 = 365 * (y - 1) + (y - 1) / 4 - (y - 1) / 100 + (y - 1) / 400 - 719162 := daysI_1 y
      simp only [e1, monthsSum]
      (repeat' (first | apply And.intro | intro _)) <;> (try first | assumption | contradiction | omega | exact rfl | exact trivial)
    · push_cast (config := { maxSteps := 10000000 })
      have := monthsSum_b y k
      have := monthLongI_b y ((k : Int) + 1)
      have e1 : daysI y 1 = 365 * (y - 1) + (y - 1) / 4 - (y - 1) / 100 + (y - 1) / 400 - 719162 := daysI_1 y
      (repeat' (first | apply And.intro | intro _)) <;> (try omega)
      · refine ⟨k + 1, by omega, by omega, ?_, by omega⟩
        simp only [monthsSum]; omega
      · have e2 : (m - 1).toNat = k ∨ (k = 0 ∧ (m - 1).toNat = 0) := by omega
        have e3 : (m - 1).toNat = k := by omega
        rw [e1]
        unfold daysI
        rw [e3]
  · cases h
attribute [push_cast] ckDays

def yearF (d : Int) : Nat → Int → Int
  | 0, y => y
  | n + 1, y => if daysI (y + 1) 1 ≤ d then yearF d n (y + 1) else y
def monthF (y d : Int) : Nat → Int → Int
  | 0, m => m
  | n + 1, m => if m < 12 ∧ daysI y (m + 1) ≤ d then monthF y d n (m + 1) else m
def yearI (d : Int) : Int := yearF d 1000 (1970 + d / 366)
def monthI (d : Int) : Int := monthF (yearI d) d 12 1
def dateI (n : Int) : V := .agg [.int .i64 (yearI (n / 86400)), .int .i64 (monthI (n / 86400)), .int .i64 (n / 86400 - daysI (yearI (n / 86400)) (monthI (n / 86400)) + 1), .int .i64 (n % 86400 / 3600), .int .i64 (n % 86400 / 60 % 60), .int .i64 (n % 86400 % 60)]
def ckDateOf : Ck
  | [.int .i64 n] => some (0 ≤ n ∧ n ≤ 253402300799, dateI n)
  | _ => none
theorem daysI_lo {y d : Int} (h : daysI y 1 ≤ d) (hy : 1 ≤ y) (hd : d ≤ 2932896) : y ≤ 10100 := by
  rw [daysI_1] at h
  omega
theorem daysI_y0 (d : Int) (h0 : 0 ≤ d) (hd : d ≤ 2932896) : daysI (1970 + d / 366) 1 ≤ d := by
  rw [daysI_1]
  omega
theorem daysI_step {y d : Int} (h : daysI y 1 ≤ d) (hy : 1970 + d / 366 ≤ y) (h0 : 0 ≤ d) (hd : d ≤ 2932896) : y ≤ 1970 + d / 366 + 900 := by
  rw [daysI_1] at h
  omega
theorem conDateOf : Con pg 102 ckDateOf := by
  have hct := (ctA_ok conDays (ctN_ok _))
  intro args q r h hq
  unfold ckDateOf at h
  split at h
  · cases h
    rename_i n
    refine w102 (fun _ => false) [] rfl hct rfl rfl ?_
    push_cast (config := { maxSteps := 10000000 })
    (repeat (refine ⟨by omega, ?_⟩))
    generalize hd : n / 86400 = d at *
    have h0 : 0 ≤ d ∧ d ≤ 2932896 := by omega
    refine LoopW.adj ⟨hct, fol⟩ (by kernel_rfl) [] (fun t : Nat => [(2, .ptr 2 0), (3, .int .i64 d), (5, .ptr 5 0)]) (fun t => [(2, .cells [.int .i64 0, .int .i64 0, .int .i64 0, .int .i64 0, .int .i64 0, .int .i64 0]), (5, .cells [.int .i64 (1970 + d / 366 + t), .int .i64 1, .int .i64 0, .int .i64 (n % 86400 / 3600), .int .i64 (n % 86400 / 60 % 60), .int .i64 (n % 86400 % 60)])]) (fun t => daysI (1970 + d / 366 + t) 1 ≤ d ∧ t ≤ 900 ∧ yearF d (1000 - t) (1970 + d / 366 + t) = yearI d) (fun t => 1000 - t) 0 ?_ fun t ht => ?_
    · push_cast (config := { maxSteps := 10000000 })
      have := daysI_y0 d h0.1 h0.2
      simp [this, yearI]
    · push_cast (config := { maxSteps := 10000000 })
      obtain ⟨t1, t2, t3⟩ := ht
      obtain ⟨m, hm⟩ : ∃ m, 1000 - t = m + 1 := ⟨999 - t, by omega⟩
      rw [hm] at t3
      simp only [yearF] at t3
      refine ⟨by omega, by omega, fun h => ⟨by omega, t + 1, ⟨?_, ?_, ?_⟩, by omega, by omega⟩, fun h => ?_⟩
      · rw [show 1970 + d / 366 + ((t + 1 : Nat) : Int) = 1970 + d / 366 + t + 1 by omega]; exact h
      · have := daysI_step h (by omega) h0.1 h0.2; omega
      · rw [if_pos h] at t3
        rw [show 1970 + d / 366 + ((t + 1 : Nat) : Int) = 1970 + d / 366 + t + 1 by omega, show 1000 - (t + 1) = m by omega]; exact t3
      · rw [if_neg h] at t3
        rw [t3]
        have hY : 1970 ≤ yearI d ∧ yearI d ≤ 10999 := by omega
        have hYd : daysI (yearI d) 1 ≤ d := by rw [← t3]; exact t1
        clear t3 h t1
        refine LoopW.adj ⟨hct, fol⟩ (by kernel_rfl) [] (fun t : Nat => [(2, .ptr 2 0), (3, .int .i64 d), (5, .ptr 5 0)]) (fun t => [(2, .cells [.int .i64 0, .int .i64 0, .int .i64 0, .int .i64 0, .int .i64 0, .int .i64 0]), (5, .cells [.int .i64 (yearI d), .int .i64 (1 + t), .int .i64 0, .int .i64 (n % 86400 / 3600), .int .i64 (n % 86400 / 60 % 60), .int .i64 (n % 86400 % 60)])]) (fun t => t ≤ 11 ∧ daysI (yearI d) (1 + t) ≤ d ∧ monthF (yearI d) d (12 - t) (1 + t) = monthI d) (fun t => 12 - t) 0 ?_ fun t ht => ?_
        · push_cast (config := { maxSteps := 10000000 })
          simp [hYd, monthI]
        · push_cast (config := { maxSteps := 10000000 })
          obtain ⟨t1, t2, t3⟩ := ht
          obtain ⟨m, hm⟩ : ∃ m, 12 - t = m + 1 := ⟨11 - t, by omega⟩
          rw [hm] at t3
          simp only [monthF] at t3
          refine ⟨fun h => by omega, fun h => by omega, fun h => ⟨by omega, t + 1, ⟨by omega, ?_, ?_⟩, by omega, by omega⟩, fun h => ⟨by omega, ?_⟩⟩
          · rw [show 1 + ((t + 1 : Nat) : Int) = 1 + t + 1 by omega]; exact h.2
          · rw [if_pos h] at t3
            rw [show 1 + ((t + 1 : Nat) : Int) = 1 + t + 1 by omega, show 12 - (t + 1) = m by omega]; exact t3
          · have h' : ¬(1 + (t : Int) < 12 ∧ daysI (yearI d) (1 + t + 1) ≤ d) := fun hh => h hh.1 hh.2
            rw [if_neg h'] at t3
            unfold dateI
            rw [hd, ← t3]
            have b1 : -800000 ≤ daysI (yearI d) (1 + (t : Int)) ∧ daysI (yearI d) (1 + (t : Int)) ≤ 9000000 := by
              have := monthsSum_b (yearI d) (1 + (t : Int) - 1).toNat
              unfold daysI
              omega
            push_cast (config := { maxSteps := 10000000 })
            (repeat' (first | apply And.intro | intro _)) <;> (try first | assumption | contradiction | omega | exact rfl | exact trivial)
  · cases h
attribute [push_cast] ckDateOf

def paddedL (n k : Int) : List UInt8 := Lib.repeatL [48] (max 0 (k - (Lib.itoa n).length)).toNat ++ Lib.itoa n
def ckPadded : Ck
  | [.int .i64 n, .int .i64 k] => some (-9223372036854775808 ≤ n ∧ n ≤ 9223372036854775807 ∧ 0 ≤ k ∧ k ≤ 1000, .str (paddedL n k))
  | _ => none
theorem paddedL_len {n k : Int} (h1 : -9223372036854775808 ≤ n) (h2 : n ≤ 9223372036854775807) (h3 : 0 ≤ k) (h4 : k ≤ 1000) : (paddedL n k).length ≤ 1021 := by
  have := Lib.itoa_length_le n h1 h2
  unfold paddedL
  simp only [List.length_append, Lib.repeatL_length, List.length_cons, List.length_nil]
  omega
theorem conPadded : Con pg 104 ckPadded := by
  have hct := (ctA_ok conItoa (ctA_ok conRepeat (ctN_ok _)))
  intro args q r h hq
  unfold ckPadded at h
  split at h
  · cases h
    rename_i n k
    refine w104 (fun _ => false) [] rfl hct rfl rfl ?_
    push_cast (config := { maxSteps := 10000000 })
    have := Lib.itoa_length_le n hq.1 hq.2.1
    have e : (Lib.repeatL [48] (max 0 (k - (Lib.itoa n).length)).toNat).length = (max 0 (k - (Lib.itoa n).length)).toNat := by simp [Lib.repeatL_length]
    refine ⟨by omega, by omega, by omega, by omega, rfl⟩
  · cases h
attribute [push_cast] ckPadded
def wdN : List (List UInt8) := [[77, 111, 110], [84, 117, 101], [87, 101, 100], [84, 104, 117], [70, 114, 105], [83, 97, 116], [83, 117, 110]]
def mnN : List (List UInt8) := [[74, 97, 110], [70, 101, 98], [77, 97, 114], [65, 112, 114], [77, 97, 121], [74, 117, 110], [74, 117, 108], [65, 117, 103], [83, 101, 112], [79, 99, 116], [78, 111, 118], [68, 101, 99]]
def ckWeekdays : Ck
  | [] => some (True, .sl 7 fun i => .str (wdN.getD i []))
  | _ => none
theorem conWeekdays : Con pg 103 ckWeekdays := by
  have hct := ctN_ok pg
  intro args q r h hq
  unfold ckWeekdays at h
  split at h
  · cases h
    refine w103 (fun _ => false) [] rfl hct rfl rfl ?_
    push_cast (config := { maxSteps := 10000000 })
    intro i hi
    rcases (by omega : i = 0 ∨ i = 1 ∨ i = 2 ∨ i = 3 ∨ i = 4 ∨ i = 5 ∨ i = 6) with rfl | rfl | rfl | rfl | rfl | rfl | rfl <;> rfl
  · cases h
attribute [push_cast] ckWeekdays
def ckMonths : Ck
  | [] => some (True, .sl 12 fun i => .str (mnN.getD i []))
  | _ => none
theorem conMonths : Con pg 85 ckMonths := by
  have hct := ctN_ok pg
  intro args q r h hq
  unfold ckMonths at h
  split at h
  · cases h
    refine w85 (fun _ => false) [] rfl hct rfl rfl ?_
    push_cast (config := { maxSteps := 10000000 })
    intro i hi
    rcases (by omega : i = 0 ∨ i = 1 ∨ i = 2 ∨ i = 3 ∨ i = 4 ∨ i = 5 ∨ i = 6 ∨ i = 7 ∨ i = 8 ∨ i = 9 ∨ i = 10 ∨ i = 11) with rfl | rfl | rfl | rfl | rfl | rfl | rfl | rfl | rfl | rfl | rfl | rfl <;> rfl
  · cases h
attribute [push_cast] ckMonths
theorem yearF_b (d : Int) : ∀ (n : Nat) (y : Int), daysI y 1 ≤ d → y ≤ yearF d n y ∧ daysI (yearF d n y) 1 ≤ d
  | 0, y, h => ⟨Int.le_refl _, h⟩
  | n + 1, y, h => by
    simp only [yearF]
    split
    · rename_i h1
      have := yearF_b d n (y + 1) h1
      exact ⟨by omega, this.2⟩
    · exact ⟨Int.le_refl _, h⟩
theorem monthF_b (y d : Int) : ∀ (n : Nat) (m : Int), 1 ≤ m → m ≤ 12 → daysI y m ≤ d → 1 ≤ monthF y d n m ∧ monthF y d n m ≤ 12 ∧ daysI y (monthF y d n m) ≤ d
  | 0, m, h1, h2, h => ⟨h1, h2, h⟩
  | n + 1, m, h1, h2, h => by
    simp only [monthF]
    split
    · rename_i h3
      exact monthF_b y d n (m + 1) (by omega) (by omega) h3.2
    · exact ⟨h1, h2, h⟩
theorem date_b {d : Int} (h0 : 0 ≤ d) (h1 : d ≤ 2932896) : 1970 ≤ yearI d ∧ yearI d ≤ 10100 ∧ 1 ≤ monthI d ∧ monthI d ≤ 12 ∧ -800000 ≤ daysI (yearI d) (monthI d) ∧ daysI (yearI d) (monthI d) ≤ d := by
  have a := yearF_b d 1000 _ (daysI_y0 d h0 h1)
  have hy : 1970 ≤ yearI d := by have := a.1; unfold yearI; omega
  have hd : daysI (yearI d) 1 ≤ d := a.2
  have b := monthF_b (yearI d) d 12 1 (by omega) (by omega) hd
  have c := daysI_lo hd (by omega) h1
  refine ⟨hy, c, b.1, b.2.1, ?_, b.2.2⟩
  have := monthsSum_b (yearI d) (monthI d - 1).toNat
  unfold daysI
  omega
theorem wdN_b (i : Nat) : (wdN.getD i []).length ≤ 3 := by
  by_cases h : i < 7
  · rcases (by omega : i = 0 ∨ i = 1 ∨ i = 2 ∨ i = 3 ∨ i = 4 ∨ i = 5 ∨ i = 6) with rfl | rfl | rfl | rfl | rfl | rfl | rfl <;> decide
  · rw [List.getD_eq_getElem?_getD, List.getElem?_eq_none (by simp [wdN]; omega)]; simp
theorem mnN_b (i : Nat) : (mnN.getD i []).length ≤ 3 := by
  by_cases h : i < 12
  · rcases (by omega : i = 0 ∨ i = 1 ∨ i = 2 ∨ i = 3 ∨ i = 4 ∨ i = 5 ∨ i = 6 ∨ i = 7 ∨ i = 8 ∨ i = 9 ∨ i = 10 ∨ i = 11) with rfl | rfl | rfl | rfl | rfl | rfl | rfl | rfl | rfl | rfl | rfl | rfl <;> decide
  · rw [List.getD_eq_getElem?_getD, List.getElem?_eq_none (by simp [mnN]; omega)]; simp
def dateTextL (n : Int) : List UInt8 :=
  let d := n / 86400
  let y := yearI d
  let m := monthI d
  wdN.getD ((d + 3) % 7).toNat [] ++ [44, 32] ++ paddedL (d - daysI y m + 1) 2 ++ [32] ++ mnN.getD (m - 1).toNat [] ++ [32] ++ paddedL y 4 ++ [32] ++ paddedL (n % 86400 / 3600) 2 ++ [58] ++ paddedL (n % 86400 / 60 % 60) 2 ++ [58] ++ paddedL (n % 86400 % 60) 2 ++ [32, 71, 77, 84]
def ckDateText0 : Ck
  | [.int .i64 n] => some (0 ≤ n ∧ n ≤ 253402300799, .str (dateTextL n))
  | _ => none
theorem conDateText0 : Con pg 67 ckDateText0 := by
  have hct := (ctA_ok conDateOf (ctA_ok conWeekdays (ctA_ok conMonths (ctA_ok conPadded (ctN_ok _)))))
  intro args q r h hq
  unfold ckDateText0 at h
  split at h
  · cases h
    rename_i n
    refine w67 (fun _ => false) [] rfl hct rfl rfl ?_
    push_cast (config := { maxSteps := 10000000 })
    (repeat (refine ⟨by omega, ?_⟩))
    unfold dateI
    push_cast (config := { maxSteps := 10000000 })
    have h0 : 0 ≤ n / 86400 ∧ n / 86400 ≤ 2932896 := by omega
    have b := date_b h0.1 h0.2
    have l1 := wdN_b ((n / 86400 + 3) % 7).toNat
    have l2 := mnN_b (monthI (n / 86400) - 1).toNat
    have l3 := paddedL_len (n := n / 86400 - daysI (yearI (n / 86400)) (monthI (n / 86400)) + 1) (k := 2) (by omega) (by omega) (by omega) (by omega)
    have l4 := paddedL_len (n := yearI (n / 86400)) (k := 4) (by omega) (by omega) (by omega) (by omega)
    have l5 := paddedL_len (n := n % 86400 / 3600) (k := 2) (by omega) (by omega) (by omega) (by omega)
    have l6 := paddedL_len (n := n % 86400 / 60 % 60) (k := 2) (by omega) (by omega) (by omega) (by omega)
    have l7 := paddedL_len (n := n % 86400 % 60) (k := 2) (by omega) (by omega) (by omega) (by omega)
    (repeat (refine ⟨by omega, ?_⟩))
    simp [dateTextL]
  · cases h
attribute [push_cast] ckDateText0
def ckIsMoment : Ck
  | [.int .i64 n] => some (True, .bool (decide (0 ≤ n) && decide (n ≤ 253402300799)))
  | _ => none
theorem conIsMoment : Con pg 41 ckIsMoment := by
  have hct := ctN_ok pg
  intro args q r h hq
  unfold ckIsMoment at h
  split at h
  · cases h
    rename_i n
    refine w41 (fun _ => false) [] rfl hct rfl rfl ?_
    push_cast (config := { maxSteps := 10000000 })
    skip
  · cases h
attribute [push_cast] ckIsMoment
def ckDateText : Ck
  | [.int .i64 n] => some (-9223372036854775808 ≤ n ∧ n ≤ 9223372036854775807, .tup [.str (if 0 ≤ n ∧ n ≤ 253402300799 then dateTextL n else []), .int .i64 (if 0 ≤ n ∧ n ≤ 253402300799 then 0 else 1)])
  | _ => none
theorem conDateText : Con pg 35 ckDateText := by
  have hct := (ctA_ok conIsMoment (ctA_ok conDateText0 (ctN_ok _)))
  intro args q r h hq
  unfold ckDateText at h
  split at h
  · cases h
    rename_i n
    refine w35 (fun _ => false) [] rfl hct rfl rfl ?_
    push_cast (config := { maxSteps := 10000000 })
    refine ⟨fun h => ?_, fun h => ?_⟩
    · have h' : ¬(0 ≤ n ∧ n ≤ 253402300799) := fun hh => h hh.1 hh.2
      rw [if_neg h', if_neg h']; exact ⟨rfl, rfl⟩
    · rw [if_pos h, if_pos h]; exact ⟨h, rfl, rfl⟩
  · cases h
attribute [push_cast] ckDateText

def awakeL : List UInt8 := [84, 104, 117, 44, 32, 48, 49, 32, 74, 97, 110, 32, 49, 57, 55, 48, 32, 48, 48, 58, 48, 48, 58, 48, 48, 32, 71, 77, 84]
theorem dateText_0 : dateTextL 0 = awakeL := by
  have e0 : yearI 0 = 1970 := by
    unfold yearI
    rw [show (1970 : Int) + 0 / 366 = 1970 from rfl, show (1000 : Nat) = 999 + 1 from rfl]
    simp only [yearF]
    rw [daysI_1, if_neg (by omega)]
  have e1 : monthI 0 = 1 := by
    unfold monthI
    rw [e0, show (12 : Nat) = 11 + 1 from rfl]
    simp only [monthF]
    rw [if_neg]
    rintro ⟨_, h⟩
    unfold daysI at h
    revert h; decide
  have e2 : daysI 1970 1 = 0 := by rw [daysI_1]; omega
  have i1 : Lib.itoa 1 = [49] := by unfold Lib.itoa; rw [if_neg (by omega)]; exact Lib.decDigits_one (i := 1) (by omega)
  have i0 : Lib.itoa 0 = [48] := by unfold Lib.itoa; rw [if_neg (by omega)]; exact Lib.decDigits_one (i := 0) (by omega)
  have i2 : Lib.itoa 1970 = [49, 57, 55, 48] := by
    unfold Lib.itoa; rw [if_neg (by omega)]
    rw [show (1970 : Int).toNat = 1970 from rfl]
    rw [Lib.decDigits, dif_neg (by omega), Lib.decDigits, dif_neg (by omega), Lib.decDigits_two (by omega) (by omega)]
    rfl
  unfold dateTextL
  rw [show (0 : Int) / 86400 = 0 from rfl]
  simp only [e0, e1, e2]
  unfold paddedL
  rw [show (0 : Int) - 0 + 1 = 1 from rfl, show (0 : Int) % 86400 / 3600 = 0 from rfl, show (0 : Int) % 86400 / 60 % 60 = 0 from rfl, show (0 : Int) % 86400 % 60 = 0 from rfl, i1, i0, i2]
  rfl
def ckAwake2 : Ck
  | [] => some (True, .bool true)
  | _ => none
theorem conAwake2 : Con pg 12 ckAwake2 := by
  have hct := (ctA_ok conDateText (ctN_ok _))
  intro args q r h hq
  unfold ckAwake2 at h
  split at h
  · cases h
    refine w12 (fun _ => false) [] rfl hct rfl rfl ?_
    push_cast (config := { maxSteps := 10000000 })
    rw [dateText_0]
    rfl
  · cases h
attribute [push_cast] ckAwake2

end Go.Abs
