/- what functions of this program compute: contracts, each a function's own -/
import Derived.Test.YtjehocmnedconaaGreatDoorAbsK3
import Derived.Test.YtjehocmnedconaaGreatDoorAbsFacts
import Derived.Test.YtjehocmnedconaaGreatDoorAbsShelf
import Derived.Lib.SlTrimSet
import Derived.Lib.Atoi
import Derived.Lib.Itoa
import Derived.Lib.ItoaNum
import Derived.Lib.AtoiErrMem
import Derived.Lib.Repeat
import Derived.Lib.ItoaLen
import Derived.Lib.SplitLaws
import Derived.Lib.Join
import Derived.Lib.Index
import Derived.Lib.IndexBytes
import Derived.Lib.Fold
import Derived.Lib.Walk
import Derived.WalkKit
import Derived.ScopeJumps
import Derived.Deep.LoopGhost
import Derived.Laws.RangeAny
import Derived.Lib.BitFns
import Derived.Lib.TrailingZeros
import Derived.Sort.Walk0
namespace Go.Abs
open Go Go.Proofs
set_option maxHeartbeats 4000000
set_option maxRecDepth 100000
set_option linter.unusedVariables false
set_option linter.unusedSimpArgs false
theorem u8_eq (a b : UInt8) : a = b ↔ (a.toNat : Int) = b.toNat := by rw [← UInt8.toNat_inj]; omega
theorem u8_lt (a : UInt8) : a.toNat < 256 := UInt8.toNat_lt a
theorem drop_at {s : List UInt8} {i : Nat} (h : i < s.length) : s.drop i = s.getD i 0 :: s.drop (i + 1) := by
  rw [List.drop_eq_getElem_cons h, List.getD_eq_getElem?_getD, List.getElem?_eq_getElem h]; rfl
def ByI (n : Nat) (f : Nat → V) (s : List UInt8) : Prop := n = s.length ∧ ∀ i, i < n → f i = byF s i
theorem ByI.by (s : List UInt8) : ByI s.length (byF s) s := ⟨rfl, fun _ _ => rfl⟩
theorem ByI.app {n m k : Nat} {f g : Nat → V} {a b : List UInt8} (h1 : ByI n f a) (h2 : ByI m g b) (hk : k = n + m) : ByI k (appF n f g) (a ++ b) := by
  obtain ⟨e1, h1⟩ := h1
  obtain ⟨e2, h2⟩ := h2
  refine ⟨by simp; omega, fun i hi => ?_⟩
  unfold appF
  by_cases h : i < n
  · rw [show decide (i < n) = true from by simp [h], cond_true, h1 i h]
    unfold byF
    rw [List.getD_eq_getElem?_getD, List.getD_eq_getElem?_getD, List.getElem?_append_left (by omega)]
  · rw [show decide (i < n) = false from by simp [h], cond_false, h2 (i - n) (by omega)]
    unfold byF
    rw [List.getD_eq_getElem?_getD, List.getD_eq_getElem?_getD, List.getElem?_append_right (by omega), e1]
theorem ByI.sh {n l k : Nat} {f : Nat → V} {s : List UInt8} (h : ByI n f s) (hk : l + k ≤ n) : ByI k (shF f l) ((s.drop l).take k) := by
  obtain ⟨e, h⟩ := h
  refine ⟨by simp; omega, fun i hi => ?_⟩
  unfold shF
  rw [h (i + l) (by omega)]
  unfold byF
  rw [List.getD_eq_getElem?_getD, List.getD_eq_getElem?_getD, List.getElem?_take_of_lt hi, List.getElem?_drop, Nat.add_comm]
theorem ByI.eq {n : Nat} {f : Nat → V} {s t : List UInt8} (h : ByI n f s) (e : s = t) : ByI n f t := e ▸ h
theorem ByI.len {n m : Nat} {f : Nat → V} {s : List UInt8} (h : ByI n f s) (e : n = m) : ByI m f s := e ▸ h
theorem bytesOf_by (s : List UInt8) : bytesOf s.length (byF s) = s := by
  unfold bytesOf byF
  apply List.ext_getElem
  · simp
  · intro i h1 h2
    simp only [List.getElem_map, List.getElem_range, V.toByte, Int.toNat_natCast]
    rw [List.getD_eq_getElem?_getD, List.getElem?_eq_getElem h2]
    simp
theorem bytesOf_len (n : Nat) (f : Nat → V) : (bytesOf n f).length = n := by simp [bytesOf]
def isBy (n : Nat) (f : Nat → V) : Prop := ByI n f (bytesOf n f)
theorem isBy.vle {n : Nat} {f : Nat → V} (h : isBy n f) : VLe (.sl n f) (.sl (bytesOf n f).length (byF (bytesOf n f))) := VLe.sl h.1 h.2
theorem isBy_by (s : List UInt8) : isBy s.length (byF s) := by unfold isBy; rw [bytesOf_by]; exact ByI.by s
theorem ByI.bytes {n : Nat} {f : Nat → V} {s : List UInt8} (h : ByI n f s) : bytesOf n f = s := by
  obtain ⟨rfl, h⟩ := h
  have : bytesOf s.length f = bytesOf s.length (byF s) := by
    unfold bytesOf
    exact List.map_congr_left fun i hi => by rw [h i (by simpa using hi)]
  rw [this, bytesOf_by]
theorem ByI.is {n : Nat} {f : Nat → V} {s : List UInt8} (h : ByI n f s) : isBy n f := by unfold isBy; rw [h.bytes]; exact h
theorem ByI.pure {n : Nat} {f : Nat → V} {s : List UInt8} (h : ByI n f s) : ∀ i, i < n → (f i).isPure = true := fun i hi => by rw [h.2 i hi]; rfl
theorem ByI.flat {n : Nat} {f : Nat → V} {s : List UInt8} (h : ByI n f s) : ∀ i, i < n → (f i).flat.length = 1 := fun i hi => by rw [h.2 i hi]; rfl
theorem ByI.bytesP {n : Nat} {f : Nat → V} {s : List UInt8} (h : ByI n f s) : ∀ i, i < n → ∃ m, f i = .int .u8 m := fun i hi => ⟨_, h.2 i hi⟩
attribute [push_cast] UInt8.ofNat_toNat Int.toNat_natCast
theorem isBy_lit {l : List V} (h : ∀ i, i < l.length → ∃ n, l.getD i .any = .int .u8 n ∧ 0 ≤ n ∧ n < 256) : isBy l.length (litF l) := by
  refine ⟨(bytesOf_len _ _).symm, fun i hi => ?_⟩
  obtain ⟨n, e, h0, h1⟩ := h i hi
  have : litF l i = .int .u8 n := e
  rw [this]
  unfold byF bytesOf
  rw [List.getD_eq_getElem?_getD, List.getElem?_map, List.getElem?_range hi]
  simp only [Option.map_some, Option.getD_some, this, V.toByte]
  rw [UInt8.toNat_ofNat']
  congr 1
  omega
theorem shBytes {m : Nat} {v : V} (h : Sh.has (.list (.int .u8)) m v) : ∃ (n : Nat) (f : Nat → V), v = .sl n f ∧ isBy n f ∧ n ≤ reachBytes := by
  obtain ⟨l, ms, rfl, h1, h2, h3, h4⟩ := h
  have wf : ∀ n : Int, (Lit.int .u8 n).wf = true → 0 ≤ n ∧ n < 256 := fun n hn => by
    simp only [Lit.wf, Bool.and_eq_true, decide_eq_true_eq] at hn
    have e1 : IntKind.u8.min = 0 := rfl
    have e2 : IntKind.u8.max = 255 := rfl
    omega
  refine ⟨_, _, rfl, isBy_lit fun i hi => ?_, h3⟩
  obtain ⟨n, e, w, _⟩ := h4 i hi
  exact ⟨n, e, wf n w⟩
theorem shInt {k : IntKind} {m : Nat} {v : V} (h : Sh.has (.int k) m v) : ∃ n, v = .int k n ∧ (Lit.int k n).wf = true := by
  obtain ⟨n, e, w, _⟩ := h
  exact ⟨n, e, w⟩
def ckWithinX : Ck
  | [.int .i64 n, .int .i64 a, .int .i64 b] => some (True, .bool (decide (a ≤ n) && decide (n ≤ b)))
  | _ => none
theorem conWithinX : Con pg 111 ckWithinX := by
  have hct := ctN_ok pg
  intro args q r h hq
  unfold ckWithinX at h
  split at h
  · cases h
    rename_i n a b
    refine w111 (fun _ => false) [] rfl hct rfl rfl ?_
    push_cast (config := { maxSteps := 10000000 })
    done
  · cases h
attribute [push_cast] ckWithinX
def wordC (c : UInt8) : Bool := decide (33 ≤ c.toNat) && decide (c.toNat ≤ 126)
def isWordL (s : List UInt8) (m : Int) : Bool := s.all wordC && (decide (1 ≤ s.length) && decide ((s.length : Int) ≤ m))
def ckIsWord : Ck
  | [.str s, .int .i64 m] => some (s.length ≤ 140737488355328, .bool (isWordL s m))
  | _ => none
theorem conIsWord : Con pg 58 ckIsWord := by
  have hct := (ctA_ok conWithinX (ctN_ok _))
  intro args q r h hq
  unfold ckIsWord at h
  split at h
  · cases h
    rename_i s m
    refine w58 (fun _ => false) [] rfl hct rfl rfl ?_
    push_cast (config := { maxSteps := 10000000 })
    refine LoopW.adj ⟨hct, fol⟩ (by kernel_rfl) [] (fun i : Nat => [(0, .str s), (1, .int .i64 m), (7, .int .i64 s.length), (8, .int .i64 i)]) (fun _ => []) (fun i => i ≤ s.length ∧ ∀ j, j < i → wordC (s.getD j 0) = true) (fun i => s.length - i) 0 ?_ fun i hi => ?_
    · push_cast (config := { maxSteps := 10000000 })
      exact ⟨Nat.zero_le _, fun j hj => absurd hj (Nat.not_lt_zero j)⟩
    · push_cast (config := { maxSteps := 10000000 })
      obtain ⟨h1, h2⟩ := hi
      refine ⟨fun hl => ⟨hl, fun h => ⟨h, hl⟩, fun h => ?_, fun h => ⟨⟨by omega, by omega⟩, i + 1, ⟨by omega, fun j hj => ?_⟩, by omega, by omega⟩⟩, fun hl => ?_⟩
      · unfold isWordL
        have : s.all wordC = false := by
          rw [List.all_eq_false]
          refine ⟨s[i], List.getElem_mem hl, ?_⟩
          have e : s[i] = s.getD i 0 := by rw [List.getD_eq_getElem?_getD, List.getElem?_eq_getElem hl]; rfl
          rw [e]
          unfold wordC
          simp only [Bool.and_eq_true, decide_eq_true_eq]
          omega
        rw [this, Bool.false_and]
      · by_cases e : j = i
        · subst e
          unfold wordC
          simp only [Bool.and_eq_true, decide_eq_true_eq]
          omega
        · exact h2 j (by omega)
      · unfold isWordL
        have : s.all wordC = true := by
          rw [List.all_eq_true]
          intro x hx
          obtain ⟨j, hj, rfl⟩ := List.getElem_of_mem hx
          have := h2 j (by omega)
          rw [List.getD_eq_getElem?_getD, List.getElem?_eq_getElem hj] at this
          exact this
        rw [this, Bool.true_and, Bool.eq_iff_iff]
        simp only [Bool.and_eq_true, decide_eq_true_eq]
        omega
  · cases h
attribute [push_cast] ckIsWord
def asciiC (c : List UInt8) : Bool := c.all fun b => decide (b.toNat < 128)
theorem asciiC_at {c : List UInt8} (h : asciiC c = true) : ∀ (j : Nat) b, c[j]? = some b → b.toNat < 128 := by
  intro j b hb
  simp only [asciiC, List.all_eq_true, decide_eq_true_eq] at h
  exact h b (List.mem_of_getElem? hb)
def ckTrim : Ck
  | [.str s, .str c] => some (s.length ≤ 4611686018427387904 ∧ c.length < 4294967281 ∧ asciiC c = true, .str (Lib.trimS s c))
  | _ => none
theorem conTrim : Con pg 51 ckTrim := by
  intro args q r h hq
  unfold ckTrim at h
  split at h
  · cases h
    rename_i s c
    refine pcall_shelf (by kernel_rfl) rfl fun w hw => (Tryz.strings_TrimL ⟨s.toArray⟩ ⟨c.toArray⟩ w ?_ ?_ ?_).mono fun e w' h => ?_
    · show s.toArray.size ≤ _
      have := hq.1
      simp; omega
    · show c.toArray.size < _
      have := hq.2.1
      simp; omega
    · exact asciiC_at hq.2.2
    · exact shelf_str h.1 (grow_below h.2)
  · cases h
attribute [push_cast] ckTrim
@[push_cast] theorem asciiC_nil : asciiC [] = true := rfl
@[push_cast] theorem asciiC_cons (b : UInt8) (c : List UInt8) : asciiC (b :: c) = (decide (b.toNat < 128) && asciiC c) := rfl
theorem conIdxStr : Con pg 223 ckIndexByte := con_IndexByteString (fn := Tryz.f223) (by kernel_rfl) (by kernel_rfl) (by kernel_rfl) (by kernel_rfl) (by kernel_rfl)
theorem conIndexByte1 : Con pg 205 ckIndexByte := by
  intro args q r h hq
  obtain ⟨s, c, rfl, _, rfl⟩ := ckIndexByte_inv h
  refine w205 (fun _ => false) [] rfl (ctA_ok conIdxStr (ctN_ok _)) rfl rfl ?_
  push_cast (config := { maxSteps := 10000000 })
theorem conIndexByte : Con pg 162 ckIndexByte := by
  intro args q r h hq
  obtain ⟨s, c, rfl, _, rfl⟩ := ckIndexByte_inv h
  refine w162 (fun _ => false) [] rfl (ctA_ok conIndexByte1 (ctN_ok _)) rfl rfl ?_
  push_cast (config := { maxSteps := 10000000 })
def tokB (c : UInt8) : Bool := decide (97 ≤ c.toNat ∧ c.toNat ≤ 122 ∨ 65 ≤ c.toNat ∧ c.toNat ≤ 90 ∨ 48 ≤ c.toNat ∧ c.toNat ≤ 57 ∨ 0 ≤ Lib.indexByte [33, 35, 36, 37, 38, 39, 42, 43, 45, 46, 94, 95, 124, 126] c)
def tokL (s : List UInt8) : Bool := decide (1 ≤ s.length) && decide (s.length ≤ 40) && s.all tokB
def ckIsToken : Ck
  | [.str s] => some (True, .bool (tokL s))
  | _ => none
theorem all_at {p : UInt8 → Bool} {s : List UInt8} (h : ∀ j, j < s.length → p (s.getD j 0) = true) : s.all p = true := by
  rw [List.all_eq_true]
  intro x hx
  obtain ⟨j, hj, rfl⟩ := List.getElem_of_mem hx
  have := h j hj
  rwa [List.getD_eq_getElem?_getD, List.getElem?_eq_getElem hj] at this
theorem all_no {p : UInt8 → Bool} {s : List UInt8} {j : Nat} (hj : j < s.length) (h : p (s.getD j 0) = false) : s.all p = false := by
  rw [List.all_eq_false]
  refine ⟨s[j], List.getElem_mem hj, ?_⟩
  rw [List.getD_eq_getElem?_getD, List.getElem?_eq_getElem hj] at h
  simpa using h
theorem conIsToken : Con pg 129 ckIsToken := by
  have hct := (ctA_ok conIndexByte (ctN_ok _))
  intro args q r h hq
  unfold ckIsToken at h
  split at h
  · cases h
    rename_i s
    refine w129 (fun _ => false) [] rfl hct rfl rfl ?_
    push_cast (config := { maxSteps := 10000000 })
    refine ⟨fun h => ?_, fun h => ?_⟩
    · unfold tokL
      rcases h with h | h
      · rw [show decide (1 ≤ s.length) = false from decide_eq_false (by omega)]; rfl
      · rw [show decide (s.length ≤ 40) = false from decide_eq_false (by omega)]; simp
    · have e0 : tokL s = s.all tokB := by
        unfold tokL
        rw [show decide (1 ≤ s.length) = true from decide_eq_true (by omega), show decide (s.length ≤ 40) = true from decide_eq_true (by omega)]; rfl
      rw [e0]
      refine LoopW.adj ⟨hct, fol⟩ (by kernel_rfl) [] (fun i : Nat => [(0, .str s), (14, .int .i64 s.length), (15, .int .i64 i)]) (fun _ => []) (fun i => i ≤ s.length ∧ ∀ j, j < i → tokB (s.getD j 0) = true) (fun i => s.length - i) 0 ?_ fun i hi => ?_
      · push_cast (config := { maxSteps := 10000000 })
        exact ⟨Nat.zero_le _, fun j hj => by omega⟩
      · push_cast (config := { maxSteps := 10000000 })
        obtain ⟨h1, h2⟩ := hi
        refine ⟨fun hw => ⟨hw, fun a => ⟨a, fun b => ⟨a, b⟩⟩, fun a => ⟨a, fun b => ⟨a, b⟩⟩, fun a => ?_, fun a => ⟨by omega, i + 1, ⟨by omega, fun j hj => ?_⟩, by omega, by omega⟩⟩, fun hw => ?_⟩
        · refine (all_no hw (decide_eq_false ?_)).symm
          rintro (b | b | b | b)
          · exact absurd b.2 (by have := a.1.1.1; omega)
          · exact absurd b.2 (by have := a.1.1.2; omega)
          · exact absurd b.2 (by have := a.1.2; omega)
          · exact a.2 b
        · by_cases e : j = i
          · subst e
            refine decide_eq_true ?_
            rcases a with ((a | a) | a) | a
            · exact .inl (by omega)
            · exact .inr (.inl (by omega))
            · exact .inr (.inr (.inl (by omega)))
            · exact .inr (.inr (.inr a))
          · exact h2 j (by omega)
        · exact (all_at fun j hj => h2 j (by omega)).symm
  · cases h
attribute [push_cast] ckIsToken
def lowB (c : UInt8) : UInt8 := if 65 ≤ c.toNat ∧ c.toNat ≤ 90 then UInt8.ofNat (c.toNat + 32) else c
def lowL (s : List UInt8) : List UInt8 := s.map lowB
def ckSmall : Ck
  | [.str s] => some (s.length ≤ 140737488355328, .str (lowL s))
  | _ => none
theorem low_at (s : List UInt8) (i j : Nat) : (lowL (s.take i) ++ s.drop i).getD j 0 = if j < i then (if j < s.length then lowB (s.getD j 0) else 0) else s.getD j 0 := by
  unfold lowL
  simp only [List.getD_eq_getElem?_getD]
  by_cases h : j < s.length
  · by_cases h1 : j < i
    · rw [List.getElem?_append_left (by simp; omega), if_pos h1, if_pos h]
      simp [h1, h]
    · rw [List.getElem?_append_right (by simp; omega), if_neg h1, List.getElem?_drop]
      simp only [List.length_map, List.length_take]
      rw [show i + (j - min i s.length) = j by omega]
  · rw [List.getElem?_eq_none (by simp; omega), List.getElem?_eq_none (by omega), if_neg h]
    split <;> rfl
theorem low_by (s : List UInt8) (i : Nat) {j : Nat} (hj : j < s.length) : byF (lowL (s.take i) ++ s.drop i) j = .int .u8 (if j < i then lowB (s.getD j 0) else s.getD j 0).toNat := by
  unfold byF
  rw [low_at, if_pos hj]
attribute [push_cast] ckSmall
theorem conSmallA : Con pg 86 ckSmall := by
  have hct := ctN_ok pg
  intro args q r h hq
  unfold ckSmall at h
  split at h
  · cases h
    rename_i s
    refine w86 (fun _ => false) [] rfl hct rfl rfl ?_
    push_cast (config := { maxSteps := 10000000 })
    refine LoopW.adj ⟨hct, fol⟩ (by kernel_rfl) [] (fun i : Nat => [(3, .vec 7 s.length), (8, .vec 7 s.length), (9, .int .i64 s.length), (10, .int .i64 i)]) (fun i => [(7, .vec 1 s.length (byF (lowL (s.take i) ++ s.drop i)))]) (fun i => i ≤ s.length) (fun i => s.length - i) 0 ?_ fun i hi => ?_
    · push_cast (config := { maxSteps := 10000000 })
      exact ⟨Nat.zero_le _, fun _ _ => rfl⟩
    · push_cast (config := { maxSteps := 10000000 })
      have e := low_at s i i
      rw [if_neg (Nat.lt_irrefl i)] at e
      rw [e]
      refine ⟨fun h => ⟨h, h, fun h1 => ⟨h, h, by omega, i + 1, by omega, by omega, by omega, fun j hj => ?_⟩, fun h1 => ⟨by omega, i + 1, by omega, by omega, by omega, fun j hj => ?_⟩⟩, fun h => ?_⟩
      · rw [low_by s (i + 1) hj]
        show setF (byF (lowL (List.take i s) ++ List.drop i s)) i (V.int IntKind.u8 (((((s.getD i 0).toNat : Int) + 97) % 256 - 65) % 256)) j = _
        unfold setF
        by_cases hji : j = i
        · subst hji
          rw [show decide (j = j) = true by simp, cond_true, if_pos (by omega)]
          have : (lowB (s.getD j 0)).toNat = (s.getD j 0).toNat + 32 := by
            unfold lowB
            rw [if_pos (by omega)]
            rw [UInt8.toNat_ofNat']
            omega
          rw [this]
          congr 1
          omega
        · rw [show decide (j = i) = false by simp [hji], cond_false, low_by s i hj]
          by_cases h3 : j < i
          · rw [if_pos h3, if_pos (by omega)]
          · rw [if_neg h3, if_neg (by omega)]
      · rw [low_by s (i + 1) hj, low_by s i hj]
        by_cases hji : j = i
        · subst hji
          rw [if_neg (Nat.lt_irrefl j), if_pos (by omega)]
          have : lowB (s.getD j 0) = s.getD j 0 := by
            unfold lowB
            rw [if_neg (by omega)]
          rw [this]
        · by_cases h3 : j < i
          · rw [if_pos h3, if_pos (by omega)]
          · rw [if_neg h3, if_neg (by omega)]
      · have : i = s.length := by omega
        subst this
        rw [List.take_length, List.drop_eq_nil_of_le (Nat.le_refl _), List.append_nil]
        have := bytesOf_by (lowL s)
        rw [show (lowL s).length = s.length by simp [lowL]] at this
        exact this
  · cases h
def ckItoa : Ck
  | [.int .i64 n] => some (-9223372036854775808 ≤ n ∧ n ≤ 9223372036854775807, .str (Lib.itoa n))
  | _ => none
theorem conItoa : Con pg 15 ckItoa := by
  intro args q r h hq
  unfold ckItoa at h
  split at h
  · cases h
    refine pcall_shelf (by kernel_rfl) rfl fun w hw => (Tryz.strconv_Itoa _ hq.1 hq.2 w (tabPow hw)).mono fun e w' h => ?_
    obtain ⟨he, k, os, rfl⟩ := h
    exact shelf_str he (grow_drew _ _ _)
  · cases h
attribute [push_cast] ckItoa
def ckRepeat : Ck
  | [.str s, .int .i64 n] => some (0 ≤ n ∧ n ≤ 1000000 ∧ s.length ≤ 1000000, .str (Lib.repeatL s n.toNat))
  | _ => none
theorem conRepeat : Con pg 137 ckRepeat := by
  intro args q r h hq
  unfold ckRepeat at h
  split at h
  · cases h
    rename_i s n
    obtain ⟨k, rfl⟩ : ∃ k : Nat, n = k := ⟨n.toNat, by omega⟩
    refine pcall_shelf (by kernel_rfl) rfl fun w hw => (Tryz.strings_Repeat ⟨s.toArray⟩ k w (by omega) ?_).mono fun e w' h => ?_
    · show s.toArray.size * k ≤ _
      have : s.length * k ≤ 1000000 * 1000000 := Nat.mul_le_mul (by omega) (by omega)
      simp; omega
    · exact shelf_str (by simpa using h.1) (grow_below h.2)
  · cases h
attribute [push_cast] ckRepeat
def monthLongI (y m : Int) : Int :=
  if m = 4 ∨ m = 6 ∨ m = 9 ∨ m = 11 then 30 else if m = 2 then (if y % 4 = 0 ∧ (y % 100 ≠ 0 ∨ y % 400 = 0) then 29 else 28) else 31
def ckMonthLong : Ck
  | [.int .i64 y, .int .i64 m] => some (0 ≤ y ∧ y ≤ 1000000, .int .i64 (monthLongI y m))
  | _ => none
theorem conMonthLong : Con pg 172 ckMonthLong := by
  have hct := ctN_ok pg
  intro args q r h hq
  unfold ckMonthLong at h
  split at h
  · cases h
    rename_i y m
    refine w172 (fun _ => false) [] rfl hct rfl rfl ?_
    push_cast (config := { maxSteps := 10000000 })
    unfold monthLongI
    (repeat' (first | apply And.intro | intro _)) <;> (try first | assumption | contradiction | omega | exact rfl | exact trivial)
  · cases h
attribute [push_cast] ckMonthLong
def monthsSum (y : Int) : Nat → Int
  | 0 => 0
  | k + 1 => monthsSum y k + monthLongI y ((k : Int) + 1)
def daysI (y m : Int) : Int := 365 * (y - 1) + (y - 1) / 4 - (y - 1) / 100 + (y - 1) / 400 - 719162 + monthsSum y (m - 1).toNat
theorem monthLongI_b (y m : Int) : 28 ≤ monthLongI y m ∧ monthLongI y m ≤ 31 := by
  unfold monthLongI
  (repeat' (first | apply And.intro | intro _)) <;> (try first | assumption | contradiction | omega | exact rfl | exact trivial)
theorem monthsSum_b (y : Int) (k : Nat) : 0 ≤ monthsSum y k ∧ monthsSum y k ≤ 31 * k := by
  induction k with
  | zero => simp [monthsSum]
  | succ k ih => have := monthLongI_b y ((k : Int) + 1); simp only [monthsSum]; omega
theorem daysI_1 (y : Int) : daysI y 1 = 365 * (y - 1) + (y - 1) / 4 - (y - 1) / 100 + (y - 1) / 400 - 719162 := by
  unfold daysI
  rw [show ((1 : Int) - 1).toNat = 0 from rfl]
  simp only [monthsSum]; omega
attribute [irreducible] daysI
def ckDays : Ck
  | [.int .i64 y, .int .i64 m] => some (1 ≤ y ∧ y ≤ 1000000 ∧ m ≤ 13, .int .i64 (daysI y m))
  | _ => none
theorem conDays : Con pg 136 ckDays := by
  have hct := (ctA_ok conMonthLong (ctN_ok _))
  intro args q r h hq
  unfold ckDays at h
  split at h
  · cases h
    rename_i y m
    refine w136 (fun _ => false) [] rfl hct rfl rfl ?_
    push_cast (config := { maxSteps := 10000000 })
    (repeat (refine ⟨by omega, ?_⟩))
    refine LoopW.adj ⟨hct, fol⟩ (by kernel_rfl) [] (fun k : Nat => [(0, .int .i64 y), (1, .int .i64 m), (6, .int .i64 (daysI y 1 + monthsSum y k)), (7, .int .i64 (k + 1))]) (fun _ => []) (fun k => (k : Int) + 1 ≤ 13 ∧ ((k : Int) + 1 ≤ m ∨ k = 0)) (fun k => 13 - k) 0 ?_ fun k hk => ?_
    · push_cast (config := { maxSteps := 10000000 })
      have e1 : daysI y 1 = 365 * (y - 1) + (y - 1) / 4 - (y - 1) / 100 + (y - 1) / 400 - 719162 := daysI_1 y
      simp only [e1, monthsSum]
      (repeat' (first | apply And.intro | intro _)) <;> (try first | assumption | contradiction | omega | exact rfl | exact trivial)
    · push_cast (config := { maxSteps := 10000000 })
      have := monthsSum_b y k
      have := monthLongI_b y ((k : Int) + 1)
      have e1 : daysI y 1 = 365 * (y - 1) + (y - 1) / 4 - (y - 1) / 100 + (y - 1) / 400 - 719162 := daysI_1 y
      (repeat' (first | apply And.intro | intro _)) <;> (try omega)
      · refine ⟨k + 1, by omega, by omega, ?_, by omega⟩
        simp only [monthsSum]; omega
      · have e2 : (m - 1).toNat = k ∨ (k = 0 ∧ (m - 1).toNat = 0) := by omega
        have e3 : (m - 1).toNat = k := by omega
        rw [e1]
        unfold daysI
        rw [e3]
  · cases h
attribute [push_cast] ckDays
def yearF (d : Int) : Nat → Int → Int
  | 0, y => y
  | n + 1, y => if daysI (y + 1) 1 ≤ d then yearF d n (y + 1) else y
def monthF (y d : Int) : Nat → Int → Int
  | 0, m => m
  | n + 1, m => if m < 12 ∧ daysI y (m + 1) ≤ d then monthF y d n (m + 1) else m
def yearI (d : Int) : Int := yearF d 1000 (1970 + d / 366)
def monthI (d : Int) : Int := monthF (yearI d) d 12 1
def dateI (n : Int) : V := .agg [.int .i64 (yearI (n / 86400)), .int .i64 (monthI (n / 86400)), .int .i64 (n / 86400 - daysI (yearI (n / 86400)) (monthI (n / 86400)) + 1), .int .i64 (n % 86400 / 3600), .int .i64 (n % 86400 / 60 % 60), .int .i64 (n % 86400 % 60)]
def ckDateOf : Ck
  | [.int .i64 n] => some (0 ≤ n ∧ n ≤ 253402300799, dateI n)
  | _ => none
theorem daysI_lo {y d : Int} (h : daysI y 1 ≤ d) (hy : 1 ≤ y) (hd : d ≤ 2932896) : y ≤ 10100 := by
  rw [daysI_1] at h
  omega
theorem daysI_y0 (d : Int) (h0 : 0 ≤ d) (hd : d ≤ 2932896) : daysI (1970 + d / 366) 1 ≤ d := by
  rw [daysI_1]
  omega
theorem daysI_step {y d : Int} (h : daysI y 1 ≤ d) (hy : 1970 + d / 366 ≤ y) (h0 : 0 ≤ d) (hd : d ≤ 2932896) : y ≤ 1970 + d / 366 + 900 := by
  rw [daysI_1] at h
  omega
theorem conDateOf : Con pg 78 ckDateOf := by
  have hct := (ctA_ok conDays (ctN_ok _))
  intro args q r h hq
  unfold ckDateOf at h
  split at h
  · cases h
    rename_i n
    refine w78 (fun _ => false) [] rfl hct rfl rfl ?_
    push_cast (config := { maxSteps := 10000000 })
    (repeat (refine ⟨by omega, ?_⟩))
    generalize hd : n / 86400 = d at *
    have h0 : 0 ≤ d ∧ d ≤ 2932896 := by omega
    refine LoopW.adj ⟨hct, fol⟩ (by kernel_rfl) [] (fun t : Nat => [(2, .ptr 2 0), (3, .int .i64 d), (5, .ptr 5 0)]) (fun t => [(2, .cells [.int .i64 0, .int .i64 0, .int .i64 0, .int .i64 0, .int .i64 0, .int .i64 0]), (5, .cells [.int .i64 (1970 + d / 366 + t), .int .i64 1, .int .i64 0, .int .i64 (n % 86400 / 3600), .int .i64 (n % 86400 / 60 % 60), .int .i64 (n % 86400 % 60)])]) (fun t => daysI (1970 + d / 366 + t) 1 ≤ d ∧ t ≤ 900 ∧ yearF d (1000 - t) (1970 + d / 366 + t) = yearI d) (fun t => 1000 - t) 0 ?_ fun t ht => ?_
    · push_cast (config := { maxSteps := 10000000 })
      have := daysI_y0 d h0.1 h0.2
      simp [this, yearI]
    · push_cast (config := { maxSteps := 10000000 })
      obtain ⟨t1, t2, t3⟩ := ht
      obtain ⟨m, hm⟩ : ∃ m, 1000 - t = m + 1 := ⟨999 - t, by omega⟩
      rw [hm] at t3
      simp only [yearF] at t3
      refine ⟨by omega, by omega, fun h => ⟨by omega, t + 1, ⟨?_, ?_, ?_⟩, by omega, by omega⟩, fun h => ?_⟩
      · rw [show 1970 + d / 366 + ((t + 1 : Nat) : Int) = 1970 + d / 366 + t + 1 by omega]; exact h
      · have := daysI_step h (by omega) h0.1 h0.2; omega
      · rw [if_pos h] at t3
        rw [show 1970 + d / 366 + ((t + 1 : Nat) : Int) = 1970 + d / 366 + t + 1 by omega, show 1000 - (t + 1) = m by omega]; exact t3
      · rw [if_neg h] at t3
        rw [t3]
        have hY : 1970 ≤ yearI d ∧ yearI d ≤ 10999 := by omega
        have hYd : daysI (yearI d) 1 ≤ d := by rw [← t3]; exact t1
        clear t3 h t1
        refine LoopW.adj ⟨hct, fol⟩ (by kernel_rfl) [] (fun t : Nat => [(2, .ptr 2 0), (3, .int .i64 d), (5, .ptr 5 0)]) (fun t => [(2, .cells [.int .i64 0, .int .i64 0, .int .i64 0, .int .i64 0, .int .i64 0, .int .i64 0]), (5, .cells [.int .i64 (yearI d), .int .i64 (1 + t), .int .i64 0, .int .i64 (n % 86400 / 3600), .int .i64 (n % 86400 / 60 % 60), .int .i64 (n % 86400 % 60)])]) (fun t => t ≤ 11 ∧ daysI (yearI d) (1 + t) ≤ d ∧ monthF (yearI d) d (12 - t) (1 + t) = monthI d) (fun t => 12 - t) 0 ?_ fun t ht => ?_
        · push_cast (config := { maxSteps := 10000000 })
          simp [hYd, monthI]
        · push_cast (config := { maxSteps := 10000000 })
          obtain ⟨t1, t2, t3⟩ := ht
          obtain ⟨m, hm⟩ : ∃ m, 12 - t = m + 1 := ⟨11 - t, by omega⟩
          rw [hm] at t3
          simp only [monthF] at t3
          refine ⟨fun h => by omega, fun h => by omega, fun h => ⟨by omega, t + 1, ⟨by omega, ?_, ?_⟩, by omega, by omega⟩, fun h => ⟨by omega, ?_⟩⟩
          · rw [show 1 + ((t + 1 : Nat) : Int) = 1 + t + 1 by omega]; exact h.2
          · rw [if_pos h] at t3
            rw [show 1 + ((t + 1 : Nat) : Int) = 1 + t + 1 by omega, show 12 - (t + 1) = m by omega]; exact t3
          · have h' : ¬(1 + (t : Int) < 12 ∧ daysI (yearI d) (1 + t + 1) ≤ d) := fun hh => h hh.1 hh.2
            rw [if_neg h'] at t3
            unfold dateI
            rw [hd, ← t3]
            have b1 : -800000 ≤ daysI (yearI d) (1 + (t : Int)) ∧ daysI (yearI d) (1 + (t : Int)) ≤ 9000000 := by
              have := monthsSum_b (yearI d) (1 + (t : Int) - 1).toNat
              unfold daysI
              omega
            push_cast (config := { maxSteps := 10000000 })
            (repeat' (first | apply And.intro | intro _)) <;> (try first | assumption | contradiction | omega | exact rfl | exact trivial)
  · cases h
attribute [push_cast] ckDateOf
def paddedL (n k : Int) : List UInt8 := Lib.repeatL [48] (max 0 (k - (Lib.itoa n).length)).toNat ++ Lib.itoa n
def ckPadded : Ck
  | [.int .i64 n, .int .i64 k] => some (-9223372036854775808 ≤ n ∧ n ≤ 9223372036854775807 ∧ 0 ≤ k ∧ k ≤ 1000, .str (paddedL n k))
  | _ => none
theorem paddedL_len {n k : Int} (h1 : -9223372036854775808 ≤ n) (h2 : n ≤ 9223372036854775807) (h3 : 0 ≤ k) (h4 : k ≤ 1000) : (paddedL n k).length ≤ 1021 := by
  have := Lib.itoa_length_le n h1 h2
  unfold paddedL
  simp only [List.length_append, Lib.repeatL_length, List.length_cons, List.length_nil]
  omega
theorem conPadded : Con pg 80 ckPadded := by
  have hct := (ctA_ok conItoa (ctA_ok conRepeat (ctN_ok _)))
  intro args q r h hq
  unfold ckPadded at h
  split at h
  · cases h
    rename_i n k
    refine w80 (fun _ => false) [] rfl hct rfl rfl ?_
    push_cast (config := { maxSteps := 10000000 })
    have := Lib.itoa_length_le n hq.1 hq.2.1
    have e : (Lib.repeatL [48] (max 0 (k - (Lib.itoa n).length)).toNat).length = (max 0 (k - (Lib.itoa n).length)).toNat := by simp [Lib.repeatL_length]
    refine ⟨by omega, by omega, by omega, by omega, rfl⟩
  · cases h
attribute [push_cast] ckPadded
def wdN : List (List UInt8) := [[77, 111, 110], [84, 117, 101], [87, 101, 100], [84, 104, 117], [70, 114, 105], [83, 97, 116], [83, 117, 110]]
def mnN : List (List UInt8) := [[74, 97, 110], [70, 101, 98], [77, 97, 114], [65, 112, 114], [77, 97, 121], [74, 117, 110], [74, 117, 108], [65, 117, 103], [83, 101, 112], [79, 99, 116], [78, 111, 118], [68, 101, 99]]
def ckWeekdays : Ck
  | [] => some (True, .sl 7 fun i => .str (wdN.getD i []))
  | _ => none
theorem conWeekdays : Con pg 79 ckWeekdays := by
  have hct := ctN_ok pg
  intro args q r h hq
  unfold ckWeekdays at h
  split at h
  · cases h
    refine w79 (fun _ => false) [] rfl hct rfl rfl ?_
    push_cast (config := { maxSteps := 10000000 })
    intro i hi
    rcases (by omega : i = 0 ∨ i = 1 ∨ i = 2 ∨ i = 3 ∨ i = 4 ∨ i = 5 ∨ i = 6) with rfl | rfl | rfl | rfl | rfl | rfl | rfl <;> rfl
  · cases h
attribute [push_cast] ckWeekdays
def ckMonths : Ck
  | [] => some (True, .sl 12 fun i => .str (mnN.getD i []))
  | _ => none
theorem conMonths : Con pg 81 ckMonths := by
  have hct := ctN_ok pg
  intro args q r h hq
  unfold ckMonths at h
  split at h
  · cases h
    refine w81 (fun _ => false) [] rfl hct rfl rfl ?_
    push_cast (config := { maxSteps := 10000000 })
    intro i hi
    rcases (by omega : i = 0 ∨ i = 1 ∨ i = 2 ∨ i = 3 ∨ i = 4 ∨ i = 5 ∨ i = 6 ∨ i = 7 ∨ i = 8 ∨ i = 9 ∨ i = 10 ∨ i = 11) with rfl | rfl | rfl | rfl | rfl | rfl | rfl | rfl | rfl | rfl | rfl | rfl <;> rfl
  · cases h
attribute [push_cast] ckMonths
theorem yearF_b (d : Int) : ∀ (n : Nat) (y : Int), daysI y 1 ≤ d → y ≤ yearF d n y ∧ daysI (yearF d n y) 1 ≤ d
  | 0, y, h => ⟨Int.le_refl _, h⟩
  | n + 1, y, h => by
    simp only [yearF]
    split
    · rename_i h1
      have := yearF_b d n (y + 1) h1
      exact ⟨by omega, this.2⟩
    · exact ⟨Int.le_refl _, h⟩
theorem monthF_b (y d : Int) : ∀ (n : Nat) (m : Int), 1 ≤ m → m ≤ 12 → daysI y m ≤ d → 1 ≤ monthF y d n m ∧ monthF y d n m ≤ 12 ∧ daysI y (monthF y d n m) ≤ d
  | 0, m, h1, h2, h => ⟨h1, h2, h⟩
  | n + 1, m, h1, h2, h => by
    simp only [monthF]
    split
    · rename_i h3
      exact monthF_b y d n (m + 1) (by omega) (by omega) h3.2
    · exact ⟨h1, h2, h⟩
theorem date_b {d : Int} (h0 : 0 ≤ d) (h1 : d ≤ 2932896) : 1970 ≤ yearI d ∧ yearI d ≤ 10100 ∧ 1 ≤ monthI d ∧ monthI d ≤ 12 ∧ -800000 ≤ daysI (yearI d) (monthI d) ∧ daysI (yearI d) (monthI d) ≤ d := by
  have a := yearF_b d 1000 _ (daysI_y0 d h0 h1)
  have hy : 1970 ≤ yearI d := by have := a.1; unfold yearI; omega
  have hd : daysI (yearI d) 1 ≤ d := a.2
  have b := monthF_b (yearI d) d 12 1 (by omega) (by omega) hd
  have c := daysI_lo hd (by omega) h1
  refine ⟨hy, c, b.1, b.2.1, ?_, b.2.2⟩
  have := monthsSum_b (yearI d) (monthI d - 1).toNat
  unfold daysI
  omega
theorem wdN_b (i : Nat) : (wdN.getD i []).length ≤ 3 := by
  by_cases h : i < 7
  · rcases (by omega : i = 0 ∨ i = 1 ∨ i = 2 ∨ i = 3 ∨ i = 4 ∨ i = 5 ∨ i = 6) with rfl | rfl | rfl | rfl | rfl | rfl | rfl <;> decide
  · rw [List.getD_eq_getElem?_getD, List.getElem?_eq_none (by simp [wdN]; omega)]; simp
theorem mnN_b (i : Nat) : (mnN.getD i []).length ≤ 3 := by
  by_cases h : i < 12
  · rcases (by omega : i = 0 ∨ i = 1 ∨ i = 2 ∨ i = 3 ∨ i = 4 ∨ i = 5 ∨ i = 6 ∨ i = 7 ∨ i = 8 ∨ i = 9 ∨ i = 10 ∨ i = 11) with rfl | rfl | rfl | rfl | rfl | rfl | rfl | rfl | rfl | rfl | rfl | rfl <;> decide
  · rw [List.getD_eq_getElem?_getD, List.getElem?_eq_none (by simp [mnN]; omega)]; simp
def dateTextL (n : Int) : List UInt8 :=
  let d := n / 86400
  let y := yearI d
  let m := monthI d
  wdN.getD ((d + 3) % 7).toNat [] ++ [44, 32] ++ paddedL (d - daysI y m + 1) 2 ++ [32] ++ mnN.getD (m - 1).toNat [] ++ [32] ++ paddedL y 4 ++ [32] ++ paddedL (n % 86400 / 3600) 2 ++ [58] ++ paddedL (n % 86400 / 60 % 60) 2 ++ [58] ++ paddedL (n % 86400 % 60) 2 ++ [32, 71, 77, 84]
def ckDateText0 : Ck
  | [.int .i64 n] => some (0 ≤ n ∧ n ≤ 253402300799, .str (dateTextL n))
  | _ => none
theorem conDateText0 : Con pg 44 ckDateText0 := by
  have hct := (ctA_ok conDateOf (ctA_ok conWeekdays (ctA_ok conMonths (ctA_ok conPadded (ctN_ok _)))))
  intro args q r h hq
  unfold ckDateText0 at h
  split at h
  · cases h
    rename_i n
    refine w44 (fun _ => false) [] rfl hct rfl rfl ?_
    push_cast (config := { maxSteps := 10000000 })
    (repeat (refine ⟨by omega, ?_⟩))
    unfold dateI
    push_cast (config := { maxSteps := 10000000 })
    have h0 : 0 ≤ n / 86400 ∧ n / 86400 ≤ 2932896 := by omega
    have b := date_b h0.1 h0.2
    have l1 := wdN_b ((n / 86400 + 3) % 7).toNat
    have l2 := mnN_b (monthI (n / 86400) - 1).toNat
    have l3 := paddedL_len (n := n / 86400 - daysI (yearI (n / 86400)) (monthI (n / 86400)) + 1) (k := 2) (by omega) (by omega) (by omega) (by omega)
    have l4 := paddedL_len (n := yearI (n / 86400)) (k := 4) (by omega) (by omega) (by omega) (by omega)
    have l5 := paddedL_len (n := n % 86400 / 3600) (k := 2) (by omega) (by omega) (by omega) (by omega)
    have l6 := paddedL_len (n := n % 86400 / 60 % 60) (k := 2) (by omega) (by omega) (by omega) (by omega)
    have l7 := paddedL_len (n := n % 86400 % 60) (k := 2) (by omega) (by omega) (by omega) (by omega)
    (repeat (refine ⟨by omega, ?_⟩))
    simp [dateTextL]
  · cases h
attribute [push_cast] ckDateText0
def ckIsMoment : Ck
  | [.int .i64 n] => some (True, .bool (decide (0 ≤ n) && decide (n ≤ 253402300799)))
  | _ => none
theorem conIsMoment : Con pg 43 ckIsMoment := by
  have hct := ctN_ok pg
  intro args q r h hq
  unfold ckIsMoment at h
  split at h
  · cases h
    rename_i n
    refine w43 (fun _ => false) [] rfl hct rfl rfl ?_
    push_cast (config := { maxSteps := 10000000 })
    skip
  · cases h
attribute [push_cast] ckIsMoment
def ckDateText : Ck
  | [.int .i64 n] => some (-9223372036854775808 ≤ n ∧ n ≤ 9223372036854775807, .tup [.str (if 0 ≤ n ∧ n ≤ 253402300799 then dateTextL n else []), .int .i64 (if 0 ≤ n ∧ n ≤ 253402300799 then 0 else 1)])
  | _ => none
theorem conDateText : Con pg 17 ckDateText := by
  have hct := (ctA_ok conIsMoment (ctA_ok conDateText0 (ctN_ok _)))
  intro args q r h hq
  unfold ckDateText at h
  split at h
  · cases h
    rename_i n
    refine w17 (fun _ => false) [] rfl hct rfl rfl ?_
    push_cast (config := { maxSteps := 10000000 })
    refine ⟨fun h => ?_, fun h => ?_⟩
    · have h' : ¬(0 ≤ n ∧ n ≤ 253402300799) := fun hh => h hh.1 hh.2
      rw [if_neg h', if_neg h']; exact ⟨rfl, rfl⟩
    · rw [if_pos h, if_pos h]; exact ⟨h, rfl, rfl⟩
  · cases h
attribute [push_cast] ckDateText
def hasPre (s t : List UInt8) : Bool := decide (t.length ≤ s.length) && (s.take t.length == t)
theorem hasPre_iff {s t : List UInt8} : hasPre s t = true ↔ ∃ r, s = t ++ r := by
  simp only [hasPre, Bool.and_eq_true, decide_eq_true_eq, beq_iff_eq]
  constructor
  · rintro ⟨h1, h2⟩
    exact ⟨s.drop t.length, by conv => lhs; rw [← List.take_append_drop t.length s, h2]⟩
  · rintro ⟨r, rfl⟩
    exact ⟨by simp, by simp⟩
def ckHasPre : Ck
  | [.str s, .str t] => some ((s.length : Int) ≤ 4611686018427387904, .bool (hasPre s t))
  | _ => none
theorem conHasPre1 : Con pg 45 ckHasPre := by
  have hct := ctN_ok pg
  intro args q r h hq
  unfold ckHasPre at h
  split at h
  · cases h
    rename_i s t
    refine w45 (fun _ => false) [] rfl hct rfl rfl ?_
    push_cast (config := { maxSteps := 10000000 })
    rfl
  · cases h
attribute [push_cast] ckHasPre
theorem conHasPre : Con pg 18 ckHasPre := by
  have hct := (ctA_ok conHasPre1 (ctN_ok _))
  intro args q r h hq
  unfold ckHasPre at h
  split at h
  · cases h
    rename_i s t
    refine w18 (fun _ => false) [] rfl hct rfl rfl ?_
    push_cast (config := { maxSteps := 10000000 })
    exact hq
  · cases h
def ckCutPre : Ck
  | [.str s, .str t] => some ((s.length : Int) ≤ 4611686018427387904, .tup [.str (bif hasPre s t then s.drop t.length else s), .bool (hasPre s t)])
  | _ => none
theorem conCutPre1 : Con pg 150 ckCutPre := by
  have hct := (ctA_ok conHasPre1 (ctN_ok _))
  intro args q r h hq
  unfold ckCutPre at h
  split at h
  · cases h
    rename_i s t
    refine w150 (fun _ => false) [] rfl hct rfl rfl ?_
    push_cast (config := { maxSteps := 10000000 })
    refine ⟨hq, fun h => by rw [h]; exact ⟨rfl, rfl⟩, fun h => ?_⟩
    have hl : t.length ≤ s.length := by
      obtain ⟨r, rfl⟩ := hasPre_iff.1 h
      simp
    rw [h]
    exact ⟨hl, rfl, rfl⟩
  · cases h
attribute [push_cast] ckCutPre
theorem conCutPre : Con pg 109 ckCutPre := by
  have hct := (ctA_ok conCutPre1 (ctN_ok _))
  intro args q r h hq
  unfold ckCutPre at h
  split at h
  · cases h
    rename_i s t
    refine w109 (fun _ => false) [] rfl hct rfl rfl ?_
    push_cast (config := { maxSteps := 10000000 })
    exact hq
  · cases h
def leapB (y : Int) : Bool := decide (y % 4 = 0 ∧ (y % 100 ≠ 0 ∨ y % 400 = 0))
def yearLong (y : Int) : Int := if leapB y = true then 366 else 365
def twoL (n : Int) : List UInt8 := [UInt8.ofNat (48 + (n / 10 % 10)).toNat, UInt8.ofNat (48 + n % 10).toNat]
theorem iiK_of {P : Program} {k e n : Nat} {fs : Array Field} (hl : WideMaps.KeyLaw P k) (hU : P.underlying k = some (.struct fs)) (hf : fs.toList.map (fun f => (f.type, f.offset)) = [(e, 0), (e, 1)]) (hn : fs.all (fun f => f.name != "_") = true) (hc : P.cellsOf k = 2) (he : P.cellsOf e = 1) (hE : P.underlying e = some (.int .i64)) (hs : P.types.size = n + 1) (hk : P.keyType k = true) : IiK P k := by
  refine ⟨hl, fun a b hab => ?_⟩
  obtain ⟨⟨ha, ha'⟩, hb, hb'⟩ : (-9223372036854775808 ≤ a ∧ a ≤ 9223372036854775807) ∧ -9223372036854775808 ≤ b ∧ b ≤ 9223372036854775807 := hab
  obtain ⟨f1, f2, hfs⟩ : ∃ f1 f2, fs.toList = [f1, f2] := by
    have h2 := congrArg List.length hf
    rw [List.length_map] at h2
    match hh : fs.toList, h2 with
    | [x, y], _ => exact ⟨x, y, rfl⟩
  rw [hfs] at hf
  simp only [List.map_cons, List.map_nil, List.cons.injEq, Prod.mk.injEq, and_true] at hf
  obtain ⟨⟨t1, o1⟩, t2, o2⟩ := hf
  have hform : (MK.ii a b).val.formed P k = true := by
    show Value.formed P k (.agg #[.int .i64 a, .int .i64 b]) = true
    unfold Value.formed
    rw [hU]
    simp [hc]
  have hlit : ∀ s : Int, -9223372036854775808 ≤ s → s ≤ 9223372036854775807 → P.keyLits (n + 1) e [.int .i64 s] = some [.int .i64 s] := fun s h h' => by
    unfold Program.keyLits
    rw [hE]
    simp only
    rw [if_pos ⟨trivial, by
      unfold Lit.wf
      rw [Bool.and_eq_true, decide_eq_true_eq, decide_eq_true_eq]
      exact ⟨h, h'⟩⟩]
  have hall : P.keyLits (P.types.size + 1) k (MK.ii a b).val.cells.toList = some [.int .i64 a, .int .i64 b] := by
    rw [hs]
    show P.keyLits (n + 1 + 1) k [.int .i64 a, .int .i64 b] = _
    unfold Program.keyLits
    rw [hU]
    simp only
    rw [if_pos ⟨by rw [hc]; rfl, hn⟩, hfs]
    simp only [List.mapM_cons, List.mapM_nil, t1, t2, o1, o2, he]
    rw [show (List.drop 0 [Value.int .i64 a, Value.int .i64 b]).take 1 = [Value.int .i64 a] from rfl, show (List.drop 1 [Value.int .i64 a, Value.int .i64 b]).take 1 = [Value.int .i64 b] from rfl, hlit a ha ha', hlit b hb hb']
    rfl
  unfold keyOf
  rw [hU]
  simp only
  rw [hk, hform, hall]
  exact ⟨_, rfl⟩
def hx (c : UInt8) : Nat := if 48 ≤ c.toNat ∧ c.toNat ≤ 57 then c.toNat - 48 else if 97 ≤ c.toNat ∧ c.toNat ≤ 102 then c.toNat - 87 else if 65 ≤ c.toNat ∧ c.toNat ≤ 70 then c.toNat - 55 else 16
theorem hx_le (c : UInt8) : hx c ≤ 16 := by unfold hx; (repeat' split) <;> omega
def numF : List UInt8 → Nat → Nat → Bool × Nat × Nat
  | [], a, n => (true, n, a)
  | c :: r, a, n => if hx c < 16 then (if (0 < a ∧ n = 0) ∨ 65536 < 16 * n + hx c then (false, 0, a + 1) else numF r (a + 1) (16 * n + hx c)) else (true, n, a)
def begF : List UInt8 → List UInt8 → Nat
  | _, [] => 0
  | [], _ :: _ => 1
  | x :: r, c :: w => if x = c then begF r w else 2
def crlf : List UInt8 := [13, 10]
def readL (b : List UInt8) : List UInt8 × Nat × Nat :=
  let p := numF b 0 0
  if p.1 = false then ([], 0, 2) else
  if p.2.2 = b.length then ([], 0, 1) else
  if p.2.2 = 0 then ([], 0, 2) else
  if begF (b.drop p.2.2) crlf ≠ 0 then ([], 0, begF (b.drop p.2.2) crlf) else
  if (b.length : Int) - (p.2.2 + 2) < p.2.1 then ([], 0, 1) else
  if begF (b.drop (p.2.2 + 2 + p.2.1)) crlf ≠ 0 then ([], 0, begF (b.drop (p.2.2 + 2 + p.2.1)) crlf) else
  ((b.drop (p.2.2 + 2)).take p.2.1, p.2.2 + 2 + p.2.1 + 2, 0)
theorem begF_b : ∀ (r w : List UInt8), begF r w ≤ 2
  | _, [] => by simp [begF]
  | [], _ :: _ => by simp [begF]
  | x :: r, c :: w => by
    simp only [begF]
    split
    · exact begF_b r w
    · omega
theorem begF_len : ∀ {r w : List UInt8}, begF r w = 0 → w.length ≤ r.length
  | _, [], _ => by simp
  | [], _ :: _, h => by simp [begF] at h
  | x :: r, c :: w, h => by
    simp only [begF] at h
    split at h
    · have := begF_len h; simp; omega
    · omega
theorem numF_end {s : List UInt8} {i n : Nat} (h1 : i ≤ s.length) (h : i < s.length → ¬hx (s.getD i 0) < 16) : numF (s.drop i) i n = (true, n, i) := by
  by_cases hi : i < s.length
  · rw [drop_at hi, numF, if_neg (h hi)]
  · rw [List.drop_eq_nil_of_le (by omega), numF]
theorem numF_bad {s : List UInt8} {i n : Nat} (h1 : i < s.length) (h : hx (s.getD i 0) < 16) (h2 : (0 < i ∧ n = 0) ∨ 65536 < 16 * n + hx (s.getD i 0)) : numF (s.drop i) i n = (false, 0, i + 1) := by
  rw [drop_at h1, numF, if_pos h, if_pos h2]
theorem numF_next {s : List UInt8} {i n : Nat} (h1 : i < s.length) (h : hx (s.getD i 0) < 16) (h2 : ¬((0 < i ∧ n = 0) ∨ 65536 < 16 * n + hx (s.getD i 0))) : numF (s.drop i) i n = numF (s.drop (i + 1)) (i + 1) (16 * n + hx (s.getD i 0)) := by
  rw [drop_at h1, numF, if_pos h, if_neg h2]
theorem readL_bad {s : List UInt8} {m a : Nat} (e : numF s 0 0 = (false, m, a)) : readL s = ([], 0, 2) := by
  unfold readL; rw [e]; rfl
theorem readL_of {s : List UInt8} {n i : Nat} (e : numF s 0 0 = (true, n, i)) : readL s = if i = s.length then ([], 0, 1) else if i = 0 then ([], 0, 2) else
  if begF (s.drop i) crlf ≠ 0 then ([], 0, begF (s.drop i) crlf) else
  if (s.length : Int) - (i + 2) < n then ([], 0, 1) else
  if begF (s.drop (i + 2 + n)) crlf ≠ 0 then ([], 0, begF (s.drop (i + 2 + n)) crlf) else
  ((s.drop (i + 2)).take n, i + 2 + n + 2, 0) := by
  unfold readL; rw [e]; simp only [Bool.true_eq_false, if_false]
theorem isBy_drop (s : List UInt8) (i : Nat) (h : i ≤ s.length) : isBy (s.length - i) (shF (byF s) i) ∧ bytesOf (s.length - i) (shF (byF s) i) = s.drop i := by
  have b := ByI.sh (l := i) (k := s.length - i) (ByI.by s) (by omega)
  rw [List.take_of_length_le (by simp)] at b
  exact ⟨b.is, b.bytes⟩
end Go.Abs
