/- what functions of this program compute: contracts, each a function's own -/
import Derived.Test.YtppjlnagihefoaaDoorAbsA44
namespace Go.Abs
open Go
set_option maxHeartbeats 4000000
set_option maxRecDepth 100000
set_option linter.unusedVariables false
set_option linter.unusedSimpArgs false
/- own slices of bytes -/
theorem appF_byF (l m : List UInt8) : appF l.length (byF l) (byF m) = byF (l ++ m) := by
  funext i
  simp only [appF, byF]
  by_cases h : i < l.length
  · simp [h, List.getElem?_append_left]
  · simp [h, List.getElem?_append_right (by omega : l.length ≤ i)]
/-- bytes, as they are written into a literal -/
theorem litF_byF {vs : List V} {bs : List UInt8} (h : vs = bs.map fun b => V.int .u8 b.toNat) {i : Nat} (hi : i < bs.length) : litF vs i = byF bs i := by
  subst h
  simp [litF, byF, hi]
theorem appF_lit {l bs : List UInt8} {vs : List V} (h : vs = bs.map fun b => V.int .u8 b.toNat) {i : Nat} (hi : i < l.length + bs.length) : appF l.length (byF l) (litF vs) i = byF (l ++ bs) i := by
  rw [← appF_byF]
  simp only [appF]
  by_cases hl : i < l.length
  · simp [hl]
  · simp only [hl, decide_false, cond_false]
    exact litF_byF h (by omega)
theorem bytesOf_byF (l : List UInt8) : bytesOf l.length (byF l) = l := by
  apply List.ext_getElem?
  intro i
  simp only [bytesOf, byF, V.toByte, Int.toNat_natCast]
  by_cases h : i < l.length
  · simp [h]
  · simp [h]
theorem bytesOf_of {n : Nat} {l : List UInt8} {f : Nat → V} (hn : n = l.length) (h : ∀ i, i < n → f i = byF l i) : bytesOf n f = l := by
  subst hn
  rw [← bytesOf_byF l]
  unfold bytesOf
  simp only [List.length_map, List.length_range]
  apply List.map_congr_left
  intro i hi
  rw [h i (by simpa using hi)]
theorem u8_eq (a b : UInt8) : a = b ↔ (a.toNat : Int) = b.toNat := by rw [← UInt8.toNat_inj]; omega
theorem u8_lt (a : UInt8) : a.toNat < 256 := UInt8.toNat_lt a
theorem drop_at {s : List UInt8} {i : Nat} (h : i < s.length) : s.drop i = s.getD i 0 :: s.drop (i + 1) := by
  rw [List.drop_eq_getElem_cons h, List.getD_eq_getElem?_getD, List.getElem?_eq_getElem h]; rfl
theorem take_one {s : List UInt8} {i : Nat} (h : i < s.length) : (s.drop i).take 1 = [s.getD i 0] := by rw [drop_at h]; rfl
theorem take_next {s : List UInt8} {k : Nat} (h : k < s.length) : s.take (k + 1) = s.take k ++ [s.getD k 0] := by
  rw [List.take_add_one, List.getD_eq_getElem?_getD, List.getElem?_eq_getElem h]; rfl

/-- f's first n are the bytes s -/
def ByI (n : Nat) (f : Nat → V) (s : List UInt8) : Prop := n = s.length ∧ ∀ i, i < n → f i = byF s i
theorem ByI.by (s : List UInt8) : ByI s.length (byF s) s := ⟨rfl, fun _ _ => rfl⟩
theorem ByI.app {n m k : Nat} {f g : Nat → V} {a b : List UInt8} (h1 : ByI n f a) (h2 : ByI m g b) (hk : k = n + m) : ByI k (appF n f g) (a ++ b) := by
  obtain ⟨e1, h1⟩ := h1
  obtain ⟨e2, h2⟩ := h2
  refine ⟨by simp; omega, fun i hi => ?_⟩
  unfold appF
  by_cases h : i < n
  · rw [show decide (i < n) = true from by simp [h], cond_true, h1 i h]
    unfold byF
    rw [List.getD_eq_getElem?_getD, List.getD_eq_getElem?_getD, List.getElem?_append_left (by omega)]
  · rw [show decide (i < n) = false from by simp [h], cond_false, h2 (i - n) (by omega)]
    unfold byF
    rw [List.getD_eq_getElem?_getD, List.getD_eq_getElem?_getD, List.getElem?_append_right (by omega), e1]
theorem ByI.sh {n l k : Nat} {f : Nat → V} {s : List UInt8} (h : ByI n f s) (hk : l + k ≤ n) : ByI k (shF f l) ((s.drop l).take k) := by
  obtain ⟨e, h⟩ := h
  refine ⟨by simp; omega, fun i hi => ?_⟩
  unfold shF
  rw [h (i + l) (by omega)]
  unfold byF
  rw [List.getD_eq_getElem?_getD, List.getD_eq_getElem?_getD, List.getElem?_take_of_lt hi, List.getElem?_drop, Nat.add_comm]
theorem ByI.eq {n : Nat} {f : Nat → V} {s t : List UInt8} (h : ByI n f s) (e : s = t) : ByI n f t := e ▸ h
theorem ByI.len {n m : Nat} {f : Nat → V} {s : List UInt8} (h : ByI n f s) (e : n = m) : ByI m f s := e ▸ h
theorem bytesOf_by (s : List UInt8) : bytesOf s.length (byF s) = s := by
  unfold bytesOf byF
  apply List.ext_getElem
  · simp
  · intro i h1 h2
    simp only [List.getElem_map, List.getElem_range, V.toByte, Int.toNat_natCast]
    rw [List.getD_eq_getElem?_getD, List.getElem?_eq_getElem h2]
    simp
theorem bytesOf_len (n : Nat) (f : Nat → V) : (bytesOf n f).length = n := by simp [bytesOf]
/-- bytes, as they come -/
def isBy (n : Nat) (f : Nat → V) : Prop := ByI n f (bytesOf n f)
theorem isBy.vle {n : Nat} {f : Nat → V} (h : isBy n f) : VLe (.sl n f) (.sl (bytesOf n f).length (byF (bytesOf n f))) := VLe.sl h.1 h.2
theorem isBy_by (s : List UInt8) : isBy s.length (byF s) := by unfold isBy; rw [bytesOf_by]; exact ByI.by s
theorem ByI.bytes {n : Nat} {f : Nat → V} {s : List UInt8} (h : ByI n f s) : bytesOf n f = s := by
  obtain ⟨rfl, h⟩ := h
  have : bytesOf s.length f = bytesOf s.length (byF s) := by
    unfold bytesOf
    exact List.map_congr_left fun i hi => by rw [h i (by simpa using hi)]
  rw [this, bytesOf_by]
theorem ByI.is {n : Nat} {f : Nat → V} {s : List UInt8} (h : ByI n f s) : isBy n f := by unfold isBy; rw [h.bytes]; exact h
theorem ByI.pure {n : Nat} {f : Nat → V} {s : List UInt8} (h : ByI n f s) : ∀ i, i < n → (f i).isPure = true := fun i hi => by rw [h.2 i hi]; rfl
theorem ByI.flat {n : Nat} {f : Nat → V} {s : List UInt8} (h : ByI n f s) : ∀ i, i < n → (f i).flat.length = 1 := fun i hi => by rw [h.2 i hi]; rfl
theorem ByI.bytesP {n : Nat} {f : Nat → V} {s : List UInt8} (h : ByI n f s) : ∀ i, i < n → ∃ m, f i = .int .u8 m := fun i hi => ⟨_, h.2 i hi⟩
attribute [push_cast] UInt8.ofNat_toNat Int.toNat_natCast

theorem isBy_lit {l : List V} (h : ∀ i, i < l.length → ∃ n, l.getD i .any = .int .u8 n ∧ 0 ≤ n ∧ n < 256) : isBy l.length (litF l) := by
  refine ⟨(bytesOf_len _ _).symm, fun i hi => ?_⟩
  obtain ⟨n, e, h0, h1⟩ := h i hi
  have : litF l i = .int .u8 n := e
  rw [this]
  unfold byF bytesOf
  rw [List.getD_eq_getElem?_getD, List.getElem?_map, List.getElem?_range hi]
  simp only [Option.map_some, Option.getD_some, this, V.toByte]
  rw [UInt8.toNat_ofNat']
  congr 1
  omega
theorem shBytes {m : Nat} {v : V} (h : Sh.has (.list (.int .u8)) m v) : ∃ (n : Nat) (f : Nat → V), v = .sl n f ∧ isBy n f ∧ n ≤ reachBytes := by
  obtain ⟨l, ms, rfl, h1, h2, h3, h4⟩ := h
  have wf : ∀ n : Int, (Lit.int .u8 n).wf = true → 0 ≤ n ∧ n < 256 := fun n hn => by
    simp only [Lit.wf, Bool.and_eq_true, decide_eq_true_eq] at hn
    have e1 : IntKind.u8.min = 0 := rfl
    have e2 : IntKind.u8.max = 255 := rfl
    omega
  refine ⟨_, _, rfl, isBy_lit fun i hi => ?_, h3⟩
  obtain ⟨n, e, w, _⟩ := h4 i hi
  exact ⟨n, e, wf n w⟩
theorem hasD3 {H : Type} {s1 s2 s3 : Sh} {ds : List (DataW H)} (h : hasD [s1, s2, s3] ds) : ∃ a b c, ds = [a, b, c] ∧ s1.has (bulkD a) (toV a) ∧ s2.has (bulkD b) (toV b) ∧ s3.has (bulkD c) (toV c) := by
  match ds, h with
  | [a, b, c], ⟨h1, h2, h3, _⟩ => exact ⟨a, b, c, rfl, h1, h2, h3⟩
theorem shInt {k : IntKind} {m : Nat} {v : V} (h : Sh.has (.int k) m v) : ∃ n, v = .int k n ∧ (Lit.int k n).wf = true := by
  obtain ⟨n, e, w, _⟩ := h
  exact ⟨n, e, w⟩

/-- the value of a hexadecimal digit; 16: none -/
def hx (c : UInt8) : Nat := if 48 ≤ c.toNat ∧ c.toNat ≤ 57 then c.toNat - 48 else if 97 ≤ c.toNat ∧ c.toNat ≤ 102 then c.toNat - 87 else if 65 ≤ c.toNat ∧ c.toNat ≤ 70 then c.toNat - 55 else 16
theorem hx_le (c : UInt8) : hx c ≤ 16 := by unfold hx; (repeat' split) <;> omega
/-- digits: whether they are right, the number, how many were read -/
def numF : List UInt8 → Nat → Nat → Bool × Nat × Nat
  | [], a, n => (true, n, a)
  | c :: r, a, n => if hx c < 16 then (if (0 < a ∧ n = 0) ∨ 65536 < 16 * n + hx c then (false, 0, a + 1) else numF r (a + 1) (16 * n + hx c)) else (true, n, a)
/-- how far bytes begin with those that are wanted: 0 all, 1 too few, 2 others -/
def begF : List UInt8 → List UInt8 → Nat
  | _, [] => 0
  | [], _ :: _ => 1
  | x :: r, c :: w => if x = c then begF r w else 2
/-- and how many -/
def begN : List UInt8 → List UInt8 → Nat
  | x :: r, c :: w => if x = c then begN r w + 1 else 0
  | _, _ => 0
def crlf : List UInt8 := [13, 10]
/-- a chunk: its bytes, its length, how it is -/
def readL (b : List UInt8) : List UInt8 × Nat × Nat :=
  let p := numF b 0 0
  if p.1 = false then ([], 0, 2) else
  if p.2.2 = b.length then ([], 0, 1) else
  if p.2.2 = 0 then ([], 0, 2) else
  if begF (b.drop p.2.2) crlf ≠ 0 then ([], 0, begF (b.drop p.2.2) crlf) else
  if (b.length : Int) - (p.2.2 + 2) < p.2.1 then ([], 0, 1) else
  if begF (b.drop (p.2.2 + 2 + p.2.1)) crlf ≠ 0 then ([], 0, begF (b.drop (p.2.2 + 2 + p.2.1)) crlf) else
  ((b.drop (p.2.2 + 2)).take p.2.1, p.2.2 + 2 + p.2.1 + 2, 0)
theorem numF_b : ∀ (b : List UInt8) (a n : Nat), n ≤ 65536 → (numF b a n).2.1 ≤ 65536 ∧ a ≤ (numF b a n).2.2 ∧ (numF b a n).2.2 ≤ a + b.length
  | [], a, n, h => ⟨h, Nat.le_refl _, Nat.le_add_right _ _⟩
  | c :: r, a, n, h => by
    simp only [numF]
    split
    · split
      · simp
      · have := numF_b r (a + 1) (16 * n + hx c) (by omega)
        simp only [List.length_cons]
        omega
    · simp [h]
theorem begF_b : ∀ (r w : List UInt8), begF r w ≤ 2
  | _, [] => by simp [begF]
  | [], _ :: _ => by simp [begF]
  | x :: r, c :: w => by
    simp only [begF]
    split
    · exact begF_b r w
    · omega
theorem begF_len : ∀ {r w : List UInt8}, begF r w = 0 → w.length ≤ r.length
  | _, [], _ => by simp
  | [], _ :: _, h => by simp [begF] at h
  | x :: r, c :: w, h => by
    simp only [begF] at h
    split at h
    · have := begF_len h; simp; omega
    · omega
theorem begN_len : ∀ {r w : List UInt8}, begF r w = 0 → begN r w = w.length
  | _, [], _ => by simp [begN]
  | [], _ :: _, h => by simp [begF] at h
  | x :: r, c :: w, h => by
    simp only [begF] at h
    split at h
    · rename_i e
      have := begN_len h
      simp only [begN, if_pos e, List.length_cons]; omega
    · omega
theorem numF_end {s : List UInt8} {i n : Nat} (h1 : i ≤ s.length) (h : i < s.length → ¬hx (s.getD i 0) < 16) : numF (s.drop i) i n = (true, n, i) := by
  by_cases hi : i < s.length
  · rw [drop_at hi, numF, if_neg (h hi)]
  · rw [List.drop_eq_nil_of_le (by omega), numF]
theorem numF_bad {s : List UInt8} {i n : Nat} (h1 : i < s.length) (h : hx (s.getD i 0) < 16) (h2 : (0 < i ∧ n = 0) ∨ 65536 < 16 * n + hx (s.getD i 0)) : numF (s.drop i) i n = (false, 0, i + 1) := by
  rw [drop_at h1, numF, if_pos h, if_pos h2]
theorem numF_next {s : List UInt8} {i n : Nat} (h1 : i < s.length) (h : hx (s.getD i 0) < 16) (h2 : ¬((0 < i ∧ n = 0) ∨ 65536 < 16 * n + hx (s.getD i 0))) : numF (s.drop i) i n = numF (s.drop (i + 1)) (i + 1) (16 * n + hx (s.getD i 0)) := by
  rw [drop_at h1, numF, if_pos h, if_neg h2]
theorem readL_bad {s : List UInt8} {m a : Nat} (e : numF s 0 0 = (false, m, a)) : readL s = ([], 0, 2) := by
  unfold readL; rw [e]; rfl
theorem readL_of {s : List UInt8} {n i : Nat} (e : numF s 0 0 = (true, n, i)) : readL s = if i = s.length then ([], 0, 1) else if i = 0 then ([], 0, 2) else
  if begF (s.drop i) crlf ≠ 0 then ([], 0, begF (s.drop i) crlf) else
  if (s.length : Int) - (i + 2) < n then ([], 0, 1) else
  if begF (s.drop (i + 2 + n)) crlf ≠ 0 then ([], 0, begF (s.drop (i + 2 + n)) crlf) else
  ((s.drop (i + 2)).take n, i + 2 + n + 2, 0) := by
  unfold readL; rw [e]; simp only [Bool.true_eq_false, if_false]
theorem isBy_drop (s : List UInt8) (i : Nat) (h : i ≤ s.length) : isBy (s.length - i) (shF (byF s) i) ∧ bytesOf (s.length - i) (shF (byF s) i) = s.drop i := by
  have b := ByI.sh (l := i) (k := s.length - i) (ByI.by s) (by omega)
  rw [List.take_of_length_le (by simp)] at b
  exact ⟨b.is, b.bytes⟩

end Go.Abs
