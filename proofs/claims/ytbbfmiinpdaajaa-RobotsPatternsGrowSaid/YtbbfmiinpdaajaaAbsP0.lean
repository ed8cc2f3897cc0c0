/- what functions of this program compute: contracts, each a function's own -/
import Derived.Test.YtbbfmiinpdaajaaAbsA42
namespace Go.Abs
open Go
set_option maxHeartbeats 4000000
set_option maxRecDepth 100000
set_option linter.unusedVariables false
set_option linter.unusedSimpArgs false
def isDig (c : Int) : Bool := decide (48 ≤ c) && decide (c ≤ 57)
def isLet (c : Int) : Bool := decide (97 ≤ c) && decide (c ≤ 122) || decide (65 ≤ c) && decide (c ≤ 90)
def isHex (c : Int) : Bool := isDig c || decide (97 ≤ c) && decide (c ≤ 102) || decide (65 ≤ c) && decide (c ≤ 70)
def hexV (c : Int) : Int := if isDig c = true then c - 48 else if 97 ≤ c then c - 87 else c - 55
def hexRow : List UInt8 := [48, 49, 50, 51, 52, 53, 54, 55, 56, 57, 65, 66, 67, 68, 69, 70]
def digI (c : Int) : Int := if isHex c = true then hexV c else -1
def isFreeI (c : Int) : Bool := isLet c || isDig c || c == 45 || c == 46 || c == 95 || c == 126

/- own slices of bytes -/
theorem appF_byF (l m : List UInt8) : appF l.length (byF l) (byF m) = byF (l ++ m) := by
  funext i
  simp only [appF, byF]
  by_cases h : i < l.length
  · simp [h, List.getElem?_append_left]
  · simp [h, List.getElem?_append_right (by omega : l.length ≤ i)]
/-- bytes, as they are written into a literal -/
theorem litF_byF {vs : List V} {bs : List UInt8} (h : vs = bs.map fun b => V.int .u8 b.toNat) {i : Nat} (hi : i < bs.length) : litF vs i = byF bs i := by
  subst h
  simp [litF, byF, hi]
theorem appF_lit {l bs : List UInt8} {vs : List V} (h : vs = bs.map fun b => V.int .u8 b.toNat) {i : Nat} (hi : i < l.length + bs.length) : appF l.length (byF l) (litF vs) i = byF (l ++ bs) i := by
  rw [← appF_byF]
  simp only [appF]
  by_cases hl : i < l.length
  · simp [hl]
  · simp only [hl, decide_false, cond_false]
    exact litF_byF h (by omega)
theorem bytesOf_byF (l : List UInt8) : bytesOf l.length (byF l) = l := by
  apply List.ext_getElem?
  intro i
  simp only [bytesOf, byF, V.toByte, Int.toNat_natCast]
  by_cases h : i < l.length
  · simp [h]
  · simp [h]
theorem bytesOf_of {n : Nat} {l : List UInt8} {f : Nat → V} (hn : n = l.length) (h : ∀ i, i < n → f i = byF l i) : bytesOf n f = l := by
  subst hn
  rw [← bytesOf_byF l]
  unfold bytesOf
  simp only [List.length_map, List.length_range]
  apply List.map_congr_left
  intro i hi
  rw [h i (by simpa using hi)]
theorem u8_eq (a b : UInt8) : a = b ↔ (a.toNat : Int) = b.toNat := by rw [← UInt8.toNat_inj]; omega
theorem u8_lt (a : UInt8) : a.toNat < 256 := UInt8.toNat_lt a
theorem drop_at {s : List UInt8} {i : Nat} (h : i < s.length) : s.drop i = s.getD i 0 :: s.drop (i + 1) := by
  rw [List.drop_eq_getElem_cons h, List.getD_eq_getElem?_getD, List.getElem?_eq_getElem h]; rfl
theorem take_one {s : List UInt8} {i : Nat} (h : i < s.length) : (s.drop i).take 1 = [s.getD i 0] := by rw [drop_at h]; rfl
theorem take_next {s : List UInt8} {k : Nat} (h : k < s.length) : s.take (k + 1) = s.take k ++ [s.getD k 0] := by
  rw [List.take_add_one, List.getD_eq_getElem?_getD, List.getElem?_eq_getElem h]; rfl

def isHexB (c : UInt8) : Bool := isHex (c.toNat : Int)
def hexN (c : UInt8) : Nat := (hexV (c.toNat : Int)).toNat
def encB (v : Nat) : List UInt8 := if isFreeI (v : Int) = true then [UInt8.ofNat v] else [37, hexRow.getD (v / 16) 0, hexRow.getD (v % 16) 0]
/-- the normal form of what is escaped -/
def normL : List UInt8 → List UInt8
  | c :: a :: b :: r => if c = 37 ∧ isHexB a = true ∧ isHexB b = true then encB (16 * hexN a + hexN b) ++ normL r else c :: normL (a :: b :: r)
  | l => l
/-- every mark has its two digits -/
def wfL : List UInt8 → Bool
  | [] => true
  | [a] => !(a == 37)
  | [a, b] => !(a == 37) && !(b == 37)
  | c :: a :: b :: r => if c = 37 then isHexB a && isHexB b && wfL r else wfL (a :: b :: r)
theorem normL_hex {s : List UInt8} {i : Nat} (h : i + 2 < s.length) (h0 : s.getD i 0 = 37) (h1 : isHexB (s.getD (i + 1) 0) = true) (h2 : isHexB (s.getD (i + 2) 0) = true) :
    normL (s.drop i) = encB (16 * hexN (s.getD (i + 1) 0) + hexN (s.getD (i + 2) 0)) ++ normL (s.drop (i + 3)) := by
  rw [drop_at (by omega : i < s.length), drop_at (by omega : i + 1 < s.length), drop_at (by omega : i + 1 + 1 < s.length), normL, if_pos ⟨h0, h1, h2⟩]
theorem normL_no {s : List UInt8} {i : Nat} (h : i < s.length) (hn : ¬ (s.getD i 0 = 37 ∧ i + 2 < s.length ∧ isHexB (s.getD (i + 1) 0) = true ∧ isHexB (s.getD (i + 2) 0) = true)) :
    normL (s.drop i) = s.getD i 0 :: normL (s.drop (i + 1)) := by
  by_cases h2 : i + 2 < s.length
  · rw [drop_at (by omega : i < s.length), drop_at (by omega : i + 1 < s.length), drop_at (by omega : i + 1 + 1 < s.length), normL, if_neg (fun hh => hn ⟨hh.1, h2, hh.2.1, hh.2.2⟩)]
  · rw [drop_at h]
    generalize s.getD i 0 = c
    have hl : (s.drop (i + 1)).length ≤ 1 := by simp; omega
    match hd : s.drop (i + 1), hl with
    | [], _ => simp [normL]
    | [a], _ => simp [normL]
theorem wfL_hex {s : List UInt8} {i : Nat} (h : i < s.length) (h0 : s.getD i 0 = 37) (hw : wfL (s.drop i) = true) : i + 2 < s.length ∧ isHexB (s.getD (i + 1) 0) = true ∧ isHexB (s.getD (i + 2) 0) = true ∧ wfL (s.drop (i + 3)) = true := by
  by_cases h2 : i + 2 < s.length
  · rw [drop_at (by omega : i < s.length), drop_at (by omega : i + 1 < s.length), drop_at (by omega : i + 1 + 1 < s.length), wfL, if_pos h0] at hw
    simp only [Bool.and_eq_true] at hw
    exact ⟨h2, hw.1.1, hw.1.2, hw.2⟩
  · rw [drop_at h, h0] at hw
    have hl : (s.drop (i + 1)).length ≤ 1 := by simp; omega
    match hd : s.drop (i + 1), hl with
    | [], _ => rw [hd] at hw; simp [wfL] at hw
    | [a], _ => rw [hd] at hw; simp [wfL] at hw
theorem wfL_no {s : List UInt8} {i : Nat} (h : i < s.length) (h0 : ¬ s.getD i 0 = 37) (hw : wfL (s.drop i) = true) : wfL (s.drop (i + 1)) = true := by
  rw [drop_at h] at hw
  revert hw h0
  generalize s.getD i 0 = c
  generalize s.drop (i + 1) = t
  intro h0 hw
  match t with
  | [] => rfl
  | [a] => simp [wfL] at hw ⊢; exact hw.2
  | a :: b :: r => simpa [wfL, h0] using hw
theorem normL_len (s : List UInt8) : (normL s).length ≤ s.length := by
  refine normL.induct (motive := fun s => (normL s).length ≤ s.length) ?_ ?_ ?_ s
  · intro c a b r h ih
    rw [normL, if_pos h]
    simp only [List.length_append, List.length_cons]
    have : (encB (16 * hexN a + hexN b)).length ≤ 3 := by unfold encB; split <;> simp
    omega
  · intro c a b r h ih
    rw [normL, if_neg h]
    simp only [List.length_cons] at ih ⊢
    omega
  · intro l h
    match l with
    | [] => simp [normL]
    | [a] => simp [normL]
    | [a, b] => simp [normL]
    | c :: a :: b :: r => exact (h c a b r rfl).elim
theorem hexV_lt {c : Int} (h : isHex c = true) : 0 ≤ hexV c ∧ hexV c < 16 := by
  simp only [isHex, isDig, Bool.or_eq_true, Bool.and_eq_true, decide_eq_true_eq] at h
  simp only [hexV, isDig, Bool.and_eq_true, decide_eq_true_eq]
  split <;> (try split) <;> omega
theorem nib_or : ∀ a b : Fin 16, bitsI .or .u8 (((a.1 : Nat) : Int) * 2 ^ min 4 IntKind.u8.bits % 256) ((b.1 : Nat) : Int) = 16 * a.1 + b.1 := by decide
theorem nib_and : ∀ v : Fin 256, bitsI .and .u8 ((v.1 : Nat) : Int) 15 = ((v.1 % 16 : Nat) : Int) := by decide
theorem nib_shr (v : Nat) : Int.fdiv ((v : Nat) : Int) (2 ^ min 4 IntKind.u8.bits) = ((v / 16 : Nat) : Int) := by
  show Int.fdiv (v : Int) 16 = _
  rw [Int.fdiv_eq_ediv_of_nonneg _ (by omega)]; omega
theorem or_hex {a b : UInt8} (ha : isHexB a = true) (hb : isHexB b = true) : bitsI .or .u8 (hexV (a.toNat : Int) * 2 ^ min 4 IntKind.u8.bits % 256) (hexV (b.toNat : Int)) = ((16 * hexN a + hexN b : Nat) : Int) := by
  have h1 := hexV_lt ha
  have h2 := hexV_lt hb
  have := nib_or ⟨hexN a, by unfold hexN; omega⟩ ⟨hexN b, by unfold hexN; omega⟩
  have e1 : ((hexN a : Nat) : Int) = hexV (a.toNat : Int) := by unfold hexN; omega
  have e2 : ((hexN b : Nat) : Int) = hexV (b.toNat : Int) := by unfold hexN; omega
  simp only [e1, e2] at this
  rw [this, ← e1, ← e2]; omega
theorem hexN_lt {a : UInt8} (ha : isHexB a = true) : hexN a < 16 := by have := hexV_lt ha; unfold hexN; omega
theorem ofNat_toNat {v : Nat} (h : v < 256) : (UInt8.ofNat v).toNat = v := by simp [UInt8.toNat_ofNat']; omega

def stepR (s : List UInt8) (can : Nat → Bool) (c : Nat) : Nat → Bool := fun k => if c = 42 then (List.range (k + 1)).any can else decide (0 < k) && can (k - 1) && (s.getD (k - 1) 0).toNat == c
def reachN (p s : List UInt8) : Nat → Nat → Bool
  | 0 => fun k => k == 0
  | i + 1 => stepR s (reachN p s i) (p.getD i 0).toNat
def fitsB (p s : List UInt8) (whole : Bool) : Bool := if whole = true then reachN p s p.length s.length else (List.range (s.length + 1)).any (reachN p s p.length)

def okAt (s : List UInt8) (i : Nat) : Bool := !(decide ((s.getD i 0).toNat < 33) || decide (126 < (s.getD i 0).toNat) || (s.getD i 0).toNat == 35 || ((s.getD i 0).toNat == 36 && decide (i + 1 < s.length)))
def patOk (s : List UInt8) : Bool := decide (1 ≤ s.length) && decide (s.length ≤ 300) && ((s.getD 0 0).toNat == 47 || (s.getD 0 0).toNat == 42) && (List.range s.length).all (okAt s)
theorem okAt_iff (s : List UInt8) (i : Nat) : okAt s i = true ↔ ¬ (s.getD i 0).toNat < 33 ∧ ¬ 126 < (s.getD i 0).toNat ∧ ¬ (s.getD i 0).toNat = 35 ∧ ¬ ((s.getD i 0).toNat = 36 ∧ i + 1 < s.length) := by
  simp [okAt]
  omega
theorem patOk_iff (s : List UInt8) : patOk s = true ↔ 1 ≤ s.length ∧ s.length ≤ 300 ∧ ((s.getD 0 0).toNat = 47 ∨ (s.getD 0 0).toNat = 42) ∧ ∀ i, i < s.length → okAt s i = true := by
  simp only [patOk, Bool.and_eq_true, Bool.or_eq_true, decide_eq_true_eq, beq_iff_eq, List.all_eq_true, List.mem_range, and_assoc]
theorem boolF {b : Bool} (h : ¬ b = true) : false = b := by cases b <;> simp_all

def hasSuf (s t : List UInt8) : Bool := decide (t.length ≤ s.length) && (s.drop (s.length - t.length) == t)

theorem last_app (a : List UInt8) {b : List UInt8} (h : b ≠ []) : (a ++ b).getLast? = b.getLast? := by
  rw [List.getLast?_append]
  cases hb : b.getLast? with
  | none => simp [h] at hb
  | some x => rfl
theorem encB_last (v : Nat) (h : v < 256) : (encB v).getLast? ≠ some 36 := by
  unfold encB
  split
  · rename_i hf
    intro he
    simp only [List.getLast?_singleton, Option.some.injEq] at he
    have : v = 36 := by have := congrArg UInt8.toNat he; rw [ofNat_toNat h] at this; exact this
    subst this
    revert hf; decide
  · intro he
    have aux : ∀ n : Fin 16, ¬ hexRow.getD n.1 0 = 36 := by decide
    simp only [List.getLast?_cons_cons, List.getLast?_singleton, Option.some.injEq] at he
    exact aux ⟨v % 16, by omega⟩ he
theorem encB_ne (v : Nat) : encB v ≠ [] := by unfold encB; split <;> simp
theorem normL_nil {s : List UInt8} (h : normL s = []) : s = [] := by
  match s with
  | [] => rfl
  | [a] => simp [normL] at h
  | [a, b] => simp [normL] at h
  | c :: a :: b :: r =>
    simp only [normL] at h
    split at h
    · simp [encB_ne] at h
    · simp at h
theorem normL_last (s : List UInt8) : (normL s).getLast? = some 36 → s.getLast? = some 36 := by
  refine normL.induct (motive := fun s => (normL s).getLast? = some 36 → s.getLast? = some 36) ?_ ?_ ?_ s
  · intro c a b r h ih hl
    rw [normL, if_pos h] at hl
    cases r with
    | nil =>
      simp only [normL, List.append_nil] at hl
      exact absurd hl (encB_last _ (by have := hexN_lt h.2.1; have := hexN_lt h.2.2; omega))
    | cons d r =>
      have hne : normL (d :: r) ≠ [] := fun e => by have := normL_nil e; cases this
      rw [last_app _ hne] at hl
      have := ih hl
      simpa using this
  · intro c a b r h ih hl
    rw [normL, if_neg h] at hl
    have hne : normL (a :: b :: r) ≠ [] := fun e => by have := normL_nil e; cases this
    have : (c :: normL (a :: b :: r)).getLast? = (normL (a :: b :: r)).getLast? := by
      rw [show c :: normL (a :: b :: r) = [c] ++ normL (a :: b :: r) from rfl, last_app _ hne]
    rw [this] at hl
    simpa using ih hl
  · intro l h hl
    match l with
    | [] => simp [normL] at hl
    | [a] => simpa [normL] using hl
    | [a, b] => simpa [normL] using hl
    | c :: a :: b :: r => exact (h c a b r rfl).elim
theorem normL_dollar (s : List UInt8) : normL (s ++ [36]) = normL s ++ [36] := by
  refine normL.induct (motive := fun s => normL (s ++ [36]) = normL s ++ [36]) ?_ ?_ ?_ s
  · intro c a b r h ih
    simp only [List.cons_append, normL, if_pos h, ih, List.append_assoc]
  · intro c a b r h ih
    simp only [List.cons_append, normL, if_neg h]
    simpa using ih
  · intro l h
    match l with
    | [] => rfl
    | [a] => rfl
    | [a, b] =>
      have : isHexB 36 = false := by decide
      simp [normL, this]
    | c :: a :: b :: r => exact (h c a b r rfl).elim
theorem reachN_app (p q s : List UInt8) : ∀ i, i ≤ p.length → reachN (p ++ q) s i = reachN p s i
  | 0, _ => rfl
  | i + 1, h => by
    simp only [reachN]
    rw [reachN_app p q s i (by omega)]
    congr 1
    rw [List.getD_eq_getElem?_getD, List.getElem?_append_left (by omega), List.getD_eq_getElem?_getD]
theorem fits_star (p s : List UInt8) : fitsB (p ++ [42]) s true = fitsB p s false := by
  have h : ((p ++ [42]).getD p.length 0).toNat = 42 := by simp
  simp only [fitsB, if_true, List.length_append, List.length_cons, List.length_nil, reachN]
  rw [h, reachN_app p [42] s p.length (Nat.le_refl _)]
  simp [stepR]
def matchesB (p s : List UInt8) : Bool := if hasSuf p [36] = true then fitsB (normL (p.take (p.length - 1))) s true else fitsB (normL p) s false
theorem suf_iff (p : List UInt8) (c : UInt8) : hasSuf p [c] = true ↔ p = p.take (p.length - 1) ++ [c] := by
  unfold hasSuf
  simp only [List.length_cons, List.length_nil, Bool.and_eq_true, decide_eq_true_eq, beq_iff_eq]
  constructor
  · intro ⟨h1, h2⟩
    conv => lhs; rw [← List.take_append_drop (p.length - 1) p]
    rw [h2]
  · intro h
    have hl : 1 ≤ p.length := by rw [h]; simp
    refine ⟨by omega, ?_⟩
    conv => lhs; rw [h]
    rw [List.drop_append_of_le_length (by simp)]
    simp
theorem suf_last (p : List UInt8) (c : UInt8) : hasSuf p [c] = true ↔ p.getLast? = some c := by
  rw [suf_iff]
  constructor
  · intro h; rw [h]; simp
  · intro h
    obtain ⟨ys, rfl⟩ := List.getLast?_eq_some_iff.1 h
    simp
theorem matches_ref (p s : List UInt8) : fitsB ((if hasSuf (normL p) [36] = true then (normL p).take ((normL p).length - 1) else normL p) ++ (if hasSuf (normL p) [36] = true then [] else [42])) s true = matchesB p s := by
  unfold matchesB
  by_cases h : hasSuf p [36] = true
  · have hp := (suf_iff p 36).1 h
    have hn : normL p = normL (p.take (p.length - 1)) ++ [36] := by
      conv => lhs; rw [hp]
      exact normL_dollar _
    have h2 : hasSuf (normL p) [36] = true := (suf_last _ _).2 (by rw [hn]; simp)
    rw [if_pos h, if_pos h2, if_pos h2, List.append_nil, hn]
    simp
  · have h2 : ¬ hasSuf (normL p) [36] = true := fun h2 => h ((suf_last _ _).2 (normL_last _ ((suf_last _ _).1 h2)))
    rw [if_neg h, if_neg h2, if_neg h2, fits_star]
/-- Matches: whether, and the error -/
def matchesR (p s : List UInt8) : Bool × Int := if patOk p = true then (if 2000 < s.length then (false, 2) else (matchesB p s, 0)) else (false, 3)

theorem idx_at {s : List UInt8} {c : UInt8} {k : Nat} (h : Lib.indexByte s c = (k : Int)) : k < s.length ∧ s.getD k 0 = c ∧ ∀ j, j < k → s.getD j 0 ≠ c := by
  induction s generalizing k with
  | nil => simp only [Lib.indexByte] at h; omega
  | cons b l ih =>
    unfold Lib.indexByte at h
    by_cases hb : b = c
    · subst hb
      simp only [beq_self_eq_true, if_true] at h
      have : k = 0 := by omega
      subst this
      exact ⟨by simp, by simp, fun j hj => by omega⟩
    · rw [if_neg (by simpa using hb)] at h
      have hge := Lib.indexByte_ge l c
      by_cases h1 : Lib.indexByte l c = -1
      · rw [if_pos (by simpa using h1)] at h; omega
      · rw [if_neg (by simpa using h1)] at h
        obtain ⟨k', hk'⟩ : ∃ k' : Nat, Lib.indexByte l c = (k' : Int) := ⟨(Lib.indexByte l c).toNat, by omega⟩
        obtain ⟨a1, a2, a3⟩ := ih hk'
        have : k = k' + 1 := by omega
        subst this
        refine ⟨by simp; omega, by simpa using a2, fun j hj => ?_⟩
        cases j with
        | zero => simpa using hb
        | succ j => simpa using a3 j (by omega)
theorem idx_no {s : List UInt8} {c : UInt8} (h : Lib.indexByte s c < 0) : ∀ j, j < s.length → s.getD j 0 ≠ c := by
  induction s with
  | nil => intro j hj; simp at hj
  | cons b l ih =>
    unfold Lib.indexByte at h
    by_cases hb : b = c
    · subst hb; simp at h
    · rw [if_neg (by simpa using hb)] at h
      have hge := Lib.indexByte_ge l c
      by_cases h1 : Lib.indexByte l c = -1
      · intro j hj
        cases j with
        | zero => simpa using hb
        | succ j => simpa using ih (by omega) j (by simpa using hj)
      · rw [if_neg (by simpa using h1)] at h; omega
theorem idx_no_mem {s : List UInt8} {c : UInt8} (h : Lib.indexByte s c < 0) : c ∉ s := by
  intro hm
  obtain ⟨j, hj, he⟩ := List.getElem_of_mem hm
  have := idx_no h j hj
  rw [List.getD_eq_getElem?_getD, List.getElem?_eq_getElem hj] at this
  exact this he
theorem idx_take_mem {s : List UInt8} {c : UInt8} {k : Nat} (h : Lib.indexByte s c = (k : Int)) : c ∉ s.take k := by
  intro hm
  obtain ⟨j, hj, he⟩ := List.getElem_of_mem hm
  have hk := idx_at h
  simp at hj
  have := hk.2.2 j (by omega)
  rw [List.getD_eq_getElem?_getD, List.getElem?_eq_getElem (by omega)] at this
  rw [List.getElem_take] at he
  exact this he
theorem idx_split {s : List UInt8} {c : UInt8} {k : Nat} (h : Lib.indexByte s c = (k : Int)) : s = s.take k ++ c :: s.drop (k + 1) := by
  have hk := idx_at h
  rw [← hk.2.1]
  rw [List.getD_eq_getElem?_getD, List.getElem?_eq_getElem hk.1, Option.getD_some, ← List.drop_eq_getElem_cons hk.1, List.take_append_drop]

theorem reachN_grow (p s m : List UInt8) : ∀ i k, k ≤ s.length → reachN p (s ++ m) i k = reachN p s i k
  | 0, _, _ => rfl
  | i + 1, k, h => by
    simp only [reachN, stepR]
    split
    · rw [Bool.eq_iff_iff]
      simp only [List.any_eq_true, List.mem_range]
      refine ⟨fun ⟨x, h1, h2⟩ => ⟨x, h1, ?_⟩, fun ⟨x, h1, h2⟩ => ⟨x, h1, ?_⟩⟩
      · rw [← reachN_grow p s m i x (by omega)]; exact h2
      · rw [reachN_grow p s m i x (by omega)]; exact h2
    · by_cases h0 : 0 < k
      · have e : (s ++ m).getD (k - 1) 0 = s.getD (k - 1) 0 := by rw [List.getD_eq_getElem?_getD, List.getElem?_append_left (by omega), List.getD_eq_getElem?_getD]
        rw [reachN_grow p s m i (k - 1) (by omega), e]
      · simp [h0]
theorem fits_grow (p s m : List UInt8) (h : fitsB p s false = true) : fitsB p (s ++ m) false = true := by
  simp only [fitsB, Bool.false_eq_true, if_false, List.any_eq_true, List.mem_range] at h ⊢
  obtain ⟨k, h1, h2⟩ := h
  exact ⟨k, by simp; omega, by rw [reachN_grow p s m _ k (by omega)]; exact h2⟩
theorem fits_star_all (s : List UInt8) : matchesB [42] s = true := by
  have h : hasSuf [42] [36] = false := by decide
  unfold matchesB
  rw [h]
  simp only [Bool.false_eq_true, if_false, fitsB, List.any_eq_true, List.mem_range]
  exact ⟨0, by omega, by simp [normL, reachN, stepR]⟩
theorem matchesR_ok {p s : List UInt8} (h : (matchesR p s).2 = 0) : patOk p = true ∧ s.length ≤ 2000 ∧ (matchesR p s).1 = matchesB p s := by
  unfold matchesR at *
  split at h
  · split at h
    · simp at h
    · rename_i h1 h2; simp [h1, h2]; omega
  · simp at h
theorem grow_law {p s m : List UInt8} (h1 : (matchesR p s).2 = 0) (h2 : (matchesR p (s ++ m)).2 = 0) : ((matchesR p s).1 = false ∨ (matchesR p (s ++ m)).1 = true) ∨ (p.getD (p.length - 1) 0).toNat = 36 := by
  obtain ⟨a1, a2, a3⟩ := matchesR_ok h1
  obtain ⟨b1, b2, b3⟩ := matchesR_ok h2
  rw [a3, b3]
  by_cases hs : hasSuf p [36] = true
  · right
    have := (suf_iff p 36).1 hs
    have hl : 1 ≤ p.length := ((patOk_iff p).1 a1).1
    rw [this]
    simp
  · left
    unfold matchesB
    rw [if_neg hs, if_neg hs]
    cases hf : fitsB (normL p) s false with
    | false => exact .inl rfl
    | true => exact .inr (fits_grow _ _ _ hf)

end Go.Abs
