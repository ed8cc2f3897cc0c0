/- what functions of this program compute: contracts, each a function's own -/
import Derived.Test.YtejiajdjgnnpdaaGreatDoorAbsK3
import Derived.Test.YtejiajdjgnnpdaaGreatDoorAbsFacts
import Derived.Test.YtejiajdjgnnpdaaGreatDoorAbsF1
import Derived.Test.YtejiajdjgnnpdaaGreatDoorAbsShelf
import Derived.Lib.SplitLaws
import Derived.Lib.SlTrimSet
import Derived.Lib.Atoi
import Derived.Lib.Itoa
import Derived.Lib.ItoaNum
import Derived.Lib.AtoiErrMem
import Derived.Lib.Join
import Derived.Lib.Repeat
import Derived.Lib.IndexMore
import Derived.Lib.AsciiSet
import Derived.Lib.IndexAny
import Derived.Sort.Walk0
import Derived.Lib.ItoaLen
import Derived.Shelf.Spec.SlicesInsert
import Derived.Shelf.Spec.SlicesInsertGrow
import Derived.Lib.Overlaps
import Derived.Lib.AppendZerosOnto
import Derived.Laws.NewBlocks
import Derived.WalkKit
import Derived.Lib.Walk
namespace Go.Abs
open Go Go.Proofs
set_option maxHeartbeats 4000000
set_option maxRecDepth 100000
set_option linter.unusedVariables false
set_option linter.unusedSimpArgs false
/- an address -/
structure Adr where
  sc : List UInt8
  ho : List UInt8
  po : List UInt8
  pa : List UInt8
  qu : List UInt8
  hq : Bool
  fr : List UInt8
  hf : Bool
deriving DecidableEq
def noAdr : Adr := ⟨[], [], [], [], [], false, [], false⟩
def decAdr : V → Adr
  | .agg [.str sc, .str ho, .str po, .str pa, .str qu, .bool hq, .str fr, .bool hf] => ⟨sc, ho, po, pa, qu, hq, fr, hf⟩
  | _ => noAdr
def cAdr : Cod Adr := ⟨fun a => .agg [.str a.sc, .str a.ho, .str a.po, .str a.pa, .str a.qu, .bool a.hq, .str a.fr, .bool a.hf], decAdr, noAdr, fun _ => rfl⟩
@[push_cast] theorem enc_adr (a : Adr) : cAdr.enc a = .agg [.str a.sc, .str a.ho, .str a.po, .str a.pa, .str a.qu, .bool a.hq, .str a.fr, .bool a.hf] := rfl
@[push_cast] theorem dec_adr (sc ho po pa qu fr : List UInt8) (hq hf : Bool) : cAdr.dec (.agg [.str sc, .str ho, .str po, .str pa, .str qu, .bool hq, .str fr, .bool hf]) = ⟨sc, ho, po, pa, qu, hq, fr, hf⟩ := rfl
/- how far bytes of a kind go -/
def runN (p : UInt8 → Bool) (s : List UInt8) : Nat := (s.takeWhile p).length
theorem runN_le (p : UInt8 → Bool) (s : List UInt8) : runN p s ≤ s.length := by
  induction s with
  | nil => simp [runN]
  | cons c t ih =>
    unfold runN at *
    rw [List.takeWhile_cons]
    split <;> simp at *; omega
theorem runN_in {p : UInt8 → Bool} : ∀ {s : List UInt8} {j : Nat}, j < runN p s → p (s.getD j 0) = true
  | [], j, h => by simp [runN] at h
  | c :: t, j, h => by
    unfold runN at h
    rw [List.takeWhile_cons] at h
    split at h
    · rename_i hc
      cases j with
      | zero => simpa using hc
      | succ j =>
        rw [List.getD_cons_succ]
        exact runN_in (by simpa [runN] using h)
    · simp at h
theorem runN_at {p : UInt8 → Bool} : ∀ {s : List UInt8} {n : Nat}, n ≤ s.length → (∀ j, j < n → p (s.getD j 0) = true) → (n < s.length → p (s.getD n 0) = false) → runN p s = n
  | [], n, h, _, _ => by simp at h; subst h; rfl
  | c :: t, 0, h, _, h2 => by
    have := h2 (by simp)
    unfold runN
    rw [List.takeWhile_cons, if_neg (by simpa using this)]; rfl
  | c :: t, n + 1, h, h1, h2 => by
    have h0 := h1 0 (by omega)
    unfold runN
    rw [List.takeWhile_cons, if_pos (by simpa using h0), List.length_cons]
    congr 1
    exact runN_at (by simpa using h) (fun j hj => by have := h1 (j + 1) (by omega); simpa using this) (fun hn => by have := h2 (by simpa using hn); simpa using this)
theorem runN_out {p : UInt8 → Bool} : ∀ {s : List UInt8}, runN p s < s.length → p (s.getD (runN p s) 0) = false
  | [], h => by simp [runN] at h
  | c :: t, h => by
    unfold runN at h ⊢
    rw [List.takeWhile_cons] at h ⊢
    split at h
    · rename_i hc
      rw [if_pos hc, List.length_cons, List.getD_cons_succ]
      exact runN_out (by simpa [runN] using h)
    · rename_i hc
      rw [if_neg hc]
      simpa using hc
/- the beginning of a text, in small letters -/
def mt : List UInt8 → List UInt8 → Nat
  | c :: s, d :: w => if lowB c = d then mt s w + 1 else 0
  | _, _ => 0
theorem mt_le : ∀ (s w : List UInt8), mt s w ≤ s.length ∧ mt s w ≤ w.length
  | [], w => by simp [mt]
  | c :: s, [] => by simp [mt]
  | c :: s, d :: w => by
    have := mt_le s w
    rw [mt]
    split
    · simp only [List.length_cons]; omega
    · simp
theorem mt_at : ∀ {s w : List UInt8} {n : Nat}, n ≤ s.length → n ≤ w.length → (∀ j, j < n → lowB (s.getD j 0) = w.getD j 0) → (n < s.length → n < w.length → ¬ lowB (s.getD n 0) = w.getD n 0) → mt s w = n
  | [], w, n, h, _, _, _ => by simp at h; subst h; rfl
  | c :: s, [], n, _, h, _, _ => by simp at h; subst h; rfl
  | c :: s, d :: w, 0, _, _, _, h => by
    have := h (by simp) (by simp)
    rw [mt, if_neg (by simpa using this)]
  | c :: s, d :: w, n + 1, h1, h2, h3, h4 => by
    have h0 := h3 0 (by omega)
    rw [mt, if_pos (by simpa using h0)]
    congr 1
    exact mt_at (by simpa using h1) (by simpa using h2) (fun j hj => by have := h3 (j + 1) (by omega); simpa using this) (fun a b => by have := h4 (by simpa using a) (by simpa using b); simpa using this)
theorem mt_app : ∀ (s w v : List UInt8), mt s (w ++ v) = if mt s w = w.length then w.length + mt (s.drop w.length) v else mt s w
  | s, [], v => by
    cases s <;> simp [mt]
  | [], d :: w, v => by simp [mt]
  | c :: s, d :: w, v => by
    rw [List.cons_append, mt, mt]
    by_cases h : lowB c = d
    · rw [if_pos h, if_pos h, mt_app s w v]
      simp only [List.length_cons, List.drop_succ_cons]
      by_cases h2 : mt s w = w.length
      · rw [if_pos h2, if_pos (by omega)]; omega
      · rw [if_neg h2, if_neg (by omega)]
    · rw [if_neg h, if_neg h, if_neg (by simp)]
def wHttp : List UInt8 := [104, 116, 116, 112]
def wHttps : List UInt8 := [104, 116, 116, 112, 115]
def wSep : List UInt8 := [58, 47, 47]
/-- the scheme and what is behind it: how far; or the place of what is wrong -/
def schL (s : List UInt8) : Bool × Nat :=
  if mt s (wHttp ++ wSep) = 7 then (true, 7) else if mt s (wHttps ++ wSep) = 8 then (true, 8) else (false, max (mt s (wHttp ++ wSep)) (mt s (wHttps ++ wSep)))
def pasL (s w : List UInt8) (a : Nat) : Int := if mt (s.drop a) w = w.length then -1 else ((a + mt (s.drop a) w : Nat) : Int)
/-- the same, as the reference has it: the place of what is wrong or -1; the scheme's length -/
def sch2N (s : List UInt8) : Nat := if pasL s wHttp 0 < 0 ∧ 4 < s.length ∧ ((s.getD 4 0).toNat = 115 ∨ (s.getD 4 0).toNat = 83) then 5 else 4
def sch2K (s : List UInt8) : Int := if pasL s wHttp 0 < 0 then pasL s wSep (sch2N s) else pasL s wHttp 0
theorem low115 (c : UInt8) : lowB c = 115 ↔ (c.toNat = 115 ∨ c.toNat = 83) := by
  have key : ∀ n, n < 256 → (lowB (UInt8.ofNat n) = 115 ↔ ((UInt8.ofNat n).toNat = 115 ∨ (UInt8.ofNat n).toNat = 83)) := by decide +kernel
  have := key c.toNat (UInt8.toNat_lt c)
  simpa using this
theorem dropD (s : List UInt8) (a : Nat) (h : a < s.length) : s.drop a = s.getD a 0 :: s.drop (a + 1) := dropG (d := 0) h
theorem sch_same (s : List UInt8) : (0 ≤ sch2K s → schL s = (false, (sch2K s).toNat)) ∧ (sch2K s < 0 → schL s = (true, sch2N s + 3)) := by
  have e1 : mt s (wHttp ++ wSep) = if mt s wHttp = 4 then 4 + mt (s.drop 4) wSep else mt s wHttp := mt_app s wHttp wSep
  have e2 : mt s (wHttps ++ wSep) = if mt s wHttp = 4 then 4 + mt (s.drop 4) (115 :: wSep) else mt s wHttp := mt_app s wHttp (115 :: wSep)
  have hl := mt_le s wHttp
  have hl2 : mt s wHttp ≤ 4 := hl.2
  have hp : pasL s wHttp 0 = if mt s wHttp = 4 then -1 else (mt s wHttp : Int) := by
    unfold pasL; rw [List.drop_zero, Nat.zero_add]; rfl
  by_cases h : mt s wHttp = 4
  · have hp' : pasL s wHttp 0 = -1 := by rw [hp, if_pos h]
    rw [if_pos h] at e1 e2
    have hs3 := (mt_le (s.drop 4) wSep).2
    have hs3 : mt (s.drop 4) wSep ≤ 3 := hs3
    by_cases h4 : 4 < s.length ∧ ((s.getD 4 0).toNat = 115 ∨ (s.getD 4 0).toNat = 83)
    · have hN : sch2N s = 5 := by unfold sch2N; rw [if_pos ⟨by rw [hp']; omega, h4⟩]
      have ed := dropD s 4 h4.1
      have hlo := (low115 _).2 h4.2
      have z1 : mt (s.drop 4) wSep = 0 := by
        rw [ed]
        show (if lowB (s.getD 4 0) = 58 then _ else 0) = 0
        rw [if_neg (by rw [hlo]; decide)]
      have z2 : mt (s.drop 4) (115 :: wSep) = mt (s.drop 5) wSep + 1 := by rw [ed, mt, if_pos hlo]
      have h53 : mt (s.drop 5) wSep ≤ 3 := (mt_le (s.drop 5) wSep).2
      rw [z1] at e1
      rw [z2] at e2
      have hK : sch2K s = if mt (s.drop 5) wSep = 3 then -1 else ((5 + mt (s.drop 5) wSep : Nat) : Int) := by
        unfold sch2K; rw [hp', if_pos (by omega), hN]; rfl
      unfold schL
      rw [e1, e2, hK, hN, if_neg (show ¬ (4 + 0 = 7) by omega)]
      by_cases h5 : mt (s.drop 5) wSep = 3
      · rw [if_pos h5]
        exact ⟨fun x => by omega, fun _ => by rw [if_pos (by omega)]⟩
      · rw [if_neg h5]
        exact ⟨fun _ => by rw [if_neg (by omega)]; congr 1; omega, fun x => by omega⟩
    · have hN : sch2N s = 4 := by unfold sch2N; rw [if_neg (fun x => h4 x.2)]
      have z2 : mt (s.drop 4) (115 :: wSep) = 0 := by
        by_cases h5 : 4 < s.length
        · rw [dropD s 4 h5, mt, if_neg (fun x => h4 ⟨h5, (low115 _).1 x⟩)]
        · rw [List.drop_eq_nil_of_le (by omega)]; rfl
      rw [z2] at e2
      have hK : sch2K s = if mt (s.drop 4) wSep = 3 then -1 else ((4 + mt (s.drop 4) wSep : Nat) : Int) := by
        unfold sch2K; rw [hp', if_pos (by omega), hN]; rfl
      unfold schL
      rw [e1, e2, hK, hN]
      by_cases h5 : mt (s.drop 4) wSep = 3
      · rw [if_pos h5]
        exact ⟨fun x => by omega, fun _ => by rw [if_pos (by omega)]⟩
      · rw [if_neg h5]
        exact ⟨fun _ => by rw [if_neg (by omega), if_neg (by omega)]; congr 1; omega, fun x => by omega⟩
  · have hp' : pasL s wHttp 0 = (mt s wHttp : Int) := by rw [hp, if_neg h]
    rw [if_neg h] at e1 e2
    have hK : sch2K s = (mt s wHttp : Int) := by unfold sch2K; rw [hp', if_neg (by omega)]
    unfold schL
    rw [e1, e2, hK, if_neg (show ¬ mt s wHttp = 7 by omega), if_neg (show ¬ mt s wHttp = 8 by omega)]
    exact ⟨fun _ => by congr 1; omega, fun x => by omega⟩
theorem sch_b (s : List UInt8) : (schL s).2 ≤ s.length := by
  have h1 := mt_le s (wHttp ++ wSep)
  have h2 := mt_le s (wHttps ++ wSep)
  unfold schL
  split
  · show 7 ≤ _; omega
  · split
    · show 8 ≤ _; omega
    · show max _ _ ≤ _; omega
/- host and port -/
def hostB (c : UInt8) : Bool := isLet (c.toNat : Int) || isDig (c.toNat : Int) || decide (c.toNat = 45) || decide (c.toNat = 46)
def digB (c : UInt8) : Bool := isDig (c.toNat : Int)
def portV (s : List UInt8) : Int := s.foldl (fun n c => 10 * n + ((c.toNat : Int) - 48)) 0
/-- the number of a port, or 0 -/
def portN (s : List UInt8) : Int := if 1 ≤ s.length ∧ s.length ≤ 5 ∧ s.all digB = true ∧ portV s ≤ 65535 then portV s else 0
def isAt (s : List UInt8) (a : Nat) (c : Nat) : Bool := decide (a < s.length) && decide ((s.getD a 0).toNat = c)
def cutS (s : List UInt8) (a n : Nat) : List UInt8 := (s.drop a).take n
def hoN (s : List UInt8) (a : Nat) : Nat := runN hostB (s.drop a)
def poN (s : List UInt8) (a : Nat) : Nat := runN digB (s.drop a)
def endB (s : List UInt8) (b : Nat) : Bool := decide (b = s.length) || decide (0 ≤ Lib.indexByte [47, 63, 35] (s.getD b 0))
structure Plc where
  ok : Bool
  at' : Nat
  ho : List UInt8
  po : List UInt8
def plcL (s : List UInt8) (a : Nat) : Plc :=
  if hostL (cutS s a (hoN s a)) = false then ⟨false, a, cutS s a (hoN s a), []⟩
  else if isAt s (a + hoN s a) 58 = true then
    (if portN (cutS s (a + hoN s a + 1) (poN s (a + hoN s a + 1))) = 0 then ⟨false, a + hoN s a + 1, cutS s a (hoN s a), cutS s (a + hoN s a + 1) (poN s (a + hoN s a + 1))⟩
     else ⟨endB s (a + hoN s a + 1 + poN s (a + hoN s a + 1)), a + hoN s a + 1 + poN s (a + hoN s a + 1), cutS s a (hoN s a), cutS s (a + hoN s a + 1) (poN s (a + hoN s a + 1))⟩)
  else ⟨endB s (a + hoN s a), a + hoN s a, cutS s a (hoN s a), []⟩
theorem cutS_len {s : List UInt8} {a n : Nat} (h : a + n ≤ s.length) : (cutS s a n).length = n := by
  unfold cutS; rw [List.length_take, List.length_drop]; omega
theorem hoN_le {s : List UInt8} {a : Nat} (h : a ≤ s.length) : a + hoN s a ≤ s.length := by
  have := runN_le hostB (s.drop a)
  rw [List.length_drop] at this
  unfold hoN; omega
theorem poN_le {s : List UInt8} {a : Nat} (h : a ≤ s.length) : a + poN s a ≤ s.length := by
  have := runN_le digB (s.drop a)
  rw [List.length_drop] at this
  unfold poN; omega
theorem isAt_lt {s : List UInt8} {a c : Nat} (h : isAt s a c = true) : a < s.length := by
  unfold isAt at h
  rw [Bool.and_eq_true, decide_eq_true_eq] at h
  exact h.1
theorem plc_b {s : List UInt8} {a : Nat} (h : a ≤ s.length) : (plcL s a).at' ≤ s.length := by
  have h1 := hoN_le h
  unfold plcL
  split
  · exact h
  · split
    · rename_i hc
      have hc := isAt_lt hc
      have h2 := poN_le (s := s) (a := a + hoN s a + 1) (by omega)
      split
      · exact hc
      · exact h2
    · exact h1
/- rows -/
def rdRow (s : List UInt8) (a : Nat) (w : List UInt8) : Nat × Bool := reL (s.drop a) w ((s.drop a).length + 1) 0
structure Rst where
  ok : Bool
  at' : Nat
  pa : List UInt8
  qu : List UInt8
  hq : Bool
  fr : List UInt8
  hf : Bool
def rst3 (s : List UInt8) (d : Nat) (pa qu : List UInt8) (hq : Bool) : Rst :=
  if isAt s d 35 = true then ⟨(rdRow s (d + 1) []).2, d + 1 + (rdRow s (d + 1) []).1, pa, qu, hq, cutS s (d + 1) (rdRow s (d + 1) []).1, true⟩ else ⟨true, d, pa, qu, hq, [], false⟩
def rst2 (s : List UInt8) (c : Nat) (pa : List UInt8) : Rst :=
  if isAt s c 63 = true then (if (rdRow s (c + 1) [35]).2 = false then ⟨false, c + 1 + (rdRow s (c + 1) [35]).1, pa, cutS s (c + 1) (rdRow s (c + 1) [35]).1, true, [], false⟩ else rst3 s (c + 1 + (rdRow s (c + 1) [35]).1) pa (cutS s (c + 1) (rdRow s (c + 1) [35]).1) true)
  else rst3 s c pa [] false
def rstL (s : List UInt8) (b : Nat) : Rst :=
  if (rdRow s b [63, 35]).2 = false then ⟨false, b + (rdRow s b [63, 35]).1, cutS s b (rdRow s b [63, 35]).1, [], false, [], false⟩ else rst2 s (b + (rdRow s b [63, 35]).1) (cutS s b (rdRow s b [63, 35]).1)
/-- an address, read -/
def readA (s : List UInt8) : Adr × Int × Int :=
  if 2000 < s.length then (noAdr, 0, 2)
  else if (schL s).1 = false then (noAdr, (schL s).2, 10)
  else if (plcL s (schL s).2).ok = false then (noAdr, (plcL s (schL s).2).at', 10)
  else if (rstL s (plcL s (schL s).2).at').ok = false then (noAdr, (rstL s (plcL s (schL s).2).at').at', 10)
  else (⟨s.take ((schL s).2 - 3), (plcL s (schL s).2).ho, (plcL s (schL s).2).po, (rstL s (plcL s (schL s).2).at').pa, (rstL s (plcL s (schL s).2).at').qu, (rstL s (plcL s (schL s).2).at').hq, (rstL s (plcL s (schL s).2).at').fr, (rstL s (plcL s (schL s).2).at').hf⟩, 0, 0)
theorem reL_le (s w : List UInt8) : ∀ k i, i ≤ s.length → (reL s w k i).1 ≤ s.length
  | 0, i, h => Nat.le_refl _
  | k + 1, i, h => by
    rw [reL]
    split
    · exact Nat.le_refl _
    · split
      · exact h
      · split
        · exact h
        · split
          · split
            · rename_i hp
              simp only [pctB, Bool.and_eq_true, decide_eq_true_eq] at hp
              exact reL_le s w k _ (by omega)
            · exact h
          · exact reL_le s w k _ (by omega)
theorem rdRow_le {s : List UInt8} {a : Nat} {w : List UInt8} (h : a ≤ s.length) : a + (rdRow s a w).1 ≤ s.length := by
  have := reL_le (s.drop a) w ((s.drop a).length + 1) 0 (Nat.zero_le _)
  unfold rdRow
  rw [List.length_drop] at this ⊢
  omega
/- the reference's rows: up to a byte that ends them, and the first place that is none of a row -/
def cell0 (s : List UInt8) (j : Nat) : Bool := rowB (s.getD j 0) && (decide ((s.getD j 0).toNat ≠ 37) || pctB s j)
def rb0 (s : List UInt8) : Int := match (List.range s.length).find? (fun j => !cell0 s j) with
  | some j => (j : Int)
  | none => -1
theorem rb0_at {s : List UInt8} {i : Nat} (hi : i < s.length) (h : ∀ j, j < i → cell0 s j = true) (hc : cell0 s i = false) : rb0 s = i := by
  unfold rb0
  have : (List.range s.length).find? (fun j => !cell0 s j) = some i := by
    rw [List.find?_range_eq_some]
    exact ⟨by simpa using hc, List.mem_range.2 hi, fun j hj => by simpa using h j hj⟩
  rw [this]
theorem rb0_no {s : List UInt8} (h : ∀ j, j < s.length → cell0 s j = true) : rb0 s = -1 := by
  unfold rb0
  have : (List.range s.length).find? (fun j => !cell0 s j) = none := by
    rw [List.find?_eq_none]
    intro j hj
    rw [h j (List.mem_range.1 hj)]; simp
  rw [this]
theorem rb0_b (s : List UInt8) : -1 ≤ rb0 s ∧ rb0 s < s.length := by
  unfold rb0
  split
  · rename_i j h
    have := List.mem_range.1 (List.mem_of_find?_eq_some h)
    omega
  · omega
def stopB (w : List UInt8) (c : UInt8) : Bool := decide (Lib.indexByte w c < 0)
def utN (s : List UInt8) (a : Nat) (w : List UInt8) : Nat := runN (stopB w) (s.drop a)
def okStop (w : List UInt8) : Prop := ∀ c : UInt8, isHex (c.toNat : Int) = true → stopB w c = true
theorem okStop_of {w : List UInt8} (h : (List.range 256).all (fun n => !isHex (n : Int) || stopB w (UInt8.ofNat n)) = true) : okStop w := by
  intro c hc
  rw [List.all_eq_true] at h
  have := h c.toNat (List.mem_range.2 (UInt8.toNat_lt c))
  rw [hc] at this
  simpa using this
theorem ok_1 : okStop [63, 35] := okStop_of (by decide +kernel)
theorem ok_2 : okStop [35] := okStop_of (by decide +kernel)
theorem ok_3 : okStop [] := okStop_of (by decide +kernel)
theorem getD_take {s : List UInt8} {n j : Nat} (h : j < n) : (s.take n).getD j 0 = s.getD j 0 := by
  rw [List.getD_eq_getElem?_getD, List.getD_eq_getElem?_getD, List.getElem?_take_of_lt h]
theorem row_go {t w : List UInt8} (hw : okStop w) : ∀ (k i : Nat), t.length < i + k → i ≤ runN (stopB w) t → (∀ j, j < i → cell0 (t.take (runN (stopB w) t)) j = true) → reL t w k i = if rb0 (t.take (runN (stopB w) t)) < 0 then (runN (stopB w) t, true) else ((rb0 (t.take (runN (stopB w) t))).toNat, false)
  | 0, i, h, hi, _ => by have := runN_le (stopB w) t; omega
  | k + 1, i, h, hi, hc => by
    have hN := runN_le (stopB w) t
    have hin := fun j => runN_in (p := stopB w) (s := t) (j := j)
    have hout := runN_out (p := stopB w) (s := t)
    generalize hNe : runN (stopB w) t = N at hi hc hN hin hout ⊢
    have hlen : (t.take N).length = N := by rw [List.length_take]; omega
    have eN : i = N → rb0 (t.take N) = -1 := fun e => rb0_no fun j hj => hc j (by omega)
    rw [reL]
    by_cases h1 : t.length ≤ i
    · rw [if_pos h1, eN (by omega), if_pos (by omega)]
      congr 1; omega
    rw [if_neg h1]
    by_cases h2 : i = N
    · subst h2
      have := hout (by omega)
      unfold stopB at this
      rw [decide_eq_false_iff_not] at this
      rw [if_pos (by omega), eN rfl, if_pos (by omega)]
    have hs := hin i (by omega)
    unfold stopB at hs
    rw [decide_eq_true_eq] at hs
    rw [if_neg (by omega)]
    have hg : (t.take N).getD i 0 = t.getD i 0 := getD_take (by omega)
    have hp : pctB (t.take N) i = pctB t i := by
      rw [Bool.eq_iff_iff]
      unfold pctB
      simp only [Bool.and_eq_true, decide_eq_true_eq, hlen]
      constructor
      · rintro ⟨⟨a, b⟩, c⟩
        rw [getD_take (by omega)] at b c
        exact ⟨⟨by omega, b⟩, c⟩
      · rintro ⟨⟨a, b⟩, c⟩
        have b' := hw _ b
        have c' := hw _ c
        have n1 : i + 1 ≠ N := fun e => by rw [e, hout (by omega)] at b'; cases b'
        have n2 : i + 2 ≠ N := fun e => by rw [e, hout (by omega)] at c'; cases c'
        refine ⟨⟨by omega, ?_⟩, ?_⟩
        · rw [getD_take (by omega)]; exact b
        · rw [getD_take (by omega)]; exact c
    have bad : cell0 (t.take N) i = false → (i, false) = if rb0 (t.take N) < 0 then (N, true) else ((rb0 (t.take N)).toNat, false) := fun hb => by
      rw [rb0_at (by omega) hc hb, if_neg (by omega), Int.toNat_natCast]
    by_cases h3 : rowB (t.getD i 0) = false
    · rw [if_pos h3]
      exact bad (by unfold cell0; rw [hg, h3]; rfl)
    rw [if_neg h3]
    have h3' : rowB (t.getD i 0) = true := by simpa using h3
    by_cases h4 : (t.getD i 0).toNat = 37
    · rw [if_pos h4]
      by_cases hpc : pctB t i = true
      · rw [if_pos hpc]
        have hp' := hp.trans hpc
        simp only [pctB, Bool.and_eq_true, decide_eq_true_eq, hlen] at hp'
        have key := row_go (t := t) hw k (i + 3) (by omega) (by rw [hNe]; omega) (fun j hj => by
          rw [hNe]
          by_cases e : j < i
          · exact hc j e
          rcases (by omega : j = i ∨ j = i + 1 ∨ j = i + 2) with rfl | rfl | rfl
          · unfold cell0; rw [hg, h3', hp, hpc]; simp
          · have := cell_hex _ hp'.1.2
            unfold cell0; rw [this.1, decide_eq_true this.2.2]; rfl
          · have := cell_hex _ hp'.2
            unfold cell0; rw [this.1, decide_eq_true this.2.2]; rfl)
        rw [hNe] at key
        exact key
      · rw [if_neg hpc]
        exact bad (by unfold cell0; rw [hg, h3', hp, decide_eq_false (fun x => x h4)]; simpa using hpc)
    · rw [if_neg h4]
      have key := row_go (t := t) hw k (i + 1) (by omega) (by rw [hNe]; omega) (fun j hj => by
        rw [hNe]
        by_cases e : j < i
        · exact hc j e
        obtain rfl : j = i := by omega
        unfold cell0; rw [hg, h3', decide_eq_true h4]; rfl)
      rw [hNe] at key
      exact key
/-- both ways to read a row -/
theorem row_same {s w : List UInt8} (hw : okStop w) (a : Nat) : rdRow s a w = if rb0 (cutS s a (utN s a w)) < 0 then (utN s a w, true) else ((rb0 (cutS s a (utN s a w))).toNat, false) :=
  row_go hw _ 0 (by omega) (Nat.zero_le _) (fun j hj => by omega)
theorem utN_le {s : List UInt8} {a : Nat} {w : List UInt8} (h : a ≤ s.length) : a + utN s a w ≤ s.length := by
  have := runN_le (stopB w) (s.drop a)
  rw [List.length_drop] at this
  unfold utN; omega

/- rows of digits -/
def isDg (c : UInt8) : Bool := decide (48 ≤ c.toNat ∧ c.toNat ≤ 57)
def digs : List UInt8 := [48, 49, 50, 51, 52, 53, 54, 55, 56, 57]
theorem digs_has (c : UInt8) : digs.contains c = isDg c := by
  have key : ∀ n, n < 256 → digs.contains (UInt8.ofNat n) = isDg (UInt8.ofNat n) := by decide +kernel
  have := key c.toNat (UInt8.toNat_lt c)
  simpa using this
theorem dropW_nil {p : UInt8 → Bool} : ∀ {l : List UInt8}, l.dropWhile p = [] ↔ ∀ x ∈ l, p x = true
  | [] => by simp
  | a :: l => by
    rw [List.dropWhile_cons]
    cases h : p a with
    | true => simp only [if_true, dropW_nil, List.mem_cons, forall_eq_or_imp, h, true_and]
    | false => simp [h]
theorem dropW_head {p : UInt8 → Bool} : ∀ {l : List UInt8} {a : UInt8} {t : List UInt8}, l.dropWhile p = a :: t → p a = false
  | [], _, _, h => by simp at h
  | b :: l, a, t, h => by
    rw [List.dropWhile_cons] at h
    cases hb : p b with
    | true => rw [hb] at h; exact dropW_head h
    | false => rw [hb] at h; simp only [Bool.false_eq_true, if_false, List.cons.injEq] at h; rw [← h.1]; exact hb
theorem dropW_sub {p : UInt8 → Bool} : ∀ {l : List UInt8} {x : UInt8}, x ∈ l.dropWhile p → x ∈ l
  | [], _, h => by simp at h
  | b :: l, x, h => by
    rw [List.dropWhile_cons] at h
    split at h
    · exact List.mem_cons_of_mem _ (dropW_sub h)
    · exact h
theorem snoc_ind {α : Type} {P : List α → Prop} (h0 : P []) (h : ∀ s c, P s → P (s ++ [c])) (s : List α) : P s := by
  have : ∀ t : List α, P t.reverse := by
    intro t
    induction t with
    | nil => exact h0
    | cons a t ih => rw [List.reverse_cons]; exact h _ _ ih
  simpa using this s.reverse
theorem trimS_nil (s cs : List UInt8) : Lib.trimS s cs = [] ↔ s.all (cs.contains ·) = true := by
  unfold Lib.trimS Lib.trimLeftS Lib.trimRightS
  rw [dropW_nil, List.all_eq_true]
  constructor
  · intro h x hx
    have hr : s.reverse.dropWhile (fun x => cs.contains x) = [] := by
      cases hd : s.reverse.dropWhile (fun x => cs.contains x) with
      | nil => rfl
      | cons a t =>
        have h1 := dropW_head hd
        have h2 := h a (by rw [hd]; simp)
        rw [h1] at h2; cases h2
    rw [dropW_nil] at hr
    exact hr x (by simpa using hx)
  · intro h x hx
    exact h x (by have := dropW_sub (by simpa using hx); simpa using this)
theorem trim_dig (s : List UInt8) : Lib.trimS s digs = [] ↔ s.all isDg = true := by
  rw [trimS_nil]
  have : (fun x => digs.contains x) = isDg := funext digs_has
  rw [this]
def natOf (s : List UInt8) : Nat := s.foldl (fun a c => a * 10 + (c.toNat - 48)) 0
theorem natOf_snoc (s : List UInt8) (c : UInt8) : natOf (s ++ [c]) = natOf s * 10 + (c.toNat - 48) := by simp [natOf, List.foldl_append]
theorem decFrom_dig : ∀ (s : List UInt8) (a : Nat), s.all isDg = true → Lib.decFrom a s = some (s.foldl (fun a c => a * 10 + (c.toNat - 48)) a)
  | [], a, _ => rfl
  | c :: s, a, h => by
    simp only [List.all_cons, Bool.and_eq_true] at h
    have hc : 48 ≤ c.toNat ∧ c.toNat ≤ 57 := of_decide_eq_true h.1
    simp only [Lib.decFrom, Lib.digitVal, if_pos hc, List.foldl_cons]
    exact decFrom_dig s _ h.2
theorem atoi_dig {s : List UInt8} (h0 : s ≠ []) (h : s.all isDg = true) : Lib.atoi s = some (natOf s : Int) := by
  cases s with
  | nil => exact absurd rfl h0
  | cons c s =>
    have hc : 48 ≤ c.toNat ∧ c.toNat ≤ 57 := of_decide_eq_true (by simp only [List.all_cons, Bool.and_eq_true] at h; exact h.1)
    have h1 : (c == 45) = false := by
      simp only [beq_eq_false_iff_ne]; intro e; subst e; revert hc; decide
    have h2 : (c == 43) = false := by
      simp only [beq_eq_false_iff_ne]; intro e; subst e; revert hc; decide
    unfold Lib.atoi
    simp only [h1, h2, Bool.false_eq_true, if_false]
    unfold Lib.decNat
    simp only [List.isEmpty_cons, Bool.false_eq_true, if_false]
    rw [decFrom_dig _ _ h]
    rfl
theorem natOf_lt (s : List UInt8) : s.all isDg = true → natOf s < 10 ^ s.length := by
  refine snoc_ind (P := fun s => s.all isDg = true → natOf s < 10 ^ s.length) (fun _ => by simp [natOf]) (fun s c ih h => ?_) s
  simp only [List.all_append, List.all_cons, List.all_nil, Bool.and_true, Bool.and_eq_true] at h
  have hc : 48 ≤ c.toNat ∧ c.toNat ≤ 57 := of_decide_eq_true h.2
  have := ih h.1
  rw [natOf_snoc, List.length_append, List.length_singleton, Nat.pow_succ]
  omega
/-- digits, from 1 to n of them, without a needless 0 -/
def digL (s : List UInt8) (n : Int) : Bool := decide (1 ≤ s.length) && decide ((s.length : Int) ≤ n) && s.all isDg && (decide (s.getD 0 0 ≠ 48) || s == [48])
theorem itoa_nat (n : Nat) : Lib.itoa (n : Int) = Lib.decDigits n := by unfold Lib.itoa; rw [if_neg (by omega)]; simp
theorem dec_step {n : Nat} (h : 10 ≤ n) : Lib.decDigits n = Lib.decDigits (n / 10) ++ [UInt8.ofNat (48 + n % 10)] := by
  rw [Lib.decDigits, dif_neg (by omega)]
theorem dec_small {n : Nat} (h : n < 10) : Lib.decDigits n = [UInt8.ofNat (48 + n)] := by
  rw [Lib.decDigits, dif_pos h]
theorem natOf_pos {s : List UInt8} (h : s.all isDg = true) (h0 : 1 ≤ s.length) (h1 : s.getD 0 0 ≠ 48) : 1 ≤ natOf s := by
  revert h h0 h1
  refine snoc_ind (P := fun s => s.all isDg = true → 1 ≤ s.length → s.getD 0 0 ≠ 48 → 1 ≤ natOf s) (fun _ h => by simp at h) (fun s c ih h _ h1 => ?_) s
  simp only [List.all_append, List.all_cons, List.all_nil, Bool.and_true, Bool.and_eq_true] at h
  have hc : 48 ≤ c.toNat ∧ c.toNat ≤ 57 := of_decide_eq_true h.2
  rw [natOf_snoc]
  cases s with
  | nil =>
    simp only [List.nil_append, List.getD_cons_zero] at h1
    have : c.toNat ≠ 48 := fun e => h1 (UInt8.toNat_inj.1 e)
    omega
  | cons a s =>
    have := ih h.1 (by simp) (by simpa using h1)
    omega
/-- a number's digits are written as they were read -/
theorem dec_natOf {s : List UInt8} (h : s.all isDg = true) (h0 : 1 ≤ s.length) (h1 : s.getD 0 0 ≠ 48 ∨ s.length = 1) : Lib.decDigits (natOf s) = s := by
  revert h h0 h1
  refine snoc_ind (P := fun s => s.all isDg = true → 1 ≤ s.length → (s.getD 0 0 ≠ 48 ∨ s.length = 1) → Lib.decDigits (natOf s) = s) (fun _ h => by simp at h) (fun s c ih h _ h1 => ?_) s
  simp only [List.all_append, List.all_cons, List.all_nil, Bool.and_true, Bool.and_eq_true] at h
  have hc : 48 ≤ c.toNat ∧ c.toNat ≤ 57 := of_decide_eq_true h.2
  have hcc : UInt8.ofNat (48 + (c.toNat - 48)) = c := by rw [show 48 + (c.toNat - 48) = c.toNat by omega]; simp
  rw [natOf_snoc]
  cases s with
  | nil =>
    simp only [natOf, List.foldl_nil, Nat.zero_mul, Nat.zero_add, List.nil_append]
    rw [dec_small (by omega), hcc]
  | cons a s =>
    have h48 : (a :: s).getD 0 0 ≠ 48 := by
      rcases h1 with h1 | h1
      · simpa using h1
      · simp at h1
    have hp := natOf_pos h.1 (by simp) h48
    rw [dec_step (by omega), show (natOf (a :: s) * 10 + (c.toNat - 48)) / 10 = natOf (a :: s) by omega, show (natOf (a :: s) * 10 + (c.toNat - 48)) % 10 = c.toNat - 48 by omega, hcc, ih h.1 (by simp) (.inl h48)]
theorem dec_dig (n : Nat) : (Lib.decDigits n).all isDg = true ∧ natOf (Lib.decDigits n) = n ∧ 1 ≤ (Lib.decDigits n).length ∧ ((Lib.decDigits n).getD 0 0 ≠ 48 ∨ (Lib.decDigits n).length = 1) ∧ (10 ≤ n → (Lib.decDigits n).getD 0 0 ≠ 48) := by
  have one : ∀ m, m < 10 → isDg (UInt8.ofNat (48 + m)) = true ∧ (UInt8.ofNat (48 + m)).toNat = 48 + m := fun m hm => by
    have e : (UInt8.ofNat (48 + m)).toNat = 48 + m := by rw [UInt8.toNat_ofNat']; omega
    exact ⟨decide_eq_true (by omega), e⟩
  induction n using Nat.strongRecOn with
  | _ n ih =>
    by_cases h : n < 10
    · rw [dec_small h]
      obtain ⟨a, b⟩ := one n h
      refine ⟨by simp only [List.all_cons, a, List.all_nil, Bool.and_true], by simp only [natOf, List.foldl_cons, List.foldl_nil, b]; omega, by simp, .inr rfl, fun h => by omega⟩
    · rw [dec_step (by omega)]
      obtain ⟨a, b⟩ := one (n % 10) (by omega)
      obtain ⟨i1, i2, i3, i4, i5⟩ := ih (n / 10) (by omega)
      have hg : (Lib.decDigits (n / 10)).getD 0 0 ≠ 48 := by
        by_cases h10 : n / 10 < 10
        · rw [dec_small h10]
          simp only [List.getD_cons_zero]
          intro e
          have := congrArg UInt8.toNat e
          rw [(one (n / 10) h10).2] at this
          have : (48 : UInt8).toNat = 48 := rfl
          omega
        · exact i5 (by omega)
      have hg2 : (Lib.decDigits (n / 10) ++ [UInt8.ofNat (48 + n % 10)]).getD 0 0 ≠ 48 := by
        cases hd : Lib.decDigits (n / 10) with
        | nil => rw [hd] at i3; simp at i3
        | cons x t => rw [hd] at hg; simpa using hg
      refine ⟨by simp only [List.all_append, i1, List.all_cons, a, List.all_nil, Bool.and_true], by rw [natOf_snoc, i2, b]; omega, by simp, .inl hg2, fun _ => hg2⟩
theorem dec_len : ∀ (k n : Nat), n < 10 ^ (k + 1) → (Lib.decDigits n).length ≤ k + 1
  | 0, n, h => by rw [dec_small (by omega)]; simp
  | k + 1, n, h => by
    by_cases h1 : n < 10
    · rw [dec_small h1]; simp
    · rw [dec_step (by omega)]
      have := dec_len k (n / 10) (by rw [Nat.pow_succ] at h; omega)
      simp; omega

theorem isAt_iff (s : List UInt8) (a c : Nat) : isAt s a c = true ↔ a < s.length ∧ (s.getD a 0).toNat = c := by
  unfold isAt; rw [Bool.and_eq_true, decide_eq_true_eq, decide_eq_true_eq]
def ckHostEnd : Ck
  | [.str s] => some (s.length ≤ 4611686018427387900, .int .i64 (runN hostB s))
  | _ => none
theorem conHostEnd : Con pg 44 ckHostEnd := by
  have hct := (ctA_ok conIsLet (ctA_ok conIsDig (ctN_ok _)))
  intro args q r h hq
  unfold ckHostEnd at h
  split at h
  · cases h
    rename_i s
    refine w44 (fun _ => false) [] rfl hct rfl rfl ?_
    push_cast (config := { maxSteps := 10000000 })
    refine LoopW.adj ⟨hct, fol⟩ (by kernel_rfl) [] (fun i : Nat => [(0, .str s), (3, .int .i64 i)]) (fun _ => []) (fun i => i ≤ s.length ∧ ∀ j, j < i → hostB (s.getD j 0) = true) (fun i => s.length - i) 0 ?_ fun i hi => ?_
    · push_cast (config := { maxSteps := 10000000 })
      exact Nat.zero_le _
    · push_cast (config := { maxSteps := 10000000 })
      obtain ⟨h1, h2⟩ := hi
      have hb : hostB (s.getD i 0) = true ↔ ((isLet ((s.getD i 0).toNat : Int) = true ∨ isDig ((s.getD i 0).toNat : Int) = true) ∨ ((s.getD i 0).toNat : Int) = 45) ∨ ((s.getD i 0).toNat : Int) = 46 := by
        unfold hostB
        simp only [Bool.or_eq_true, decide_eq_true_eq]
        have e5 : ((s.getD i 0).toNat : Int) = 45 ↔ (s.getD i 0).toNat = 45 := by omega
        have e6 : ((s.getD i 0).toNat : Int) = 46 ↔ (s.getD i 0).toNat = 46 := by omega
        rw [e5, e6]
      refine ⟨fun h => ⟨h, h.1⟩, fun h => ⟨h, fun x => ⟨h, x⟩⟩, fun h => ⟨h, h.1⟩, fun h => ⟨h, fun x => ⟨h, x⟩⟩, fun h => ⟨h, h.1⟩, fun h => ⟨h, fun x => ⟨h, x⟩⟩, fun h => ?_, fun h => ?_⟩
      · have hc := hb.2 h.2
        refine ⟨⟨by omega, by omega⟩, i + 1, ⟨by omega, fun j hj => ?_⟩, by omega, by omega⟩
        by_cases e : j = i
        · subst e; exact hc
        · exact h2 j (by omega)
      · rw [runN_at h1 h2 fun hlt => ?_]
        have := h hlt
        cases hc : hostB (s.getD i 0) with
        | false => rfl
        | true =>
          rcases hb.1 hc with ((x | x) | x) | x
          · rw [this.1.1.1] at x; cases x
          · rw [this.1.1.2] at x; cases x
          · exact absurd x this.1.2
          · exact absurd x this.2
  · cases h
attribute [push_cast] ckHostEnd
theorem dig_dg (s : List UInt8) : s.all digB = s.all isDg := by
  congr 1
  funext c
  have key : ∀ n, n < 256 → digB (UInt8.ofNat n) = isDg (UInt8.ofNat n) := by decide +kernel
  have := key c.toNat (UInt8.toNat_lt c)
  simpa using this
def ckPortOf : Ck
  | [.str s] => some (s.length ≤ 4611686018427387900, .int .i64 (portN s))
  | _ => none
theorem conPortOf : Con pg 48 ckPortOf := by
  have hct := (ctA_ok conTrim (ctN_ok _))
  intro args q r h hq
  unfold ckPortOf at h
  split at h
  · cases h
    rename_i s
    refine w48 (fun _ => false) [] rfl hct rfl rfl ?_
    push_cast (config := { maxSteps := 10000000 })
    have e := trim_dig s
    unfold digs at e
    rw [← dig_dg] at e
    refine ⟨fun h => ⟨h, by omega⟩, fun h => ?_, fun h => ?_⟩
    · unfold portN
      rw [if_neg fun x => ?_]
      rcases h with h | h
      · omega
      · exact h (e.2 x.2.2.1)
    have ha := e.1 h.2
    have hd : ∀ j, j < s.length → 48 ≤ (s.getD j 0).toNat ∧ (s.getD j 0).toNat ≤ 57 := fun j hj => by
      have := List.all_eq_true.1 ha (s.getD j 0) (by rw [List.getD_eq_getElem?_getD, List.getElem?_eq_getElem hj]; exact List.getElem_mem hj)
      unfold digB isDig at this
      simp only [Bool.and_eq_true, decide_eq_true_eq] at this
      omega
    have hN : portN s = if portV s ≤ 65535 then portV s else 0 := by
      unfold portN
      by_cases hv : portV s ≤ 65535
      · rw [if_pos ⟨by omega, by omega, ha, hv⟩, if_pos hv]
      · rw [if_neg (fun x => hv x.2.2.2), if_neg hv]
    rw [hN]
    have hS : ∀ i, i < s.length → portV (s.take (i + 1)) = 10 * portV (s.take i) + (((s.getD i 0).toNat : Int) - 48) := fun i hi => by
      rw [takeG (d := 0) hi]
      unfold portV
      rw [List.foldl_append]; rfl
    refine LoopW.adj ⟨hct, fol⟩ (by kernel_rfl) [] (fun i : Nat => [(0, .str s), (3, .int .i64 (portV (s.take i))), (19, .int .i64 s.length), (20, .int .i64 i)]) (fun _ => []) (fun i => i ≤ s.length ∧ 0 ≤ portV (s.take i) ∧ portV (s.take i) < 10 ^ i) (fun i => s.length - i) 0 ?_ fun i hi => ?_
    · push_cast (config := { maxSteps := 10000000 })
      exact ⟨⟨Nat.zero_le _, by decide, by decide⟩, rfl⟩
    · push_cast (config := { maxSteps := 10000000 })
      obtain ⟨h1, h2, h3⟩ := hi
      refine ⟨fun hlt => ?_, fun hge => ?_⟩
      · have hd1 := hd i hlt
        have hs1 := hS i hlt
        have p5 : (10 : Int) ^ i ≤ 10000 := by
          rcases (by omega : i = 0 ∨ i = 1 ∨ i = 2 ∨ i = 3 ∨ i = 4) with rfl | rfl | rfl | rfl | rfl <;> decide
        have e1 : (((s.getD i 0).toNat : Int) - 48) % 256 = ((s.getD i 0).toNat : Int) - 48 := by omega
        rw [e1]
        exact ⟨⟨by omega, by omega⟩, hlt, ⟨by omega, by omega⟩, ⟨by omega, by omega⟩, ⟨by omega, by omega⟩, i + 1, ⟨by omega, by omega, by rw [hs1, Int.pow_succ]; omega⟩, by omega, by rw [hs1], by omega⟩
      · rw [List.take_of_length_le (by omega)]
        exact ⟨fun h => by rw [if_neg (by omega)], fun h => by rw [if_pos (by omega)]⟩
  · cases h
attribute [push_cast] ckPortOf
theorem low1 {s w : List UInt8} {n : Nat} (h1 : n < s.length) (h2 : n < w.length) : lowL ((s.drop n).take 1) = (w.drop n).take 1 ↔ lowB (s.getD n 0) = w.getD n 0 := by
  rw [dropG (d := 0) h1, dropG (d := 0) h2]
  simp [lowL]
def ckScheme : Ck
  | [.str s] => some (s.length ≤ 2000, .tup [.str (if (schL s).1 = true then s.take ((schL s).2 - 3) else []), .int .i64 (schL s).2, .bool (schL s).1])
  | _ => none
theorem conScheme : Con pg 18 ckScheme := by
  have hct := (ctA_ok conSmallA (ctN_ok _))
  intro args q r h hq
  unfold ckScheme at h
  split at h
  · cases h
    rename_i s
    refine w18 (fun _ => false) [] rfl hct rfl rfl ?_
    push_cast (config := { maxSteps := 10000000 })
    refine LoopW.adj ⟨hct, fol⟩ (by kernel_rfl) [] (fun t : Nat × Nat => [(0, .str s), (3, .int .i64 t.2), (8, .sl 2 (litF [.str (wHttp ++ wSep), .str (wHttps ++ wSep)])), (9, .int .i64 2), (10, .int .i64 t.1)]) (fun _ => []) (fun t => (t.1 = 0 ∧ t.2 = 0) ∨ (t.1 = 1 ∧ t.2 = mt s (wHttp ++ wSep) ∧ t.2 ≠ 7) ∨ (t.1 = 2 ∧ schL s = (false, t.2))) (fun t => 2 - t.1) (0, 0) ?_ fun t ht => ?_
    · push_cast (config := { maxSteps := 10000000 })
      intro i _; rfl
    · obtain ⟨i, m⟩ := t
      have e4 : wHttp.length = 4 := rfl
      have e5 : wHttps.length = 5 := rfl
      have e3 : wSep.length = 3 := rfl
      have e7 : (wHttp ++ wSep).length = 7 := rfl
      have e8 : (wHttps ++ wSep).length = 8 := rfl
      rcases ht with ⟨h1, h2⟩ | ⟨h1, hm, h7'⟩ | ⟨h1, hm⟩
      · obtain rfl : i = 0 := h1
        obtain rfl : m = 0 := h2
        push_cast (config := { maxSteps := 10000000 })
        refine LoopW.adj ⟨hct, fol⟩ (by kernel_rfl) [] (fun n : Nat => [(0, .str s), (3, .int .i64 0), (6, .str (wHttp ++ wSep)), (7, .int .i64 n), (8, .sl 2 (litF [.str (wHttp ++ wSep), .str (wHttps ++ wSep)])), (9, .int .i64 2), (10, .int .i64 0)]) (fun _ => []) (fun n => n ≤ s.length ∧ n ≤ 7 ∧ ∀ j, j < n → lowB (s.getD j 0) = (wHttp ++ wSep).getD j 0) (fun n => 7 - n) 0 ?_ fun n hn => ?_
        · push_cast (config := { maxSteps := 10000000 })
          exact Nat.zero_le _
        · push_cast (config := { maxSteps := 10000000 })
          obtain ⟨n1, n2, n3⟩ := hn
          refine ⟨fun h => ⟨h, by omega, by omega⟩, fun h => ⟨h, ⟨by omega, by omega⟩, by omega, by omega⟩, fun h => ⟨h, by omega⟩, fun h => ⟨h, by omega, by omega⟩, fun h => ⟨h, ⟨by omega, by omega⟩, by omega, by omega⟩, fun h => ?_, fun h => ?_⟩
          · have hc := (low1 (w := wHttp ++ wSep) h.1.2 (by omega)).1 h.2
            refine ⟨⟨by omega, by omega⟩, n + 1, ⟨by omega, by omega, fun j hj => ?_⟩, by omega, by omega⟩
            by_cases e : j = n
            · subst e; exact hc
            · exact n3 j (by omega)
          · have hmt : mt s (wHttp ++ wSep) = n := mt_at n1 (by omega) n3 fun a b x => h ⟨by omega, a⟩ ((low1 (w := wHttp ++ wSep) a b).2 x)
            refine ⟨fun h7 => ?_, fun h7 => ?_⟩
            · have hn : n = 7 := by omega
              subst hn
              have hs : schL s = (true, 7) := by unfold schL; rw [if_pos hmt]
              rw [hs]
              exact ⟨⟨by omega, by omega⟩, ⟨⟨by omega, by omega⟩, by omega⟩, rfl, rfl, rfl⟩
            · exact ⟨((1, n) : Nat × Nat), .inr (.inl ⟨rfl, hmt.symm, by omega⟩), by show 2 - 1 < 2; omega, by show max (0 : Int) n = (n : Int); omega, rfl⟩
      · obtain rfl : i = 1 := h1
        have hm : m = mt s (wHttp ++ wSep) := hm
        have h7' : m ≠ 7 := h7'
        push_cast (config := { maxSteps := 10000000 })
        refine LoopW.adj ⟨hct, fol⟩ (by kernel_rfl) [] (fun n : Nat => [(0, .str s), (3, .int .i64 m), (6, .str (wHttps ++ wSep)), (7, .int .i64 n), (8, .sl 2 (litF [.str (wHttp ++ wSep), .str (wHttps ++ wSep)])), (9, .int .i64 2), (10, .int .i64 1)]) (fun _ => []) (fun n => n ≤ s.length ∧ n ≤ 8 ∧ ∀ j, j < n → lowB (s.getD j 0) = (wHttps ++ wSep).getD j 0) (fun n => 8 - n) 0 ?_ fun n hn => ?_
        · push_cast (config := { maxSteps := 10000000 })
          exact Nat.zero_le _
        · push_cast (config := { maxSteps := 10000000 })
          obtain ⟨n1, n2, n3⟩ := hn
          refine ⟨fun h => ⟨h, by omega, by omega⟩, fun h => ⟨h, ⟨by omega, by omega⟩, by omega, by omega⟩, fun h => ⟨h, by omega⟩, fun h => ⟨h, by omega, by omega⟩, fun h => ⟨h, ⟨by omega, by omega⟩, by omega, by omega⟩, fun h => ?_, fun h => ?_⟩
          · have hc := (low1 (w := wHttps ++ wSep) h.1.2 (by omega)).1 h.2
            refine ⟨⟨by omega, by omega⟩, n + 1, ⟨by omega, by omega, fun j hj => ?_⟩, by omega, by omega⟩
            by_cases e : j = n
            · subst e; exact hc
            · exact n3 j (by omega)
          · have hmt : mt s (wHttps ++ wSep) = n := mt_at n1 (by omega) n3 fun a b x => h ⟨by omega, a⟩ ((low1 (w := wHttps ++ wSep) a b).2 x)
            refine ⟨fun h7 => ?_, fun h7 => ?_⟩
            · have hn : n = 8 := by omega
              subst hn
              have hs : schL s = (true, 8) := by unfold schL; rw [if_neg (by rw [← hm]; exact h7'), if_pos hmt]
              rw [hs]
              exact ⟨⟨by omega, by omega⟩, ⟨⟨by omega, by omega⟩, by omega⟩, rfl, rfl, rfl⟩
            · have hs : schL s = (false, max m n) := by unfold schL; rw [if_neg (by rw [← hm]; exact h7'), if_neg (by rw [hmt]; omega), hmt, ← hm]
              exact ⟨((2, max m n) : Nat × Nat), .inr (.inr ⟨rfl, hs⟩), by show 2 - 2 < 1; omega, by show max (m : Int) n = ((max m n : Nat) : Int); omega, rfl⟩
      · obtain rfl : i = 2 := h1
        have hm : schL s = (false, m) := hm
        push_cast (config := { maxSteps := 10000000 })
        rw [hm]
        exact ⟨rfl, rfl, rfl⟩
  · cases h
attribute [push_cast] ckScheme

theorem slice_drop {s : List UInt8} {a : Nat} (h : a ≤ s.length) : (s.drop a).take (s.length - a) = s.drop a := List.take_of_length_le (by rw [List.length_drop]; omega)
theorem pre1 (s : List UInt8) (a : Nat) (c : UInt8) : hasPre (s.drop a) [c] = isAt s a c.toNat := by
  rw [Bool.eq_iff_iff, isAt_iff]
  unfold hasPre
  rw [Bool.and_eq_true, decide_eq_true_eq, beq_iff_eq, List.length_drop, List.length_singleton]
  constructor
  · rintro ⟨h1, h2⟩
    rw [dropD s a (by omega)] at h2
    have := (List.cons.inj h2).1
    exact ⟨by omega, by rw [this]⟩
  · rintro ⟨h1, h2⟩
    refine ⟨by omega, ?_⟩
    rw [dropD s a h1]
    have : s.getD a 0 = c := UInt8.toNat_inj.1 h2
    rw [this]; rfl
def ckPlaceK : List V → List Blk → Option (Prop × V × List Blk)
  | [.ptr _ 0], [.cells [.str s, .int .i64 a, .str sc, .str _, .str [], .str pa, .str qu, .bool hq, .str fr, .bool hf]] => some (s.length ≤ 2000 ∧ 0 ≤ a ∧ a ≤ s.length, .bool (plcL s a.toNat).ok, [.cells [.str s, .int .i64 (plcL s a.toNat).at', .str sc, .str (plcL s a.toNat).ho, .str (plcL s a.toNat).po, .str pa, .str qu, .bool hq, .str fr, .bool hf]])
  | _, _ => none
def ckPlace : Cf := ⟨fun | [.ptr i _] => [i] | _ => [], ckPlaceK⟩
theorem conPlace : FCon pg 19 ckPlace := by
  have hct := (ctA_ok conHostEnd (ctA_ok conIsHost0 (ctA_ok conHasPre (ctA_ok conIsDig (ctA_ok conPortOf (ctA_ok conIndexByte (ctN_ok _)))))))
  intro args bs q r bs' h hq
  replace h : ckPlaceK args bs = some (q, r, bs') := h
  unfold ckPlaceK at h
  split at h
  · cases h
    rename_i i s a sc ho pa qu hq1 fr hf
    refine ⟨rfl, by first | exact Nat.le_refl _ | exact Nat.zero_le _, ?_⟩
    obtain ⟨h1, h2, h3⟩ := hq
    obtain ⟨a, rfl⟩ : ∃ k : Nat, a = k := ⟨a.toNat, by omega⟩
    rw [Int.toNat_natCast]
    show FCall pg 19 [.ptr (i + 9000) 0] [(i + 9000, .cells [.str s, .int .i64 a, .str sc, .str ho, .str [], .str pa, .str qu, .bool hq1, .str fr, .bool hf])] (.bool (plcL s a).ok) [(i + 9000, .cells [.str s, .int .i64 (plcL s a).at', .str sc, .str (plcL s a).ho, .str (plcL s a).po, .str pa, .str qu, .bool hq1, .str fr, .bool hf])]
    refine fw19 (fun _ => false) [] rfl hct rfl (by simp) (by simp [hlIn, idsIn, Blk.menIn, V.menInL, V.menIn, V.flat, byF, lsF]) (by simp [V.menIn, V.menInL, idsIn]) ?_
    push_cast (config := { maxSteps := 10000000 })
    have hb := hoN_le (s := s) (a := a) (by omega)
    have e1 : runN hostB (s.drop a) = hoN s a := rfl
    rw [e1]
    have e2 : ((a : Int) + (hoN s a : Int)).toNat - a = hoN s a := by omega
    have e3 : ((a : Int) + (hoN s a : Int)).toNat = a + hoN s a := by omega
    have e4 : (s.drop a).take (hoN s a) = cutS s a (hoN s a) := rfl
    rw [e2, e3, e4]
    have pre := pre1 s (a + hoN s a) 58
    have pre : hasPre (s.drop (a + hoN s a)) [58] = isAt s (a + hoN s a) 58 := pre
    rw [pre]
    refine ⟨by omega, by omega, ⟨by omega, by omega⟩, ⟨⟨by omega, by omega⟩, by omega, by omega⟩, by omega, fun h => ?_, fun h => ⟨⟨by omega, by omega⟩, ⟨⟨by omega, by omega⟩, by omega⟩, by omega, fun hc => ⟨⟨by omega, by omega⟩, ?_⟩, fun hc => ?_⟩⟩
    · unfold plcL; rw [if_pos h]; exact ⟨rfl, rfl, rfl, rfl⟩
    · have hc1 := isAt_lt hc
      have hP : plcL s a = if portN (cutS s (a + hoN s a + 1) (poN s (a + hoN s a + 1))) = 0 then ⟨false, a + hoN s a + 1, cutS s a (hoN s a), cutS s (a + hoN s a + 1) (poN s (a + hoN s a + 1))⟩
         else ⟨endB s (a + hoN s a + 1 + poN s (a + hoN s a + 1)), a + hoN s a + 1 + poN s (a + hoN s a + 1), cutS s a (hoN s a), cutS s (a + hoN s a + 1) (poN s (a + hoN s a + 1))⟩ := by
        unfold plcL; rw [if_neg (by rw [h]; simp), if_pos hc]
      rw [hP]
      have hb2 := poN_le (s := s) (a := a + hoN s a + 1) (by omega)
      generalize hB : a + hoN s a + 1 = B at hb2 hP ⊢
      have eB : (a : Int) + (hoN s a : Int) + 1 = (B : Int) := by omega
      rw [eB]
      generalize cutS s a (hoN s a) = H
      refine LoopW.adj ⟨hct, fol⟩ (by kernel_rfl) [] (fun n : Nat => [(0, .ptr (i + 9000) 0), (4, .int .i64 ((B + n : Nat) : Int))]) (fun n => [(i + 9000, .cells [.str s, .int .i64 B, .str sc, .str H, .str [], .str pa, .str qu, .bool hq1, .str fr, .bool hf])]) (fun n => B + n ≤ s.length ∧ ∀ j, j < n → digB ((s.drop B).getD j 0) = true) (fun n => s.length - n) 0 ?_ fun n hn => ?_
      · push_cast (config := { maxSteps := 10000000 })
        exact ⟨by omega, by omega⟩
      · push_cast (config := { maxSteps := 10000000 })
        obtain ⟨n1, n2⟩ := hn
        have e5 : ((B : Int) + (n : Int)).toNat = B + n := by omega
        have e6 : ((B : Int) + (n : Int)).toNat - B = n := by omega
        have e7 : (s.drop B).getD n 0 = s.getD (B + n) 0 := by rw [List.getD_eq_getElem?_getD, List.getD_eq_getElem?_getD, List.getElem?_drop]
        rw [e5]
        rw [e5] at e6
        rw [e6]
        refine ⟨fun h => ⟨h, by omega, h⟩, fun h => ⟨⟨by omega, by omega⟩, n + 1, ⟨by omega, fun j hj => ?_⟩, by omega, by omega⟩, fun h => ?_⟩
        · by_cases e : j = n
          · subst e; rw [e7]; exact h.2
          · exact n2 j (by omega)
        have eN : poN s B = n := by
          unfold poN
          refine runN_at (by rw [List.length_drop]; omega) n2 fun hlt => ?_
          rw [List.length_drop] at hlt
          rw [e7]; exact h (by omega)
        rw [eN]
        have eC : (s.drop B).take n = cutS s B n := rfl
        rw [eC]
        refine ⟨⟨⟨by omega, by omega⟩, by omega, by omega⟩, by omega, fun h0 => ?_, fun h0 => ?_⟩
        · rw [if_pos h0]; exact ⟨rfl, rfl, rfl, rfl⟩
        · rw [if_neg h0]
          refine ⟨fun x => ⟨x, by omega, by omega⟩, ?_, by show _ = ((B + n : Nat) : Int); omega, rfl, rfl⟩
          show _ = endB s (B + n)
          unfold endB
          congr 1
          rw [Bool.eq_iff_iff, beq_iff_eq, decide_eq_true_eq]; omega
    · unfold plcL
      rw [if_neg (by rw [h]; simp), if_neg (by rw [hc]; simp)]
      refine ⟨fun x => ⟨x, by omega, by omega⟩, ?_, by show _ = ((a + hoN s a : Nat) : Int); omega, rfl, rfl⟩
      unfold endB
      congr 1
      rw [Bool.eq_iff_iff, beq_iff_eq, decide_eq_true_eq]; omega
  · cases h
attribute [push_cast] ckPlaceK
def ckRowK : List V → List Blk → Option (Prop × V × List Blk)
  | [.ptr _ 0, .str w], [.cells [.str s, .int .i64 a, .str sc, .str ho, .str po, .str pa, .str qu, .bool hq, .str fr, .bool hf]] => some (s.length ≤ 2000 ∧ 0 ≤ a ∧ a ≤ s.length, .tup [.str (cutS s a.toNat (rdRow s a.toNat w).1), .bool (rdRow s a.toNat w).2], [.cells [.str s, .int .i64 (a + (rdRow s a.toNat w).1), .str sc, .str ho, .str po, .str pa, .str qu, .bool hq, .str fr, .bool hf]])
  | _, _ => none
def ckRow : Cf := ⟨fun | [.ptr i _, _] => [i] | _ => [], ckRowK⟩
theorem conRow : FCon pg 50 ckRow := by
  have hct := (ctA_ok conRowEnd (ctN_ok _))
  intro args bs q r bs' h hq
  replace h : ckRowK args bs = some (q, r, bs') := h
  unfold ckRowK at h
  split at h
  · cases h
    rename_i i w s a sc ho po pa qu hq1 fr hf
    refine ⟨rfl, by first | exact Nat.le_refl _ | exact Nat.zero_le _, ?_⟩
    obtain ⟨h1, h2, h3⟩ := hq
    obtain ⟨a, rfl⟩ : ∃ k : Nat, a = k := ⟨a.toNat, by omega⟩
    rw [Int.toNat_natCast]
    show FCall pg 50 [.ptr (i + 9000) 0, .str w] [(i + 9000, .cells [.str s, .int .i64 a, .str sc, .str ho, .str po, .str pa, .str qu, .bool hq1, .str fr, .bool hf])] (.tup [.str (cutS s a (rdRow s a w).1), .bool (rdRow s a w).2]) [(i + 9000, .cells [.str s, .int .i64 (a + (rdRow s a w).1), .str sc, .str ho, .str po, .str pa, .str qu, .bool hq1, .str fr, .bool hf])]
    refine fw50 (fun _ => false) [] rfl hct rfl (by simp) (by simp [hlIn, idsIn, Blk.menIn, V.menInL, V.menIn, V.flat, byF, lsF]) (by simp [V.menIn, V.menInL, idsIn]) ?_
    push_cast (config := { maxSteps := 10000000 })
    have hb := rdRow_le (s := s) (a := a) (w := w) (by omega)
    have e1 : reL (s.drop a) w (s.length - a + 1) 0 = rdRow s a w := by unfold rdRow; rw [List.length_drop]
    rw [e1]
    have e2 : ((a : Int) + ((rdRow s a w).1 : Int)).toNat - a = (rdRow s a w).1 := by omega
    rw [e2]
    exact ⟨by omega, by omega, ⟨by omega, by omega⟩, ⟨⟨by omega, by omega⟩, by omega, by omega⟩, ⟨by omega, by omega⟩, ⟨rfl, rfl⟩, rfl⟩
  · cases h
attribute [push_cast] ckRowK
@[push_cast] theorem place_ids (i o : Nat) : ckPlace.ids [.ptr i o] = [i] := rfl
@[push_cast] theorem place_k (i : Nat) (s sc ho pa qu fr : List UInt8) (hq hf : Bool) (a : Int) : ckPlace.k [.ptr i 0] [.cells [.str s, .int .i64 a, .str sc, .str ho, .str [], .str pa, .str qu, .bool hq, .str fr, .bool hf]] = some (s.length ≤ 2000 ∧ 0 ≤ a ∧ a ≤ s.length, .bool (plcL s a.toNat).ok, [.cells [.str s, .int .i64 (plcL s a.toNat).at', .str sc, .str (plcL s a.toNat).ho, .str (plcL s a.toNat).po, .str pa, .str qu, .bool hq, .str fr, .bool hf]]) := rfl
@[push_cast] theorem row_ids (i o : Nat) (x : V) : ckRow.ids [.ptr i o, x] = [i] := rfl
@[push_cast] theorem row_k (i : Nat) (w s sc ho po pa qu fr : List UInt8) (hq hf : Bool) (a : Int) : ckRow.k [.ptr i 0, .str w] [.cells [.str s, .int .i64 a, .str sc, .str ho, .str po, .str pa, .str qu, .bool hq, .str fr, .bool hf]] = some (s.length ≤ 2000 ∧ 0 ≤ a ∧ a ≤ s.length, .tup [.str (cutS s a.toNat (rdRow s a.toNat w).1), .bool (rdRow s a.toNat w).2], [.cells [.str s, .int .i64 (a + (rdRow s a.toNat w).1), .str sc, .str ho, .str po, .str pa, .str qu, .bool hq, .str fr, .bool hf]]) := rfl
theorem rest3 {s P Q : List UInt8} {d : Nat} {b : Bool} (h1 : s.length ≤ 2000) (hd : d ≤ s.length) {R : Rst} (hR : R = rst3 s d P Q b) : ((0 ≤ (d : Int) ∧ (d : Int) ≤ s.length) ∧ (d : Int) ≤ s.length) ∧
    ((s.length - d : Nat) : Int) ≤ 4611686018427387904 ∧
      (hasPre (s.drop d) [35] = true → (-9223372036854775808 ≤ ((d + 1 : Nat) : Int) ∧ ((d + 1 : Nat) : Int) ≤ 9223372036854775807) ∧
          (s.length ≤ 2000 ∧ 0 ≤ ((d + 1 : Nat) : Int) ∧ ((d + 1 : Nat) : Int) ≤ s.length) ∧
            ((rdRow s (d + 1) []).2 = false → false = R.ok ∧ ((d + 1 : Nat) : Int) + (rdRow s (d + 1) []).1 = R.at' ∧ P = R.pa ∧ Q = R.qu ∧ b = R.hq ∧ cutS s (d + 1) (rdRow s (d + 1) []).1 = R.fr ∧ true = R.hf) ∧
            ((rdRow s (d + 1) []).2 = true → true = R.ok ∧ ((d + 1 : Nat) : Int) + (rdRow s (d + 1) []).1 = R.at' ∧ P = R.pa ∧ Q = R.qu ∧ b = R.hq ∧ cutS s (d + 1) (rdRow s (d + 1) []).1 = R.fr ∧ true = R.hf)) ∧
      (hasPre (s.drop d) [35] = false → true = R.ok ∧ (d : Int) = R.at' ∧ P = R.pa ∧ Q = R.qu ∧ b = R.hq ∧ [] = R.fr ∧ false = R.hf) := by
  subst hR
  have hp : hasPre (s.drop d) [35] = isAt s d 35 := pre1 s d 35
  rw [hp]
  refine ⟨⟨⟨by omega, by omega⟩, by omega⟩, by omega, fun h => ?_, fun h => ?_⟩
  · have hl := isAt_lt h
    have hr := rdRow_le (s := s) (a := d + 1) (w := []) (by omega)
    unfold rst3
    rw [if_pos h]
    exact ⟨⟨by omega, by omega⟩, ⟨h1, by omega, by omega⟩, fun h2 => ⟨h2.symm, by show _ = ((d + 1 + (rdRow s (d + 1) []).1 : Nat) : Int); omega, rfl, rfl, rfl, rfl, rfl⟩, fun h2 => ⟨h2.symm, by show _ = ((d + 1 + (rdRow s (d + 1) []).1 : Nat) : Int); omega, rfl, rfl, rfl, rfl, rfl⟩⟩
  · unfold rst3
    rw [if_neg (by rw [h]; simp)]
    exact ⟨rfl, rfl, rfl, rfl, rfl, rfl, rfl⟩
def ckRestK : List V → List Blk → Option (Prop × V × List Blk)
  | [.ptr _ 0], [.cells [.str s, .int .i64 a, .str sc, .str ho, .str po, .str _, .str [], .bool false, .str [], .bool false]] => some (s.length ≤ 2000 ∧ 0 ≤ a ∧ a ≤ s.length, .bool (rstL s a.toNat).ok, [.cells [.str s, .int .i64 (rstL s a.toNat).at', .str sc, .str ho, .str po, .str (rstL s a.toNat).pa, .str (rstL s a.toNat).qu, .bool (rstL s a.toNat).hq, .str (rstL s a.toNat).fr, .bool (rstL s a.toNat).hf]])
  | _, _ => none
def ckRest : Cf := ⟨fun | [.ptr i _] => [i] | _ => [], ckRestK⟩
theorem conRest : FCon pg 20 ckRest := by
  have hct := (ctF_ok conRow (ctA_ok conHasPre (ctN_ok _)))
  intro args bs q r bs' h hq
  replace h : ckRestK args bs = some (q, r, bs') := h
  unfold ckRestK at h
  split at h
  · cases h
    rename_i i s a sc ho po pa
    refine ⟨rfl, by first | exact Nat.le_refl _ | exact Nat.zero_le _, ?_⟩
    obtain ⟨h1, h2, h3⟩ := hq
    obtain ⟨a, rfl⟩ : ∃ k : Nat, a = k := ⟨a.toNat, by omega⟩
    rw [Int.toNat_natCast]
    show FCall pg 20 [.ptr (i + 9000) 0] [(i + 9000, .cells [.str s, .int .i64 a, .str sc, .str ho, .str po, .str pa, .str [], .bool false, .str [], .bool false])] (.bool (rstL s a).ok) [(i + 9000, .cells [.str s, .int .i64 (rstL s a).at', .str sc, .str ho, .str po, .str (rstL s a).pa, .str (rstL s a).qu, .bool (rstL s a).hq, .str (rstL s a).fr, .bool (rstL s a).hf])]
    refine fw20 (fun _ => false) [] rfl hct rfl (by simp) (by simp [hlIn, idsIn, Blk.menIn, V.menInL, V.menIn, V.flat, byF, lsF]) (by simp [V.menIn, V.menInL, idsIn]) ?_
    push_cast (config := { maxSteps := 10000000 })
    have hr1 := rdRow_le (s := s) (a := a) (w := [63, 35]) (by omega)
    have hL : rstL s a = if (rdRow s a [63, 35]).2 = false then ⟨false, a + (rdRow s a [63, 35]).1, cutS s a (rdRow s a [63, 35]).1, [], false, [], false⟩ else rst2 s (a + (rdRow s a [63, 35]).1) (cutS s a (rdRow s a [63, 35]).1) := rfl
    generalize rdRow s a [63, 35] = r1 at hr1 hL ⊢
    obtain ⟨n1, o1⟩ := r1
    simp only at hr1 hL ⊢
    obtain ⟨c, hc⟩ : ∃ c : Nat, c = a + n1 := ⟨_, rfl⟩
    have ec : (a : Int) + (n1 : Int) = (c : Int) := by omega
    have ec1 : (c : Int) + 1 = ((c + 1 : Nat) : Int) := by omega
    rw [← hc] at hL hr1
    generalize cutS s a n1 = P at hL ⊢
    simp only [ec, ec1, Int.toNat_natCast]
    refine ⟨⟨h1, by omega⟩, fun h => ?_, fun h => ⟨⟨⟨by omega, by omega⟩, by omega⟩, by omega, fun hq => ?_, fun hq => ?_⟩⟩
    · rw [hL, if_pos h]; exact ⟨rfl, rfl, rfl, rfl, rfl, rfl, rfl⟩
    all_goals rw [if_neg (by rw [h]; simp)] at hL
    all_goals rw [show hasPre (s.drop c) [63] = isAt s c 63 from pre1 s c 63] at hq
    · have hlt := isAt_lt hq
      have hL : rstL s a = if (rdRow s (c + 1) [35]).2 = false then ⟨false, c + 1 + (rdRow s (c + 1) [35]).1, P, cutS s (c + 1) (rdRow s (c + 1) [35]).1, true, [], false⟩ else rst3 s (c + 1 + (rdRow s (c + 1) [35]).1) P (cutS s (c + 1) (rdRow s (c + 1) [35]).1) true := by rw [hL]; unfold rst2; rw [if_pos hq]
      have hr2 := rdRow_le (s := s) (a := c + 1) (w := [35]) (by omega)
      generalize rdRow s (c + 1) [35] = r2 at hr2 hL ⊢
      obtain ⟨n2, o2⟩ := r2
      simp only at hr2 hL ⊢
      obtain ⟨d, hd⟩ : ∃ d : Nat, d = c + 1 + n2 := ⟨_, rfl⟩
      have ed : ((c + 1 : Nat) : Int) + (n2 : Int) = (d : Int) := by omega
      have ed1 : (d : Int) + 1 = ((d + 1 : Nat) : Int) := by omega
      rw [← hd] at hL hr2
      generalize cutS s (c + 1) n2 = Q at hL ⊢
      simp only [ed, ed1, Int.toNat_natCast]
      refine ⟨⟨by omega, by omega⟩, ⟨h1, by omega, by omega⟩, fun ho => ?_, fun ho => ?_⟩
      · rw [hL, if_pos ho]; exact ⟨rfl, rfl, rfl, rfl, rfl, rfl, rfl⟩
      · exact rest3 h1 hr2 (by rw [hL, if_neg (by rw [ho]; simp)])
    · have hL : rstL s a = rst3 s c P [] false := by rw [hL]; unfold rst2; rw [if_neg (by rw [hq]; simp)]
      exact rest3 h1 hr1 hL
  · cases h
attribute [push_cast] ckRestK
@[push_cast] theorem rest_ids (i o : Nat) : ckRest.ids [.ptr i o] = [i] := rfl
@[push_cast] theorem rest_k (i : Nat) (s sc ho po pa : List UInt8) (a : Int) : ckRest.k [.ptr i 0] [.cells [.str s, .int .i64 a, .str sc, .str ho, .str po, .str pa, .str [], .bool false, .str [], .bool false]] = some (s.length ≤ 2000 ∧ 0 ≤ a ∧ a ≤ s.length, .bool (rstL s a.toNat).ok, [.cells [.str s, .int .i64 (rstL s a.toNat).at', .str sc, .str ho, .str po, .str (rstL s a.toNat).pa, .str (rstL s a.toNat).qu, .bool (rstL s a.toNat).hq, .str (rstL s a.toNat).fr, .bool (rstL s a.toNat).hf]]) := rfl
def ckReadA : Ck
  | [.str s] => some (True, .tup [cAdr.enc (readA s).1, .int .i64 (readA s).2.1, .int .i64 (readA s).2.2])
  | _ => none
theorem conReadA : Con pg 6 ckReadA := by
  have hct := (ctA_ok conScheme (ctF_ok conPlace (ctF_ok conRest (ctN_ok _))))
  intro args q r h hq
  unfold ckReadA at h
  split at h
  · cases h
    rename_i s
    refine w6 (fun _ => false) [] rfl hct rfl rfl ?_
    push_cast (config := { maxSteps := 10000000 })
    have hb := sch_b s
    have hp := plc_b (s := s) (a := (schL s).2) hb
    refine ⟨fun h => ?_, fun h => ⟨by omega, fun h1 => ?_, fun h1 => ⟨⟨by omega, hb⟩, fun h2 => ⟨h2, ⟨by omega, hp⟩, fun h3 => ?_, fun h3 => ?_⟩, fun h2 => ⟨fun x => (by rw [h2] at x; cases x), ?_⟩⟩⟩⟩
    · have e : readA s = (noAdr, 0, 2) := by unfold readA; rw [if_pos (by omega)]
      rw [e]; exact ⟨⟨rfl, rfl, rfl, rfl, rfl, rfl, rfl, rfl⟩, rfl, rfl⟩
    · have e : readA s = (noAdr, ((schL s).2 : Int), 10) := by unfold readA; rw [if_neg (by omega), if_pos h1]
      rw [e]; exact ⟨⟨rfl, rfl, rfl, rfl, rfl, rfl, rfl, rfl⟩, rfl, rfl⟩
    · have h3 : (rstL s (plcL s (schL s).2).at').ok = false := h3.resolve_left (by rw [h2]; simp)
      have e : readA s = (noAdr, ((rstL s (plcL s (schL s).2).at').at' : Int), 10) := by unfold readA; rw [if_neg (by omega), if_neg (by rw [h1]; simp), if_neg (by rw [h2]; simp), if_pos h3]
      rw [e]; exact ⟨⟨rfl, rfl, rfl, rfl, rfl, rfl, rfl, rfl⟩, rfl, rfl⟩
    · have e : readA s = (⟨s.take ((schL s).2 - 3), (plcL s (schL s).2).ho, (plcL s (schL s).2).po, (rstL s (plcL s (schL s).2).at').pa, (rstL s (plcL s (schL s).2).at').qu, (rstL s (plcL s (schL s).2).at').hq, (rstL s (plcL s (schL s).2).at').fr, (rstL s (plcL s (schL s).2).at').hf⟩, 0, 0) := by unfold readA; rw [if_neg (by omega), if_neg (by rw [h1]; simp), if_neg (by rw [h2]; simp), if_neg (by rw [h3.2]; simp)]
      rw [e, if_pos h1]; exact ⟨⟨rfl, rfl, rfl, rfl, rfl, rfl, rfl, rfl⟩, rfl, rfl⟩
    · have e : readA s = (noAdr, ((plcL s (schL s).2).at' : Int), 10) := by unfold readA; rw [if_neg (by omega), if_neg (by rw [h1]; simp), if_pos h2]
      rw [e]; exact ⟨⟨rfl, rfl, rfl, rfl, rfl, rfl, rfl, rfl⟩, rfl, rfl⟩
  · cases h
attribute [push_cast] ckReadA

end Go.Abs
