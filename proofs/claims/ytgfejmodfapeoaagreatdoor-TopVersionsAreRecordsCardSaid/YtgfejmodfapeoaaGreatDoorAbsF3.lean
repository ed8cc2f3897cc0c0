/- what functions of this program compute: contracts, each a function's own -/
import Derived.Test.YtgfejmodfapeoaaGreatDoorAbsK2
import Derived.Test.YtgfejmodfapeoaaGreatDoorAbsFacts
import Derived.Test.YtgfejmodfapeoaaGreatDoorAbsF2
import Derived.Test.YtgfejmodfapeoaaGreatDoorAbsShelf
import Derived.Lib.SplitLaws
import Derived.Lib.SlTrimSet
import Derived.Lib.Atoi
import Derived.Lib.Itoa
import Derived.Lib.ItoaNum
import Derived.Lib.AtoiErrMem
import Derived.Lib.Join
import Derived.Lib.IndexMore
import Derived.Lib.Repeat
import Derived.Lib.ItoaLen
import Derived.Lib.Index
import Derived.Lib.IndexBytes
namespace Go.Abs
open Go Go.Proofs
set_option maxHeartbeats 4000000
set_option maxRecDepth 100000
set_option linter.unusedVariables false
set_option linter.unusedSimpArgs false
/- an address -/
structure Adr where
  sc : List UInt8
  ho : List UInt8
  po : List UInt8
  pa : List UInt8
  qu : List UInt8
  hq : Bool
  fr : List UInt8
  hf : Bool
deriving DecidableEq
def noAdr : Adr := ⟨[], [], [], [], [], false, [], false⟩
def decAdr : V → Adr
  | .agg [.str sc, .str ho, .str po, .str pa, .str qu, .bool hq, .str fr, .bool hf] => ⟨sc, ho, po, pa, qu, hq, fr, hf⟩
  | _ => noAdr
def cAdr : Cod Adr := ⟨fun a => .agg [.str a.sc, .str a.ho, .str a.po, .str a.pa, .str a.qu, .bool a.hq, .str a.fr, .bool a.hf], decAdr, noAdr, fun _ => rfl⟩
@[push_cast] theorem enc_adr (a : Adr) : cAdr.enc a = .agg [.str a.sc, .str a.ho, .str a.po, .str a.pa, .str a.qu, .bool a.hq, .str a.fr, .bool a.hf] := rfl
@[push_cast] theorem dec_adr (sc ho po pa qu fr : List UInt8) (hq hf : Bool) : cAdr.dec (.agg [.str sc, .str ho, .str po, .str pa, .str qu, .bool hq, .str fr, .bool hf]) = ⟨sc, ho, po, pa, qu, hq, fr, hf⟩ := rfl
/- how far bytes of a kind go -/
def runN (p : UInt8 → Bool) (s : List UInt8) : Nat := (s.takeWhile p).length
theorem runN_le (p : UInt8 → Bool) (s : List UInt8) : runN p s ≤ s.length := by
  induction s with
  | nil => simp [runN]
  | cons c t ih =>
    unfold runN at *
    rw [List.takeWhile_cons]
    split <;> simp at *; omega
theorem runN_in {p : UInt8 → Bool} : ∀ {s : List UInt8} {j : Nat}, j < runN p s → p (s.getD j 0) = true
  | [], j, h => by simp [runN] at h
  | c :: t, j, h => by
    unfold runN at h
    rw [List.takeWhile_cons] at h
    split at h
    · rename_i hc
      cases j with
      | zero => simpa using hc
      | succ j =>
        rw [List.getD_cons_succ]
        exact runN_in (by simpa [runN] using h)
    · simp at h
theorem runN_at {p : UInt8 → Bool} : ∀ {s : List UInt8} {n : Nat}, n ≤ s.length → (∀ j, j < n → p (s.getD j 0) = true) → (n < s.length → p (s.getD n 0) = false) → runN p s = n
  | [], n, h, _, _ => by simp at h; subst h; rfl
  | c :: t, 0, h, _, h2 => by
    have := h2 (by simp)
    unfold runN
    rw [List.takeWhile_cons, if_neg (by simpa using this)]; rfl
  | c :: t, n + 1, h, h1, h2 => by
    have h0 := h1 0 (by omega)
    unfold runN
    rw [List.takeWhile_cons, if_pos (by simpa using h0), List.length_cons]
    congr 1
    exact runN_at (by simpa using h) (fun j hj => by have := h1 (j + 1) (by omega); simpa using this) (fun hn => by have := h2 (by simpa using hn); simpa using this)
theorem runN_out {p : UInt8 → Bool} : ∀ {s : List UInt8}, runN p s < s.length → p (s.getD (runN p s) 0) = false
  | [], h => by simp [runN] at h
  | c :: t, h => by
    unfold runN at h ⊢
    rw [List.takeWhile_cons] at h ⊢
    split at h
    · rename_i hc
      rw [if_pos hc, List.length_cons, List.getD_cons_succ]
      exact runN_out (by simpa [runN] using h)
    · rename_i hc
      rw [if_neg hc]
      simpa using hc
/- the beginning of a text, in small letters -/
def mt : List UInt8 → List UInt8 → Nat
  | c :: s, d :: w => if lowB c = d then mt s w + 1 else 0
  | _, _ => 0
theorem mt_le : ∀ (s w : List UInt8), mt s w ≤ s.length ∧ mt s w ≤ w.length
  | [], w => by simp [mt]
  | c :: s, [] => by simp [mt]
  | c :: s, d :: w => by
    have := mt_le s w
    rw [mt]
    split
    · simp only [List.length_cons]; omega
    · simp
theorem mt_at : ∀ {s w : List UInt8} {n : Nat}, n ≤ s.length → n ≤ w.length → (∀ j, j < n → lowB (s.getD j 0) = w.getD j 0) → (n < s.length → n < w.length → ¬ lowB (s.getD n 0) = w.getD n 0) → mt s w = n
  | [], w, n, h, _, _, _ => by simp at h; subst h; rfl
  | c :: s, [], n, _, h, _, _ => by simp at h; subst h; rfl
  | c :: s, d :: w, 0, _, _, _, h => by
    have := h (by simp) (by simp)
    rw [mt, if_neg (by simpa using this)]
  | c :: s, d :: w, n + 1, h1, h2, h3, h4 => by
    have h0 := h3 0 (by omega)
    rw [mt, if_pos (by simpa using h0)]
    congr 1
    exact mt_at (by simpa using h1) (by simpa using h2) (fun j hj => by have := h3 (j + 1) (by omega); simpa using this) (fun a b => by have := h4 (by simpa using a) (by simpa using b); simpa using this)
theorem mt_app : ∀ (s w v : List UInt8), mt s (w ++ v) = if mt s w = w.length then w.length + mt (s.drop w.length) v else mt s w
  | s, [], v => by
    cases s <;> simp [mt]
  | [], d :: w, v => by simp [mt]
  | c :: s, d :: w, v => by
    rw [List.cons_append, mt, mt]
    by_cases h : lowB c = d
    · rw [if_pos h, if_pos h, mt_app s w v]
      simp only [List.length_cons, List.drop_succ_cons]
      by_cases h2 : mt s w = w.length
      · rw [if_pos h2, if_pos (by omega)]; omega
      · rw [if_neg h2, if_neg (by omega)]
    · rw [if_neg h, if_neg h, if_neg (by simp)]
def wHttp : List UInt8 := [104, 116, 116, 112]
def wHttps : List UInt8 := [104, 116, 116, 112, 115]
def wSep : List UInt8 := [58, 47, 47]
/-- the scheme and what is behind it: how far; or the place of what is wrong -/
def schL (s : List UInt8) : Bool × Nat :=
  if mt s (wHttp ++ wSep) = 7 then (true, 7) else if mt s (wHttps ++ wSep) = 8 then (true, 8) else (false, max (mt s (wHttp ++ wSep)) (mt s (wHttps ++ wSep)))
def pasL (s w : List UInt8) (a : Nat) : Int := if mt (s.drop a) w = w.length then -1 else ((a + mt (s.drop a) w : Nat) : Int)
/-- the same, as the reference has it: the place of what is wrong or -1; the scheme's length -/
def sch2N (s : List UInt8) : Nat := if pasL s wHttp 0 < 0 ∧ 4 < s.length ∧ ((s.getD 4 0).toNat = 115 ∨ (s.getD 4 0).toNat = 83) then 5 else 4
def sch2K (s : List UInt8) : Int := if pasL s wHttp 0 < 0 then pasL s wSep (sch2N s) else pasL s wHttp 0
theorem low115 (c : UInt8) : lowB c = 115 ↔ (c.toNat = 115 ∨ c.toNat = 83) := by
  have key : ∀ n, n < 256 → (lowB (UInt8.ofNat n) = 115 ↔ ((UInt8.ofNat n).toNat = 115 ∨ (UInt8.ofNat n).toNat = 83)) := by decide +kernel
  have := key c.toNat (UInt8.toNat_lt c)
  simpa using this
theorem dropD (s : List UInt8) (a : Nat) (h : a < s.length) : s.drop a = s.getD a 0 :: s.drop (a + 1) := dropG (d := 0) h
theorem sch_same (s : List UInt8) : (0 ≤ sch2K s → schL s = (false, (sch2K s).toNat)) ∧ (sch2K s < 0 → schL s = (true, sch2N s + 3)) := by
  have e1 : mt s (wHttp ++ wSep) = if mt s wHttp = 4 then 4 + mt (s.drop 4) wSep else mt s wHttp := mt_app s wHttp wSep
  have e2 : mt s (wHttps ++ wSep) = if mt s wHttp = 4 then 4 + mt (s.drop 4) (115 :: wSep) else mt s wHttp := mt_app s wHttp (115 :: wSep)
  have hl := mt_le s wHttp
  have hl2 : mt s wHttp ≤ 4 := hl.2
  have hp : pasL s wHttp 0 = if mt s wHttp = 4 then -1 else (mt s wHttp : Int) := by
    unfold pasL; rw [List.drop_zero, Nat.zero_add]; rfl
  by_cases h : mt s wHttp = 4
  · have hp' : pasL s wHttp 0 = -1 := by rw [hp, if_pos h]
    rw [if_pos h] at e1 e2
    have hs3 := (mt_le (s.drop 4) wSep).2
    have hs3 : mt (s.drop 4) wSep ≤ 3 := hs3
    by_cases h4 : 4 < s.length ∧ ((s.getD 4 0).toNat = 115 ∨ (s.getD 4 0).toNat = 83)
    · have hN : sch2N s = 5 := by unfold sch2N; rw [if_pos ⟨by rw [hp']; omega, h4⟩]
      have ed := dropD s 4 h4.1
      have hlo := (low115 _).2 h4.2
      have z1 : mt (s.drop 4) wSep = 0 := by
        rw [ed]
        show (if lowB (s.getD 4 0) = 58 then _ else 0) = 0
        rw [if_neg (by rw [hlo]; decide)]
      have z2 : mt (s.drop 4) (115 :: wSep) = mt (s.drop 5) wSep + 1 := by rw [ed, mt, if_pos hlo]
      have h53 : mt (s.drop 5) wSep ≤ 3 := (mt_le (s.drop 5) wSep).2
      rw [z1] at e1
      rw [z2] at e2
      have hK : sch2K s = if mt (s.drop 5) wSep = 3 then -1 else ((5 + mt (s.drop 5) wSep : Nat) : Int) := by
        unfold sch2K; rw [hp', if_pos (by omega), hN]; rfl
      unfold schL
      rw [e1, e2, hK, hN, if_neg (show ¬ (4 + 0 = 7) by omega)]
      by_cases h5 : mt (s.drop 5) wSep = 3
      · rw [if_pos h5]
        exact ⟨fun x => by omega, fun _ => by rw [if_pos (by omega)]⟩
      · rw [if_neg h5]
        exact ⟨fun _ => by rw [if_neg (by omega)]; congr 1; omega, fun x => by omega⟩
    · have hN : sch2N s = 4 := by unfold sch2N; rw [if_neg (fun x => h4 x.2)]
      have z2 : mt (s.drop 4) (115 :: wSep) = 0 := by
        by_cases h5 : 4 < s.length
        · rw [dropD s 4 h5, mt, if_neg (fun x => h4 ⟨h5, (low115 _).1 x⟩)]
        · rw [List.drop_eq_nil_of_le (by omega)]; rfl
      rw [z2] at e2
      have hK : sch2K s = if mt (s.drop 4) wSep = 3 then -1 else ((4 + mt (s.drop 4) wSep : Nat) : Int) := by
        unfold sch2K; rw [hp', if_pos (by omega), hN]; rfl
      unfold schL
      rw [e1, e2, hK, hN]
      by_cases h5 : mt (s.drop 4) wSep = 3
      · rw [if_pos h5]
        exact ⟨fun x => by omega, fun _ => by rw [if_pos (by omega)]⟩
      · rw [if_neg h5]
        exact ⟨fun _ => by rw [if_neg (by omega), if_neg (by omega)]; congr 1; omega, fun x => by omega⟩
  · have hp' : pasL s wHttp 0 = (mt s wHttp : Int) := by rw [hp, if_neg h]
    rw [if_neg h] at e1 e2
    have hK : sch2K s = (mt s wHttp : Int) := by unfold sch2K; rw [hp', if_neg (by omega)]
    unfold schL
    rw [e1, e2, hK, if_neg (show ¬ mt s wHttp = 7 by omega), if_neg (show ¬ mt s wHttp = 8 by omega)]
    exact ⟨fun _ => by congr 1; omega, fun x => by omega⟩
theorem sch_b (s : List UInt8) : (schL s).2 ≤ s.length := by
  have h1 := mt_le s (wHttp ++ wSep)
  have h2 := mt_le s (wHttps ++ wSep)
  unfold schL
  split
  · show 7 ≤ _; omega
  · split
    · show 8 ≤ _; omega
    · show max _ _ ≤ _; omega
/- host and port -/
def hostB (c : UInt8) : Bool := isLet (c.toNat : Int) || isDig (c.toNat : Int) || decide (c.toNat = 45) || decide (c.toNat = 46)
def digB (c : UInt8) : Bool := isDig (c.toNat : Int)
def portV (s : List UInt8) : Int := s.foldl (fun n c => 10 * n + ((c.toNat : Int) - 48)) 0
/-- the number of a port, or 0 -/
def portN (s : List UInt8) : Int := if 1 ≤ s.length ∧ s.length ≤ 5 ∧ s.all digB = true ∧ portV s ≤ 65535 then portV s else 0
def isAt (s : List UInt8) (a : Nat) (c : Nat) : Bool := decide (a < s.length) && decide ((s.getD a 0).toNat = c)
def cutS (s : List UInt8) (a n : Nat) : List UInt8 := (s.drop a).take n
def hoN (s : List UInt8) (a : Nat) : Nat := runN hostB (s.drop a)
def poN (s : List UInt8) (a : Nat) : Nat := runN digB (s.drop a)
def endB (s : List UInt8) (b : Nat) : Bool := decide (b = s.length) || decide (0 ≤ Lib.indexByte [47, 63, 35] (s.getD b 0))
structure Plc where
  ok : Bool
  at' : Nat
  ho : List UInt8
  po : List UInt8
def plcL (s : List UInt8) (a : Nat) : Plc :=
  if hostL (cutS s a (hoN s a)) = false then ⟨false, a, cutS s a (hoN s a), []⟩
  else if isAt s (a + hoN s a) 58 = true then
    (if portN (cutS s (a + hoN s a + 1) (poN s (a + hoN s a + 1))) = 0 then ⟨false, a + hoN s a + 1, cutS s a (hoN s a), cutS s (a + hoN s a + 1) (poN s (a + hoN s a + 1))⟩
     else ⟨endB s (a + hoN s a + 1 + poN s (a + hoN s a + 1)), a + hoN s a + 1 + poN s (a + hoN s a + 1), cutS s a (hoN s a), cutS s (a + hoN s a + 1) (poN s (a + hoN s a + 1))⟩)
  else ⟨endB s (a + hoN s a), a + hoN s a, cutS s a (hoN s a), []⟩
theorem cutS_len {s : List UInt8} {a n : Nat} (h : a + n ≤ s.length) : (cutS s a n).length = n := by
  unfold cutS; rw [List.length_take, List.length_drop]; omega
theorem hoN_le {s : List UInt8} {a : Nat} (h : a ≤ s.length) : a + hoN s a ≤ s.length := by
  have := runN_le hostB (s.drop a)
  rw [List.length_drop] at this
  unfold hoN; omega
theorem poN_le {s : List UInt8} {a : Nat} (h : a ≤ s.length) : a + poN s a ≤ s.length := by
  have := runN_le digB (s.drop a)
  rw [List.length_drop] at this
  unfold poN; omega
theorem isAt_lt {s : List UInt8} {a c : Nat} (h : isAt s a c = true) : a < s.length := by
  unfold isAt at h
  rw [Bool.and_eq_true, decide_eq_true_eq] at h
  exact h.1
theorem plc_b {s : List UInt8} {a : Nat} (h : a ≤ s.length) : (plcL s a).at' ≤ s.length := by
  have h1 := hoN_le h
  unfold plcL
  split
  · exact h
  · split
    · rename_i hc
      have hc := isAt_lt hc
      have h2 := poN_le (s := s) (a := a + hoN s a + 1) (by omega)
      split
      · exact hc
      · exact h2
    · exact h1
/- rows -/
def rdRow (s : List UInt8) (a : Nat) (w : List UInt8) : Nat × Bool := reL (s.drop a) w ((s.drop a).length + 1) 0
structure Rst where
  ok : Bool
  at' : Nat
  pa : List UInt8
  qu : List UInt8
  hq : Bool
  fr : List UInt8
  hf : Bool
def rst3 (s : List UInt8) (d : Nat) (pa qu : List UInt8) (hq : Bool) : Rst :=
  if isAt s d 35 = true then ⟨(rdRow s (d + 1) []).2, d + 1 + (rdRow s (d + 1) []).1, pa, qu, hq, cutS s (d + 1) (rdRow s (d + 1) []).1, true⟩ else ⟨true, d, pa, qu, hq, [], false⟩
def rst2 (s : List UInt8) (c : Nat) (pa : List UInt8) : Rst :=
  if isAt s c 63 = true then (if (rdRow s (c + 1) [35]).2 = false then ⟨false, c + 1 + (rdRow s (c + 1) [35]).1, pa, cutS s (c + 1) (rdRow s (c + 1) [35]).1, true, [], false⟩ else rst3 s (c + 1 + (rdRow s (c + 1) [35]).1) pa (cutS s (c + 1) (rdRow s (c + 1) [35]).1) true)
  else rst3 s c pa [] false
def rstL (s : List UInt8) (b : Nat) : Rst :=
  if (rdRow s b [63, 35]).2 = false then ⟨false, b + (rdRow s b [63, 35]).1, cutS s b (rdRow s b [63, 35]).1, [], false, [], false⟩ else rst2 s (b + (rdRow s b [63, 35]).1) (cutS s b (rdRow s b [63, 35]).1)
/-- an address, read -/
def readA (s : List UInt8) : Adr × Int × Int :=
  if 2000 < s.length then (noAdr, 0, 2)
  else if (schL s).1 = false then (noAdr, (schL s).2, 10)
  else if (plcL s (schL s).2).ok = false then (noAdr, (plcL s (schL s).2).at', 10)
  else if (rstL s (plcL s (schL s).2).at').ok = false then (noAdr, (rstL s (plcL s (schL s).2).at').at', 10)
  else (⟨s.take ((schL s).2 - 3), (plcL s (schL s).2).ho, (plcL s (schL s).2).po, (rstL s (plcL s (schL s).2).at').pa, (rstL s (plcL s (schL s).2).at').qu, (rstL s (plcL s (schL s).2).at').hq, (rstL s (plcL s (schL s).2).at').fr, (rstL s (plcL s (schL s).2).at').hf⟩, 0, 0)
theorem reL_le (s w : List UInt8) : ∀ k i, i ≤ s.length → (reL s w k i).1 ≤ s.length
  | 0, i, h => Nat.le_refl _
  | k + 1, i, h => by
    rw [reL]
    split
    · exact Nat.le_refl _
    · split
      · exact h
      · split
        · exact h
        · split
          · split
            · rename_i hp
              simp only [pctB, Bool.and_eq_true, decide_eq_true_eq] at hp
              exact reL_le s w k _ (by omega)
            · exact h
          · exact reL_le s w k _ (by omega)
theorem rdRow_le {s : List UInt8} {a : Nat} {w : List UInt8} (h : a ≤ s.length) : a + (rdRow s a w).1 ≤ s.length := by
  have := reL_le (s.drop a) w ((s.drop a).length + 1) 0 (Nat.zero_le _)
  unfold rdRow
  rw [List.length_drop] at this ⊢
  omega
/- the reference's rows: up to a byte that ends them, and the first place that is none of a row -/
def cell0 (s : List UInt8) (j : Nat) : Bool := rowB (s.getD j 0) && (decide ((s.getD j 0).toNat ≠ 37) || pctB s j)
def rb0 (s : List UInt8) : Int := match (List.range s.length).find? (fun j => !cell0 s j) with
  | some j => (j : Int)
  | none => -1
theorem rb0_at {s : List UInt8} {i : Nat} (hi : i < s.length) (h : ∀ j, j < i → cell0 s j = true) (hc : cell0 s i = false) : rb0 s = i := by
  unfold rb0
  have : (List.range s.length).find? (fun j => !cell0 s j) = some i := by
    rw [List.find?_range_eq_some]
    exact ⟨by simpa using hc, List.mem_range.2 hi, fun j hj => by simpa using h j hj⟩
  rw [this]
theorem rb0_no {s : List UInt8} (h : ∀ j, j < s.length → cell0 s j = true) : rb0 s = -1 := by
  unfold rb0
  have : (List.range s.length).find? (fun j => !cell0 s j) = none := by
    rw [List.find?_eq_none]
    intro j hj
    rw [h j (List.mem_range.1 hj)]; simp
  rw [this]
theorem rb0_b (s : List UInt8) : -1 ≤ rb0 s ∧ rb0 s < s.length := by
  unfold rb0
  split
  · rename_i j h
    have := List.mem_range.1 (List.mem_of_find?_eq_some h)
    omega
  · omega
def stopB (w : List UInt8) (c : UInt8) : Bool := decide (Lib.indexByte w c < 0)
def utN (s : List UInt8) (a : Nat) (w : List UInt8) : Nat := runN (stopB w) (s.drop a)
def okStop (w : List UInt8) : Prop := ∀ c : UInt8, isHex (c.toNat : Int) = true → stopB w c = true
theorem okStop_of {w : List UInt8} (h : (List.range 256).all (fun n => !isHex (n : Int) || stopB w (UInt8.ofNat n)) = true) : okStop w := by
  intro c hc
  rw [List.all_eq_true] at h
  have := h c.toNat (List.mem_range.2 (UInt8.toNat_lt c))
  rw [hc] at this
  simpa using this
theorem ok_1 : okStop [63, 35] := okStop_of (by decide +kernel)
theorem ok_2 : okStop [35] := okStop_of (by decide +kernel)
theorem ok_3 : okStop [] := okStop_of (by decide +kernel)
theorem getD_take {s : List UInt8} {n j : Nat} (h : j < n) : (s.take n).getD j 0 = s.getD j 0 := by
  rw [List.getD_eq_getElem?_getD, List.getD_eq_getElem?_getD, List.getElem?_take_of_lt h]
theorem row_go {t w : List UInt8} (hw : okStop w) : ∀ (k i : Nat), t.length < i + k → i ≤ runN (stopB w) t → (∀ j, j < i → cell0 (t.take (runN (stopB w) t)) j = true) → reL t w k i = if rb0 (t.take (runN (stopB w) t)) < 0 then (runN (stopB w) t, true) else ((rb0 (t.take (runN (stopB w) t))).toNat, false)
  | 0, i, h, hi, _ => by have := runN_le (stopB w) t; omega
  | k + 1, i, h, hi, hc => by
    have hN := runN_le (stopB w) t
    have hin := fun j => runN_in (p := stopB w) (s := t) (j := j)
    have hout := runN_out (p := stopB w) (s := t)
    generalize hNe : runN (stopB w) t = N at hi hc hN hin hout ⊢
    have hlen : (t.take N).length = N := by rw [List.length_take]; omega
    have eN : i = N → rb0 (t.take N) = -1 := fun e => rb0_no fun j hj => hc j (by omega)
    rw [reL]
    by_cases h1 : t.length ≤ i
    · rw [if_pos h1, eN (by omega), if_pos (by omega)]
      congr 1; omega
    rw [if_neg h1]
    by_cases h2 : i = N
    · subst h2
      have := hout (by omega)
      unfold stopB at this
      rw [decide_eq_false_iff_not] at this
      rw [if_pos (by omega), eN rfl, if_pos (by omega)]
    have hs := hin i (by omega)
    unfold stopB at hs
    rw [decide_eq_true_eq] at hs
    rw [if_neg (by omega)]
    have hg : (t.take N).getD i 0 = t.getD i 0 := getD_take (by omega)
    have hp : pctB (t.take N) i = pctB t i := by
      rw [Bool.eq_iff_iff]
      unfold pctB
      simp only [Bool.and_eq_true, decide_eq_true_eq, hlen]
      constructor
      · rintro ⟨⟨a, b⟩, c⟩
        rw [getD_take (by omega)] at b c
        exact ⟨⟨by omega, b⟩, c⟩
      · rintro ⟨⟨a, b⟩, c⟩
        have b' := hw _ b
        have c' := hw _ c
        have n1 : i + 1 ≠ N := fun e => by rw [e, hout (by omega)] at b'; cases b'
        have n2 : i + 2 ≠ N := fun e => by rw [e, hout (by omega)] at c'; cases c'
        refine ⟨⟨by omega, ?_⟩, ?_⟩
        · rw [getD_take (by omega)]; exact b
        · rw [getD_take (by omega)]; exact c
    have bad : cell0 (t.take N) i = false → (i, false) = if rb0 (t.take N) < 0 then (N, true) else ((rb0 (t.take N)).toNat, false) := fun hb => by
      rw [rb0_at (by omega) hc hb, if_neg (by omega), Int.toNat_natCast]
    by_cases h3 : rowB (t.getD i 0) = false
    · rw [if_pos h3]
      exact bad (by unfold cell0; rw [hg, h3]; rfl)
    rw [if_neg h3]
    have h3' : rowB (t.getD i 0) = true := by simpa using h3
    by_cases h4 : (t.getD i 0).toNat = 37
    · rw [if_pos h4]
      by_cases hpc : pctB t i = true
      · rw [if_pos hpc]
        have hp' := hp.trans hpc
        simp only [pctB, Bool.and_eq_true, decide_eq_true_eq, hlen] at hp'
        have key := row_go (t := t) hw k (i + 3) (by omega) (by rw [hNe]; omega) (fun j hj => by
          rw [hNe]
          by_cases e : j < i
          · exact hc j e
          rcases (by omega : j = i ∨ j = i + 1 ∨ j = i + 2) with rfl | rfl | rfl
          · unfold cell0; rw [hg, h3', hp, hpc]; simp
          · have := cell_hex _ hp'.1.2
            unfold cell0; rw [this.1, decide_eq_true this.2.2]; rfl
          · have := cell_hex _ hp'.2
            unfold cell0; rw [this.1, decide_eq_true this.2.2]; rfl)
        rw [hNe] at key
        exact key
      · rw [if_neg hpc]
        exact bad (by unfold cell0; rw [hg, h3', hp, decide_eq_false (fun x => x h4)]; simpa using hpc)
    · rw [if_neg h4]
      have key := row_go (t := t) hw k (i + 1) (by omega) (by rw [hNe]; omega) (fun j hj => by
        rw [hNe]
        by_cases e : j < i
        · exact hc j e
        obtain rfl : j = i := by omega
        unfold cell0; rw [hg, h3', decide_eq_true h4]; rfl)
      rw [hNe] at key
      exact key
/-- both ways to read a row -/
theorem row_same {s w : List UInt8} (hw : okStop w) (a : Nat) : rdRow s a w = if rb0 (cutS s a (utN s a w)) < 0 then (utN s a w, true) else ((rb0 (cutS s a (utN s a w))).toNat, false) :=
  row_go hw _ 0 (by omega) (Nat.zero_le _) (fun j hj => by omega)
theorem utN_le {s : List UInt8} {a : Nat} {w : List UInt8} (h : a ≤ s.length) : a + utN s a w ≤ s.length := by
  have := runN_le (stopB w) (s.drop a)
  rw [List.length_drop] at this
  unfold utN; omega

/- paths without dots -/
def joinSl (L : List (List UInt8)) : List UInt8 := L.flatMap fun x => 47 :: x
def dotGo : List (List UInt8) → List (List UInt8) → List (List UInt8)
  | [], o => o
  | p :: t, o => if p = [46, 46] then dotGo t (if t = [] then o.dropLast ++ [[]] else o.dropLast) else if p = [46] then dotGo t (if t = [] then o ++ [[]] else o) else dotGo t (o ++ [p])
def undotL (s : List UInt8) : List UInt8 := if s = [] then [] else joinSl (dotGo (splitL (s.drop 1) 47) [])
theorem joinSl_app (a b : List (List UInt8)) : joinSl (a ++ b) = joinSl a ++ joinSl b := by simp [joinSl]
theorem joinSl_one (x : List UInt8) : joinSl [x] = 47 :: x := by simp [joinSl]
theorem joinSl_spl : ∀ t : List UInt8, joinSl (spl 47 t) = 47 :: t
  | [] => rfl
  | x :: t => by
    have ih := joinSl_spl t
    have hne := spl_ne 47 t
    rw [spl]
    cases hs : spl 47 t with
    | nil => exact absurd hs hne
    | cons a r =>
      rw [hs] at ih
      have ih : 47 :: (a ++ joinSl r) = 47 :: t := by simpa [joinSl] using ih
      have ih := (List.cons.inj ih).2
      split
      · rename_i h; subst h
        show 47 :: ([] ++ joinSl (a :: r)) = _
        rw [show joinSl (a :: r) = 47 :: (a ++ joinSl r) by simp [joinSl], ih]; rfl
      · show 47 :: ((x :: a) ++ joinSl r) = _
        rw [List.cons_append, ih]
/- rows, byte by byte -/
def hex2 : List UInt8 → Bool
  | a :: b :: _ => isHex (a.toNat : Int) && isHex (b.toNat : Int)
  | _ => false
def rowR : List UInt8 → Bool
  | [] => true
  | c :: t => rowB c && (decide (c.toNat ≠ 37) || hex2 t) && rowR t
def rowQ (s : List UInt8) : Bool := (List.range s.length).all (cell0 s)
theorem hex2_pct (c : UInt8) (t : List UInt8) : hex2 t = pctB (c :: t) 0 := by
  unfold pctB
  match t with
  | [] => rfl
  | [a] => simp [hex2]
  | a :: b :: r => simp [hex2]
theorem cell0_succ (c : UInt8) (t : List UInt8) (j : Nat) : cell0 (c :: t) (j + 1) = cell0 t j := by
  have e : decide (j + 1 + 2 < (c :: t).length) = decide (j + 2 < t.length) := decide_eq_decide.2 (by simp only [List.length_cons]; omega)
  unfold cell0 pctB
  rw [e]
  rw [List.getD_cons_succ, show j + 1 + 1 = (j + 1) + 1 from rfl, List.getD_cons_succ, show j + 1 + 2 = (j + 2) + 1 from rfl, List.getD_cons_succ]
theorem rowQ_rowR : ∀ s, rowQ s = rowR s
  | [] => rfl
  | c :: t => by
    rw [rowR, ← rowQ_rowR t]
    unfold rowQ
    rw [List.length_cons, List.range_succ_eq_map, List.all_cons, List.all_map]
    congr 1
    · unfold cell0; rw [List.getD_cons_zero, hex2_pct c t]
    · congr 1
      funext j
      exact cell0_succ c t j
theorem rowP_rowR (s : List UInt8) : rowP s = (rowR s && s.all fun c => decide (c.toNat ≠ 63)) := by
  rw [← rowQ_rowR, Bool.eq_iff_iff, Bool.and_eq_true]
  unfold rowP rowQ
  rw [List.all_eq_true, List.all_eq_true, List.all_eq_true]
  constructor
  · intro h
    refine ⟨fun j hj => ?_, fun c hc => ?_⟩
    · have := h j hj
      simp only [cellP, Bool.and_eq_true] at this
      unfold cell0; rw [this.1.1, this.2]; rfl
    · obtain ⟨j, hj, rfl⟩ := List.getElem_of_mem hc
      have := h j (List.mem_range.2 hj)
      simp only [cellP, Bool.and_eq_true] at this
      have h2 := this.1.2
      rwa [List.getD_eq_getElem?_getD, List.getElem?_eq_getElem hj] at h2
  · rintro ⟨h1, h2⟩ j hj
    have := h1 j hj
    have hj' := List.mem_range.1 hj
    have h3 := h2 (s.getD j 0) (by rw [List.getD_eq_getElem?_getD, List.getElem?_eq_getElem hj']; exact List.getElem_mem hj')
    simp only [cell0, Bool.and_eq_true] at this
    unfold cellP; rw [this.1, this.2, h3]; rfl
theorem hex2_app {a : List UInt8} (b : List UInt8) (h : hex2 a = true) : hex2 (a ++ b) = true := by
  match a, h with
  | x :: y :: r, h => exact h
theorem rowR_app : ∀ {a b : List UInt8}, rowR a = true → rowR b = true → rowR (a ++ b) = true
  | [], b, _, h => h
  | c :: t, b, h1, h2 => by
    rw [List.cons_append, rowR]
    rw [rowR] at h1
    simp only [Bool.and_eq_true, Bool.or_eq_true] at h1 ⊢
    exact ⟨⟨h1.1.1, h1.1.2.imp id (hex2_app b)⟩, rowR_app h1.2 h2⟩
theorem rowR_tail : ∀ (a : List UInt8) {b : List UInt8}, rowR (a ++ b) = true → rowR b = true
  | [], _, h => h
  | c :: t, b, h => by
    rw [List.cons_append, rowR] at h
    simp only [Bool.and_eq_true] at h
    exact rowR_tail t h.2
theorem rowR_left : ∀ {a b : List UInt8}, rowR (a ++ 47 :: b) = true → rowR a = true
  | [], b, _ => rfl
  | c :: t, b, h => by
    rw [List.cons_append, rowR] at h
    rw [rowR]
    simp only [Bool.and_eq_true, Bool.or_eq_true] at h ⊢
    refine ⟨⟨h.1.1, h.1.2.imp id fun x => ?_⟩, rowR_left h.2⟩
    have n47 : isHex ((47 : UInt8).toNat : Int) = false := by decide
    match t, x with
    | [], x =>
      cases b with
      | nil => simp [hex2] at x
      | cons y r => simp only [List.nil_append, hex2, n47] at x; cases x
    | [y], x => simp only [List.cons_append, List.nil_append, hex2, n47] at x; simp at x
    | y :: z :: r, x => exact x
theorem rowR_join {L : List (List UInt8)} (h : rowR (joinSl L) = true) : ∀ x ∈ L, rowR x = true := by
  induction L with
  | nil => intro x hx; cases hx
  | cons a t ih =>
    have e : joinSl (a :: t) = 47 :: (a ++ joinSl t) := by simp [joinSl]
    rw [e, rowR] at h
    simp only [Bool.and_eq_true] at h
    intro x hx
    rcases List.mem_cons.1 hx with rfl | hx
    · cases t with
      | nil => simpa [joinSl] using h.2
      | cons b r =>
        rw [show joinSl (b :: r) = 47 :: (b ++ joinSl r) by simp [joinSl]] at h
        exact rowR_left h.2
    · exact ih (rowR_tail a h.2) x hx
theorem rowR_47 {s : List UInt8} (h : rowR s = true) : rowR (47 :: s) = true := by
  rw [rowR, h]
  have e1 : rowB 47 = true := by decide
  have e2 : decide ((47 : UInt8).toNat ≠ 37) = true := by decide
  rw [e1, e2]; rfl
theorem join_rowR {L : List (List UInt8)} (h : ∀ x ∈ L, rowR x = true) : rowR (joinSl L) = true := by
  induction L with
  | nil => rfl
  | cons a t ih =>
    rw [show joinSl (a :: t) = 47 :: (a ++ joinSl t) by simp [joinSl]]
    exact rowR_47 (rowR_app (h a (by simp)) (ih fun x hx => h x (List.mem_cons_of_mem _ hx)))
theorem dotGo_sub : ∀ (t o : List (List UInt8)) (x : List UInt8), x ∈ dotGo t o → x ∈ o ∨ x ∈ t ∨ x = []
  | [], o, x, h => .inl h
  | p :: t, o, x, h => by
    have dl : ∀ y, y ∈ o.dropLast → y ∈ o := fun y hy => List.dropLast_subset _ hy
    rw [dotGo] at h
    split at h
    · rcases dotGo_sub t _ x h with h | h | h
      · split at h
        · rcases List.mem_append.1 h with h | h
          · exact .inl (dl x h)
          · exact .inr (.inr (List.mem_singleton.1 h))
        · exact .inl (dl x h)
      · exact .inr (.inl (List.mem_cons_of_mem _ h))
      · exact .inr (.inr h)
    · split at h
      · rcases dotGo_sub t _ x h with h | h | h
        · split at h
          · rcases List.mem_append.1 h with h | h
            · exact .inl h
            · exact .inr (.inr (List.mem_singleton.1 h))
          · exact .inl h
        · exact .inr (.inl (List.mem_cons_of_mem _ h))
        · exact .inr (.inr h)
      · rcases dotGo_sub t _ x h with h | h | h
        · rcases List.mem_append.1 h with h | h
          · exact .inl h
          · exact .inr (.inl (by rw [List.mem_singleton.1 h]; simp))
        · exact .inr (.inl (List.mem_cons_of_mem _ h))
        · exact .inr (.inr h)
theorem joinSl_len_drop (o : List (List UInt8)) : (joinSl o.dropLast).length ≤ (joinSl o).length := by
  cases o with
  | nil => simp
  | cons a t =>
    have := List.dropLast_concat_getLast (l := a :: t) (by simp)
    conv => rhs; rw [← this, joinSl_app]
    rw [List.length_append]; omega
theorem dotGo_len : ∀ (t o : List (List UInt8)), (joinSl (dotGo t o)).length ≤ (joinSl o).length + (joinSl t).length
  | [], o => by simp [dotGo]
  | p :: t, o => by
    have e : (joinSl (p :: t)).length = p.length + 1 + (joinSl t).length := by simp [joinSl]; omega
    have hd := joinSl_len_drop o
    have h1 : ∀ q : List (List UInt8), (joinSl (q ++ [[]])).length = (joinSl q).length + 1 := fun q => by rw [joinSl_app, List.length_append, joinSl_one]; rfl
    rw [dotGo]
    split
    · rename_i hp
      split
      · have := dotGo_len t (o.dropLast ++ [[]]); rw [h1] at this; omega
      · have := dotGo_len t o.dropLast; omega
    · split
      · split
        · have := dotGo_len t (o ++ [[]]); rw [h1] at this; omega
        · have := dotGo_len t o; omega
      · have := dotGo_len t (o ++ [p])
        rw [joinSl_app, List.length_append, joinSl_one, List.length_cons] at this
        omega
theorem dotGo_ne : ∀ (t o : List (List UInt8)), t ≠ [] → dotGo t o ≠ []
  | [p], o, _ => by
    rw [dotGo]
    split
    · simp [dotGo]
    · split <;> simp [dotGo]
  | p :: q :: t, o, _ => by
    rw [dotGo]
    split
    · exact dotGo_ne (q :: t) _ (by simp)
    · split <;> exact dotGo_ne (q :: t) _ (by simp)
/-- a path without dots is a path, and none too long -/
theorem undot_ok {s : List UInt8} (h : rowP s = true) (h0 : s = [] ∨ s.getD 0 0 = 47) : rowP (undotL s) = true ∧ (undotL s).length ≤ s.length ∧ (s ≠ [] → (undotL s).getD 0 0 = 47 ∧ undotL s ≠ []) ∧ (s = [] → undotL s = []) := by
  cases s with
  | nil => exact ⟨rfl, Nat.le_refl _, fun h => absurd rfl h, fun _ => rfl⟩
  | cons c t =>
    obtain rfl : c = 47 := by simpa using h0
    have eu : undotL (47 :: t) = joinSl (dotGo (spl 47 t) []) := by
      unfold undotL
      rw [if_neg (by simp), List.drop_one, List.tail_cons, splitL_eq]
    rw [eu]
    rw [rowP_rowR, Bool.and_eq_true] at h
    have hj := joinSl_spl t
    have hp := rowR_join (L := spl 47 t) (by rw [hj]; exact h.1)
    have hs := dotGo_sub (spl 47 t) []
    have hl := dotGo_len (spl 47 t) []
    have hn := dotGo_ne (spl 47 t) [] (spl_ne 47 t)
    have hall : ∀ x ∈ spl 47 t, ∀ c ∈ x, c.toNat ≠ 63 := fun x hx c hc => by
      have h2 := List.all_eq_true.1 h.2 c (by rw [← hj]; exact List.mem_flatMap.2 ⟨x, hx, List.mem_cons_of_mem _ hc⟩)
      simpa using h2
    generalize dotGo (spl 47 t) [] = Q at hs hl hn ⊢
    refine ⟨?_, by rw [hj] at hl; simpa [joinSl] using hl, fun _ => ?_, fun x => by cases x⟩
    · rw [rowP_rowR, Bool.and_eq_true]
      refine ⟨join_rowR fun x hx => ?_, ?_⟩
      · rcases hs x hx with h | h | h
        · cases h
        · exact hp x h
        · rw [h]; rfl
      · rw [List.all_eq_true]
        intro c hc
        obtain ⟨x, hx, hc⟩ := List.mem_flatMap.1 hc
        rcases List.mem_cons.1 hc with rfl | hc
        · decide
        · rcases hs x hx with h | h | h
          · cases h
          · exact decide_eq_true (hall x h c hc)
          · rw [h] at hc; cases hc
    · cases Q with
      | nil => exact absurd rfl hn
      | cons a r => rw [show joinSl (a :: r) = 47 :: (a ++ joinSl r) by simp [joinSl]]; exact ⟨rfl, by simp⟩
/- the normal form of a row is a row -/
theorem enc_row (v : Nat) (h : v < 256) : rowR (encB v) = true ∧ (encB v).all (fun c => decide (c.toNat ≠ 63)) = true := by
  revert v
  decide +kernel
theorem norm_rowR (s : List UInt8) (h : rowR s = true) : rowR (normL s) = true := by
  refine normL.induct (motive := fun s => rowR s = true → rowR (normL s) = true) ?_ ?_ ?_ s h
  · intro c a b r hc ih hr
    rw [normL, if_pos hc]
    have hb : 16 * hexN a + hexN b < 256 := by have := hexN_lt hc.2.1; have := hexN_lt hc.2.2; omega
    refine rowR_app (enc_row _ hb).1 (ih ?_)
    exact rowR_tail [c, a, b] hr
  · intro c a b r hc ih hr
    rw [normL, if_neg hc]
    have hr' := rowR_tail [c] hr
    rw [rowR, ih hr']
    rw [rowR] at hr
    simp only [Bool.and_eq_true, Bool.or_eq_true, decide_eq_true_eq] at hr ⊢
    refine ⟨⟨hr.1.1, .inl fun e => ?_⟩, trivial⟩
    rcases hr.1.2 with h | h
    · exact h e
    · simp only [hex2, Bool.and_eq_true] at h
      exact hc ⟨UInt8.toNat_inj.1 e, h.1, h.2⟩
  · intro l hn hr
    match l with
    | [] => rfl
    | [a] => simpa [normL] using hr
    | [a, b] => simpa [normL] using hr
    | c :: a :: b :: r => exact (hn c a b r rfl).elim
theorem norm_63 (s : List UInt8) (h : s.all (fun c => decide (c.toNat ≠ 63)) = true) : (normL s).all (fun c => decide (c.toNat ≠ 63)) = true := by
  refine normL.induct (motive := fun s => s.all (fun c => decide (c.toNat ≠ 63)) = true → (normL s).all (fun c => decide (c.toNat ≠ 63)) = true) ?_ ?_ ?_ s h
  · intro c a b r hc ih hr
    rw [normL, if_pos hc, List.all_append]
    have hb : 16 * hexN a + hexN b < 256 := by have := hexN_lt hc.2.1; have := hexN_lt hc.2.2; omega
    rw [(enc_row _ hb).2, Bool.true_and]
    simp only [List.all_cons, Bool.and_eq_true] at hr
    exact ih hr.2.2.2
  · intro c a b r hc ih hr
    rw [normL, if_neg hc]
    rw [List.all_cons, Bool.and_eq_true] at hr
    rw [List.all_cons, hr.1, Bool.true_and]
    exact ih hr.2
  · intro l hn hr
    match l with
    | [] => rfl
    | [a] => simpa [normL] using hr
    | [a, b] => simpa [normL] using hr
    | c :: a :: b :: r => exact (hn c a b r rfl).elim
theorem norm_rowP {s : List UInt8} (h : rowP s = true) : rowP (normL s) = true := by
  rw [rowP_rowR, Bool.and_eq_true] at h ⊢
  exact ⟨norm_rowR s h.1, norm_63 s h.2⟩
theorem norm_head {s : List UInt8} (h : s = [] ∨ s.getD 0 0 = 47) : (s = [] ∧ normL s = []) ∨ (s ≠ [] ∧ normL s ≠ [] ∧ (normL s).getD 0 0 = 47) := by
  match s, h with
  | [], _ => exact .inl ⟨rfl, rfl⟩
  | [a], h => exact .inr ⟨by simp, by simp [normL], by simpa [normL] using h⟩
  | [a, b], h => exact .inr ⟨by simp, by simp [normL], by simpa [normL] using h⟩
  | c :: a :: b :: r, h =>
    have hc : c = 47 := by simpa using h
    subst hc
    rw [normL, if_neg (fun x => by have := x.1; revert this; decide)]
    exact .inr ⟨by simp, by simp, rfl⟩
theorem rb0_iff (s : List UInt8) : decide (rb0 s < 0) = rowR s := by
  rw [← rowQ_rowR, Bool.eq_iff_iff, decide_eq_true_eq]
  unfold rowQ
  rw [List.all_eq_true]
  constructor
  · intro h j hj
    refine Classical.byContradiction fun hc => ?_
    have hc : cell0 s j = false := by simpa using hc
    have := List.mem_range.1 hj
    obtain ⟨k, hk, h1, h2⟩ : ∃ k, k < s.length ∧ (∀ j, j < k → cell0 s j = true) ∧ cell0 s k = false := by
      have : ∀ n, n < s.length → cell0 s n = false → ∃ k, k < s.length ∧ (∀ j, j < k → cell0 s j = true) ∧ cell0 s k = false := by
        intro n
        induction n using Nat.strongRecOn with
        | _ n ih =>
          intro hn hf
          by_cases ha : ∀ j, j < n → cell0 s j = true
          · exact ⟨n, hn, ha, hf⟩
          · obtain ⟨j, hj⟩ := Classical.not_forall.1 ha
            obtain ⟨hj1, hj2⟩ := Classical.not_imp.1 hj
            exact ih j hj1 (by omega) (by simpa using hj2)
      exact this j (by omega) hc
    rw [rb0_at hk h1 h2] at h
    omega
  · intro h
    rw [rb0_no fun j hj => h j (List.mem_range.2 hj)]
    omega
/- addresses -/
def schOk (s : List UInt8) : Bool := lowL s == wHttp || lowL s == wHttps
def behL (a : Adr) : List UInt8 := a.pa ++ (if a.hq = true then 63 :: a.qu else []) ++ (if a.hf = true then 35 :: a.fr else [])
def wrL (a : Adr) : List UInt8 := a.sc ++ wSep ++ a.ho ++ (if a.po = [] then [] else 58 :: a.po) ++ behL a
def synA (a : Adr) : Bool := schOk a.sc && hostL a.ho && (a.po == [] || decide (portN a.po ≠ 0)) && (a.pa == [] || decide ((a.pa.getD 0 0).toNat = 47)) && rowP a.pa && rowR a.qu && rowR a.fr
def checkAdrL (a : Adr) : Int := if synA a = false then 10 else if (a.qu ≠ [] ∧ a.hq = false) ∨ (a.fr ≠ [] ∧ a.hf = false) then 3 else if 2000 < (wrL a).length then 2 else 0
def trimZ (s : List UInt8) : List UInt8 := s.dropWhile fun c => c == 48
def portA (a : Adr) : List UInt8 := if (lowL a.sc = wHttp ∧ trimZ a.po = [56, 48]) ∨ (lowL a.sc = wHttps ∧ trimZ a.po = [52, 52, 51]) then [] else trimZ a.po
def npL (a : Adr) : List UInt8 := if undotL (normL a.pa) = [] then [47] else undotL (normL a.pa)
def normA (a : Adr) : Adr := ⟨lowL a.sc, lowL a.ho, portA a, npL a, normL a.qu, a.hq, [], false⟩
/-- the path of an address -/
def pathL (a : Adr) : List UInt8 := npL a ++ (if a.hq = true then 63 :: normL a.qu else [])
theorem lowB_idem (c : UInt8) : lowB (lowB c) = lowB c := by
  have key : ∀ n, n < 256 → lowB (lowB (UInt8.ofNat n)) = lowB (UInt8.ofNat n) := by decide +kernel
  have := key c.toNat (UInt8.toNat_lt c)
  simpa using this
theorem lowL_len (s : List UInt8) : (lowL s).length = s.length := by simp [lowL]
theorem lowL_idem (s : List UInt8) : lowL (lowL s) = lowL s := by
  unfold lowL
  rw [List.map_map]
  congr 1
  funext c
  exact lowB_idem c
theorem low_lab (c : UInt8) : labB (lowB c) = labB c ∧ ((lowB c).toNat = 45 ↔ c.toNat = 45) ∧ (lowB c = 46 ↔ c = 46) := by
  have key : ∀ n, n < 256 → labB (lowB (UInt8.ofNat n)) = labB (UInt8.ofNat n) ∧ ((lowB (UInt8.ofNat n)).toNat = 45 ↔ (UInt8.ofNat n).toNat = 45) ∧ (lowB (UInt8.ofNat n) = 46 ↔ UInt8.ofNat n = 46) := by decide +kernel
  have := key c.toNat (UInt8.toNat_lt c)
  simpa using this
theorem spl_low : ∀ s : List UInt8, spl 46 (lowL s) = (spl 46 s).map lowL
  | [] => rfl
  | x :: t => by
    show spl 46 (lowB x :: lowL t) = _
    rw [spl, spl, spl_low t]
    by_cases h : x = 46
    · rw [if_pos ((low_lab x).2.2.2 h), if_pos h]; rfl
    · rw [if_neg (fun e => h ((low_lab x).2.2.1 e)), if_neg h, List.map_cons, List.map_tail]
      cases spl 46 t <;> rfl
theorem getD_low (s : List UInt8) (i : Nat) (h : i < s.length) : (lowL s).getD i 0 = lowB (s.getD i 0) := by
  unfold lowL
  rw [List.getD_eq_getElem?_getD, List.getElem?_map, List.getD_eq_getElem?_getD, List.getElem?_eq_getElem h]; rfl
theorem label_low (s : List UInt8) : labelL (lowL s) = labelL s := by
  unfold labelL
  rw [lowL_len]
  by_cases h : 1 ≤ s.length
  · rw [getD_low s 0 (by omega), getD_low s (s.length - 1) (by omega)]
    have e1 : decide ((lowB (s.getD 0 0)).toNat ≠ 45) = decide ((s.getD 0 0).toNat ≠ 45) := decide_eq_decide.2 (not_congr (low_lab _).2.1)
    have e2 : decide ((lowB (s.getD (s.length - 1) 0)).toNat ≠ 45) = decide ((s.getD (s.length - 1) 0).toNat ≠ 45) := decide_eq_decide.2 (not_congr (low_lab _).2.1)
    have e3 : (lowL s).all labB = s.all labB := by
      unfold lowL
      rw [List.all_map]
      congr 1
      funext c
      exact (low_lab c).1
    rw [e1, e2, e3]
  · rw [decide_eq_false h]; rfl
theorem host_low (s : List UInt8) : hostL (lowL s) = hostL s := by
  unfold hostL
  rw [lowL_len, splitL_eq, splitL_eq, spl_low, List.all_map]
  congr 2
  funext x
  exact label_low x
theorem portV_z (t : List UInt8) : portV (48 :: t) = portV t := rfl
theorem trimZ_len (s : List UInt8) : (trimZ s).length ≤ s.length := by
  induction s with
  | nil => simp [trimZ]
  | cons c t ih =>
    unfold trimZ at *
    rw [List.dropWhile_cons]
    split
    · simp only [List.length_cons]; omega
    · exact Nat.le_refl _
theorem trimZ_port {s : List UInt8} (h : portN s ≠ 0) : portN (trimZ s) ≠ 0 := by
  induction s with
  | nil => exact h
  | cons c t ih =>
    by_cases hc : c = 48
    · subst hc
      have e : trimZ (48 :: t) = trimZ t := by unfold trimZ; rw [List.dropWhile_cons, if_pos (by decide)]
      rw [e]
      refine ih ?_
      unfold portN at h ⊢
      rw [portV_z] at h
      split at h
      · rename_i hx
        have ht : t ≠ [] := fun e => by subst e; exact h rfl
        have := List.length_pos_iff.2 ht
        simp only [List.length_cons, List.all_cons, Bool.and_eq_true] at hx
        rw [if_pos ⟨by omega, by omega, hx.2.2.1.2, hx.2.2.2⟩]; exact h
      · exact absurd rfl h
    · have e : trimZ (c :: t) = c :: t := by unfold trimZ; rw [List.dropWhile_cons, if_neg (by simpa using hc)]
      rw [e]; exact h
/-- the normal form of a right address is right, or too long by the / of its empty path -/
theorem norm_right {a : Adr} (h : checkAdrL a = 0) : checkAdrL (normA a) = 0 ∨ (a.pa = [] ∧ checkAdrL (normA a) ≠ 0) := by
  by_cases hp : a.pa = []
  · by_cases h0 : checkAdrL (normA a) = 0
    · exact .inl h0
    · exact .inr ⟨hp, h0⟩
  left
  unfold checkAdrL at h
  split at h
  · cases h
  rename_i h1
  split at h
  · cases h
  rename_i h2
  split at h
  · cases h
  rename_i h3
  have h1 : synA a = true := by simpa using h1
  unfold synA at h1
  simp only [Bool.and_eq_true, Bool.or_eq_true, beq_iff_eq, decide_eq_true_eq] at h1
  obtain ⟨⟨⟨⟨⟨⟨s1, s2⟩, s3⟩, s4⟩, s5⟩, s6⟩, s7⟩ := h1
  have p47 : a.pa = [] ∨ a.pa.getD 0 0 = 47 := s4.imp id fun e => UInt8.toNat_inj.1 e
  obtain ⟨e, _⟩ | ⟨n1, n2, n3⟩ := norm_head p47
  · exact absurd e hp
  obtain ⟨u1, u2, u3, u4⟩ := undot_ok (norm_rowP s5) (.inr n3)
  obtain ⟨u5, u6⟩ := u3 n2
  have eN : npL a = undotL (normL a.pa) := by unfold npL; rw [if_neg u6]
  have lq := normL_len a.qu
  have lp := normL_len a.pa
  have lz := trimZ_len a.po
  have zz : (portA a).length ≤ (trimZ a.po).length := by unfold portA; split <;> simp
  have syn : synA (normA a) = true := by
    unfold synA normA
    simp only [Bool.and_eq_true, Bool.or_eq_true, beq_iff_eq, decide_eq_true_eq]
    refine ⟨⟨⟨⟨⟨⟨?_, by rw [host_low]; exact s2⟩, ?_⟩, .inr (by rw [eN, u5]; rfl)⟩, by rw [eN]; exact u1⟩, norm_rowR _ s6⟩, rfl⟩
    · unfold schOk at s1 ⊢
      rw [lowL_idem]; exact s1
    · unfold portA
      split
      · exact .inl rfl
      · rcases s3 with s3 | s3
        · left; rw [s3]; rfl
        · exact .inr (trimZ_port s3)
  have hq : ¬ ((normA a).qu ≠ [] ∧ (normA a).hq = false ∨ (normA a).fr ≠ [] ∧ (normA a).hf = false) := by
    rintro (x | x)
    · refine h2 (.inl ⟨fun e => x.1 ?_, x.2⟩)
      show normL a.qu = []
      rw [e]; rfl
    · exact x.1 rfl
  unfold checkAdrL
  rw [if_neg (by rw [syn]; simp), if_neg hq, if_neg]
  have w1 : (wrL (normA a)).length ≤ (wrL a).length := by
    unfold wrL behL normA
    simp only [List.length_append, lowL_len, eN]
    have q : (if a.hq = true then 63 :: normL a.qu else []).length ≤ (if a.hq = true then 63 :: a.qu else []).length := by split <;> simp <;> omega
    have p : (if portA a = [] then [] else 58 :: portA a).length ≤ (if a.po = [] then [] else 58 :: a.po).length := by
      by_cases e : a.po = []
      · have : portA a = [] := List.length_eq_zero_iff.1 (by have h0 : (trimZ a.po).length = 0 := (by rw [e]; rfl); omega)
        rw [if_pos this]; simp
      · rw [if_neg e]
        split
        · simp
        · simp only [List.length_cons] at zz lz ⊢; omega
    simp only [Bool.false_eq_true, if_false, List.length_nil]
    omega
  omega
/-- what the program makes of it -/
theorem path_same {a : Adr} (h : checkAdrL a = 0) (n : Adr) (hn : n = if checkAdrL (normA a) = 0 then normA a else ⟨[], [], [], [47], normL a.qu, a.hq, [], false⟩) : n.pa ++ (if n.hq = true then 63 :: n.qu else []) = pathL a := by
  rcases norm_right h with e | ⟨e1, e2⟩
  · rw [hn, if_pos e]; rfl
  · rw [hn, if_neg e2]
    show [47] ++ _ = npL a ++ _
    have : npL a = [47] := by unfold npL; rw [e1]; rfl
    rw [this]

def ckAtoi : Ck
  | [.str s] => some (1 ≤ s.length ∧ s.length ≤ 18 ∧ s.all isDg = true, .tup [.int .i64 (natOf s), .any])
  | _ => none
theorem conAtoi : Con pg 74 ckAtoi := by
  intro args q r h hq
  unfold ckAtoi at h
  split at h
  · cases h
    rename_i s
    refine pcall_shelf (by kernel_rfl) rfl fun w hw => (Tryz.strconv_Atoi ⟨s.toArray⟩ (natOf s) (by show s.toArray.size ≤ _; have := hq.2.1; simp; omega) ?_ w).mono fun e w' h => ?_
    · exact atoi_dig (show s ≠ [] from fun e => by have := hq.1; rw [e] at this; simp at this) hq.2.2
    · obtain ⟨he, t, rfl⟩ := h
      exact ⟨_, he, grow_below (Lib.bytesWorld_below _ _ _), fun γ imm => .tup _ [_, _] rfl fun i hi => by
        match i, hi with
        | 0, _ => exact .pure (.int _ _)
        | 1, _ => exact .any _⟩
  · cases h
attribute [push_cast] ckAtoi

/- slices of strings, as the library's functions are handed them -/
theorem inv_strs {S : Sv} {L : List (List UInt8)} {v : Value} (h : S.rep (.sl L.length (lsF cStr L)) v) :
    ∃ a c, v = .slice a L.length c ∧ L.length ≤ c ∧ (L.length = 0 ∨ ∃ b o, a = some ⟨b, o, none⟩ ∧ ∀ i, i < L.length → S.w.cell? ⟨b, o + i, none⟩ = some (.string ⟨(L.getD i []).toArray⟩)) := by
  have h' := inv_sl h
  generalize hn : L.length = n at h'
  cases h' with
  | sl0 f a c => exact ⟨a, c, rfl, Nat.zero_le _, .inl rfl⟩
  | sl n f B off c sz u hb hc hz hf hcell hone hrep =>
    refine ⟨_, c, rfl, hc, ?_⟩
    by_cases h0 : n = 0
    · exact .inl h0
    refine .inr ⟨B, off, rfl, fun i hi => ?_⟩
    have hsz : sz = 1 := by have := hf i hi; exact this.symm
    subst hsz
    have h1 := hcell i 0 hi (by omega)
    have h2 := hrep i 0 hi (by omega)
    have h3 : u i 0 = .string ⟨(L.getD i []).toArray⟩ := by
      have h4 : S.rep (.str (L.getD i [])) (u i 0) := .pure h2
      exact inv_str h4
    rw [h3, Nat.mul_one, Nat.add_zero] at h1
    exact h1
def ckJoin : Ck
  | [.sl n f, .str c] => some (isLs cStr n f ∧ n ≤ 140737488355328 ∧ (Lib.join (lsOf cStr n f) c).length ≤ 140737488355328, .str (Lib.join (lsOf cStr n f) c))
  | _ => none
theorem conJoin : Con pg 104 ckJoin := by
  intro args q r h hq
  unfold ckJoin at h
  split at h
  · cases h
    rename_i n f c
    obtain ⟨h1, h2, h3⟩ := hq
    refine pcall_args (args' := [.sl (lsOf cStr n f).length (lsF cStr (lsOf cStr n f)), .str c]) ⟨isLs.vle h1, VLe.refl _, trivial⟩ ?_
    have hL : (lsOf cStr n f).length ≤ 140737488355328 := by rw [lsOf_len]; exact h2
    generalize lsOf cStr n f = L at h3 hL ⊢
    refine pcall_rep (by kernel_rfl) fun S vals hok hl hr => ?_
    obtain ⟨v0, v1, rfl⟩ := vals2 hl
    have r0 : S.rep (.sl L.length (lsF cStr L)) v0 := hr 0 (by simp)
    have r1 : S.rep (.str c) v1 := hr 1 (by simp)
    obtain rfl := inv_str r1
    obtain ⟨a, cap, rfl, hc, hcase⟩ := inv_strs r0
    have hmap : (L.map fun x => (⟨x.toArray⟩ : ByteArray)).map (·.data.toList) = L := by
      rw [List.map_map]
      conv => rhs; rw [← List.map_id L]
      congr 1
    rcases hcase with h0 | ⟨b, o, rfl, hcell⟩
    · have hL0 : L = [] := List.length_eq_zero_iff.1 h0
      subst hL0
      exact (Tryz.strings_Join_none a cap ⟨c.toArray⟩ S.w).mono fun e w' h => ⟨_, h.1, by rw [h.2]; exact ⟨rfl, rfl, rfl, Nat.le_refl _, fun _ _ => rfl⟩, fun γ imm _ _ => .pure (.str [])⟩
    · by_cases h0 : L.length = 0
      · have hL0 : L = [] := List.length_eq_zero_iff.1 h0
        subst hL0
        exact (Tryz.strings_Join_none _ cap ⟨c.toArray⟩ S.w).mono fun e w' h => ⟨_, h.1, by rw [h.2]; exact ⟨rfl, rfl, rfl, Nat.le_refl _, fun _ _ => rfl⟩, fun γ imm _ _ => .pure (.str [])⟩
      have hb : b < S.w.heap.size := by
        have := hcell 0 (by omega)
        refine Classical.byContradiction fun hn => ?_
        have h5 : S.w.heap[b]? = none := Array.getElem?_eq_none (by omega)
        simp [World.cell?, h5] at this
      have := Tryz.strings_Join b o cap (L.map fun x => (⟨x.toArray⟩ : ByteArray)) ⟨c.toArray⟩ S.w (fun j x hx => by
        rw [List.getElem?_map] at hx
        obtain ⟨y, hy, rfl⟩ := Option.map_eq_some_iff.1 hx
        have hj := (List.getElem?_eq_some_iff.1 hy).1
        have := hcell j hj
        rw [List.getD_eq_getElem?_getD, hy] at this
        exact this) hb (by rw [List.length_map]; exact hL) (by rw [List.length_map]; exact hc) (by rw [hmap]; simpa using h3)
      rw [hmap, List.length_map] at this
      refine this.mono fun e w' h => ⟨_, h.1, grow_below h.2, fun γ imm _ _ => ?_⟩
      show RepV γ imm w' _ (.string ⟨(Lib.join L (c.toArray.toList)).toArray⟩)
      rw [show c.toArray.toList = c by simp]
      exact .pure (.str _)
  · cases h
attribute [push_cast] ckJoin
theorem join_sl : ∀ {L : List (List UInt8)}, L ≠ [] → 47 :: Lib.join L [47] = joinSl L
  | [a], _ => by simp [Lib.join, joinSl, List.intercalate]
  | a :: b :: r, _ => by
    have ih := join_sl (L := b :: r) (by simp)
    have e : Lib.join (a :: b :: r) [47] = a ++ (47 :: Lib.join (b :: r) [47]) := by
      simp [Lib.join, List.intercalate, List.intersperse]
    rw [e, ih]
    simp [joinSl]
def ckTrimLeft : Ck
  | [.str s, .str c] => some (c.length < 4294967281 ∧ asciiC c = true, .str (Lib.trimLeftS s c))
  | _ => none
theorem conTrimLeft : Con pg 98 ckTrimLeft := by
  intro args q r h hq
  unfold ckTrimLeft at h
  split at h
  · cases h
    rename_i s c
    refine pcall_shelf (by kernel_rfl) rfl fun w hw => (Tryz.strings_TrimLeftL ⟨s.toArray⟩ ⟨c.toArray⟩ w ?_ ?_).mono fun e w' h => ?_
    · show c.toArray.size < _
      have := hq.1
      simp; omega
    · exact asciiC_at hq.2
    · exact shelf_str h.1 (grow_below h.2)
  · cases h
attribute [push_cast] ckTrimLeft
theorem trimLeft_z (s : List UInt8) : Lib.trimLeftS s [48] = trimZ s := by
  unfold Lib.trimLeftS trimZ
  congr 1
  funext c
  rw [Bool.eq_iff_iff]
  simp

/- the parts of a string, as an own row -/
def ckSplitN : List V → Option (Prop × V × Blk)
  | [.str s, .str [c]] => some (s.length < 4294967281, .vec 8999 (splitL s c).length, .vec 1 (splitL s c).length (lsF cStr (splitL s c)))
  | _ => none
theorem hOf_none (i : Nat) : killH i (hOf []) = hOf [] := by
  funext j
  unfold killH
  split <;> rfl
theorem conSplitN : NCon pg 91 ckSplitN := by
  intro args q r nb h hq
  unfold ckSplitN at h
  split at h
  · rename_i s c
    cases h
    intro S vals hs hh hl hr
    match vals, hl with
    | [u, v], _ =>
      have e0 : S.rep (.str s) u := hr 0 (by simp)
      have e1 : S.rep (.str [c]) v := hr 1 (by simp)
      obtain rfl := inv_str e0
      obtain rfl := inv_str e1
      refine .inl ⟨by kernel_rfl, ?_⟩
      obtain ⟨m, hm⟩ := maxLen hs.tab.1
      refine (Tryz.strings_Split ⟨s.toArray⟩ ⟨#[c]⟩ m S.w (by show s.toArray.size < _; simpa using hq) hm (Nat.le_refl 1)).mono fun e w' h => ?_
      have hl : (splitL s c).length = Lib.countB ⟨s.toArray⟩ ⟨#[c]⟩ + 1 := by
        unfold splitL
        rw [List.length_map]
        exact Lib.splitB_all ⟨#[c]⟩ (Nat.le_refl 1) 0 _ _ rfl
      obtain ⟨he, hw⟩ := h
      rw [← hl] at he
      have hkb : (Blk.vec 1 (splitL s c).length (lsF cStr (splitL s c))).kill 8999 = Blk.vec 1 (splitL s c).length (lsF cStr (splitL s c)) := rfl
      have hlen : (Lib.splitB ⟨#[c]⟩ 0 (Lib.countB ⟨s.toArray⟩ ⟨#[c]⟩) ⟨s.toArray⟩).length = (splitL s c).length := by
        unfold splitL
        rw [List.length_map]
      have hel : ∀ i, i < (splitL s c).length → ((Lib.splitB ⟨#[c]⟩ 0 (Lib.countB ⟨s.toArray⟩ ⟨#[c]⟩) ⟨s.toArray⟩).map Value.string).toArray.getD i undef = .string ⟨((splitL s c).getD i []).toArray⟩ := fun i hi => by
        unfold splitL at hi ⊢
        rw [List.length_map] at hi
        simp [List.getD_eq_getElem?_getD, List.getElem?_eq_getElem hi, hi]
      have hp : Pushed S.w w' (.cells ((Lib.splitB ⟨#[c]⟩ 0 (Lib.countB ⟨s.toArray⟩ ⟨#[c]⟩) ⟨s.toArray⟩).map Value.string).toArray 9 (0, 0)) := by
        subst hw
        exact Pushed.mk' _ _
      obtain ⟨m1, m2, m3⟩ := new_vec (d := 8999) hs (sz := 1) (n := (splitL s c).length) (cap := (splitL s c).length) (f := lsF cStr (splitL s c)) hp (by decide) (Nat.le_refl _) (by simp [hlen]) (.inl rfl) (fun i hi => rfl) (fun i j hi hj => by
        obtain rfl : j = 0 := by omega
        rw [Nat.mul_one, Nat.add_zero, hel i hi]
        exact .pure (.str _)) (fun i j hi hj => by
        obtain rfl : j = 0 := by omega
        rw [Nat.mul_one, Nat.add_zero, hel i hi]; rfl)
      refine ⟨_, _, S.imm, he, ?_, ?_, m3⟩
      · have := m1; rw [hh, hOf_none, hkb] at this; exact this
      · have := m2; rw [hh, hOf_none, hkb] at this; exact this
  · cases h
attribute [push_cast] ckSplitN
/-- i steps of turning a row about -/
def revI (D : List (List UInt8)) : Nat → List (List UInt8)
  | 0 => D
  | i + 1 => ((revI D i).set i ((revI D i).getD (D.length - 1 - i) [])).set (D.length - 1 - i) ((revI D i).getD i [])
theorem revI_len (D : List (List UInt8)) : ∀ i, (revI D i).length = D.length
  | 0 => rfl
  | i + 1 => by rw [revI, List.length_set, List.length_set, revI_len D i]
theorem getD_set2 {α : Type} (l : List α) (i : Nat) (x d : α) (k : Nat) : (l.set i x).getD k d = if k = i ∧ i < l.length then x else l.getD k d := by
  rw [List.getD_eq_getElem?_getD, List.getElem?_set]
  by_cases h : i = k
  · subst h
    by_cases h2 : i < l.length
    · simp [h2]
    · simp [h2, List.getD_eq_getElem?_getD]
  · rw [if_neg h, if_neg (fun e => h e.1.symm), List.getD_eq_getElem?_getD]
theorem revI_at (D : List (List UInt8)) : ∀ {i : Nat}, 2 * i ≤ D.length → ∀ k, k < D.length → (revI D i).getD k [] = if k < i ∨ D.length - 1 - k < i then D.getD (D.length - 1 - k) [] else D.getD k []
  | 0, _, k, hk => by rw [if_neg (by omega)]; rfl
  | i + 1, h, k, hk => by
    have hl := revI_len D i
    have ih := revI_at D (i := i) (by omega)
    have e1 := ih i (by omega)
    rw [if_neg (by omega)] at e1
    have e2 := ih (D.length - 1 - i) (by omega)
    rw [if_neg (by omega)] at e2
    rw [revI, getD_set2, List.length_set, getD_set2, e1, e2, ih k hk]
    by_cases c1 : k = D.length - 1 - i
    · rw [if_pos ⟨c1, by omega⟩, if_pos (by omega), c1, show D.length - 1 - (D.length - 1 - i) = i by omega]
    · rw [if_neg (fun x => c1 x.1)]
      by_cases c2 : k = i
      · rw [if_pos ⟨c2, by omega⟩, if_pos (by omega), c2]
      · rw [if_neg (fun x => c2 x.1)]
        by_cases c3 : k < i ∨ D.length - 1 - k < i
        · rw [if_pos c3, if_pos (by omega)]
        · rw [if_neg c3, if_neg (by omega)]
theorem revI_end {D : List (List UInt8)} {i : Nat} (h : 2 * i ≤ D.length) (h2 : D.length ≤ 2 * i + 1) : revI D i = D.reverse := by
  apply List.ext_getElem
  · rw [revI_len, List.length_reverse]
  · intro k h3 h4
    rw [revI_len] at h3
    have := revI_at D h k h3
    rw [List.getD_eq_getElem?_getD, List.getElem?_eq_getElem (by rw [revI_len]; exact h3), Option.getD_some] at this
    rw [this, List.getElem_reverse]
    by_cases c : k < i ∨ D.length - 1 - k < i
    · rw [if_pos c, List.getD_eq_getElem?_getD, List.getElem?_eq_getElem (by omega)]; rfl
    · rw [if_neg c]
      have e : D.length - 1 - k = k := by omega
      simp only [e]
      rw [List.getD_eq_getElem?_getD, List.getElem?_eq_getElem h3]; rfl
def ckRevSK : List V → List Blk → Option (Prop × V × List Blk)
  | [.vec _ n], [.vec 1 k g] => some (k = n ∧ isLs cStr n g ∧ n ≤ 1000000, .tup [], [.vec 1 n (lsF cStr (lsOf cStr n g).reverse)])
  | _, _ => none
def ckRevS : Cf := ⟨fun | .vec i _ :: _ => [i] | _ => [], ckRevSK⟩
theorem men_str (ids : Nat → Bool) (D : List (List UInt8)) (j : Nat) : V.menInL ids (lsF cStr D j).flat = true := rfl
theorem conRevS : FCon pg 103 ckRevS := by
  have hct := ctN_ok pg
  intro args bs q r bs' h hq
  replace h : ckRevSK args bs = some (q, r, bs') := h
  unfold ckRevSK at h
  split at h
  · cases h
    rename_i i n k g
    refine ⟨rfl, by first | exact Nat.le_refl _ | exact Nat.zero_le _, ?_⟩
    obtain ⟨rfl, hf, hn⟩ := hq
    have hk : k = (lsOf cStr k g).length := (lsOf_len k g).symm
    refine fcall_blk (hm := [(i + 9000, .vec 1 (lsOf cStr k g).length (lsF cStr (lsOf cStr k g)))]) ⟨rfl, ⟨rfl, hk, fun j hj => by show V.shift (g j) = _; rw [hf.2 j hj]; rfl⟩, trivial⟩ ?_
    have hlen : (lsOf cStr k g).length = k := lsOf_len k g
    generalize lsOf cStr k g = D at hlen ⊢
    subst hlen
    show FCall pg 103 [.vec (i + 9000) D.length] [(i + 9000, .vec 1 D.length (lsF cStr D))] (.tup []) [(i + 9000, .vec 1 D.length (lsF cStr D.reverse))]
    refine fw103 (fun _ => false) [] rfl hct rfl (by simp) ?_ rfl ?_
    · simp [hlIn, Blk.menIn, men_str, idsIn]
    push_cast (config := { maxSteps := 10000000 })
    (repeat (refine ⟨by omega, ?_⟩))
    refine LoopW.adj ⟨hct, fol⟩ (by kernel_rfl) [] (fun t : Nat => [(0, .vec (i + 9000) D.length), (2, .int .i64 t), (3, .int .i64 ((D.length : Int) - 1 - t))]) (fun t => [(i + 9000, .vec 1 D.length (lsF cStr (revI D t)))]) (fun t => 2 * t ≤ D.length) (fun t => D.length - t) 0 ?_ fun t ht => ?_
    · push_cast (config := { maxSteps := 10000000 })
      exact ⟨Nat.zero_le _, by omega, fun _ _ => rfl⟩
    · have ht : 2 * t ≤ D.length := ht
      push_cast (config := { maxSteps := 10000000 })
      rw [show ((D.length : Int) - 1 - t).toNat = D.length - 1 - t by omega]
      refine ⟨fun h => ?_, fun h => by rw [revI_end ht (by omega)]; exact fun _ _ => rfl⟩
      have hs : ∀ (E : List (List UInt8)) (a : Nat) (x : List UInt8) (i : Nat), setF (lsF cStr E) a (.str x) i = .str (if i = a then x else E.getD i []) := fun E a x i => by
        unfold setF
        by_cases e : i = a
        · rw [decide_eq_true e, if_pos e]; rfl
        · rw [decide_eq_false e, if_neg e]; rfl
      refine ⟨⟨by omega, by omega⟩, by omega, by omega, by omega, by omega, by omega, ⟨by omega, by omega⟩, by omega, ⟨by omega, by omega⟩, ⟨by omega, by omega⟩, t + 1, by omega, by omega, ⟨by omega, by omega⟩, fun k hk => ?_⟩
      rw [hs]
      have hl := revI_len D t
      rw [revI, getD_set2, List.length_set, getD_set2]
      show setF _ (D.length - 1 - t) (V.str _) k = _
      unfold setF
      by_cases e1 : k = D.length - 1 - t
      · rw [decide_eq_true e1, if_pos ⟨e1, by omega⟩]; rfl
      · rw [decide_eq_false e1, if_neg (fun x => e1 x.1), cond_false]
        by_cases e2 : k = t
        · rw [decide_eq_true e2, if_pos ⟨e2, by omega⟩]; rfl
        · rw [decide_eq_false e2, if_neg (fun x => e2 x.1)]; rfl
  · cases h
attribute [push_cast] ckRevSK
@[push_cast] theorem revS_ids (i n : Nat) (l : List V) : ckRevS.ids (.vec i n :: l) = [i] := rfl
@[push_cast] theorem revS_k (i n k : Nat) (g : Nat → V) : ckRevS.k [.vec i n] [.vec 1 k g] = some (k = n ∧ isLs cStr n g ∧ n ≤ 1000000, .tup [], [.vec 1 n (lsF cStr (lsOf cStr n g).reverse)]) := rfl

end Go.Abs
