/- what functions of this program compute: contracts, each a function's own -/
import Derived.Test.YtkpecjbbmadlcaaGreatDoorAbsK3
import Derived.Test.YtkpecjbbmadlcaaGreatDoorAbsFacts
import Derived.Test.YtkpecjbbmadlcaaGreatDoorAbsF1
import Derived.Test.YtkpecjbbmadlcaaGreatDoorAbsShelf
import Derived.Lib.SplitLaws
import Derived.Lib.SlTrimSet
import Derived.Lib.Atoi
import Derived.Lib.Itoa
import Derived.Lib.ItoaNum
import Derived.Lib.Replace
import Derived.Lib.ReplaceLaws
import Derived.Lib.AtoiErrMem
import Derived.Lib.Join
namespace Go.Abs
open Go Go.Proofs
set_option maxHeartbeats 4000000
set_option maxRecDepth 100000
set_option linter.unusedVariables false
set_option linter.unusedSimpArgs false
/- an address -/
structure Adr where
  sc : List UInt8
  ho : List UInt8
  po : List UInt8
  pa : List UInt8
  qu : List UInt8
  hq : Bool
  fr : List UInt8
  hf : Bool
deriving DecidableEq
def noAdr : Adr := ⟨[], [], [], [], [], false, [], false⟩
def decAdr : V → Adr
  | .agg [.str sc, .str ho, .str po, .str pa, .str qu, .bool hq, .str fr, .bool hf] => ⟨sc, ho, po, pa, qu, hq, fr, hf⟩
  | _ => noAdr
def cAdr : Cod Adr := ⟨fun a => .agg [.str a.sc, .str a.ho, .str a.po, .str a.pa, .str a.qu, .bool a.hq, .str a.fr, .bool a.hf], decAdr, noAdr, fun _ => rfl⟩
@[push_cast] theorem enc_adr (a : Adr) : cAdr.enc a = .agg [.str a.sc, .str a.ho, .str a.po, .str a.pa, .str a.qu, .bool a.hq, .str a.fr, .bool a.hf] := rfl
@[push_cast] theorem dec_adr (sc ho po pa qu fr : List UInt8) (hq hf : Bool) : cAdr.dec (.agg [.str sc, .str ho, .str po, .str pa, .str qu, .bool hq, .str fr, .bool hf]) = ⟨sc, ho, po, pa, qu, hq, fr, hf⟩ := rfl
/- how far bytes of a kind go -/
def runN (p : UInt8 → Bool) (s : List UInt8) : Nat := (s.takeWhile p).length
theorem runN_le (p : UInt8 → Bool) (s : List UInt8) : runN p s ≤ s.length := by
  induction s with
  | nil => simp [runN]
  | cons c t ih =>
    unfold runN at *
    rw [List.takeWhile_cons]
    split <;> simp at *; omega
theorem runN_in {p : UInt8 → Bool} : ∀ {s : List UInt8} {j : Nat}, j < runN p s → p (s.getD j 0) = true
  | [], j, h => by simp [runN] at h
  | c :: t, j, h => by
    unfold runN at h
    rw [List.takeWhile_cons] at h
    split at h
    · rename_i hc
      cases j with
      | zero => simpa using hc
      | succ j =>
        rw [List.getD_cons_succ]
        exact runN_in (by simpa [runN] using h)
    · simp at h
theorem runN_at {p : UInt8 → Bool} : ∀ {s : List UInt8} {n : Nat}, n ≤ s.length → (∀ j, j < n → p (s.getD j 0) = true) → (n < s.length → p (s.getD n 0) = false) → runN p s = n
  | [], n, h, _, _ => by simp at h; subst h; rfl
  | c :: t, 0, h, _, h2 => by
    have := h2 (by simp)
    unfold runN
    rw [List.takeWhile_cons, if_neg (by simpa using this)]; rfl
  | c :: t, n + 1, h, h1, h2 => by
    have h0 := h1 0 (by omega)
    unfold runN
    rw [List.takeWhile_cons, if_pos (by simpa using h0), List.length_cons]
    congr 1
    exact runN_at (by simpa using h) (fun j hj => by have := h1 (j + 1) (by omega); simpa using this) (fun hn => by have := h2 (by simpa using hn); simpa using this)
theorem runN_out {p : UInt8 → Bool} : ∀ {s : List UInt8}, runN p s < s.length → p (s.getD (runN p s) 0) = false
  | [], h => by simp [runN] at h
  | c :: t, h => by
    unfold runN at h ⊢
    rw [List.takeWhile_cons] at h ⊢
    split at h
    · rename_i hc
      rw [if_pos hc, List.length_cons, List.getD_cons_succ]
      exact runN_out (by simpa [runN] using h)
    · rename_i hc
      rw [if_neg hc]
      simpa using hc
/- the beginning of a text, in small letters -/
def mt : List UInt8 → List UInt8 → Nat
  | c :: s, d :: w => if lowB c = d then mt s w + 1 else 0
  | _, _ => 0
theorem mt_le : ∀ (s w : List UInt8), mt s w ≤ s.length ∧ mt s w ≤ w.length
  | [], w => by simp [mt]
  | c :: s, [] => by simp [mt]
  | c :: s, d :: w => by
    have := mt_le s w
    rw [mt]
    split
    · simp only [List.length_cons]; omega
    · simp
theorem mt_at : ∀ {s w : List UInt8} {n : Nat}, n ≤ s.length → n ≤ w.length → (∀ j, j < n → lowB (s.getD j 0) = w.getD j 0) → (n < s.length → n < w.length → ¬ lowB (s.getD n 0) = w.getD n 0) → mt s w = n
  | [], w, n, h, _, _, _ => by simp at h; subst h; rfl
  | c :: s, [], n, _, h, _, _ => by simp at h; subst h; rfl
  | c :: s, d :: w, 0, _, _, _, h => by
    have := h (by simp) (by simp)
    rw [mt, if_neg (by simpa using this)]
  | c :: s, d :: w, n + 1, h1, h2, h3, h4 => by
    have h0 := h3 0 (by omega)
    rw [mt, if_pos (by simpa using h0)]
    congr 1
    exact mt_at (by simpa using h1) (by simpa using h2) (fun j hj => by have := h3 (j + 1) (by omega); simpa using this) (fun a b => by have := h4 (by simpa using a) (by simpa using b); simpa using this)
theorem mt_app : ∀ (s w v : List UInt8), mt s (w ++ v) = if mt s w = w.length then w.length + mt (s.drop w.length) v else mt s w
  | s, [], v => by
    cases s <;> simp [mt]
  | [], d :: w, v => by simp [mt]
  | c :: s, d :: w, v => by
    rw [List.cons_append, mt, mt]
    by_cases h : lowB c = d
    · rw [if_pos h, if_pos h, mt_app s w v]
      simp only [List.length_cons, List.drop_succ_cons]
      by_cases h2 : mt s w = w.length
      · rw [if_pos h2, if_pos (by omega)]; omega
      · rw [if_neg h2, if_neg (by omega)]
    · rw [if_neg h, if_neg h, if_neg (by simp)]
def wHttp : List UInt8 := [104, 116, 116, 112]
def wHttps : List UInt8 := [104, 116, 116, 112, 115]
def wSep : List UInt8 := [58, 47, 47]
/-- the scheme and what is behind it: how far; or the place of what is wrong -/
def schL (s : List UInt8) : Bool × Nat :=
  if mt s (wHttp ++ wSep) = 7 then (true, 7) else if mt s (wHttps ++ wSep) = 8 then (true, 8) else (false, max (mt s (wHttp ++ wSep)) (mt s (wHttps ++ wSep)))
def pasL (s w : List UInt8) (a : Nat) : Int := if mt (s.drop a) w = w.length then -1 else ((a + mt (s.drop a) w : Nat) : Int)
/-- the same, as the reference has it: the place of what is wrong or -1; the scheme's length -/
def sch2N (s : List UInt8) : Nat := if pasL s wHttp 0 < 0 ∧ 4 < s.length ∧ ((s.getD 4 0).toNat = 115 ∨ (s.getD 4 0).toNat = 83) then 5 else 4
def sch2K (s : List UInt8) : Int := if pasL s wHttp 0 < 0 then pasL s wSep (sch2N s) else pasL s wHttp 0
theorem low115 (c : UInt8) : lowB c = 115 ↔ (c.toNat = 115 ∨ c.toNat = 83) := by
  have key : ∀ n, n < 256 → (lowB (UInt8.ofNat n) = 115 ↔ ((UInt8.ofNat n).toNat = 115 ∨ (UInt8.ofNat n).toNat = 83)) := by decide +kernel
  have := key c.toNat (UInt8.toNat_lt c)
  simpa using this
theorem dropD (s : List UInt8) (a : Nat) (h : a < s.length) : s.drop a = s.getD a 0 :: s.drop (a + 1) := dropG (d := 0) h
theorem sch_same (s : List UInt8) : (0 ≤ sch2K s → schL s = (false, (sch2K s).toNat)) ∧ (sch2K s < 0 → schL s = (true, sch2N s + 3)) := by
  have e1 : mt s (wHttp ++ wSep) = if mt s wHttp = 4 then 4 + mt (s.drop 4) wSep else mt s wHttp := mt_app s wHttp wSep
  have e2 : mt s (wHttps ++ wSep) = if mt s wHttp = 4 then 4 + mt (s.drop 4) (115 :: wSep) else mt s wHttp := mt_app s wHttp (115 :: wSep)
  have hl := mt_le s wHttp
  have hl2 : mt s wHttp ≤ 4 := hl.2
  have hp : pasL s wHttp 0 = if mt s wHttp = 4 then -1 else (mt s wHttp : Int) := by
    unfold pasL; rw [List.drop_zero, Nat.zero_add]; rfl
  by_cases h : mt s wHttp = 4
  · have hp' : pasL s wHttp 0 = -1 := by rw [hp, if_pos h]
    rw [if_pos h] at e1 e2
    have hs3 := (mt_le (s.drop 4) wSep).2
    have hs3 : mt (s.drop 4) wSep ≤ 3 := hs3
    by_cases h4 : 4 < s.length ∧ ((s.getD 4 0).toNat = 115 ∨ (s.getD 4 0).toNat = 83)
    · have hN : sch2N s = 5 := by unfold sch2N; rw [if_pos ⟨by rw [hp']; omega, h4⟩]
      have ed := dropD s 4 h4.1
      have hlo := (low115 _).2 h4.2
      have z1 : mt (s.drop 4) wSep = 0 := by
        rw [ed]
        show (if lowB (s.getD 4 0) = 58 then _ else 0) = 0
        rw [if_neg (by rw [hlo]; decide)]
      have z2 : mt (s.drop 4) (115 :: wSep) = mt (s.drop 5) wSep + 1 := by rw [ed, mt, if_pos hlo]
      have h53 : mt (s.drop 5) wSep ≤ 3 := (mt_le (s.drop 5) wSep).2
      rw [z1] at e1
      rw [z2] at e2
      have hK : sch2K s = if mt (s.drop 5) wSep = 3 then -1 else ((5 + mt (s.drop 5) wSep : Nat) : Int) := by
        unfold sch2K; rw [hp', if_pos (by omega), hN]; rfl
      unfold schL
      rw [e1, e2, hK, hN, if_neg (show ¬ (4 + 0 = 7) by omega)]
      by_cases h5 : mt (s.drop 5) wSep = 3
      · rw [if_pos h5]
        exact ⟨fun x => by omega, fun _ => by rw [if_pos (by omega)]⟩
      · rw [if_neg h5]
        exact ⟨fun _ => by rw [if_neg (by omega)]; congr 1; omega, fun x => by omega⟩
    · have hN : sch2N s = 4 := by unfold sch2N; rw [if_neg (fun x => h4 x.2)]
      have z2 : mt (s.drop 4) (115 :: wSep) = 0 := by
        by_cases h5 : 4 < s.length
        · rw [dropD s 4 h5, mt, if_neg (fun x => h4 ⟨h5, (low115 _).1 x⟩)]
        · rw [List.drop_eq_nil_of_le (by omega)]; rfl
      rw [z2] at e2
      have hK : sch2K s = if mt (s.drop 4) wSep = 3 then -1 else ((4 + mt (s.drop 4) wSep : Nat) : Int) := by
        unfold sch2K; rw [hp', if_pos (by omega), hN]; rfl
      unfold schL
      rw [e1, e2, hK, hN]
      by_cases h5 : mt (s.drop 4) wSep = 3
      · rw [if_pos h5]
        exact ⟨fun x => by omega, fun _ => by rw [if_pos (by omega)]⟩
      · rw [if_neg h5]
        exact ⟨fun _ => by rw [if_neg (by omega), if_neg (by omega)]; congr 1; omega, fun x => by omega⟩
  · have hp' : pasL s wHttp 0 = (mt s wHttp : Int) := by rw [hp, if_neg h]
    rw [if_neg h] at e1 e2
    have hK : sch2K s = (mt s wHttp : Int) := by unfold sch2K; rw [hp', if_neg (by omega)]
    unfold schL
    rw [e1, e2, hK, if_neg (show ¬ mt s wHttp = 7 by omega), if_neg (show ¬ mt s wHttp = 8 by omega)]
    exact ⟨fun _ => by congr 1; omega, fun x => by omega⟩
theorem sch_b (s : List UInt8) : (schL s).2 ≤ s.length := by
  have h1 := mt_le s (wHttp ++ wSep)
  have h2 := mt_le s (wHttps ++ wSep)
  unfold schL
  split
  · show 7 ≤ _; omega
  · split
    · show 8 ≤ _; omega
    · show max _ _ ≤ _; omega
/- host and port -/
def hostB (c : UInt8) : Bool := isLet (c.toNat : Int) || isDig (c.toNat : Int) || decide (c.toNat = 45) || decide (c.toNat = 46)
def digB (c : UInt8) : Bool := isDig (c.toNat : Int)
def portV (s : List UInt8) : Int := s.foldl (fun n c => 10 * n + ((c.toNat : Int) - 48)) 0
/-- the number of a port, or 0 -/
def portN (s : List UInt8) : Int := if 1 ≤ s.length ∧ s.length ≤ 5 ∧ s.all digB = true ∧ portV s ≤ 65535 then portV s else 0
def isAt (s : List UInt8) (a : Nat) (c : Nat) : Bool := decide (a < s.length) && decide ((s.getD a 0).toNat = c)
def cutS (s : List UInt8) (a n : Nat) : List UInt8 := (s.drop a).take n
def hoN (s : List UInt8) (a : Nat) : Nat := runN hostB (s.drop a)
def poN (s : List UInt8) (a : Nat) : Nat := runN digB (s.drop a)
def endB (s : List UInt8) (b : Nat) : Bool := decide (b = s.length) || decide (0 ≤ Lib.indexByte [47, 63, 35] (s.getD b 0))
structure Plc where
  ok : Bool
  at' : Nat
  ho : List UInt8
  po : List UInt8
def plcL (s : List UInt8) (a : Nat) : Plc :=
  if hostL (cutS s a (hoN s a)) = false then ⟨false, a, cutS s a (hoN s a), []⟩
  else if isAt s (a + hoN s a) 58 = true then
    (if portN (cutS s (a + hoN s a + 1) (poN s (a + hoN s a + 1))) = 0 then ⟨false, a + hoN s a + 1, cutS s a (hoN s a), cutS s (a + hoN s a + 1) (poN s (a + hoN s a + 1))⟩
     else ⟨endB s (a + hoN s a + 1 + poN s (a + hoN s a + 1)), a + hoN s a + 1 + poN s (a + hoN s a + 1), cutS s a (hoN s a), cutS s (a + hoN s a + 1) (poN s (a + hoN s a + 1))⟩)
  else ⟨endB s (a + hoN s a), a + hoN s a, cutS s a (hoN s a), []⟩
theorem cutS_len {s : List UInt8} {a n : Nat} (h : a + n ≤ s.length) : (cutS s a n).length = n := by
  unfold cutS; rw [List.length_take, List.length_drop]; omega
theorem hoN_le {s : List UInt8} {a : Nat} (h : a ≤ s.length) : a + hoN s a ≤ s.length := by
  have := runN_le hostB (s.drop a)
  rw [List.length_drop] at this
  unfold hoN; omega
theorem poN_le {s : List UInt8} {a : Nat} (h : a ≤ s.length) : a + poN s a ≤ s.length := by
  have := runN_le digB (s.drop a)
  rw [List.length_drop] at this
  unfold poN; omega
theorem isAt_lt {s : List UInt8} {a c : Nat} (h : isAt s a c = true) : a < s.length := by
  unfold isAt at h
  rw [Bool.and_eq_true, decide_eq_true_eq] at h
  exact h.1
theorem plc_b {s : List UInt8} {a : Nat} (h : a ≤ s.length) : (plcL s a).at' ≤ s.length := by
  have h1 := hoN_le h
  unfold plcL
  split
  · exact h
  · split
    · rename_i hc
      have hc := isAt_lt hc
      have h2 := poN_le (s := s) (a := a + hoN s a + 1) (by omega)
      split
      · exact hc
      · exact h2
    · exact h1
/- rows -/
def rdRow (s : List UInt8) (a : Nat) (w : List UInt8) : Nat × Bool := reL (s.drop a) w ((s.drop a).length + 1) 0
structure Rst where
  ok : Bool
  at' : Nat
  pa : List UInt8
  qu : List UInt8
  hq : Bool
  fr : List UInt8
  hf : Bool
def rst3 (s : List UInt8) (d : Nat) (pa qu : List UInt8) (hq : Bool) : Rst :=
  if isAt s d 35 = true then ⟨(rdRow s (d + 1) []).2, d + 1 + (rdRow s (d + 1) []).1, pa, qu, hq, cutS s (d + 1) (rdRow s (d + 1) []).1, true⟩ else ⟨true, d, pa, qu, hq, [], false⟩
def rst2 (s : List UInt8) (c : Nat) (pa : List UInt8) : Rst :=
  if isAt s c 63 = true then (if (rdRow s (c + 1) [35]).2 = false then ⟨false, c + 1 + (rdRow s (c + 1) [35]).1, pa, cutS s (c + 1) (rdRow s (c + 1) [35]).1, true, [], false⟩ else rst3 s (c + 1 + (rdRow s (c + 1) [35]).1) pa (cutS s (c + 1) (rdRow s (c + 1) [35]).1) true)
  else rst3 s c pa [] false
def rstL (s : List UInt8) (b : Nat) : Rst :=
  if (rdRow s b [63, 35]).2 = false then ⟨false, b + (rdRow s b [63, 35]).1, cutS s b (rdRow s b [63, 35]).1, [], false, [], false⟩ else rst2 s (b + (rdRow s b [63, 35]).1) (cutS s b (rdRow s b [63, 35]).1)
/-- an address, read -/
def readA (s : List UInt8) : Adr × Int × Int :=
  if 2000 < s.length then (noAdr, 0, 2)
  else if (schL s).1 = false then (noAdr, (schL s).2, 10)
  else if (plcL s (schL s).2).ok = false then (noAdr, (plcL s (schL s).2).at', 10)
  else if (rstL s (plcL s (schL s).2).at').ok = false then (noAdr, (rstL s (plcL s (schL s).2).at').at', 10)
  else (⟨s.take ((schL s).2 - 3), (plcL s (schL s).2).ho, (plcL s (schL s).2).po, (rstL s (plcL s (schL s).2).at').pa, (rstL s (plcL s (schL s).2).at').qu, (rstL s (plcL s (schL s).2).at').hq, (rstL s (plcL s (schL s).2).at').fr, (rstL s (plcL s (schL s).2).at').hf⟩, 0, 0)
theorem reL_le (s w : List UInt8) : ∀ k i, i ≤ s.length → (reL s w k i).1 ≤ s.length
  | 0, i, h => Nat.le_refl _
  | k + 1, i, h => by
    rw [reL]
    split
    · exact Nat.le_refl _
    · split
      · exact h
      · split
        · exact h
        · split
          · split
            · rename_i hp
              simp only [pctB, Bool.and_eq_true, decide_eq_true_eq] at hp
              exact reL_le s w k _ (by omega)
            · exact h
          · exact reL_le s w k _ (by omega)
theorem rdRow_le {s : List UInt8} {a : Nat} {w : List UInt8} (h : a ≤ s.length) : a + (rdRow s a w).1 ≤ s.length := by
  have := reL_le (s.drop a) w ((s.drop a).length + 1) 0 (Nat.zero_le _)
  unfold rdRow
  rw [List.length_drop] at this ⊢
  omega
/- the reference's rows: up to a byte that ends them, and the first place that is none of a row -/
def cell0 (s : List UInt8) (j : Nat) : Bool := rowB (s.getD j 0) && (decide ((s.getD j 0).toNat ≠ 37) || pctB s j)
def rb0 (s : List UInt8) : Int := match (List.range s.length).find? (fun j => !cell0 s j) with
  | some j => (j : Int)
  | none => -1
theorem rb0_at {s : List UInt8} {i : Nat} (hi : i < s.length) (h : ∀ j, j < i → cell0 s j = true) (hc : cell0 s i = false) : rb0 s = i := by
  unfold rb0
  have : (List.range s.length).find? (fun j => !cell0 s j) = some i := by
    rw [List.find?_range_eq_some]
    exact ⟨by simpa using hc, List.mem_range.2 hi, fun j hj => by simpa using h j hj⟩
  rw [this]
theorem rb0_no {s : List UInt8} (h : ∀ j, j < s.length → cell0 s j = true) : rb0 s = -1 := by
  unfold rb0
  have : (List.range s.length).find? (fun j => !cell0 s j) = none := by
    rw [List.find?_eq_none]
    intro j hj
    rw [h j (List.mem_range.1 hj)]; simp
  rw [this]
theorem rb0_b (s : List UInt8) : -1 ≤ rb0 s ∧ rb0 s < s.length := by
  unfold rb0
  split
  · rename_i j h
    have := List.mem_range.1 (List.mem_of_find?_eq_some h)
    omega
  · omega
def stopB (w : List UInt8) (c : UInt8) : Bool := decide (Lib.indexByte w c < 0)
def utN (s : List UInt8) (a : Nat) (w : List UInt8) : Nat := runN (stopB w) (s.drop a)
def okStop (w : List UInt8) : Prop := ∀ c : UInt8, isHex (c.toNat : Int) = true → stopB w c = true
theorem okStop_of {w : List UInt8} (h : (List.range 256).all (fun n => !isHex (n : Int) || stopB w (UInt8.ofNat n)) = true) : okStop w := by
  intro c hc
  rw [List.all_eq_true] at h
  have := h c.toNat (List.mem_range.2 (UInt8.toNat_lt c))
  rw [hc] at this
  simpa using this
theorem ok_1 : okStop [63, 35] := okStop_of (by decide +kernel)
theorem ok_2 : okStop [35] := okStop_of (by decide +kernel)
theorem ok_3 : okStop [] := okStop_of (by decide +kernel)
theorem getD_take {s : List UInt8} {n j : Nat} (h : j < n) : (s.take n).getD j 0 = s.getD j 0 := by
  rw [List.getD_eq_getElem?_getD, List.getD_eq_getElem?_getD, List.getElem?_take_of_lt h]
theorem row_go {t w : List UInt8} (hw : okStop w) : ∀ (k i : Nat), t.length < i + k → i ≤ runN (stopB w) t → (∀ j, j < i → cell0 (t.take (runN (stopB w) t)) j = true) → reL t w k i = if rb0 (t.take (runN (stopB w) t)) < 0 then (runN (stopB w) t, true) else ((rb0 (t.take (runN (stopB w) t))).toNat, false)
  | 0, i, h, hi, _ => by have := runN_le (stopB w) t; omega
  | k + 1, i, h, hi, hc => by
    have hN := runN_le (stopB w) t
    have hin := fun j => runN_in (p := stopB w) (s := t) (j := j)
    have hout := runN_out (p := stopB w) (s := t)
    generalize hNe : runN (stopB w) t = N at hi hc hN hin hout ⊢
    have hlen : (t.take N).length = N := by rw [List.length_take]; omega
    have eN : i = N → rb0 (t.take N) = -1 := fun e => rb0_no fun j hj => hc j (by omega)
    rw [reL]
    by_cases h1 : t.length ≤ i
    · rw [if_pos h1, eN (by omega), if_pos (by omega)]
      congr 1; omega
    rw [if_neg h1]
    by_cases h2 : i = N
    · subst h2
      have := hout (by omega)
      unfold stopB at this
      rw [decide_eq_false_iff_not] at this
      rw [if_pos (by omega), eN rfl, if_pos (by omega)]
    have hs := hin i (by omega)
    unfold stopB at hs
    rw [decide_eq_true_eq] at hs
    rw [if_neg (by omega)]
    have hg : (t.take N).getD i 0 = t.getD i 0 := getD_take (by omega)
    have hp : pctB (t.take N) i = pctB t i := by
      rw [Bool.eq_iff_iff]
      unfold pctB
      simp only [Bool.and_eq_true, decide_eq_true_eq, hlen]
      constructor
      · rintro ⟨⟨a, b⟩, c⟩
        rw [getD_take (by omega)] at b c
        exact ⟨⟨by omega, b⟩, c⟩
      · rintro ⟨⟨a, b⟩, c⟩
        have b' := hw _ b
        have c' := hw _ c
        have n1 : i + 1 ≠ N := fun e => by rw [e, hout (by omega)] at b'; cases b'
        have n2 : i + 2 ≠ N := fun e => by rw [e, hout (by omega)] at c'; cases c'
        refine ⟨⟨by omega, ?_⟩, ?_⟩
        · rw [getD_take (by omega)]; exact b
        · rw [getD_take (by omega)]; exact c
    have bad : cell0 (t.take N) i = false → (i, false) = if rb0 (t.take N) < 0 then (N, true) else ((rb0 (t.take N)).toNat, false) := fun hb => by
      rw [rb0_at (by omega) hc hb, if_neg (by omega), Int.toNat_natCast]
    by_cases h3 : rowB (t.getD i 0) = false
    · rw [if_pos h3]
      exact bad (by unfold cell0; rw [hg, h3]; rfl)
    rw [if_neg h3]
    have h3' : rowB (t.getD i 0) = true := by simpa using h3
    by_cases h4 : (t.getD i 0).toNat = 37
    · rw [if_pos h4]
      by_cases hpc : pctB t i = true
      · rw [if_pos hpc]
        have hp' := hp.trans hpc
        simp only [pctB, Bool.and_eq_true, decide_eq_true_eq, hlen] at hp'
        have key := row_go (t := t) hw k (i + 3) (by omega) (by rw [hNe]; omega) (fun j hj => by
          rw [hNe]
          by_cases e : j < i
          · exact hc j e
          rcases (by omega : j = i ∨ j = i + 1 ∨ j = i + 2) with rfl | rfl | rfl
          · unfold cell0; rw [hg, h3', hp, hpc]; simp
          · have := cell_hex _ hp'.1.2
            unfold cell0; rw [this.1, decide_eq_true this.2.2]; rfl
          · have := cell_hex _ hp'.2
            unfold cell0; rw [this.1, decide_eq_true this.2.2]; rfl)
        rw [hNe] at key
        exact key
      · rw [if_neg hpc]
        exact bad (by unfold cell0; rw [hg, h3', hp, decide_eq_false (fun x => x h4)]; simpa using hpc)
    · rw [if_neg h4]
      have key := row_go (t := t) hw k (i + 1) (by omega) (by rw [hNe]; omega) (fun j hj => by
        rw [hNe]
        by_cases e : j < i
        · exact hc j e
        obtain rfl : j = i := by omega
        unfold cell0; rw [hg, h3', decide_eq_true h4]; rfl)
      rw [hNe] at key
      exact key
/-- both ways to read a row -/
theorem row_same {s w : List UInt8} (hw : okStop w) (a : Nat) : rdRow s a w = if rb0 (cutS s a (utN s a w)) < 0 then (utN s a w, true) else ((rb0 (cutS s a (utN s a w))).toNat, false) :=
  row_go hw _ 0 (by omega) (Nat.zero_le _) (fun j hj => by omega)
theorem utN_le {s : List UInt8} {a : Nat} {w : List UInt8} (h : a ≤ s.length) : a + utN s a w ≤ s.length := by
  have := runN_le (stopB w) (s.drop a)
  rw [List.length_drop] at this
  unfold utN; omega

/-- a value that stands for a coded thing -/
def isC {α : Type} (c : Cod α) (x : V) : Prop := VLe x (c.enc (c.dec x))
theorem isC_enc {α : Type} (c : Cod α) (a : α) : isC c (c.enc a) := by unfold isC; rw [c.ok]; exact VLe.refl _
/-- strings of heads are not long -/
def hdsOk (l : List Hd) : Prop := ∀ h ∈ l, h.name.length ≤ 140737488355328 ∧ h.value.length ≤ 140737488355328
theorem hdsOk_at {l : List Hd} (h : hdsOk l) {i : Nat} (hi : i < l.length) : (l.getD i ⟨[], []⟩).name.length ≤ 140737488355328 ∧ (l.getD i ⟨[], []⟩).value.length ≤ 140737488355328 := by
  rw [List.getD_eq_getElem?_getD, List.getElem?_eq_getElem hi]; exact h _ (List.getElem_mem hi)
@[push_cast] theorem lsF_hdfl (l : List Hd) (i : Nat) : (lsF cHd l i).flat = [.str (l.getD i ⟨[], []⟩).name, .str (l.getD i ⟨[], []⟩).value] := rfl
/-- an answer -/
structure Ans where
  st : Int
  re : List UInt8
  hd : List Hd
  bd : List UInt8
deriving DecidableEq
def decAns : V → Ans
  | .agg [.int _ st, .str re, .sl n f, .sl m g] => ⟨st, re, lsOf cHd n f, bytesOf m g⟩
  | _ => ⟨0, [], [], []⟩
def cAns : Cod Ans := ⟨fun a => .agg [.int .i64 a.st, .str a.re, .sl a.hd.length (lsF cHd a.hd), .sl a.bd.length (byF a.bd)], decAns, ⟨0, [], [], []⟩, fun a => by simp [decAns, lsOf_ls, bytesOf_by]⟩
@[push_cast] theorem enc_ans (a : Ans) : cAns.enc a = .agg [.int .i64 a.st, .str a.re, .sl a.hd.length (lsF cHd a.hd), .sl a.bd.length (byF a.bd)] := rfl
@[push_cast] theorem dec_ans (k : IntKind) (st : Int) (re : List UInt8) (n m : Nat) (f g : Nat → V) : cAns.dec (.agg [.int k st, .str re, .sl n f, .sl m g]) = ⟨st, re, lsOf cHd n f, bytesOf m g⟩ := rfl
theorem isC_ans {st : Int} {re : List UInt8} {n m : Nat} {f g : Nat → V} (h1 : isLs cHd n f) (h2 : isBy m g) : isC cAns (.agg [.int .i64 st, .str re, .sl n f, .sl m g]) :=
  VLe.agg ⟨VLe.refl _, VLe.refl _, isLs.vle h1, isBy.vle h2, trivial⟩
def ansOk (a : Ans) : Prop := hdsOk a.hd ∧ a.re.length ≤ 140737488355328 ∧ a.hd.length ≤ 140737488355328 ∧ a.bd.length ≤ 140737488355328
theorem reach_le : reachBytes ≤ 140737488355328 := by unfold reachBytes; omega
theorem hasL_cons {s : Sh} {ss : List Sh} {ms : List Nat} {vs : List V} (h : Sh.hasL (s :: ss) ms vs) : ∃ m v ms' vs', vs = v :: vs' ∧ s.has m v ∧ Sh.hasL ss ms' vs' := by
  cases ms with
  | nil => simp [Sh.hasL] at h
  | cons m ms => cases vs with
    | nil => simp [Sh.hasL] at h
    | cons v vs => exact ⟨m, v, ms, vs, rfl, h.1, h.2⟩
theorem hasL_nil {ms : List Nat} {vs : List V} (h : Sh.hasL [] ms vs) : vs = [] := by
  cases ms with
  | nil => cases vs with
    | nil => rfl
    | cons _ _ => simp [Sh.hasL] at h
  | cons _ _ => simp [Sh.hasL] at h
theorem shHead {m : Nat} {v : V} (h : Sh.has (.tup [.str, .str]) m v) : ∃ a, v = cHd.enc a ∧ a.name.length ≤ 140737488355328 ∧ a.value.length ≤ 140737488355328 := by
  obtain ⟨l, ms, rfl, -, hl⟩ := h
  obtain ⟨m1, v1, ms, l, rfl, h1, hl⟩ := hasL_cons hl
  obtain ⟨m2, v2, ms, l, rfl, h2, hl⟩ := hasL_cons hl
  obtain rfl := hasL_nil hl
  obtain ⟨s, rfl, -, b1⟩ := h1
  obtain ⟨t, rfl, -, b2⟩ := h2
  have := reach_le
  exact ⟨⟨s, t⟩, rfl, by show s.length ≤ _; omega, by show t.length ≤ _; omega⟩
theorem shList {α : Type} {c : Cod α} {s : Sh} {p : α → Prop} (hs : ∀ m v, s.has m v → ∃ a, v = c.enc a ∧ p a) {m : Nat} {v : V} (h : Sh.has (.list s) m v) : ∃ (n : Nat) (f : Nat → V), v = .sl n f ∧ isLs c n f ∧ n ≤ 140737488355328 ∧ ∀ a ∈ lsOf c n f, p a := by
  obtain ⟨l, ms, rfl, h1, h2, h3, h4⟩ := h
  have at' : ∀ i, i < l.length → ∃ a, litF l i = c.enc a ∧ p a := fun i hi => hs _ _ (h4 i hi)
  have := reach_le
  refine ⟨_, _, rfl, ⟨by simp [lsOf], fun i hi => ?_⟩, by omega, fun a ha => ?_⟩
  · obtain ⟨a, e, _⟩ := at' i hi
    unfold lsF lsOf
    rw [List.getD_eq_getElem?_getD, List.getElem?_map, List.getElem?_range hi]
    simp only [Option.map_some, Option.getD_some]
    rw [e, c.ok]
  · simp only [lsOf, List.mem_map, List.mem_range] at ha
    obtain ⟨i, hi, rfl⟩ := ha
    obtain ⟨a, e, hp⟩ := at' i hi
    rw [e, c.ok]; exact hp
theorem shStr {m : Nat} {v : V} (h : Sh.has .str m v) : ∃ a, v = cStr.enc a ∧ a.length ≤ 140737488355328 := by
  obtain ⟨s, rfl, -, b⟩ := h
  have := reach_le
  exact ⟨s, rfl, by omega⟩
theorem shAns {m : Nat} {v : V} (h : Sh.has (.tup [.int .i64, .str, .list (.tup [.str, .str]), .list (.int .u8)]) m v) : isC cAns v ∧ ansOk (cAns.dec v) := by
  obtain ⟨l, ms, rfl, -, hl⟩ := h
  obtain ⟨m1, v1, ms, l, rfl, h1, hl⟩ := hasL_cons hl
  obtain ⟨m2, v2, ms, l, rfl, h2, hl⟩ := hasL_cons hl
  obtain ⟨m3, v3, ms, l, rfl, h3, hl⟩ := hasL_cons hl
  obtain ⟨m4, v4, ms, l, rfl, h4, hl⟩ := hasL_cons hl
  obtain rfl := hasL_nil hl
  obtain ⟨st, rfl, _⟩ := shInt h1
  obtain ⟨re, rfl, b2⟩ := shStr h2
  obtain ⟨n, f, rfl, i3, b3, k3⟩ := shList (c := cHd) (fun m v h => shHead h) h3
  obtain ⟨k, g, rfl, i4, b4⟩ := shBytes h4
  have := reach_le
  refine ⟨isC_ans i3 i4, ?_⟩
  show ansOk ⟨st, re, lsOf cHd n f, bytesOf k g⟩
  refine ⟨k3, b2, ?_, ?_⟩
  · show (lsOf cHd n f).length ≤ _
    rw [lsOf_len]; exact b3
  · show (bytesOf k g).length ≤ _
    rw [bytesOf_len]; omega
theorem hasD2 {H : Type} {s1 s2 : Sh} {ds : List (DataW H)} (h : hasD [s1, s2] ds) : ∃ a b, ds = [a, b] ∧ s1.has (bulkD a) (toV a) ∧ s2.has (bulkD b) (toV b) := by
  match ds, h with
  | [a, b], ⟨h1, h2, _⟩ => exact ⟨a, b, rfl, h1, h2⟩
theorem hasD1 {H : Type} {s1 : Sh} {ds : List (DataW H)} (h : hasD [s1] ds) : ∃ a, ds = [a] ∧ s1.has (bulkD a) (toV a) := by
  match ds, h with
  | [a], ⟨h1, _⟩ => exact ⟨a, rfl, h1⟩
theorem hasD4 {H : Type} {s1 s2 s3 s4 : Sh} {ds : List (DataW H)} (h : hasD [s1, s2, s3, s4] ds) : ∃ a b c d, ds = [a, b, c, d] ∧ s1.has (bulkD a) (toV a) ∧ s2.has (bulkD b) (toV b) ∧ s3.has (bulkD c) (toV c) ∧ s4.has (bulkD d) (toV d) := by
  match ds, h with
  | [a, b, c, d], ⟨h1, h2, h3, h4, _⟩ => exact ⟨a, b, c, d, rfl, h1, h2, h3, h4⟩
@[push_cast] theorem isC_ansT (a : Ans) : isC cAns (.agg [.int .i64 a.st, .str a.re, .sl a.hd.length (lsF cHd a.hd), .sl a.bd.length (byF a.bd)]) = True := eq_true (isC_enc cAns a)
@[push_cast] theorem ans_eta (a : Ans) : (⟨a.st, a.re, a.hd, a.bd⟩ : Ans) = a := rfl

/- lists of things as arguments, cell by cell -/
theorem VLe.slV {n : Nat} {f g : Nat → V} (h : ∀ i, i < n → (g i).flat.length = (f i).flat.length ∧ ∀ j, j < (f i).flat.length → VLe ((f i).flat.getD j .any) ((g i).flat.getD j .any) ∧ ((g i).flat.getD j .any).isPure = true) : VLe (.sl n f) (.sl n g) := by
  intro γ imm w v hr
  cases inv_sl (S := ⟨γ, imm, fun _ => none, w⟩) hr with
  | sl0 _ a c => exact .pure (.sl0 _ a c)
  | sl _ _ b off c sz u hb hnc hs hf hc ho hp =>
    refine .pure (.sl n g b off c sz u hb hnc hs (fun i hi => (h i hi).1.trans (hf i hi)) hc ho (fun i j hi hj => ?_))
    have hj' : j < (f i).flat.length := by rw [hf i hi]; exact hj
    obtain ⟨h1, h2⟩ := (h i hi).2 j hj'
    exact isPure_rep (S := ⟨γ, imm, fun _ => none, w⟩) (h1 _ _ _ _ (.pure (hp i j hi hj))) h2
def isLv {α : Type} (c : Cod α) (n : Nat) (f : Nat → V) : Prop := VLe (.sl n f) (.sl (lsOf c n f).length (lsF c (lsOf c n f)))
/-- a thing's cells say what its code says -/
def isE {α : Type} (c : Cod α) (v : V) : Prop := (c.enc (c.dec v)).flat.length = v.flat.length ∧ ∀ j, j < v.flat.length → VLe (v.flat.getD j .any) ((c.enc (c.dec v)).flat.getD j .any) ∧ ((c.enc (c.dec v)).flat.getD j .any).isPure = true
theorem shListE {α : Type} {c : Cod α} {s : Sh} {p : α → Prop} (hs : ∀ m v, s.has m v → isE c v ∧ p (c.dec v)) {m : Nat} {v : V} (h : Sh.has (.list s) m v) : ∃ (n : Nat) (f : Nat → V), v = .sl n f ∧ isLv c n f ∧ n ≤ 140737488355328 ∧ ∀ a ∈ lsOf c n f, p a := by
  obtain ⟨l, ms, rfl, h1, h2, h3, h4⟩ := h
  have := reach_le
  refine ⟨_, _, rfl, ?_, by omega, fun a ha => ?_⟩
  · unfold isLv
    rw [lsOf_len]
    refine VLe.slV fun i hi => ?_
    have hE := (hs _ _ (h4 i hi)).1
    have e2 : lsF c (lsOf c l.length (litF l)) i = c.enc (c.dec (litF l i)) := by
      unfold lsF lsOf
      rw [List.getD_eq_getElem?_getD, List.getElem?_map, List.getElem?_range hi]; rfl
    rw [e2]
    exact hE
  · simp only [lsOf, List.mem_map, List.mem_range] at ha
    obtain ⟨i, hi, rfl⟩ := ha
    exact (hs _ _ (h4 i hi)).2

/- what sites permit -/
structure Rul where
  al : Bool
  pa : List UInt8
deriving DecidableEq
def noRul : Rul := ⟨false, []⟩
def decRul : V → Rul
  | .agg [.bool a, .str p] => ⟨a, p⟩
  | _ => noRul
def cRul : Cod Rul := ⟨fun r => .agg [.bool r.al, .str r.pa], decRul, noRul, fun _ => rfl⟩
@[push_cast] theorem enc_rul (r : Rul) : cRul.enc r = .agg [.bool r.al, .str r.pa] := rfl
@[push_cast] theorem dec_rul (a : Bool) (p : List UInt8) : cRul.dec (.agg [.bool a, .str p]) = ⟨a, p⟩ := rfl
@[push_cast] theorem lsF_rul (l : List Rul) (i : Nat) : lsF cRul l i = .agg [.bool (l.getD i noRul).al, .str (l.getD i noRul).pa] := rfl
structure Grp where
  ag : List (List UInt8)
  ru : List Rul
  de : Int
deriving DecidableEq
def noGrp : Grp := ⟨[], [], 0⟩
def decGrp : V → Grp
  | .agg [.sl n f, .sl m g, .int _ d] => ⟨lsOf cStr n f, lsOf cRul m g, d⟩
  | _ => noGrp
def cGrp : Cod Grp := ⟨fun g => .agg [.sl g.ag.length (lsF cStr g.ag), .sl g.ru.length (lsF cRul g.ru), .int .i64 g.de], decGrp, noGrp, fun g => by simp [decGrp, lsOf_ls]⟩
@[push_cast] theorem enc_grp (g : Grp) : cGrp.enc g = .agg [.sl g.ag.length (lsF cStr g.ag), .sl g.ru.length (lsF cRul g.ru), .int .i64 g.de] := rfl
@[push_cast] theorem dec_grp (n m : Nat) (f g : Nat → V) (k : IntKind) (d : Int) : cGrp.dec (.agg [.sl n f, .sl m g, .int k d]) = ⟨lsOf cStr n f, lsOf cRul m g, d⟩ := rfl
@[push_cast] theorem lsF_grp (l : List Grp) (i : Nat) : lsF cGrp l i = .agg [.sl (l.getD i noGrp).ag.length (lsF cStr (l.getD i noGrp).ag), .sl (l.getD i noGrp).ru.length (lsF cRul (l.getD i noGrp).ru), .int .i64 (l.getD i noGrp).de] := rfl
structure Rob where
  gr : List Grp
  ma : List (List UInt8)
deriving DecidableEq
def noRob : Rob := ⟨[], []⟩
def decRob : V → Rob
  | .agg [.sl n f, .sl m g] => ⟨lsOf cGrp n f, lsOf cStr m g⟩
  | _ => noRob
def cRob : Cod Rob := ⟨fun r => .agg [.sl r.gr.length (lsF cGrp r.gr), .sl r.ma.length (lsF cStr r.ma)], decRob, noRob, fun r => by simp [decRob, lsOf_ls]⟩
@[push_cast] theorem enc_rob (r : Rob) : cRob.enc r = .agg [.sl r.gr.length (lsF cGrp r.gr), .sl r.ma.length (lsF cStr r.ma)] := rfl
@[push_cast] theorem dec_rob (n m : Nat) (f g : Nat → V) : cRob.dec (.agg [.sl n f, .sl m g]) = ⟨lsOf cGrp n f, lsOf cStr m g⟩ := rfl
@[push_cast] theorem isC_robT (r : Rob) : isC cRob (.agg [.sl r.gr.length (lsF cGrp r.gr), .sl r.ma.length (lsF cStr r.ma)]) = True := eq_true (isC_enc cRob r)
@[push_cast] theorem isC_grpT (g : Grp) : isC cGrp (.agg [.sl g.ag.length (lsF cStr g.ag), .sl g.ru.length (lsF cRul g.ru), .int .i64 g.de]) = True := eq_true (isC_enc cGrp g)
@[push_cast] theorem rob_eta (r : Rob) : (⟨r.gr, r.ma⟩ : Rob) = r := rfl
@[push_cast] theorem grp_eta (g : Grp) : (⟨g.ag, g.ru, g.de⟩ : Grp) = g := rfl
structure Rdg where
  at' : Int
  st : Int
  ro : Rob
deriving DecidableEq
def noRdg : Rdg := ⟨0, 0, noRob⟩
def decRdg : V → Rdg
  | .agg [.int _ a, .int _ s, .sl n f, .sl m g] => ⟨a, s, ⟨lsOf cGrp n f, lsOf cStr m g⟩⟩
  | _ => noRdg
def cRdg : Cod Rdg := ⟨fun r => .agg [.int .i64 r.at', .int .i64 r.st, .sl r.ro.gr.length (lsF cGrp r.ro.gr), .sl r.ro.ma.length (lsF cStr r.ro.ma)], decRdg, noRdg, fun r => by simp [decRdg, lsOf_ls]⟩
@[push_cast] theorem lsF_rdg (l : List Rdg) (i : Nat) : lsF cRdg l i = .agg [.int .i64 (l.getD i noRdg).at', .int .i64 (l.getD i noRdg).st, .sl (l.getD i noRdg).ro.gr.length (lsF cGrp (l.getD i noRdg).ro.gr), .sl (l.getD i noRdg).ro.ma.length (lsF cStr (l.getD i noRdg).ro.ma)] := rfl
/- what arguments are -/
def rulOk (r : Rul) : Prop := r.pa.length ≤ 140737488355328
def grpOk (g : Grp) : Prop := g.ag.length ≤ 140737488355328 ∧ (∀ s ∈ g.ag, s.length ≤ 140737488355328) ∧ g.ru.length ≤ 140737488355328 ∧ (∀ r ∈ g.ru, rulOk r) ∧ -9223372036854775808 ≤ g.de ∧ g.de ≤ 9223372036854775807
def robOk (r : Rob) : Prop := r.gr.length ≤ 140737488355328 ∧ (∀ g ∈ r.gr, grpOk g) ∧ r.ma.length ≤ 140737488355328 ∧ ∀ s ∈ r.ma, s.length ≤ 140737488355328
def rdgOk (r : Rdg) : Prop := -9223372036854775808 ≤ r.at' ∧ r.at' ≤ 9223372036854775807 ∧ -9223372036854775808 ≤ r.st ∧ r.st ≤ 9223372036854775807 ∧ robOk r.ro
abbrev sRul : Sh := .tup [.bool, .str]
abbrev sGrp : Sh := .tup [.list .str, .list sRul, .int .i64]
abbrev sRob : Sh := .tup [.list sGrp, .list .str]
abbrev sRdg : Sh := .tup [.int .i64, .int .i64, sRob]
theorem shBoolE {m : Nat} {v : V} (h : Sh.has .bool m v) : ∃ b, v = .bool b := by
  obtain ⟨b, e, _⟩ := h
  exact ⟨b, e⟩
theorem shRul {m : Nat} {v : V} (h : Sh.has sRul m v) : ∃ a, v = cRul.enc a ∧ rulOk a := by
  obtain ⟨l, ms, rfl, -, hl⟩ := h
  obtain ⟨m1, v1, ms, l, rfl, h1, hl⟩ := hasL_cons hl
  obtain ⟨m2, v2, ms, l, rfl, h2, hl⟩ := hasL_cons hl
  obtain rfl := hasL_nil hl
  obtain ⟨b, rfl⟩ := shBoolE h1
  obtain ⟨p, rfl, b2⟩ := shStr h2
  exact ⟨⟨b, p⟩, rfl, b2⟩
theorem shGrp {m : Nat} {v : V} (h : Sh.has sGrp m v) : isE cGrp v ∧ grpOk (cGrp.dec v) := by
  obtain ⟨l, ms, rfl, -, hl⟩ := h
  obtain ⟨m1, v1, ms, l, rfl, h1, hl⟩ := hasL_cons hl
  obtain ⟨m2, v2, ms, l, rfl, h2, hl⟩ := hasL_cons hl
  obtain ⟨m3, v3, ms, l, rfl, h3, hl⟩ := hasL_cons hl
  obtain rfl := hasL_nil hl
  obtain ⟨n, f, rfl, i1, b1, k1⟩ := shList (c := cStr) (fun m v h => shStr h) h1
  obtain ⟨k, g, rfl, i2, b2, k2⟩ := shList (c := cRul) (fun m v h => shRul h) h2
  obtain ⟨d, rfl, c3⟩ := shInt h3
  simp only [Lit.wf, Bool.and_eq_true, decide_eq_true_eq] at c3
  refine ⟨⟨rfl, fun j hj => ?_⟩, by show (lsOf cStr n f).length ≤ _; rw [lsOf_len]; exact b1, k1, by show (lsOf cRul k g).length ≤ _; rw [lsOf_len]; exact b2, k2, c3.1, c3.2⟩
  match j, hj with
  | 0, _ => exact ⟨isLs.vle i1, rfl⟩
  | 1, _ => exact ⟨isLs.vle i2, rfl⟩
  | 2, _ => exact ⟨VLe.refl _, rfl⟩
theorem shRobX {m : Nat} {v : V} (h : Sh.has sRob m v) : ∃ n f k g, v = .agg [.sl n f, .sl k g] ∧ isLv cGrp n f ∧ isLs cStr k g ∧ robOk ⟨lsOf cGrp n f, lsOf cStr k g⟩ := by
  obtain ⟨l, ms, rfl, -, hl⟩ := h
  obtain ⟨m1, v1, ms, l, rfl, h1, hl⟩ := hasL_cons hl
  obtain ⟨m2, v2, ms, l, rfl, h2, hl⟩ := hasL_cons hl
  obtain rfl := hasL_nil hl
  obtain ⟨n, f, rfl, i1, b1, k1⟩ := shListE (c := cGrp) (p := grpOk) (fun m v h => shGrp h) h1
  obtain ⟨k, g, rfl, i2, b2, k2⟩ := shList (c := cStr) (fun m v h => shStr h) h2
  exact ⟨n, f, k, g, rfl, i1, i2, by show (lsOf cGrp n f).length ≤ _; rw [lsOf_len]; exact b1, k1, by show (lsOf cStr k g).length ≤ _; rw [lsOf_len]; exact b2, k2⟩
theorem shRob {m : Nat} {v : V} (h : Sh.has sRob m v) : VLe v (cRob.enc (cRob.dec v)) ∧ robOk (cRob.dec v) := by
  obtain ⟨n, f, k, g, rfl, i1, i2, ok⟩ := shRobX h
  exact ⟨VLe.agg ⟨i1, isLs.vle i2, trivial⟩, ok⟩
theorem shRdg {m : Nat} {v : V} (h : Sh.has sRdg m v) : isE cRdg v ∧ rdgOk (cRdg.dec v) := by
  obtain ⟨l, ms, rfl, -, hl⟩ := h
  obtain ⟨m1, v1, ms, l, rfl, h1, hl⟩ := hasL_cons hl
  obtain ⟨m2, v2, ms, l, rfl, h2, hl⟩ := hasL_cons hl
  obtain ⟨m3, v3, ms, l, rfl, h3, hl⟩ := hasL_cons hl
  obtain rfl := hasL_nil hl
  obtain ⟨a, rfl, c1⟩ := shInt h1
  obtain ⟨s, rfl, c2⟩ := shInt h2
  obtain ⟨n, f, k, g, rfl, i1, i2, ok⟩ := shRobX h3
  simp only [Lit.wf, Bool.and_eq_true, decide_eq_true_eq] at c1 c2
  refine ⟨⟨rfl, fun j hj => ?_⟩, c1.1, c1.2, c2.1, c2.2, ok⟩
  match j, hj with
  | 0, _ => exact ⟨VLe.refl _, rfl⟩
  | 1, _ => exact ⟨VLe.refl _, rfl⟩
  | 2, _ => exact ⟨i1, rfl⟩
  | 3, _ => exact ⟨isLs.vle i2, rfl⟩
theorem shAdr {m : Nat} {v : V} (h : Sh.has (.tup [.str, .str, .str, .str, .str, .bool, .str, .bool]) m v) : ∃ a, v = cAdr.enc a ∧ a.sc.length ≤ 140737488355328 ∧ a.ho.length ≤ 140737488355328 ∧ a.po.length ≤ 140737488355328 ∧ a.pa.length ≤ 140737488355328 ∧ a.qu.length ≤ 140737488355328 ∧ a.fr.length ≤ 140737488355328 := by
  obtain ⟨l, ms, rfl, -, hl⟩ := h
  obtain ⟨m1, v1, ms, l, rfl, h1, hl⟩ := hasL_cons hl
  obtain ⟨m2, v2, ms, l, rfl, h2, hl⟩ := hasL_cons hl
  obtain ⟨m3, v3, ms, l, rfl, h3, hl⟩ := hasL_cons hl
  obtain ⟨m4, v4, ms, l, rfl, h4, hl⟩ := hasL_cons hl
  obtain ⟨m5, v5, ms, l, rfl, h5, hl⟩ := hasL_cons hl
  obtain ⟨m6, v6, ms, l, rfl, h6, hl⟩ := hasL_cons hl
  obtain ⟨m7, v7, ms, l, rfl, h7, hl⟩ := hasL_cons hl
  obtain ⟨m8, v8, ms, l, rfl, h8, hl⟩ := hasL_cons hl
  obtain rfl := hasL_nil hl
  obtain ⟨a1, rfl, b1⟩ := shStr h1
  obtain ⟨a2, rfl, b2⟩ := shStr h2
  obtain ⟨a3, rfl, b3⟩ := shStr h3
  obtain ⟨a4, rfl, b4⟩ := shStr h4
  obtain ⟨a5, rfl, b5⟩ := shStr h5
  obtain ⟨a6, rfl⟩ := shBoolE h6
  obtain ⟨a7, rfl, b7⟩ := shStr h7
  obtain ⟨a8, rfl⟩ := shBoolE h8
  exact ⟨⟨a1, a2, a3, a4, a5, a6, a7, a8⟩, rfl, b1, b2, b3, b4, b5, b7⟩
/- the errors -/
def agB (c : UInt8) : Bool := decide (97 ≤ c.toNat ∧ c.toNat ≤ 122) || decide (48 ≤ c.toNat ∧ c.toNat ≤ 57) || decide (c.toNat = 45) || decide (c.toNat = 95)
def agentL (s : List UInt8) : Bool := s == [42] || (decide (1 ≤ s.length) && decide (s.length ≤ 40) && s.all agB)
def checkGrpL (g : Grp) : Int :=
  if g.ag.length = 0 then 9 else if 50 < g.ag.length then 16 else if g.ag.all agentL = false then 5 else if 200 < g.ru.length then 16 else if (g.ru.all fun r => patOk r.pa) = false then 3 else if g.de < -1 ∨ 99999 < g.de then 1 else 0
def grpsE : List Grp → Int
  | [] => 0
  | g :: t => if checkGrpL g = 0 then grpsE t else checkGrpL g
def adrB (s : List UInt8) : Bool := decide ((readA s).2.2 = 0)
def checkRobL (r : Rob) : Int := if 100 < r.gr.length then 16 else if grpsE r.gr = 0 then (if 100 < r.ma.length then 16 else if r.ma.all adrB = true then 0 else 3) else grpsE r.gr
def isRulS (n : Int) : Bool := decide (200 ≤ n) && decide (n ≤ 299)
def isAllS (n : Int) : Bool := decide (400 ≤ n) && decide (n ≤ 499)
def rdgE (x : Rdg) : Int :=
  if ¬ (0 ≤ x.at' ∧ x.at' ≤ 253402300799) ∨ (x.st ≠ 0 ∧ (x.st < 100 ∨ 599 < x.st)) then 1
  else if isRulS x.st = false ∧ 0 < x.ro.gr.length + x.ro.ma.length then 3
  else checkRobL x.ro
def rdgsGo : Int → List Rdg → Int
  | _, [] => 0
  | p, x :: t => if rdgE x = 0 then (if x.at' < p then 8 else rdgsGo x.at' t) else rdgE x
def checkRdgs (l : List Rdg) : Int := if 500 < l.length then 2 else rdgsGo (-1) l
def askE (l : List Rdg) (age at' : Int) : Int := if checkRdgs l = 0 then (if 1 ≤ age ∧ age ≤ 100000000 ∧ 0 ≤ at' ∧ at' ≤ 253402300799 then 0 else 1) else checkRdgs l
/- what holds -/
def saysB (x : Rdg) : Bool := isRulS x.st || isAllS x.st
def lastN (l : List Rdg) (at' : Int) : Nat := (l.takeWhile fun x => decide (x.at' ≤ at')).length
/-- the last one that says something -/
def goodI : List Rdg → Nat → Int
  | _, 0 => -1
  | l, n + 1 => if saysB (l.getD n noRdg) = true then (n : Int) else goodI l n
def standL (l : List Rdg) (age at' : Int) : Int × Int :=
  if lastN l at' = 0 then (1, -1)
  else if goodI l (lastN l at') < 0 ∨ (goodI l (lastN l at') < (lastN l at' : Int) - 1 ∧ (l.getD (goodI l (lastN l at')).toNat noRdg).at' + age ≤ at') then (4, (lastN l at' : Int) - 1)
  else if isRulS (l.getD (goodI l (lastN l at')).toNat noRdg).st = true then (2, goodI l (lastN l at')) else (3, goodI l (lastN l at'))

/- rows of digits -/
def isDg (c : UInt8) : Bool := decide (48 ≤ c.toNat ∧ c.toNat ≤ 57)
def digs : List UInt8 := [48, 49, 50, 51, 52, 53, 54, 55, 56, 57]
theorem digs_has (c : UInt8) : digs.contains c = isDg c := by
  have key : ∀ n, n < 256 → digs.contains (UInt8.ofNat n) = isDg (UInt8.ofNat n) := by decide +kernel
  have := key c.toNat (UInt8.toNat_lt c)
  simpa using this
theorem dropW_nil {p : UInt8 → Bool} : ∀ {l : List UInt8}, l.dropWhile p = [] ↔ ∀ x ∈ l, p x = true
  | [] => by simp
  | a :: l => by
    rw [List.dropWhile_cons]
    cases h : p a with
    | true => simp only [if_true, dropW_nil, List.mem_cons, forall_eq_or_imp, h, true_and]
    | false => simp [h]
theorem dropW_head {p : UInt8 → Bool} : ∀ {l : List UInt8} {a : UInt8} {t : List UInt8}, l.dropWhile p = a :: t → p a = false
  | [], _, _, h => by simp at h
  | b :: l, a, t, h => by
    rw [List.dropWhile_cons] at h
    cases hb : p b with
    | true => rw [hb] at h; exact dropW_head h
    | false => rw [hb] at h; simp only [Bool.false_eq_true, if_false, List.cons.injEq] at h; rw [← h.1]; exact hb
theorem dropW_sub {p : UInt8 → Bool} : ∀ {l : List UInt8} {x : UInt8}, x ∈ l.dropWhile p → x ∈ l
  | [], _, h => by simp at h
  | b :: l, x, h => by
    rw [List.dropWhile_cons] at h
    split at h
    · exact List.mem_cons_of_mem _ (dropW_sub h)
    · exact h
theorem snoc_ind {α : Type} {P : List α → Prop} (h0 : P []) (h : ∀ s c, P s → P (s ++ [c])) (s : List α) : P s := by
  have : ∀ t : List α, P t.reverse := by
    intro t
    induction t with
    | nil => exact h0
    | cons a t ih => rw [List.reverse_cons]; exact h _ _ ih
  simpa using this s.reverse
theorem trimS_nil (s cs : List UInt8) : Lib.trimS s cs = [] ↔ s.all (cs.contains ·) = true := by
  unfold Lib.trimS Lib.trimLeftS Lib.trimRightS
  rw [dropW_nil, List.all_eq_true]
  constructor
  · intro h x hx
    have hr : s.reverse.dropWhile (fun x => cs.contains x) = [] := by
      cases hd : s.reverse.dropWhile (fun x => cs.contains x) with
      | nil => rfl
      | cons a t =>
        have h1 := dropW_head hd
        have h2 := h a (by rw [hd]; simp)
        rw [h1] at h2; cases h2
    rw [dropW_nil] at hr
    exact hr x (by simpa using hx)
  · intro h x hx
    exact h x (by have := dropW_sub (by simpa using hx); simpa using this)
theorem trim_dig (s : List UInt8) : Lib.trimS s digs = [] ↔ s.all isDg = true := by
  rw [trimS_nil]
  have : (fun x => digs.contains x) = isDg := funext digs_has
  rw [this]
def natOf (s : List UInt8) : Nat := s.foldl (fun a c => a * 10 + (c.toNat - 48)) 0
theorem natOf_snoc (s : List UInt8) (c : UInt8) : natOf (s ++ [c]) = natOf s * 10 + (c.toNat - 48) := by simp [natOf, List.foldl_append]
theorem decFrom_dig : ∀ (s : List UInt8) (a : Nat), s.all isDg = true → Lib.decFrom a s = some (s.foldl (fun a c => a * 10 + (c.toNat - 48)) a)
  | [], a, _ => rfl
  | c :: s, a, h => by
    simp only [List.all_cons, Bool.and_eq_true] at h
    have hc : 48 ≤ c.toNat ∧ c.toNat ≤ 57 := of_decide_eq_true h.1
    simp only [Lib.decFrom, Lib.digitVal, if_pos hc, List.foldl_cons]
    exact decFrom_dig s _ h.2
theorem atoi_dig {s : List UInt8} (h0 : s ≠ []) (h : s.all isDg = true) : Lib.atoi s = some (natOf s : Int) := by
  cases s with
  | nil => exact absurd rfl h0
  | cons c s =>
    have hc : 48 ≤ c.toNat ∧ c.toNat ≤ 57 := of_decide_eq_true (by simp only [List.all_cons, Bool.and_eq_true] at h; exact h.1)
    have h1 : (c == 45) = false := by
      simp only [beq_eq_false_iff_ne]; intro e; subst e; revert hc; decide
    have h2 : (c == 43) = false := by
      simp only [beq_eq_false_iff_ne]; intro e; subst e; revert hc; decide
    unfold Lib.atoi
    simp only [h1, h2, Bool.false_eq_true, if_false]
    unfold Lib.decNat
    simp only [List.isEmpty_cons, Bool.false_eq_true, if_false]
    rw [decFrom_dig _ _ h]
    rfl
theorem natOf_lt (s : List UInt8) : s.all isDg = true → natOf s < 10 ^ s.length := by
  refine snoc_ind (P := fun s => s.all isDg = true → natOf s < 10 ^ s.length) (fun _ => by simp [natOf]) (fun s c ih h => ?_) s
  simp only [List.all_append, List.all_cons, List.all_nil, Bool.and_true, Bool.and_eq_true] at h
  have hc : 48 ≤ c.toNat ∧ c.toNat ≤ 57 := of_decide_eq_true h.2
  have := ih h.1
  rw [natOf_snoc, List.length_append, List.length_singleton, Nat.pow_succ]
  omega
/-- digits, from 1 to n of them, without a needless 0 -/
def digL (s : List UInt8) (n : Int) : Bool := decide (1 ≤ s.length) && decide ((s.length : Int) ≤ n) && s.all isDg && (decide (s.getD 0 0 ≠ 48) || s == [48])
theorem itoa_nat (n : Nat) : Lib.itoa (n : Int) = Lib.decDigits n := by unfold Lib.itoa; rw [if_neg (by omega)]; simp
theorem dec_step {n : Nat} (h : 10 ≤ n) : Lib.decDigits n = Lib.decDigits (n / 10) ++ [UInt8.ofNat (48 + n % 10)] := by
  rw [Lib.decDigits, dif_neg (by omega)]
theorem dec_small {n : Nat} (h : n < 10) : Lib.decDigits n = [UInt8.ofNat (48 + n)] := by
  rw [Lib.decDigits, dif_pos h]
theorem natOf_pos {s : List UInt8} (h : s.all isDg = true) (h0 : 1 ≤ s.length) (h1 : s.getD 0 0 ≠ 48) : 1 ≤ natOf s := by
  revert h h0 h1
  refine snoc_ind (P := fun s => s.all isDg = true → 1 ≤ s.length → s.getD 0 0 ≠ 48 → 1 ≤ natOf s) (fun _ h => by simp at h) (fun s c ih h _ h1 => ?_) s
  simp only [List.all_append, List.all_cons, List.all_nil, Bool.and_true, Bool.and_eq_true] at h
  have hc : 48 ≤ c.toNat ∧ c.toNat ≤ 57 := of_decide_eq_true h.2
  rw [natOf_snoc]
  cases s with
  | nil =>
    simp only [List.nil_append, List.getD_cons_zero] at h1
    have : c.toNat ≠ 48 := fun e => h1 (UInt8.toNat_inj.1 e)
    omega
  | cons a s =>
    have := ih h.1 (by simp) (by simpa using h1)
    omega
/-- a number's digits are written as they were read -/
theorem dec_natOf {s : List UInt8} (h : s.all isDg = true) (h0 : 1 ≤ s.length) (h1 : s.getD 0 0 ≠ 48 ∨ s.length = 1) : Lib.decDigits (natOf s) = s := by
  revert h h0 h1
  refine snoc_ind (P := fun s => s.all isDg = true → 1 ≤ s.length → (s.getD 0 0 ≠ 48 ∨ s.length = 1) → Lib.decDigits (natOf s) = s) (fun _ h => by simp at h) (fun s c ih h _ h1 => ?_) s
  simp only [List.all_append, List.all_cons, List.all_nil, Bool.and_true, Bool.and_eq_true] at h
  have hc : 48 ≤ c.toNat ∧ c.toNat ≤ 57 := of_decide_eq_true h.2
  have hcc : UInt8.ofNat (48 + (c.toNat - 48)) = c := by rw [show 48 + (c.toNat - 48) = c.toNat by omega]; simp
  rw [natOf_snoc]
  cases s with
  | nil =>
    simp only [natOf, List.foldl_nil, Nat.zero_mul, Nat.zero_add, List.nil_append]
    rw [dec_small (by omega), hcc]
  | cons a s =>
    have h48 : (a :: s).getD 0 0 ≠ 48 := by
      rcases h1 with h1 | h1
      · simpa using h1
      · simp at h1
    have hp := natOf_pos h.1 (by simp) h48
    rw [dec_step (by omega), show (natOf (a :: s) * 10 + (c.toNat - 48)) / 10 = natOf (a :: s) by omega, show (natOf (a :: s) * 10 + (c.toNat - 48)) % 10 = c.toNat - 48 by omega, hcc, ih h.1 (by simp) (.inl h48)]
theorem dec_dig (n : Nat) : (Lib.decDigits n).all isDg = true ∧ natOf (Lib.decDigits n) = n ∧ 1 ≤ (Lib.decDigits n).length ∧ ((Lib.decDigits n).getD 0 0 ≠ 48 ∨ (Lib.decDigits n).length = 1) ∧ (10 ≤ n → (Lib.decDigits n).getD 0 0 ≠ 48) := by
  have one : ∀ m, m < 10 → isDg (UInt8.ofNat (48 + m)) = true ∧ (UInt8.ofNat (48 + m)).toNat = 48 + m := fun m hm => by
    have e : (UInt8.ofNat (48 + m)).toNat = 48 + m := by rw [UInt8.toNat_ofNat']; omega
    exact ⟨decide_eq_true (by omega), e⟩
  induction n using Nat.strongRecOn with
  | _ n ih =>
    by_cases h : n < 10
    · rw [dec_small h]
      obtain ⟨a, b⟩ := one n h
      refine ⟨by simp only [List.all_cons, a, List.all_nil, Bool.and_true], by simp only [natOf, List.foldl_cons, List.foldl_nil, b]; omega, by simp, .inr rfl, fun h => by omega⟩
    · rw [dec_step (by omega)]
      obtain ⟨a, b⟩ := one (n % 10) (by omega)
      obtain ⟨i1, i2, i3, i4, i5⟩ := ih (n / 10) (by omega)
      have hg : (Lib.decDigits (n / 10)).getD 0 0 ≠ 48 := by
        by_cases h10 : n / 10 < 10
        · rw [dec_small h10]
          simp only [List.getD_cons_zero]
          intro e
          have := congrArg UInt8.toNat e
          rw [(one (n / 10) h10).2] at this
          have : (48 : UInt8).toNat = 48 := rfl
          omega
        · exact i5 (by omega)
      have hg2 : (Lib.decDigits (n / 10) ++ [UInt8.ofNat (48 + n % 10)]).getD 0 0 ≠ 48 := by
        cases hd : Lib.decDigits (n / 10) with
        | nil => rw [hd] at i3; simp at i3
        | cons x t => rw [hd] at hg; simpa using hg
      refine ⟨by simp only [List.all_append, i1, List.all_cons, a, List.all_nil, Bool.and_true], by rw [natOf_snoc, i2, b]; omega, by simp, .inl hg2, fun _ => hg2⟩
theorem dec_len : ∀ (k n : Nat), n < 10 ^ (k + 1) → (Lib.decDigits n).length ≤ k + 1
  | 0, n, h => by rw [dec_small (by omega)]; simp
  | k + 1, n, h => by
    by_cases h1 : n < 10
    · rw [dec_small h1]; simp
    · rw [dec_step (by omega)]
      have := dec_len k (n / 10) (by rw [Nat.pow_succ] at h; omega)
      simp; omega

end Go.Abs
