/- what functions of this program compute: contracts, each a function's own -/
import Derived.Test.YtkpecjbbmadlcaaGreatDoorAbsK3
import Derived.Test.YtkpecjbbmadlcaaGreatDoorAbsFacts
import Derived.Test.YtkpecjbbmadlcaaGreatDoorAbsF2
import Derived.Test.YtkpecjbbmadlcaaGreatDoorAbsShelf
import Derived.Lib.SplitLaws
import Derived.Lib.SlTrimSet
import Derived.Lib.Atoi
import Derived.Lib.Itoa
import Derived.Lib.ItoaNum
import Derived.Lib.Replace
import Derived.Lib.ReplaceLaws
import Derived.Lib.AtoiErrMem
import Derived.Lib.Join
namespace Go.Abs
open Go Go.Proofs
set_option maxHeartbeats 4000000
set_option maxRecDepth 100000
set_option linter.unusedVariables false
set_option linter.unusedSimpArgs false
theorem isAt_iff (s : List UInt8) (a c : Nat) : isAt s a c = true ↔ a < s.length ∧ (s.getD a 0).toNat = c := by
  unfold isAt; rw [Bool.and_eq_true, decide_eq_true_eq, decide_eq_true_eq]
def ckHostEnd : Ck
  | [.str s] => some (s.length ≤ 4611686018427387900, .int .i64 (runN hostB s))
  | _ => none
theorem conHostEnd : Con pg 78 ckHostEnd := by
  have hct := (ctA_ok conIsLet (ctA_ok conIsDig (ctN_ok _)))
  intro args q r h hq
  unfold ckHostEnd at h
  split at h
  · cases h
    rename_i s
    refine w78 (fun _ => false) [] rfl hct rfl rfl ?_
    push_cast (config := { maxSteps := 10000000 })
    refine LoopW.adj ⟨hct, fol⟩ (by kernel_rfl) [] (fun i : Nat => [(0, .str s), (3, .int .i64 i)]) (fun _ => []) (fun i => i ≤ s.length ∧ ∀ j, j < i → hostB (s.getD j 0) = true) (fun i => s.length - i) 0 ?_ fun i hi => ?_
    · push_cast (config := { maxSteps := 10000000 })
      exact Nat.zero_le _
    · push_cast (config := { maxSteps := 10000000 })
      obtain ⟨h1, h2⟩ := hi
      have hb : hostB (s.getD i 0) = true ↔ ((isLet ((s.getD i 0).toNat : Int) = true ∨ isDig ((s.getD i 0).toNat : Int) = true) ∨ ((s.getD i 0).toNat : Int) = 45) ∨ ((s.getD i 0).toNat : Int) = 46 := by
        unfold hostB
        simp only [Bool.or_eq_true, decide_eq_true_eq]
        have e5 : ((s.getD i 0).toNat : Int) = 45 ↔ (s.getD i 0).toNat = 45 := by omega
        have e6 : ((s.getD i 0).toNat : Int) = 46 ↔ (s.getD i 0).toNat = 46 := by omega
        rw [e5, e6]
      refine ⟨fun h => ⟨h, h.1⟩, fun h => ⟨h, fun x => ⟨h, x⟩⟩, fun h => ⟨h, h.1⟩, fun h => ⟨h, fun x => ⟨h, x⟩⟩, fun h => ⟨h, h.1⟩, fun h => ⟨h, fun x => ⟨h, x⟩⟩, fun h => ?_, fun h => ?_⟩
      · have hc := hb.2 h.2
        refine ⟨⟨by omega, by omega⟩, i + 1, ⟨by omega, fun j hj => ?_⟩, by omega, by omega⟩
        by_cases e : j = i
        · subst e; exact hc
        · exact h2 j (by omega)
      · rw [runN_at h1 h2 fun hlt => ?_]
        have := h hlt
        cases hc : hostB (s.getD i 0) with
        | false => rfl
        | true =>
          rcases hb.1 hc with ((x | x) | x) | x
          · rw [this.1.1.1] at x; cases x
          · rw [this.1.1.2] at x; cases x
          · exact absurd x this.1.2
          · exact absurd x this.2
  · cases h
attribute [push_cast] ckHostEnd
theorem dig_dg (s : List UInt8) : s.all digB = s.all isDg := by
  congr 1
  funext c
  have key : ∀ n, n < 256 → digB (UInt8.ofNat n) = isDg (UInt8.ofNat n) := by decide +kernel
  have := key c.toNat (UInt8.toNat_lt c)
  simpa using this
def ckPortOf : Ck
  | [.str s] => some (s.length ≤ 4611686018427387900, .int .i64 (portN s))
  | _ => none
theorem conPortOf : Con pg 82 ckPortOf := by
  have hct := (ctA_ok conTrim (ctN_ok _))
  intro args q r h hq
  unfold ckPortOf at h
  split at h
  · cases h
    rename_i s
    refine w82 (fun _ => false) [] rfl hct rfl rfl ?_
    push_cast (config := { maxSteps := 10000000 })
    have e := trim_dig s
    unfold digs at e
    rw [← dig_dg] at e
    refine ⟨fun h => ⟨h, by omega⟩, fun h => ?_, fun h => ?_⟩
    · unfold portN
      rw [if_neg fun x => ?_]
      rcases h with h | h
      · omega
      · exact h (e.2 x.2.2.1)
    have ha := e.1 h.2
    have hd : ∀ j, j < s.length → 48 ≤ (s.getD j 0).toNat ∧ (s.getD j 0).toNat ≤ 57 := fun j hj => by
      have := List.all_eq_true.1 ha (s.getD j 0) (by rw [List.getD_eq_getElem?_getD, List.getElem?_eq_getElem hj]; exact List.getElem_mem hj)
      unfold digB isDig at this
      simp only [Bool.and_eq_true, decide_eq_true_eq] at this
      omega
    have hN : portN s = if portV s ≤ 65535 then portV s else 0 := by
      unfold portN
      by_cases hv : portV s ≤ 65535
      · rw [if_pos ⟨by omega, by omega, ha, hv⟩, if_pos hv]
      · rw [if_neg (fun x => hv x.2.2.2), if_neg hv]
    rw [hN]
    have hS : ∀ i, i < s.length → portV (s.take (i + 1)) = 10 * portV (s.take i) + (((s.getD i 0).toNat : Int) - 48) := fun i hi => by
      rw [takeG (d := 0) hi]
      unfold portV
      rw [List.foldl_append]; rfl
    refine LoopW.adj ⟨hct, fol⟩ (by kernel_rfl) [] (fun i : Nat => [(0, .str s), (3, .int .i64 (portV (s.take i))), (19, .int .i64 s.length), (20, .int .i64 i)]) (fun _ => []) (fun i => i ≤ s.length ∧ 0 ≤ portV (s.take i) ∧ portV (s.take i) < 10 ^ i) (fun i => s.length - i) 0 ?_ fun i hi => ?_
    · push_cast (config := { maxSteps := 10000000 })
      exact ⟨⟨Nat.zero_le _, by decide, by decide⟩, rfl⟩
    · push_cast (config := { maxSteps := 10000000 })
      obtain ⟨h1, h2, h3⟩ := hi
      refine ⟨fun hlt => ?_, fun hge => ?_⟩
      · have hd1 := hd i hlt
        have hs1 := hS i hlt
        have p5 : (10 : Int) ^ i ≤ 10000 := by
          rcases (by omega : i = 0 ∨ i = 1 ∨ i = 2 ∨ i = 3 ∨ i = 4) with rfl | rfl | rfl | rfl | rfl <;> decide
        have e1 : (((s.getD i 0).toNat : Int) - 48) % 256 = ((s.getD i 0).toNat : Int) - 48 := by omega
        rw [e1]
        exact ⟨⟨by omega, by omega⟩, hlt, ⟨by omega, by omega⟩, ⟨by omega, by omega⟩, ⟨by omega, by omega⟩, i + 1, ⟨by omega, by omega, by rw [hs1, Int.pow_succ]; omega⟩, by omega, by rw [hs1], by omega⟩
      · rw [List.take_of_length_le (by omega)]
        exact ⟨fun h => by rw [if_neg (by omega)], fun h => by rw [if_pos (by omega)]⟩
  · cases h
attribute [push_cast] ckPortOf
theorem low1 {s w : List UInt8} {n : Nat} (h1 : n < s.length) (h2 : n < w.length) : lowL ((s.drop n).take 1) = (w.drop n).take 1 ↔ lowB (s.getD n 0) = w.getD n 0 := by
  rw [dropG (d := 0) h1, dropG (d := 0) h2]
  simp [lowL]
def ckScheme : Ck
  | [.str s] => some (s.length ≤ 2000, .tup [.str (if (schL s).1 = true then s.take ((schL s).2 - 3) else []), .int .i64 (schL s).2, .bool (schL s).1])
  | _ => none
theorem conScheme : Con pg 50 ckScheme := by
  have hct := (ctA_ok conSmallA (ctN_ok _))
  intro args q r h hq
  unfold ckScheme at h
  split at h
  · cases h
    rename_i s
    refine w50 (fun _ => false) [] rfl hct rfl rfl ?_
    push_cast (config := { maxSteps := 10000000 })
    refine LoopW.adj ⟨hct, fol⟩ (by kernel_rfl) [] (fun t : Nat × Nat => [(0, .str s), (3, .int .i64 t.2), (8, .sl 2 (litF [.str (wHttp ++ wSep), .str (wHttps ++ wSep)])), (9, .int .i64 2), (10, .int .i64 t.1)]) (fun _ => []) (fun t => (t.1 = 0 ∧ t.2 = 0) ∨ (t.1 = 1 ∧ t.2 = mt s (wHttp ++ wSep) ∧ t.2 ≠ 7) ∨ (t.1 = 2 ∧ schL s = (false, t.2))) (fun t => 2 - t.1) (0, 0) ?_ fun t ht => ?_
    · push_cast (config := { maxSteps := 10000000 })
      intro i _; rfl
    · obtain ⟨i, m⟩ := t
      have e4 : wHttp.length = 4 := rfl
      have e5 : wHttps.length = 5 := rfl
      have e3 : wSep.length = 3 := rfl
      have e7 : (wHttp ++ wSep).length = 7 := rfl
      have e8 : (wHttps ++ wSep).length = 8 := rfl
      rcases ht with ⟨h1, h2⟩ | ⟨h1, hm, h7'⟩ | ⟨h1, hm⟩
      · obtain rfl : i = 0 := h1
        obtain rfl : m = 0 := h2
        push_cast (config := { maxSteps := 10000000 })
        refine LoopW.adj ⟨hct, fol⟩ (by kernel_rfl) [] (fun n : Nat => [(0, .str s), (3, .int .i64 0), (6, .str (wHttp ++ wSep)), (7, .int .i64 n), (8, .sl 2 (litF [.str (wHttp ++ wSep), .str (wHttps ++ wSep)])), (9, .int .i64 2), (10, .int .i64 0)]) (fun _ => []) (fun n => n ≤ s.length ∧ n ≤ 7 ∧ ∀ j, j < n → lowB (s.getD j 0) = (wHttp ++ wSep).getD j 0) (fun n => 7 - n) 0 ?_ fun n hn => ?_
        · push_cast (config := { maxSteps := 10000000 })
          exact Nat.zero_le _
        · push_cast (config := { maxSteps := 10000000 })
          obtain ⟨n1, n2, n3⟩ := hn
          refine ⟨fun h => ⟨h, by omega, by omega⟩, fun h => ⟨h, ⟨by omega, by omega⟩, by omega, by omega⟩, fun h => ⟨h, by omega⟩, fun h => ⟨h, by omega, by omega⟩, fun h => ⟨h, ⟨by omega, by omega⟩, by omega, by omega⟩, fun h => ?_, fun h => ?_⟩
          · have hc := (low1 (w := wHttp ++ wSep) h.1.2 (by omega)).1 h.2
            refine ⟨⟨by omega, by omega⟩, n + 1, ⟨by omega, by omega, fun j hj => ?_⟩, by omega, by omega⟩
            by_cases e : j = n
            · subst e; exact hc
            · exact n3 j (by omega)
          · have hmt : mt s (wHttp ++ wSep) = n := mt_at n1 (by omega) n3 fun a b x => h ⟨by omega, a⟩ ((low1 (w := wHttp ++ wSep) a b).2 x)
            refine ⟨fun h7 => ?_, fun h7 => ?_⟩
            · have hn : n = 7 := by omega
              subst hn
              have hs : schL s = (true, 7) := by unfold schL; rw [if_pos hmt]
              rw [hs]
              exact ⟨⟨by omega, by omega⟩, ⟨⟨by omega, by omega⟩, by omega⟩, rfl, rfl, rfl⟩
            · exact ⟨((1, n) : Nat × Nat), .inr (.inl ⟨rfl, hmt.symm, by omega⟩), by show 2 - 1 < 2; omega, by show max (0 : Int) n = (n : Int); omega, rfl⟩
      · obtain rfl : i = 1 := h1
        have hm : m = mt s (wHttp ++ wSep) := hm
        have h7' : m ≠ 7 := h7'
        push_cast (config := { maxSteps := 10000000 })
        refine LoopW.adj ⟨hct, fol⟩ (by kernel_rfl) [] (fun n : Nat => [(0, .str s), (3, .int .i64 m), (6, .str (wHttps ++ wSep)), (7, .int .i64 n), (8, .sl 2 (litF [.str (wHttp ++ wSep), .str (wHttps ++ wSep)])), (9, .int .i64 2), (10, .int .i64 1)]) (fun _ => []) (fun n => n ≤ s.length ∧ n ≤ 8 ∧ ∀ j, j < n → lowB (s.getD j 0) = (wHttps ++ wSep).getD j 0) (fun n => 8 - n) 0 ?_ fun n hn => ?_
        · push_cast (config := { maxSteps := 10000000 })
          exact Nat.zero_le _
        · push_cast (config := { maxSteps := 10000000 })
          obtain ⟨n1, n2, n3⟩ := hn
          refine ⟨fun h => ⟨h, by omega, by omega⟩, fun h => ⟨h, ⟨by omega, by omega⟩, by omega, by omega⟩, fun h => ⟨h, by omega⟩, fun h => ⟨h, by omega, by omega⟩, fun h => ⟨h, ⟨by omega, by omega⟩, by omega, by omega⟩, fun h => ?_, fun h => ?_⟩
          · have hc := (low1 (w := wHttps ++ wSep) h.1.2 (by omega)).1 h.2
            refine ⟨⟨by omega, by omega⟩, n + 1, ⟨by omega, by omega, fun j hj => ?_⟩, by omega, by omega⟩
            by_cases e : j = n
            · subst e; exact hc
            · exact n3 j (by omega)
          · have hmt : mt s (wHttps ++ wSep) = n := mt_at n1 (by omega) n3 fun a b x => h ⟨by omega, a⟩ ((low1 (w := wHttps ++ wSep) a b).2 x)
            refine ⟨fun h7 => ?_, fun h7 => ?_⟩
            · have hn : n = 8 := by omega
              subst hn
              have hs : schL s = (true, 8) := by unfold schL; rw [if_neg (by rw [← hm]; exact h7'), if_pos hmt]
              rw [hs]
              exact ⟨⟨by omega, by omega⟩, ⟨⟨by omega, by omega⟩, by omega⟩, rfl, rfl, rfl⟩
            · have hs : schL s = (false, max m n) := by unfold schL; rw [if_neg (by rw [← hm]; exact h7'), if_neg (by rw [hmt]; omega), hmt, ← hm]
              exact ⟨((2, max m n) : Nat × Nat), .inr (.inr ⟨rfl, hs⟩), by show 2 - 2 < 1; omega, by show max (m : Int) n = ((max m n : Nat) : Int); omega, rfl⟩
      · obtain rfl : i = 2 := h1
        have hm : schL s = (false, m) := hm
        push_cast (config := { maxSteps := 10000000 })
        rw [hm]
        exact ⟨rfl, rfl, rfl⟩
  · cases h
attribute [push_cast] ckScheme

/- reading what a site permits: line by line (plain) -/
structure RdS where
  cl : List Grp
  op : Bool
  la : Bool
  ag : List (List UInt8)
  ru : List Rul
  de : Int
  ma : List (List UInt8)
def rd0 : RdS := ⟨[], false, false, [], [], 0, []⟩
/-- all groups, the open one too -/
def rdG (x : RdS) : List Grp := if x.op = true then x.cl ++ [⟨x.ag, x.ru, x.de⟩] else x.cl
def rdOpen (x : RdS) : RdS := if x.op = true ∧ x.la = true then x else ⟨rdG x, true, true, [], [], -1, x.ma⟩
def rdAgent (v : List UInt8) (x : RdS) : RdS := if agentL (lowL v) = true then { rdOpen x with ag := (rdOpen x).ag ++ [lowL v] } else rdOpen x
def gN (x : RdS) : Nat := x.cl.length + (bif x.op then 1 else 0)
def opG (A R a r : Nat) (d : Int) : V := .agg [.vec A a, .vec R r, .int .i64 d]
/-- the groups' row -/
def gF (A R : Nat) (x : RdS) : Nat → V := fun j => bif decide (j < x.cl.length) then lsF cGrp x.cl j else opG A R x.ag.length x.ru.length x.de
/-- the reader's blocks -/
def rdH (x : RdS) (A R G M i : Nat) : HL := [(i, .cells [.vec G (gN x), .vec M x.ma.length, .bool x.op, .bool x.la]), (G, .vec 3 (gN x) (gF A R x)), (M, .vec 1 x.ma.length (lsF cStr x.ma)), (A, .vec 1 x.ag.length (lsF cStr x.ag)), (R, .vec 2 x.ru.length (lsF cRul x.ru))]
theorem gF_lo {A R : Nat} {x : RdS} {j : Nat} (h : j < x.cl.length) : gF A R x j = lsF cGrp x.cl j := by unfold gF; rw [decide_eq_true h]; rfl
theorem gF_hi {A R : Nat} {x : RdS} {j : Nat} (h : ¬ j < x.cl.length) : gF A R x j = opG A R x.ag.length x.ru.length x.de := by unfold gF; rw [decide_eq_false h]; rfl
theorem gF_sh (A R : Nat) (x : RdS) : (fun j => V.shift (gF A R x j)) = gF (A + 9000) (R + 9000) x := by
  funext j
  by_cases h : j < x.cl.length
  · rw [gF_lo h, gF_lo h]; rfl
  · rw [gF_hi h, gF_hi h]; rfl
theorem gF_shm (x : RdS) : (fun j => V.shm (gF 8990 8991 x j)) = gF 8990 8991 x := by
  funext j
  by_cases h : j < x.cl.length
  · rw [gF_lo h]; rfl
  · rw [gF_hi h]; rfl
theorem rdH_sh (x : RdS) (A R G M i : Nat) : (rdH x A R G M i).shift = rdH x (A + 9000) (R + 9000) (G + 9000) (M + 9000) (i + 9000) := by
  unfold rdH
  simp only [HL.shift, Blk.shift, gF_sh]
  rfl
theorem rdH_shm (x : RdS) : (rdH x 8990 8991 16002 16003 16004).shm = rdH x 8990 8991 25002 25003 25004 := by
  unfold rdH
  simp only [HL.shm, Blk.shm, gF_shm]
  rfl
theorem rdH_shm7 (x : RdS) : (rdH x 8990 8991 7002 7003 7004).shm = rdH x 8990 8991 16002 16003 16004 := by
  unfold rdH
  simp only [HL.shm, Blk.shm, gF_shm]
  rfl
def crawlW : List UInt8 := [99, 114, 97, 119, 108, 45, 100, 101, 108, 97, 121]
def allowW : List UInt8 := [97, 108, 108, 111, 119]
def disW : List UInt8 := [100, 105, 115, 97, 108, 108, 111, 119]
def uaW : List UInt8 := [117, 115, 101, 114, 45, 97, 103, 101, 110, 116]
def siteW : List UInt8 := [115, 105, 116, 101, 109, 97, 112]
def rdRule (w v : List UInt8) (x : RdS) : RdS :=
  if x.op = false then x
  else if w = crawlW then (if ((1 ≤ v.length ∧ v.length ≤ 5) ∧ v.all isDg = true) ∧ x.de < 0 then { x with la := false, de := (natOf v : Int) } else { x with la := false })
  else if patOk v = true then { x with la := false, ru := x.ru ++ [⟨decide (w = allowW), v⟩] } else { x with la := false }
/-- what a line says: a word and a value -/
def lnW (s : List UInt8) : List UInt8 := lowL (Lib.trimRightS (Lib.cut (Lib.trimS (Lib.cut s [35]).1 [32, 9]) [58]).1 [32, 9])
def lnV (s : List UInt8) : List UInt8 := Lib.trimLeftS (Lib.cut (Lib.trimS (Lib.cut s [35]).1 [32, 9]) [58]).2.1 [32, 9]
def lnB (s : List UInt8) : Bool := (Lib.cut (Lib.trimS (Lib.cut s [35]).1 [32, 9]) [58]).2.2
def rdLine (s : List UInt8) (x : RdS) : RdS :=
  if lnB s = false then x
  else if lnW s = uaW then rdAgent (lnV s) x
  else if lnW s = allowW ∨ lnW s = disW ∨ lnW s = crawlW then rdRule (lnW s) (lnV s) x
  else if lnW s = siteW ∧ (readA (lnV s)).2.2 = 0 then { x with ma := x.ma ++ [lnV s] } else x
/-- what it is worth while: bounds -/
structure RdOk (x : RdS) (n : Nat) : Prop where
  cl : x.cl.length ≤ n
  ag : x.ag.length ≤ n
  ru : x.ru.length ≤ n
  ma : x.ma.length ≤ n
  op : x.op = false → x.cl = [] ∧ x.la = false
theorem rd0_ok : RdOk rd0 0 := ⟨Nat.le_refl _, Nat.le_refl _, Nat.le_refl _, Nat.le_refl _, fun _ => ⟨rfl, rfl⟩⟩
theorem RdOk.up {x : RdS} {n m : Nat} (h : RdOk x n) (hm : n ≤ m) : RdOk x m := ⟨by have := h.cl; omega, by have := h.ag; omega, by have := h.ru; omega, by have := h.ma; omega, h.op⟩
theorem rdG_len (x : RdS) : (rdG x).length = gN x := by
  unfold rdG gN
  cases x.op <;> simp
theorem open_ok {x : RdS} {n : Nat} (h : RdOk x n) : RdOk (rdOpen x) (n + 1) := by
  unfold rdOpen
  split
  · exact h.up (by omega)
  · refine ⟨?_, Nat.zero_le _, Nat.zero_le _, by have := h.ma; show x.ma.length ≤ _; omega, fun h => by cases h⟩
    show (rdG x).length ≤ n + 1
    have := h.cl
    unfold rdG
    split
    · rw [List.length_append, List.length_singleton]; omega
    · omega
theorem line_ok {s : List UInt8} {x : RdS} {n : Nat} (h : RdOk x n) : RdOk (rdLine s x) (n + 2) := by
  have h2 : RdOk x (n + 2) := h.up (by omega)
  have ho : RdOk (rdOpen x) (n + 1) := open_ok h
  unfold rdLine
  split
  · exact h2
  · split
    · unfold rdAgent
      split
      · refine ⟨by have := ho.cl; show (rdOpen x).cl.length ≤ _; omega, ?_, by have := ho.ru; show (rdOpen x).ru.length ≤ _; omega, by have := ho.ma; show (rdOpen x).ma.length ≤ _; omega, ho.op⟩
        show ((rdOpen x).ag ++ [lowL (lnV s)]).length ≤ _
        have := ho.ag
        rw [List.length_append, List.length_singleton]; omega
      · exact ho.up (by omega)
    · split
      · unfold rdRule
        split
        · exact h2
        · rename_i hop
          have hop' : ∀ l : Bool, x.op = false → x.cl = [] ∧ l = false := fun l e => absurd e hop
          split
          · split
            · exact ⟨h2.cl, h2.ag, h2.ru, h2.ma, hop' _⟩
            · exact ⟨h2.cl, h2.ag, h2.ru, h2.ma, hop' _⟩
          · split
            · refine ⟨h2.cl, h2.ag, ?_, h2.ma, hop' _⟩
              show (x.ru ++ [_]).length ≤ _
              have := h.ru
              rw [List.length_append, List.length_singleton]; omega
            · exact ⟨h2.cl, h2.ag, h2.ru, h2.ma, hop' _⟩
      · split
        · refine ⟨h2.cl, h2.ag, h2.ru, ?_, h2.op⟩
          show (x.ma ++ [_]).length ≤ _
          have := h.ma
          rw [List.length_append, List.length_singleton]; omega
        · exact h2
def rdB (x : RdS) (A R G M : Nat) : List Blk := [.cells [.vec G (gN x), .vec M x.ma.length, .bool x.op, .bool x.la], .vec 3 (gN x) (gF A R x), .vec 1 x.ma.length (lsF cStr x.ma), .vec 1 x.ag.length (lsF cStr x.ag), .vec 2 x.ru.length (lsF cRul x.ru)]
theorem gF_in {p : Nat → Bool} {A R : Nat} {x : RdS} (hA : p A = true) (hR : p R = true) (j : Nat) : V.menInL p (gF A R x j).flat = true := by
  by_cases h : j < x.cl.length
  · rw [gF_lo h]; rfl
  · rw [gF_hi h]
    show V.menInL p [.vec A _, .vec R _, .int .i64 _] = true
    simp [V.menInL, V.menIn, hA, hR]
theorem rdH_hl {p : Nat → Bool} {x : RdS} {A R G M i : Nat} (hi : p i = true) (hG : p G = true) (hM : p M = true) (hA : p A = true) (hR : p R = true) : hlIn p (rdH x A R G M i) := by
  refine ⟨hi, ?_, hG, fun j _ => gF_in hA hR j, hM, fun j _ => rfl, hA, fun j _ => rfl, hR, fun j _ => rfl, trivial⟩
  show V.menInL p [.vec G _, .vec M _, .bool _, .bool _] = true
  simp [V.menInL, V.menIn, hG, hM]
theorem gN_op {x : RdS} (h : x.op = true) : gN x = x.cl.length + 1 := by unfold gN; rw [h]; rfl
attribute [push_cast] rdB
@[push_cast] theorem gF_at (A R : Nat) (x : RdS) : gF A R x x.cl.length = .agg [.vec A x.ag.length, .vec R x.ru.length, .int .i64 x.de] := gF_hi (Nat.lt_irrefl _)
theorem gF_ren (x : RdS) (i : Nat) : V.ren 25001 8991 (V.kill 8991 (V.ren 25000 8990 (V.kill 8990 (gF 25000 25001 x i)))) = gF 8990 8991 x i := by
  by_cases h : i < x.cl.length
  · rw [gF_lo h, gF_lo h]; rfl
  · rw [gF_hi h, gF_hi h]; rfl
theorem gF_kl {d A R : Nat} (x : RdS) (h1 : A ≠ d) (h2 : R ≠ d) (j : Nat) : V.kill d (gF A R x j) = gF A R x j := by
  by_cases h : j < x.cl.length
  · rw [gF_lo h]; rfl
  · rw [gF_hi h]
    unfold opG
    have e1 : (A == d) = false := by simpa using h1
    have e2 : (R == d) = false := by simpa using h2
    simp only [V.kill, V.killL, e1, e2, cond_false]
theorem rdH_k6 (x : RdS) : killHL 8990 (killHL 8991 (rdH x 16000 16001 16002 16003 16004)) = rdH x 16000 16001 16002 16003 16004 := by
  have e : (fun j => V.kill 8990 (V.kill 8991 (gF 16000 16001 x j))) = gF 16000 16001 x := by
    funext j
    rw [gF_kl x (by decide) (by decide), gF_kl x (by decide) (by decide)]
  unfold rdH
  show [_, (16002, Blk.vec 3 (gN x) fun j => V.kill 8990 (V.kill 8991 (gF 16000 16001 x j))), _, _, _] = _
  rw [e]
  rfl
theorem rdH_k7 (x : RdS) : killHL 8990 (killHL 8991 (rdH x 7000 7001 7002 7003 7004)) = rdH x 7000 7001 7002 7003 7004 := by
  have e : (fun j => V.kill 8990 (V.kill 8991 (gF 7000 7001 x j))) = gF 7000 7001 x := by
    funext j
    rw [gF_kl x (by decide) (by decide), gF_kl x (by decide) (by decide)]
  unfold rdH
  show [_, (7002, Blk.vec 3 (gN x) fun j => V.kill 8990 (V.kill 8991 (gF 7000 7001 x j))), _, _, _] = _
  rw [e]
  rfl
theorem subH_self (x : RdS) {A R G M i : Nat} (h : [i, G, M, A, R].Nodup) : subH (hOf (rdH x A R G M i)) (rdH x A R G M i) := by
  simp only [List.nodup_cons, List.mem_cons, List.mem_nil_iff, or_false, not_or] at h
  obtain ⟨⟨h1, h2, h3, h4⟩, ⟨h5, h6, h7⟩, ⟨h8, h9⟩, h10, -⟩ := h
  unfold rdH
  simp only [subH, hOf]
  refine ⟨upd_same _ _ _, ?_, ?_, ?_, ?_, trivial⟩
  · rw [upd_ne _ _ (Ne.symm h1), upd_same]
  · rw [upd_ne _ _ (Ne.symm h2), upd_ne _ _ (Ne.symm h5), upd_same]
  · rw [upd_ne _ _ (Ne.symm h3), upd_ne _ _ (Ne.symm h6), upd_ne _ _ (Ne.symm h8), upd_same]
  · rw [upd_ne _ _ (Ne.symm h4), upd_ne _ _ (Ne.symm h7), upd_ne _ _ (Ne.symm h9), upd_ne _ _ (Ne.symm h10), upd_same]
theorem gF_ren6 (x : RdS) (i : Nat) : V.ren 16001 8991 (V.kill 8991 (V.ren 16000 8990 (V.kill 8990 (gF 16000 16001 x i)))) = gF 8990 8991 x i := by
  by_cases h : i < x.cl.length
  · rw [gF_lo h, gF_lo h]; rfl
  · rw [gF_hi h, gF_hi h]; rfl

/-- a string in which a byte is replaced -/
def rep1 (c : UInt8) (n s : List UInt8) : List UInt8 := (s.map fun x => if x = c then n else [x]).flatten
theorem rep1_cons (c : UInt8) (n : List UInt8) (b : UInt8) (l : List UInt8) : rep1 c n (b :: l) = (if b = c then n else [b]) ++ rep1 c n l := rfl
theorem rep1_app (c : UInt8) (n a b : List UInt8) : rep1 c n (a ++ b) = rep1 c n a ++ rep1 c n b := by
  unfold rep1; rw [List.map_append, List.flatten_append]
theorem rep1_self (c : UInt8) : ∀ s : List UInt8, rep1 c [c] s = s
  | [] => rfl
  | b :: l => by
    rw [rep1_cons, rep1_self c l]
    split
    · rename_i h; rw [h]; rfl
    · rfl
theorem index1_eq (c : UInt8) (l : List UInt8) : Lib.index (c :: l) [c] = ((0 : Nat) : Int) := by rw [Lib.index]; simp [List.isPrefixOf]
theorem index1_ne {b c : UInt8} (l : List UInt8) (h : b ≠ c) : Lib.index (b :: l) [c] = if Lib.index l [c] == -1 then -1 else Lib.index l [c] + 1 := by
  have hp : ([c] : List UInt8).isPrefixOf (b :: l) = false := by simp [List.isPrefixOf, Ne.symm h]
  rw [Lib.index, hp]; simp
theorem replaceK_one (c : UInt8) (n : List UInt8) : ∀ s : List UInt8, Lib.replaceK [c] n (Lib.count s [c]) s = rep1 c n s
  | [] => by rw [Lib.count_miss (by simp [Lib.index])]; rfl
  | b :: l => by
    have ih := replaceK_one c n l
    rw [rep1_cons]
    by_cases h : b = c
    · subst h
      rw [Lib.count_cons_eq, Nat.add_comm, Lib.replaceK_hit _ _ _ _ 0 (index1_eq b l), if_pos rfl]
      show [] ++ n ++ Lib.replaceK [b] n _ l = _
      rw [ih]; rfl
    · rw [Lib.count_cons_ne b c l h, if_neg h, ← ih]
      cases hk : Lib.count l [c] with
      | zero => rfl
      | succ k =>
        obtain ⟨i, hi⟩ := Lib.index_of_count (s := l) (old := [c]) (by omega)
        have e : Lib.index (b :: l) [c] = ((i + 1 : Nat) : Int) := by
          rw [index1_ne l h, if_neg (fun e => by rw [hi] at e; have := beq_iff_eq.1 e; omega), hi]; omega
        rw [Lib.replaceK_hit _ _ _ _ _ e, Lib.replaceK_hit _ _ _ _ _ hi]
        simp only [List.take_succ_cons, List.cons_append, List.nil_append]
        congr 2
theorem replaceAll_one (c : UInt8) (n s : List UInt8) : Lib.replaceAll s [c] n = rep1 c n s := by
  unfold Lib.replaceAll Lib.replace
  by_cases h : ([c] : List UInt8) = n
  · rw [if_pos (beq_iff_eq.2 h), ← h, rep1_self]
  · rw [if_neg (fun e => h (beq_iff_eq.1 e))]
    unfold Lib.replaceNum
    rw [if_pos (Or.inl (by decide)), replaceK_one]
theorem rep1_len (c : UInt8) (n : List UInt8) (h : 1 ≤ n.length) : ∀ s : List UInt8, (rep1 c n s).length ≤ n.length * s.length
  | [] => Nat.zero_le _
  | b :: l => by
    have ih := rep1_len c n h l
    rw [rep1_cons, List.length_append, List.length_cons, Nat.mul_succ]
    have : (if b = c then n else [b]).length ≤ n.length := by
      split
      · exact Nat.le_refl _
      · exact h
    omega
theorem count1_le (c : UInt8) (s : List UInt8) : Lib.count s [c] ≤ s.length := by rw [Lib.count_one]; exact List.count_le_length
def ckReplaceAll : Ck
  | [.str s, .str [c], .str n] => some (s.length ≤ 40000000 ∧ n.length ≤ 1000, .str (rep1 c n s))
  | _ => none
theorem conReplaceAll : Con pg 29 ckReplaceAll := by
  intro args q r h hq
  unfold ckReplaceAll at h
  split at h
  · cases h
    rename_i s c n
    refine pcall_shelf (by kernel_rfl) rfl fun w hw => ?_
    obtain ⟨m, hm⟩ := maxLen hw
    refine (Tryz.strings_ReplaceAll ⟨s.toArray⟩ ⟨#[c]⟩ ⟨n.toArray⟩ m w (by show s.toArray.size < _; simp; omega) hm (Nat.le_refl 1) ?_).mono fun e w' h => ?_
    · show s.toArray.size + Lib.count s.toArray.toList [c] * n.toArray.size ≤ _
      have h1 := count1_le c s
      have : Lib.count s [c] * n.length ≤ 40000000 * 1000 := Nat.mul_le_mul (by omega) (by omega)
      simp only [List.size_toArray, List.toList_toArray]; omega
    · have e := replaceAll_one c n s
      exact shelf_str (by rw [← e]; exact h.1) (grow_below h.2)
  · cases h
attribute [push_cast] ckReplaceAll

/- elements taken out of a row (plain), by any test -/
section
variable {α : Type} (gone : α → Bool)
def keepA (l : List α) : List α := l.filter fun r => !gone r
def delA (l : List α) (j : Nat) : List α := keepA gone (l.take j) ++ l.drop (keepA gone (l.take j)).length
def fstA (l : List α) : Int := match l.findIdx? gone with
  | some k => k
  | none => -1
variable {gone}
theorem fstA_at {l : List α} {i : Nat} {d : α} (hi : i < l.length) (hg : gone (l.getD i d) = true) (hn : ∀ j, j < i → gone (l.getD j d) = false) : fstA gone l = i := by
  unfold fstA
  have : l.findIdx? gone = some i := by
    rw [List.findIdx?_eq_some_iff_getElem]
    refine ⟨hi, ?_, fun j hj => ?_⟩
    · rw [List.getD_eq_getElem?_getD, List.getElem?_eq_getElem hi] at hg; exact hg
    · have h1 := hn j hj
      rw [List.getD_eq_getElem?_getD, List.getElem?_eq_getElem (by omega)] at h1
      simpa using h1
  rw [this]
theorem fstA_no {l : List α} {d : α} (hn : ∀ j, j < l.length → gone (l.getD j d) = false) : fstA gone l = -1 := by
  unfold fstA
  have : l.findIdx? gone = none := by
    rw [List.findIdx?_eq_none_iff]
    intro x hx
    obtain ⟨j, hj, rfl⟩ := List.getElem_of_mem hx
    have h1 := hn j hj
    rw [List.getD_eq_getElem?_getD, List.getElem?_eq_getElem hj] at h1
    exact h1
  rw [this]
theorem fstA_b (l : List α) (d : α) : (fstA gone l = -1 ∧ ∀ x ∈ l, gone x = false) ∨ ∃ k : Nat, fstA gone l = k ∧ k < l.length ∧ (∀ x ∈ l.take k, gone x = false) ∧ gone (l.getD k d) = true := by
  unfold fstA
  cases e : l.findIdx? gone with
  | none => exact .inl ⟨rfl, List.findIdx?_eq_none_iff.1 e⟩
  | some k =>
    rw [List.findIdx?_eq_some_iff_getElem] at e
    obtain ⟨hk, h1, h2⟩ := e
    refine .inr ⟨k, rfl, hk, fun x hx => ?_, ?_⟩
    · obtain ⟨j, hj, rfl⟩ := List.getElem_of_mem hx
      rw [List.length_take] at hj
      have := h2 j (by omega)
      rw [List.getElem_take]
      simpa using this
    · rw [List.getD_eq_getElem?_getD, List.getElem?_eq_getElem hk]; exact h1
theorem keepA_le (l : List α) (j : Nat) (hj : j ≤ l.length) : (keepA gone (l.take j)).length ≤ j := by
  have := List.length_filter_le (fun r => !gone r) (l.take j)
  rw [List.length_take] at this
  unfold keepA; omega
theorem delA_len (l : List α) (j : Nat) (hj : j ≤ l.length) : (delA gone l j).length = l.length := by
  have := keepA_le (gone := gone) l j hj
  unfold delA
  rw [List.length_append, List.length_drop]; omega
theorem delA_at {l : List α} {j : Nat} {d : α} (hj : j < l.length) : (delA gone l j).getD j d = l.getD j d := by
  have := keepA_le (gone := gone) l j (by omega)
  unfold delA
  rw [List.getD_eq_getElem?_getD, List.getD_eq_getElem?_getD, List.getElem?_append_right this, List.getElem?_drop]
  congr 2; omega
theorem keepA_succ {l : List α} {j : Nat} {d : α} (hj : j < l.length) : keepA gone (l.take (j + 1)) = if gone (l.getD j d) = true then keepA gone (l.take j) else keepA gone (l.take j) ++ [l.getD j d] := by
  have e : l.getD j d = l[j] := by rw [List.getD_eq_getElem?_getD, List.getElem?_eq_getElem hj]; rfl
  rw [List.take_succ_eq_append_getElem hj, e]
  unfold keepA
  rw [List.filter_append, List.filter_cons]
  cases gone l[j] <;> simp
theorem delA_gone {l : List α} {j : Nat} {d : α} (hj : j < l.length) (hg : gone (l.getD j d) = true) : delA gone l (j + 1) = delA gone l j := by
  unfold delA; rw [keepA_succ (d := d) hj, if_pos hg]
theorem delA_put {c : Cod α} {l : List α} {j : Nat} (hj : j < l.length) (hg : ¬ gone (l.getD j c.d) = true) (i : Nat) : setF (lsF c (delA gone l j)) (keepA gone (l.take j)).length (c.enc (l.getD j c.d)) i = lsF c (delA gone l (j + 1)) i := by
  have hk := keepA_le (gone := gone) l j (by omega)
  unfold delA
  rw [keepA_succ (d := c.d) hj, if_neg hg]
  generalize keepA gone (l.take j) = a at hk ⊢
  generalize l.getD j c.d = r
  unfold setF lsF
  show _ = c.enc _
  by_cases e : i = a.length
  · rw [decide_eq_true e, cond_true]; subst e; simp
  · rw [decide_eq_false e, cond_false]
    show c.enc _ = c.enc _
    congr 1
    rw [List.getD_eq_getElem?_getD, List.getD_eq_getElem?_getD, List.length_append, List.length_singleton]
    by_cases e2 : i < a.length
    · rw [List.getElem?_append_left e2, List.getElem?_append_left (by simp; omega), List.getElem?_append_left e2]
    · rw [List.getElem?_append_right (by omega), List.getElem?_append_right (by simp; omega), List.getElem?_drop, List.getElem?_drop, List.length_append, List.length_singleton]
      congr 2; omega
theorem keepA_none {l : List α} (hn : ∀ x ∈ l, gone x = false) : keepA gone l = l := by
  unfold keepA
  rw [List.filter_eq_self]
  intro x hx; rw [hn x hx]; rfl
theorem delA_begin {l : List α} {k : Nat} (hk : k ≤ l.length) (hn : ∀ x ∈ l.take k, gone x = false) : delA gone l k = l ∧ (keepA gone (l.take k)).length = k := by
  have e := keepA_none hn
  unfold delA
  rw [e, List.length_take, Nat.min_eq_left hk, List.take_append_drop]
  exact ⟨rfl, rfl⟩
theorem delA_end {c : Cod α} {l : List α} (i : Nat) (hi : i < (keepA gone l).length) : lsF c (delA gone l l.length) i = lsF c (keepA gone l) i := by
  unfold lsF delA
  rw [List.take_length]
  show c.enc _ = c.enc _
  rw [List.getD_eq_getElem?_getD, List.getD_eq_getElem?_getD, List.getElem?_append_left hi]
end

/- reading what a site permits: all of it (plain) -/
def goneG (g : Grp) : Bool := decide (g.ag.length = 0)
theorem spl_two : ∀ t : List UInt8, (spl 10 t).flatMap (spl 13) = spl 10 (rep1 13 [10] t)
  | [] => rfl
  | x :: t => by
    have ih := spl_two t
    rw [rep1_cons]
    by_cases h10 : x = 10
    · subst h10
      rw [if_neg (by decide), spl, if_pos rfl]
      show spl 13 [] ++ (spl 10 t).flatMap (spl 13) = spl 10 (10 :: rep1 13 [10] t)
      rw [ih]
      rfl
    · cases hs : spl 10 t with
      | nil => exact absurd hs (spl_ne 10 t)
      | cons a r =>
        rw [hs] at ih
        have ih : spl 13 a ++ r.flatMap (spl 13) = spl 10 (rep1 13 [10] t) := ih
        have e : spl 10 (x :: t) = (x :: a) :: r := by rw [spl, if_neg h10, hs]; rfl
        rw [e]
        show spl 13 (x :: a) ++ r.flatMap (spl 13) = _
        by_cases h13 : x = 13
        · subst h13
          rw [if_pos rfl]
          show (if (13 : UInt8) = 13 then [] :: spl 13 a else _) ++ _ = spl 10 (10 :: rep1 13 [10] t)
          rw [if_pos rfl, ← List.singleton_append, List.append_assoc, ih]
          rfl
        · rw [if_neg h13]
          show _ = spl 10 (x :: rep1 13 [10] t)
          have e1 : spl 13 (x :: a) = (x :: (spl 13 a).headD []) :: (spl 13 a).tail := by rw [spl, if_neg h13]
          have e2 : spl 10 (x :: rep1 13 [10] t) = (x :: (spl 10 (rep1 13 [10] t)).headD []) :: (spl 10 (rep1 13 [10] t)).tail := by rw [spl, if_neg h10]
          rw [e1, e2, ← ih]
          cases hs2 : spl 13 a with
          | nil => exact absurd hs2 (spl_ne 13 a)
          | cons b q => rfl
/-- the lines -/
def rdLs (t : List UInt8) : List (List UInt8) := splitL (rep1 13 [10] t) 10
theorem rdLs_two (t : List UInt8) : (splitL t 10).flatMap (fun a => splitL a 13) = rdLs t := by
  have e : (fun a => splitL a 13) = spl 13 := by funext a; exact splitL_eq a 13
  unfold rdLs
  rw [e, splitL_eq, splitL_eq, spl_two]
theorem rep1_one (c d : UInt8) : ∀ s : List UInt8, (rep1 c [d] s).length = s.length
  | [] => rfl
  | x :: t => by
    rw [rep1_cons, List.length_append, rep1_one c d t]
    split <;> simp only [List.length_cons, List.length_nil] <;> omega
theorem rdLs_len (t : List UInt8) : (rdLs t).length ≤ t.length + 1 := by
  have := splitL_le (rep1 13 [10] t) 10
  rw [rep1_one] at this
  exact this
/-- what is known when such lines are read -/
def rdF (L : List (List UInt8)) : RdS := L.foldl (fun x s => rdLine s x) rd0
theorem rdF_app (L M : List (List UInt8)) : rdF (L ++ M) = M.foldl (fun x s => rdLine s x) (rdF L) := List.foldl_append ..
theorem rdF_one (L : List (List UInt8)) (s : List UInt8) : rdF (L ++ [s]) = rdLine s (rdF L) := rdF_app L [s]
theorem rdFold_ok : ∀ (L : List (List UInt8)) (x : RdS) (n : Nat), RdOk x n → RdOk (L.foldl (fun x s => rdLine s x) x) (n + 2 * L.length)
  | [], _, _, h => h
  | s :: L, x, n, h => (rdFold_ok L (rdLine s x) (n + 2) (line_ok h)).up (by rw [List.length_cons]; omega)
theorem rdF_ok (L : List (List UInt8)) : RdOk (rdF L) (2 * L.length) := (rdFold_ok L rd0 0 rd0_ok).up (by omega)
/-- after so many pieces, and so many lines of the next -/
def rdAt (P : List (List UInt8)) (i : Nat) (Q : List (List UInt8)) (j : Nat) : RdS := rdF ((P.take i).flatMap (fun a => splitL a 13) ++ Q.take j)
theorem rdAt_succ {P Q : List (List UInt8)} {i j : Nat} (h : j < Q.length) : rdAt P i Q (j + 1) = rdLine (Q.getD j []) (rdAt P i Q j) := by
  unfold rdAt
  rw [takeG (d := []) h, ← List.append_assoc, rdF_one]
theorem rdAt_next {P : List (List UInt8)} {i : Nat} (h : i < P.length) : rdAt P i (splitL (P.getD i []) 13) (splitL (P.getD i []) 13).length = rdAt P (i + 1) [] 0 := by
  unfold rdAt
  rw [takeG (d := []) h, List.flatMap_append, List.take_length, List.take_nil, List.append_nil]
  simp
theorem rdAt_zero (P Q : List (List UInt8)) (i : Nat) : rdAt P i Q 0 = rdAt P i [] 0 := by
  unfold rdAt
  rw [List.take_zero, List.take_zero]
theorem rdAt_end {t : List UInt8} : rdAt (splitL t 10) (splitL t 10).length [] 0 = rdF (rdLs t) := by
  unfold rdAt
  rw [List.take_length, List.take_zero, List.append_nil, rdLs_two]
theorem rdAt_ok {t : List UInt8} {i j : Nat} (h : i < (splitL t 10).length) (ht : t.length ≤ 100000) : RdOk (rdAt (splitL t 10) i (splitL ((splitL t 10).getD i []) 13) j) 1000000 := by
  have h1 := rdLs_len t
  rw [← rdLs_two] at h1
  generalize splitL t 10 = P at h h1 ⊢
  unfold rdAt
  refine (rdF_ok _).up ?_
  have e : P = P.take i ++ P.getD i [] :: P.drop (i + 1) := by rw [← dropG h, List.take_append_drop]
  rw [e, List.flatMap_append, List.flatMap_cons, List.length_append, List.length_append] at h1
  rw [List.length_append, List.length_take]
  have e2 : (P.take i ++ P.getD i [] :: P.drop (i + 1)).getD i [] = P.getD i [] := by rw [← e]
  omega
def fullG (g : Grp) : Bool := decide (50 < g.ag.length ∨ 200 < g.ru.length)
/-- is there too much of something? -/
def fullR (G : List Grp) (M : List (List UInt8)) : Bool := decide (100 < G.length ∨ 100 < M.length) || G.any fullG
def robOf (x : RdS) : Rob × Int := if fullR (keepA goneG (rdG x)) x.ma = true then (noRob, 16) else (⟨keepA goneG (rdG x), x.ma⟩, 0)
def robRead (t : List UInt8) : Rob × Int := if 100000 < t.length then (noRob, 2) else robOf (rdF (rdLs t))
def ckRobRead : Ck
  | [.str t] => some (t.length ≤ 140737488355328, .tup [.agg [.sl (robRead t).1.gr.length (lsF cGrp (robRead t).1.gr), .sl (robRead t).1.ma.length (lsF cStr (robRead t).1.ma)], .int .i64 (robRead t).2])
  | _ => none

/- what is read is right (plain) -/
structure GrpC (g : Grp) : Prop where
  ag : ∀ a ∈ g.ag, agentL a = true
  ru : ∀ r ∈ g.ru, patOk r.pa = true
  d1 : -1 ≤ g.de
  d2 : g.de ≤ 99999
structure RdC (x : RdS) : Prop where
  cl : ∀ g ∈ x.cl, GrpC g
  op : GrpC ⟨x.ag, x.ru, x.de⟩
  ma : ∀ s ∈ x.ma, adrB s = true
theorem no_el {α : Type} {p : α → Prop} : ∀ x ∈ ([] : List α), p x := fun _ h => by cases h
theorem rd0_c : RdC rd0 := ⟨no_el, ⟨no_el, no_el, by decide, by decide⟩, no_el⟩
theorem rdG_c {x : RdS} (h : RdC x) : ∀ g ∈ rdG x, GrpC g := fun g hg => by
  unfold rdG at hg
  split at hg
  · rcases List.mem_append.1 hg with hg | hg
    · exact h.cl g hg
    · rw [List.mem_singleton.1 hg]; exact h.op
  · exact h.cl g hg
theorem open_c {x : RdS} (h : RdC x) : RdC (rdOpen x) := by
  unfold rdOpen
  split
  · exact h
  · exact ⟨rdG_c h, ⟨no_el, no_el, by show (-1 : Int) ≤ -1; decide, by show (-1 : Int) ≤ 99999; decide⟩, h.ma⟩
theorem line_c {s : List UInt8} {x : RdS} (h : RdC x) : RdC (rdLine s x) := by
  have ho := open_c h
  unfold rdLine
  split
  · exact h
  · split
    · unfold rdAgent
      split
      · rename_i ha
        refine ⟨ho.cl, ⟨fun a h1 => ?_, ho.op.ru, ho.op.d1, ho.op.d2⟩, ho.ma⟩
        rcases List.mem_append.1 h1 with h1 | h1
        · exact ho.op.ag a h1
        · rw [List.mem_singleton.1 h1]; exact ha
      · exact ho
    · split
      · unfold rdRule
        split
        · exact h
        · split
          · split
            · rename_i hd
              have h1 := natOf_lt (lnV s) hd.1.2
              have h2 : 10 ^ (lnV s).length ≤ 10 ^ 5 := Nat.pow_le_pow_right (by decide) hd.1.1.2
              exact ⟨h.cl, ⟨h.op.ag, h.op.ru, by show (-1 : Int) ≤ (natOf (lnV s) : Int); omega, by show (natOf (lnV s) : Int) ≤ 99999; omega⟩, h.ma⟩
            · exact ⟨h.cl, h.op, h.ma⟩
          · split
            · rename_i hp
              refine ⟨h.cl, ⟨h.op.ag, fun r h1 => ?_, h.op.d1, h.op.d2⟩, h.ma⟩
              rcases List.mem_append.1 h1 with h1 | h1
              · exact h.op.ru r h1
              · rw [List.mem_singleton.1 h1]; exact hp
            · exact ⟨h.cl, h.op, h.ma⟩
      · split
        · rename_i hs
          refine ⟨h.cl, h.op, fun m h1 => ?_⟩
          rcases List.mem_append.1 h1 with h1 | h1
          · exact h.ma m h1
          · rw [List.mem_singleton.1 h1]; exact decide_eq_true hs.2
        · exact h
theorem rdFold_c : ∀ (L : List (List UInt8)) (x : RdS), RdC x → RdC (L.foldl (fun x s => rdLine s x) x)
  | [], _, h => h
  | s :: L, x, h => rdFold_c L (rdLine s x) (line_c h)
theorem rdF_c (L : List (List UInt8)) : RdC (rdF L) := rdFold_c L rd0 rd0_c
theorem grpC_chk {g : Grp} (h : GrpC g) (h1 : ¬ g.ag.length = 0) (h2 : fullG g = false) : checkGrpL g = 0 := by
  have h3 : ¬ (50 < g.ag.length ∨ 200 < g.ru.length) := of_decide_eq_false h2
  unfold checkGrpL
  rw [if_neg h1, if_neg (by omega), if_neg (by rw [List.all_eq_true.2 h.ag]; simp), if_neg (by omega), if_neg (by rw [List.all_eq_true.2 h.ru]; simp), if_neg (by have := h.d1; have := h.d2; omega)]
theorem grpsE_zero : ∀ {G : List Grp}, (∀ g ∈ G, checkGrpL g = 0) → grpsE G = 0
  | [], _ => rfl
  | g :: G, h => by
    rw [grpsE, if_pos (h g List.mem_cons_self)]
    exact grpsE_zero fun x hx => h x (List.mem_cons_of_mem _ hx)
theorem adrRd_len {s : List UInt8} (h : adrB s = true) : s.length ≤ 2000 := by
  have h : (readA s).2.2 = 0 := of_decide_eq_true h
  unfold readA at h
  by_cases h1 : 2000 < s.length
  · rw [if_pos h1] at h; cases h
  · omega
theorem agRd_len {s : List UInt8} (h : agentL s = true) : s.length ≤ 40 := by
  unfold agentL at h
  simp only [Bool.or_eq_true, beq_iff_eq, Bool.and_eq_true, decide_eq_true_eq] at h
  rcases h with rfl | h
  · decide
  · exact h.1.2
/-- what is right is not too long -/
theorem chkRd_b {r : Rob} (h : checkRobL r = 0) : r.gr.length ≤ 100 ∧ r.ma.length ≤ 100 ∧ (∀ g ∈ r.gr, checkGrpL g = 0) ∧ ∀ s ∈ r.ma, adrB s = true := by
  unfold checkRobL at h
  split at h
  · cases h
  · split at h
    · rename_i h2
      split at h
      · cases h
      · split at h
        · rename_i h4
          have key : ∀ {G : List Grp}, grpsE G = 0 → ∀ g ∈ G, checkGrpL g = 0 := by
            intro G
            induction G with
            | nil => intro _ g hg; cases hg
            | cons a G ih =>
              intro h g hg
              rw [grpsE] at h
              split at h
              · rename_i ha
                rcases List.mem_cons.1 hg with rfl | hg
                · exact ha
                · exact ih h g hg
              · rename_i ha; exact absurd h ha
          exact ⟨by omega, by omega, key h2, List.all_eq_true.1 h4⟩
        · cases h
    · rename_i h2; exact absurd h h2
theorem chkRd_grp {g : Grp} (h : checkGrpL g = 0) : 1 ≤ g.ag.length ∧ g.ag.length ≤ 50 ∧ (∀ a ∈ g.ag, agentL a = true) ∧ g.ru.length ≤ 200 ∧ (∀ r ∈ g.ru, patOk r.pa = true) ∧ -1 ≤ g.de ∧ g.de ≤ 99999 := by
  unfold checkGrpL at h
  by_cases h1 : g.ag.length = 0
  · rw [if_pos h1] at h; cases h
  rw [if_neg h1] at h
  by_cases h2 : 50 < g.ag.length
  · rw [if_pos h2] at h; cases h
  rw [if_neg h2] at h
  by_cases h3 : g.ag.all agentL = false
  · rw [if_pos h3] at h; cases h
  rw [if_neg h3] at h
  by_cases h4 : 200 < g.ru.length
  · rw [if_pos h4] at h; cases h
  rw [if_neg h4] at h
  by_cases h5 : (g.ru.all fun r => patOk r.pa) = false
  · rw [if_pos h5] at h; cases h
  rw [if_neg h5] at h
  by_cases h6 : g.de < -1 ∨ 99999 < g.de
  · rw [if_pos h6] at h; cases h
  exact ⟨by omega, by omega, List.all_eq_true.1 (by simpa using h3), by omega, List.all_eq_true.1 (by simpa using h5), by omega, by omega⟩
theorem chkRd_ok {r : Rob} (h : checkRobL r = 0) : robOk r := by
  obtain ⟨h1, h2, h3, h4⟩ := chkRd_b h
  refine ⟨by omega, fun g hg => ?_, by omega, fun s hs => by have := adrRd_len (h4 s hs); omega⟩
  obtain ⟨a1, a2, a3, a4, a5, a6, a7⟩ := chkRd_grp (h3 g hg)
  exact ⟨by omega, fun a ha => by have := agRd_len (a3 a ha); omega, by omega, fun r hr => by have := ((patOk_iff r.pa).1 (a5 r hr)).2.1; unfold rulOk; omega, by omega, by omega⟩
theorem noRob_chk : checkRobL noRob = 0 := by decide
/-- what is read is right -/
theorem read_chk (t : List UInt8) : checkRobL (robRead t).1 = 0 := by
  unfold robRead
  split
  · exact noRob_chk
  unfold robOf
  split
  · exact noRob_chk
  rename_i hf
  have hc := rdF_c (rdLs t)
  have hf : fullR (keepA goneG (rdG (rdF (rdLs t)))) (rdF (rdLs t)).ma = false := by simpa using hf
  have hg := rdG_c hc
  have hm := hc.ma
  generalize (rdF (rdLs t)).ma = M at *
  generalize rdG (rdF (rdLs t)) = K at *
  unfold fullR at hf
  rw [Bool.or_eq_false_iff] at hf
  have h1 : ¬ (100 < (keepA goneG K).length ∨ 100 < M.length) := of_decide_eq_false hf.1
  have h2 := List.any_eq_false.1 hf.2
  have h3 : grpsE (keepA goneG K) = 0 := grpsE_zero fun g hgK => by
    have h4 := List.mem_filter.1 hgK
    have h5 : ¬ g.ag.length = 0 := by
      have := h4.2
      unfold goneG at this
      simpa using this
    exact grpC_chk (hg g h4.1) h5 (by simpa using h2 g hgK)
  show checkRobL ⟨keepA goneG K, M⟩ = 0
  unfold checkRobL
  rw [if_neg (by show ¬ 100 < (keepA goneG K).length; omega)]
  show (if grpsE (keepA goneG K) = 0 then _ else _) = _
  rw [if_pos h3]
  rw [if_neg (by show ¬ 100 < M.length; omega)]
  rw [if_pos (by show M.all adrB = true; exact List.all_eq_true.2 hm)]

def ckGroup (x : RdS) (A R : Nat) : Cf := ⟨fun | [.ptr 25004 _] => [25004, 25002, 25003, A, R] | _ => [], fun args bs => match args with
  | [.ptr 25004 0] => some (bs = rdB x A R 25002 25003 ∧ x.op = true ∧ x.cl.length ≤ 2000000, .eptr 25002 (gN x) 3 x.cl.length 0, rdB x A R 25002 25003)
  | _ => none⟩
theorem conGroup (x : RdS) (A R : Nat) (hAR : (A = 25000 ∧ R = 25001) ∨ (A = 8990 ∧ R = 8991)) : FCon pg 77 (ckGroup x A R) := by
  have hct := ctN_ok pg
  intro args bs q r bs' h hq
  simp only [ckGroup] at h
  split at h
  · cases h
    obtain ⟨rfl, hop, hcl⟩ := hq
    refine ⟨rfl, Nat.le_refl _, ?_⟩
    show FCall pg _ [.ptr 34004 0] (rdH x A R 25002 25003 25004).shift (.eptr 34002 (gN x) 3 x.cl.length 0) (rdH x A R 25002 25003 25004).shift
    rw [rdH_sh]
    refine fw77 (fun _ => false) [] rfl hct rfl (by simp [rdH]) (rdH_hl (by simp [idsIn, rdH]) (by simp [idsIn, rdH]) (by simp [idsIn, rdH]) (by simp [idsIn, rdH]) (by simp [idsIn, rdH])) (by simp [idsIn, rdH, V.menIn]) ?_
    unfold rdH
    have hg := gN_op hop
    rcases hAR with ⟨rfl, rfl⟩ | ⟨rfl, rfl⟩
    · push_cast (config := { maxSteps := 10000000 })
      rw [hg, show (((x.cl.length + 1 : Nat) : Int) - 1).toNat = x.cl.length by omega]
      refine ⟨by omega, by omega, ?_⟩
      exact rfl
    · push_cast (config := { maxSteps := 10000000 })
      rw [hg, show (((x.cl.length + 1 : Nat) : Int) - 1).toNat = x.cl.length by omega]
      refine ⟨by omega, by omega, ?_⟩
      exact rfl
  · cases h
@[push_cast] theorem group_ids (x : RdS) (A R o : Nat) : (ckGroup x A R).ids [.ptr 25004 o] = [25004, 25002, 25003, A, R] := rfl
@[push_cast] theorem group_k (x : RdS) (A R : Nat) (bs : List Blk) : (ckGroup x A R).k [.ptr 25004 0] bs = some (bs = rdB x A R 25002 25003 ∧ x.op = true ∧ x.cl.length ≤ 2000000, .eptr 25002 (gN x) 3 x.cl.length 0, rdB x A R 25002 25003) := rfl

end Go.Abs
