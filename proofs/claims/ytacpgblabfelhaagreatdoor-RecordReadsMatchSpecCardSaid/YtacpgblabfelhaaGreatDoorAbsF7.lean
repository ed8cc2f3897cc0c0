/- what functions of this program compute: contracts, each a function's own -/
import Derived.Test.YtacpgblabfelhaaGreatDoorAbsK2
import Derived.Test.YtacpgblabfelhaaGreatDoorAbsFacts
import Derived.Test.YtacpgblabfelhaaGreatDoorAbsF6
import Derived.Test.YtacpgblabfelhaaGreatDoorAbsShelf
import Derived.Lib.SlTrimSet
import Derived.Lib.Atoi
import Derived.Lib.Itoa
import Derived.Lib.ItoaNum
import Derived.Lib.AtoiErrMem
import Derived.Lib.ItoaLen
import Derived.Lib.SplitLaws
import Derived.Shelf.Bytes.SlIndexWhole
import Derived.Lib.Index
import Derived.Lib.IndexBytes
namespace Go.Abs
open Go Go.Proofs
set_option maxHeartbeats 4000000
set_option maxRecDepth 100000
set_option linter.unusedVariables false
set_option linter.unusedSimpArgs false
theorem lineS_pre : ∀ (w l : List UInt8), bareL w = true → (lineS l = some w ↔ ∃ r, l = w ++ (13 :: 10 :: r))
  | [], l, _ => by
    match l with
    | [] => simp [lineS]
    | [c] =>
      rw [lineS]
      by_cases h1 : c = 13
      · simp [h1]
      · by_cases h2 : c = 10 <;> simp [h1, h2, lineS]
    | c :: d :: t =>
      rw [lineS]
      by_cases h1 : c = 13
      · subst h1
        by_cases h2 : d = 10 <;> simp [h2]
      · rw [if_neg h1]
        by_cases h2 : c = 10
        · simp [h2]
        · rw [if_neg h2]
          simp [h1]
  | x :: w, l, hb => by
    unfold bareL at hb
    rw [List.all_cons, Bool.and_eq_true, Bool.and_eq_true, decide_eq_true_eq, decide_eq_true_eq] at hb
    obtain ⟨⟨hx1, hx2⟩, hw⟩ := hb
    match l with
    | [] => simp [lineS]
    | c :: t =>
      rw [lineS]
      have ih := lineS_pre w t hw
      by_cases h1 : c = 13
      · subst h1
        rw [if_pos rfl]
        constructor
        · intro h
          split at h <;> cases h
        · rintro ⟨r, h⟩
          rw [List.cons_append, List.cons.injEq] at h
          exact absurd h.1.symm hx1
      · rw [if_neg h1]
        by_cases h2 : c = 10
        · subst h2
          rw [if_pos rfl]
          constructor
          · intro h; cases h
          · rintro ⟨r, h⟩
            rw [List.cons_append, List.cons.injEq] at h
            exact absurd h.1.symm hx2
        · rw [if_neg h2]
          constructor
          · intro h
            rw [Option.map_eq_some_iff] at h
            obtain ⟨s, h3, h4⟩ := h
            cases h4
            obtain ⟨r, rfl⟩ := ih.1 h3
            exact ⟨r, rfl⟩
          · rintro ⟨r, h⟩
            rw [List.cons_append, List.cons.injEq] at h
            rw [h.1, ih.2 ⟨r, h.2⟩]; rfl
theorem lnS_pre {B : List UInt8} {a : Nat} (w : List UInt8) (hw : bareL w = true) : (lnB B a && (lnS B a == w)) = hasPre (B.drop a) (w ++ [13, 10]) := by
  have h := lineS_pre w (B.drop a) hw
  rw [Bool.eq_iff_iff, hasPre_iff]
  unfold lnB lnS
  cases e : lineS (B.drop a) with
  | none =>
    rw [e] at h
    simp only [Option.isSome_none, Bool.false_and, Bool.false_eq_true, false_iff]
    rintro ⟨r, h2⟩
    have := h.2 ⟨r, by rw [h2]; simp⟩
    cases this
  | some s =>
    rw [e] at h
    simp only [Option.isSome_some, Option.getD_some, Bool.true_and, beq_iff_eq]
    constructor
    · rintro rfl
      obtain ⟨r, h2⟩ := h.1 rfl
      exact ⟨r, by rw [h2]; simp⟩
    · rintro ⟨r, h2⟩
      have := h.2 ⟨r, by rw [h2]; simp⟩
      cases this
      rfl
theorem pre_kept (B : List UInt8) (a : Nat) : hasPre (B.drop a) [75, 69, 80, 84, 47, 49, 13, 10] = wholeB B a wKept0 := by
  unfold wholeB
  rw [lnS_pre wKept0 (by decide)]
  rfl
/-- the state of the reference's reader, and what it has read -/
structure Tp where
  a : Nat
  z : Int
  r : Rcd
  ln : Int
  dg : List UInt8
  pd : List UInt8
def tp1 (B : List UInt8) (a : Nat) : Tp := if wholeB B a wKept0 = true then ⟨a + 8, -1, noRec, 0, [], []⟩ else ⟨a, a, noRec, 0, [], []⟩
def tp2 (B : List UInt8) (x : Tp) : Tp := { x with a := tA B x.a x.z wId, z := sZ B x.a x.z wId, r := { x.r with id := sS B x.a x.z wId } }
def tp3 (B : List UInt8) (x : Tp) : Tp :=
  if x.z < 0 ∧ hasPre (B.drop x.a) [111, 102, 58, 32] = true then { x with a := x.a + (4 + (sS B x.a x.z wOf).length + 2), z := if sS B x.a x.z wOf = [] then stZ x.a (sZ B x.a x.z wOf) else sZ B x.a x.z wOf, r := { x.r with ow := sS B x.a x.z wOf } } else x
def tp4 (B : List UInt8) (x : Tp) : Tp :=
  if kindI (sS B x.a x.z wKind) = 0 then { x with z := stZ x.a (sZ B x.a x.z wKind), r := { x.r with ki := 0 } } else { x with a := x.a + (6 + (kindW.getD (kindI (sS B x.a x.z wKind) - 1).toNat []).length + 2), z := sZ B x.a x.z wKind, r := { x.r with ki := kindI (sS B x.a x.z wKind) } }
def tq4 (B : List UInt8) (x : Tp) : Tp :=
  { x with z := if rdB (sS B x.a x.z wDate) = true then sZ B x.a x.z wDate else stZ x.a (sZ B x.a x.z wDate), r := { x.r with ti := rdV (sS B x.a x.z wDate) }, pd := sS B x.a x.z wDate }
def tp5 (B : List UInt8) (x : Tp) : Tp := { x with a := x.a + (6 + x.pd.length + 2) }
def tp6 (B : List UInt8) (x : Tp) : Tp := { x with a := tA B x.a x.z wKey, z := sZ B x.a x.z wKey, r := { x.r with ke := sS B x.a x.z wKey } }
def tp7 (B : List UInt8) (x : Tp) : Tp := { x with a := (rH B x.a x.z).2.1, z := (rH B x.a x.z).2.2, r := { x.r with hd := (rH B x.a x.z).1 } }
def tp8 (B : List UInt8) (x : Tp) : Tp := { x with z := if digL (sS B x.a x.z wLng) 9 = true then sZ B x.a x.z wLng else stZ x.a (sZ B x.a x.z wLng), ln := if digL (sS B x.a x.z wLng) 9 = true then (natOf (sS B x.a x.z wLng) : Int) else 0, pd := sS B x.a x.z wLng }
def tq5 (B : List UInt8) (x : Tp) : Tp := tp8 B (tp7 B (tp6 B (tp5 B x)))
def tp9 (B : List UInt8) (x : Tp) : Tp := { x with a := x.a + (8 + x.pd.length + 2) }
def tp10 (B : List UInt8) (x : Tp) : Tp := { x with z := if dgB (sS B x.a x.z wDig) = true then sZ B x.a x.z wDig else stZ x.a (sZ B x.a x.z wDig), dg := sS B x.a x.z wDig }
def tq6 (B : List UInt8) (x : Tp) : Tp := tp10 B (tp9 B x)
def tp11 (B : List UInt8) (x : Tp) : Tp := { x with a := x.a + (8 + x.dg.length + 2) }
def tp12 (B : List UInt8) (x : Tp) : Tp := if x.z < 0 then { x with a := x.a + 2, z := if lnB B x.a = false ∨ ¬ l6S B x.a = [] then stZ x.a x.z else x.z } else x
def tq7 (B : List UInt8) (x : Tp) : Tp := tp12 B (tp11 B x)
def topL (B : List UInt8) (a : Nat) : Tp := tq7 B (tq6 B (tq5 B (tq4 B (tp4 B (tp3 B (tp2 B (tp1 B a)))))))
def ckTopK : List V → List Blk → Option (Prop × V × List Blk)
  | [.ptr _ 0], [.cells [.sl n f, .int .i64 a, .int .i64 z]] => some (isBy n f ∧ n ≤ 500000 ∧ 0 ≤ a ∧ a ≤ n ∧ z = -1, .tup [.agg [.int .i64 (topL (bytesOf n f) a.toNat).r.ki, .str (topL (bytesOf n f) a.toNat).r.id, .str (topL (bytesOf n f) a.toNat).r.ow, .int .i64 (topL (bytesOf n f) a.toNat).r.ti, .str (topL (bytesOf n f) a.toNat).r.ke, .sl (topL (bytesOf n f) a.toNat).r.hd.length (lsF cHd (topL (bytesOf n f) a.toNat).r.hd), .nilsl], .int .i64 (topL (bytesOf n f) a.toNat).ln, .str (topL (bytesOf n f) a.toNat).dg], [.cells [.sl n f, .int .i64 (topL (bytesOf n f) a.toNat).a, .int .i64 (topL (bytesOf n f) a.toNat).z]])
  | _, _ => none
def ckTop : Cf := ⟨fun | [.ptr i _] => [i] | _ => [], ckTopK⟩
theorem sS_le {B : List UInt8} {n a : Nat} {z : Int} {w : List UInt8} (hb : B.length = n) (h : z < 0 → a ≤ n) : (sS B a z w).length ≤ n := by
  unfold sS
  split
  · simp
  split
  · rw [← hb]; exact lineV_le w (by rw [hb]; exact h (by omega))
  · simp
theorem sZ_ge {B : List UInt8} {a : Nat} {z : Int} (w : List UInt8) (h : -1 ≤ z) : -1 ≤ sZ B a z w := by
  unfold sZ
  split
  · exact h
  split
  · exact h
  · omega
theorem stZ_ge {a z : Int} (h : -1 ≤ z) (ha : 0 ≤ a) : -1 ≤ stZ a z := by unfold stZ; split <;> omega
theorem sZ_neg {B : List UInt8} {a : Nat} {z : Int} {w : List UInt8} (h : sZ B a z w < 0) : z < 0 ∧ lineOk B a w = true := by
  unfold sZ at h
  split at h
  · omega
  split at h
  · exact ⟨h, by assumption⟩
  · omega
theorem lineOk_fit {B : List UInt8} {a : Nat} {w : List UInt8} (ha : a ≤ B.length) (h : lineOk B a w = true) : a + (w.length + 2 + (lineV B a w).length + 2) = lnN B a ∧ lnN B a ≤ B.length := by
  unfold lineOk at h
  simp only [Bool.and_eq_true] at h
  have := (l6S_eq h.1).2
  obtain ⟨r, hr⟩ := hasPre_iff.1 h.2
  have hlen := congrArg List.length hr
  simp only [List.length_append, List.length_cons, List.length_nil] at hlen
  unfold lineV
  rw [List.length_drop]
  have hf := ln_fit ha h.1
  omega
theorem sS_ok {B : List UInt8} {a : Nat} {z : Int} {w : List UInt8} (h : sZ B a z w < 0) : sS B a z w = lineV B a w := by
  obtain ⟨h1, h2⟩ := sZ_neg h
  unfold sS
  rw [if_neg (by omega), if_pos h2]
theorem tA_fit {B : List UInt8} {n a : Nat} {z : Int} (w : List UInt8) (hb : B.length = n) (h : z < 0 → a ≤ n) : (sZ B a z w < 0 → tA B a z w ≤ n) ∧ (tA B a z w ≤ a ∨ tA B a z w ≤ n) := by
  unfold tA
  constructor
  · intro hs
    obtain ⟨h1, h2⟩ := sZ_neg hs
    rw [if_neg (by omega), if_pos h2]
    have := (lineOk_fit (by rw [hb]; exact h h1) h2).2
    omega
  · split
    · exact .inl (Nat.le_refl _)
    split
    · rename_i h1 h2
      have := (lineOk_fit (by rw [hb]; exact h (by omega)) h2).2
      exact .inr (by omega)
    · exact .inl (Nat.le_refl _)
theorem said_fit {B : List UInt8} {n a : Nat} {z : Int} (w : List UInt8) (hb : B.length = n) (h : z < 0 → a ≤ n) (hs : sZ B a z w < 0) : a + (w.length + 2 + (sS B a z w).length + 2) ≤ n := by
  obtain ⟨h1, h2⟩ := sZ_neg hs
  rw [sS_ok hs]
  have := lineOk_fit (by rw [hb]; exact h h1) h2
  omega
theorem stZ_no {a : Nat} {z : Int} : ¬ stZ a z < 0 := by unfold stZ; split <;> omega
theorem kindI_word {v : List UInt8} (h : ¬ kindI v = 0) : kindW.getD (kindI v - 1).toNat [] = v := by
  have hb := kindI_b v
  unfold kindI at h hb ⊢
  unfold idxL at h hb ⊢
  split at h
  · rename_i k e
    rw [List.findIdx?_eq_some_iff_getElem] at e
    obtain ⟨hk, h1, _⟩ := e
    rw [show ((k : Int) + 1 - 1).toNat = k by omega, List.getD_eq_getElem?_getD, List.getElem?_eq_getElem hk]
    exact beq_iff_eq.1 h1
  · omega
theorem rH_fit {B : List UInt8} {n a : Nat} {z : Int} (hb : B.length = n) (h : z < 0 → a ≤ n) (hz : -1 ≤ z) : ((rH B a z).2.2 < 0 → (rH B a z).2.1 ≤ n) ∧ ((rH B a z).2.1 ≤ a ∨ (rH B a z).2.1 ≤ n) ∧ -1 ≤ (rH B a z).2.2 := by
  unfold rH
  split
  · exact ⟨fun x => by simp only at x; omega, .inl (Nat.le_refl _), hz⟩
  · rename_i h0
    have := (hds_le (B := B) (B.length + 1) a [] (by rw [hb]; exact h (by omega)) (nohds _) (Nat.zero_le _)).1
    rw [hb] at this
    split
    · exact ⟨fun _ => by rw [hb]; exact this, .inr (by rw [hb]; exact this), hz⟩
    · refine ⟨fun _ => by rw [hb]; exact this, .inr (by rw [hb]; exact this), ?_⟩
      simp only
      omega
attribute [irreducible] tq4 tq5 tq6 tq7 tp2 tp3 tp4
theorem conTop6 : FCon pg 110 ckTop := by
  have hct := (ctF_ok conBegins (ctF_ok conNext (ctF_ok conStop (ctF_ok conTold (ctF_ok conSaid (ctF_ok conHeads6 (ctF_ok conLn6 (ctA_ok conKindOf (ctA_ok conKindW (ctA_ok conReadDate2 (ctA_ok conPlainNum (ctA_ok conIsDigest6 (ctN_ok _)))))))))))))
  intro args bs q r bs' h hq
  replace h : ckTopK args bs = some (q, r, bs') := h
  unfold ckTopK at h
  split at h
  · cases h
    rename_i i n f a z
    refine ⟨rfl, by first | exact Nat.le_refl _ | exact Nat.zero_le _, ?_⟩
    obtain ⟨h1, h2, h3, h4, rfl⟩ := hq
    obtain ⟨a, rfl⟩ : ∃ k : Nat, a = k := ⟨a.toNat, by omega⟩
    rw [Int.toNat_natCast]
    have hb := bytesOf_len n f
    generalize hR : topL (bytesOf n f) a = R
    show FCall pg 110 [.ptr (i + 9000) 0] [(i + 9000, .cells [.sl n f, .int .i64 (a : Nat), .int .i64 (-1)])] (.tup [.agg [.int .i64 R.r.ki, .str R.r.id, .str R.r.ow, .int .i64 R.r.ti, .str R.r.ke, .sl R.r.hd.length (lsF cHd R.r.hd), .nilsl], .int .i64 R.ln, .str R.dg]) [(i + 9000, .cells [.sl n f, .int .i64 (R.a : Nat), .int .i64 R.z])]
    refine fw110 (fun d => decide (d = 20005 ∨ d = 20011 ∨ d = 20015 ∨ d = 20019 ∨ d = 20027 ∨ d = 20031 ∨ d = 20037)) [] rfl hct rfl (by simp) (by simp [hlIn, idsIn, Blk.menIn, V.menInL, V.menIn, V.flat, byF, lsF]) (by simp [V.menIn, V.menInL, idsIn]) ?_
    push_cast (config := { maxSteps := 10000000 })
    refine SeqW.cut ⟨hct, fol⟩ (by kernel_rfl) (by kernel_rfl) [] (fun t : Tp => [(0, .ptr (i + 9000) 0), (2, .ptr 2 0), (5, .ptr 5 0)]) (fun t => [(i + 9000, .cells [.sl n f, .int .i64 t.a, .int .i64 t.z]), (2, .cells [.int .i64 0, .str [], .str [], .int .i64 0, .str [], .nilsl, .nilsl]), (5, .cells [.int .i64 t.r.ki, .str t.r.id, .str t.r.ow, .int .i64 0, .str t.r.ke, .nilsl, .nilsl])]) (fun t => ((t.z < 0 → t.a ≤ n) ∧ t.a ≤ 1100000 ∧ -1 ≤ t.z ∧ t.r = noRec) ∧ tq7 (bytesOf n f) (tq6 (bytesOf n f) (tq5 (bytesOf n f) (tq4 (bytesOf n f) (tp4 (bytesOf n f) (tp3 (bytesOf n f) (tp2 (bytesOf n f) t)))))) = R) ?_ fun t ht => ?_
    · push_cast (config := { maxSteps := 10000000 })
      rw [pre_kept]
      unfold topL at hR
      refine ⟨⟨h1, by omega, by omega⟩, fun g => ?_, fun g => ?_⟩
      · have e : tp1 (bytesOf n f) a = ⟨a + 8, -1, noRec, 0, [], []⟩ := by unfold tp1; rw [if_pos g]
        rw [e] at hR
        unfold wholeB at g
        simp only [Bool.and_eq_true, beq_iff_eq] at g
        have hf := ln_fit (b := bytesOf n f) (a := a) (by omega) g.1
        have h8 := congrArg List.length g.2
        have h9 : wKept0.length = 6 := rfl
        exact ⟨by omega, ⟨a + 8, -1, noRec, 0, [], []⟩, ⟨⟨fun _ => by show a + 8 ≤ n; omega, by show a + 8 ≤ 1100000; omega, by show (-1 : Int) ≤ -1; omega, rfl⟩, hR⟩, ⟨by show (a : Int) + 8 = ((a + 8 : Nat) : Int); omega, rfl⟩, rfl, rfl, rfl, rfl⟩
      · have e : tp1 (bytesOf n f) a = ⟨a, a, noRec, 0, [], []⟩ := by unfold tp1; rw [if_neg (by rw [g]; simp)]
        rw [e] at hR
        exact ⟨⟨a, a, noRec, 0, [], []⟩, ⟨⟨fun _ => by show a ≤ n; omega, by show a ≤ 1100000; omega, by show (-1 : Int) ≤ a; omega, rfl⟩, hR⟩, ⟨rfl, rfl⟩, rfl, rfl, rfl, rfl⟩
    clear hR
    obtain ⟨hI, hT⟩ := ht
    push_cast (config := { maxSteps := 10000000 })
    obtain ⟨b1, b2, b3, b4⟩ := hI
    refine ⟨⟨h1, by omega, by omega, b1⟩, ?_⟩
    refine SeqW.cut ⟨hct, fol⟩ (by kernel_rfl) (by kernel_rfl) [] (fun t : Tp => [(0, .ptr (i + 9000) 0), (2, .ptr 2 0), (5, .ptr 5 0)]) (fun t => [(i + 9000, .cells [.sl n f, .int .i64 t.a, .int .i64 t.z]), (2, .cells [.int .i64 0, .str [], .str [], .int .i64 0, .str [], .nilsl, .nilsl]), (5, .cells [.int .i64 t.r.ki, .str t.r.id, .str t.r.ow, .int .i64 0, .str t.r.ke, .nilsl, .nilsl])]) (fun t => ((t.z < 0 → t.a ≤ n) ∧ t.a ≤ 1700000 ∧ -1 ≤ t.z ∧ t.r.ti = 0 ∧ t.r.ke = [] ∧ t.r.hd = [] ∧ t.r.bd = []) ∧ tq7 (bytesOf n f) (tq6 (bytesOf n f) (tq5 (bytesOf n f) (tq4 (bytesOf n f) (tp4 (bytesOf n f) t)))) = R) ?_ fun t ht => ?_
    · push_cast (config := { maxSteps := 10000000 })
      have q := tA_fit [105, 100] hb b1
      have q2 := sZ_ge (B := bytesOf n f) (a := t.a) [105, 100] b3
      have e2 : tp2 (bytesOf n f) t = ⟨tA (bytesOf n f) t.a t.z [105, 100], sZ (bytesOf n f) t.a t.z [105, 100], { t.r with id := sS (bytesOf n f) t.a t.z [105, 100] }, t.ln, t.dg, t.pd⟩ := by
        unfold tp2
        rfl
      rw [e2] at hT
      clear e2
      generalize tA (bytesOf n f) t.a t.z [105, 100] = A2 at *
      generalize sZ (bytesOf n f) t.a t.z [105, 100] = Z2 at *
      generalize sS (bytesOf n f) t.a t.z [105, 100] = S2 at *
      obtain ⟨q1, q3⟩ := q
      have q4 := sS_le (w := [111, 102]) hb q1
      have q5 := sZ_ge (B := bytesOf n f) (a := A2) [111, 102] q2
      have hQ : ¬ (Z2 < 0 ∧ hasPre ((bytesOf n f).drop A2) [111, 102, 58, 32] = true) → tp3 (bytesOf n f) ⟨A2, Z2, { t.r with id := S2 }, t.ln, t.dg, t.pd⟩ = ⟨A2, Z2, { t.r with id := S2 }, t.ln, t.dg, t.pd⟩ := fun g => by
        unfold tp3
        rw [if_neg g]
      refine ⟨fun hz => ⟨hz, ⟨h1, by omega, q1 hz⟩, fun g => ⟨⟨h1, by omega, q1⟩, fun e => ?_, fun e => ?_⟩, fun g => ?_⟩, fun hz => ⟨fun x => hz x, ?_⟩⟩
      · have e3 : tp3 (bytesOf n f) ⟨A2, Z2, { t.r with id := S2 }, t.ln, t.dg, t.pd⟩ = ⟨A2 + (4 + (sS (bytesOf n f) A2 Z2 [111, 102]).length + 2), stZ A2 (sZ (bytesOf n f) A2 Z2 [111, 102]), { t.r with id := S2, ow := sS (bytesOf n f) A2 Z2 [111, 102] }, t.ln, t.dg, t.pd⟩ := by
          unfold tp3
          rw [if_pos g]
          rw [if_pos (show sS (bytesOf n f) A2 Z2 wOf = [] from e)]
          rfl
        rw [e3] at hT
        refine ⟨by omega, ⟨by omega, by omega⟩, _, ⟨⟨fun x => absurd x stZ_no, ?_, stZ_ge q5 (by omega), ?_, ?_, ?_, ?_⟩, hT⟩, ⟨?_, rfl⟩, rfl, rfl, rfl, rfl⟩
        · show A2 + _ ≤ 1700000; omega
        · show t.r.ti = 0; rw [b4]; rfl
        · show t.r.ke = []; rw [b4]; rfl
        · show t.r.hd = []; rw [b4]; rfl
        · show t.r.bd = []; rw [b4]; rfl
        · push_cast; omega
      · have e3 : tp3 (bytesOf n f) ⟨A2, Z2, { t.r with id := S2 }, t.ln, t.dg, t.pd⟩ = ⟨A2 + (4 + (sS (bytesOf n f) A2 Z2 [111, 102]).length + 2), sZ (bytesOf n f) A2 Z2 [111, 102], { t.r with id := S2, ow := sS (bytesOf n f) A2 Z2 [111, 102] }, t.ln, t.dg, t.pd⟩ := by
          unfold tp3
          rw [if_pos g]
          rw [if_neg (show ¬ sS (bytesOf n f) A2 Z2 wOf = [] from e)]
          rfl
        rw [e3] at hT
        refine ⟨by omega, ⟨by omega, by omega⟩, _, ⟨⟨fun x => ?_, ?_, q5, ?_, ?_, ?_, ?_⟩, hT⟩, ⟨?_, rfl⟩, rfl, rfl, rfl, rfl⟩
        · have := said_fit [111, 102] hb q1 x
          simp only [List.length_cons, List.length_nil] at this
          show A2 + _ ≤ n
          omega
        · show A2 + _ ≤ 1700000; omega
        · show t.r.ti = 0; rw [b4]; rfl
        · show t.r.ke = []; rw [b4]; rfl
        · show t.r.hd = []; rw [b4]; rfl
        · show t.r.bd = []; rw [b4]; rfl
        · push_cast; omega
      · rw [hQ (fun x => by rw [g x.1] at x; exact absurd x.2 (by simp))] at hT
        exact ⟨_, ⟨⟨q1, by show A2 ≤ 1700000; omega, q2, by show t.r.ti = 0; rw [b4]; rfl, by show t.r.ke = []; rw [b4]; rfl, by show t.r.hd = []; rw [b4]; rfl, by show t.r.bd = []; rw [b4]; rfl⟩, hT⟩, ⟨rfl, rfl⟩, rfl, rfl, rfl, rfl⟩
      · rw [hQ (fun x => hz x.1)] at hT
        exact ⟨_, ⟨⟨q1, by show A2 ≤ 1700000; omega, q2, by show t.r.ti = 0; rw [b4]; rfl, by show t.r.ke = []; rw [b4]; rfl, by show t.r.hd = []; rw [b4]; rfl, by show t.r.bd = []; rw [b4]; rfl⟩, hT⟩, ⟨rfl, rfl⟩, rfl, rfl, rfl, rfl⟩
    obtain ⟨hI, hT⟩ := ht
    push_cast (config := { maxSteps := 10000000 })
    clear b1 b2 b3 b4
    obtain ⟨b1, b2, b3, b4, b5, b6, b7⟩ := hI
    refine ⟨⟨h1, by omega, b1⟩, ?_⟩
    refine SeqW.cut ⟨hct, fol⟩ (by kernel_rfl) (by kernel_rfl) [] (fun t : Tp => [(0, .ptr (i + 9000) 0), (2, .ptr 2 0), (5, .ptr 5 0)]) (fun t => [(i + 9000, .cells [.sl n f, .int .i64 t.a, .int .i64 t.z]), (2, .cells [.int .i64 0, .str [], .str [], .int .i64 0, .str [], .nilsl, .nilsl]), (5, .cells [.int .i64 t.r.ki, .str t.r.id, .str t.r.ow, .int .i64 0, .str t.r.ke, .nilsl, .nilsl])]) (fun t => ((t.z < 0 → t.a ≤ n) ∧ t.a ≤ 2300000 ∧ -1 ≤ t.z ∧ t.r.ti = 0 ∧ t.r.ke = [] ∧ t.r.hd = [] ∧ t.r.bd = []) ∧ tq7 (bytesOf n f) (tq6 (bytesOf n f) (tq5 (bytesOf n f) (tq4 (bytesOf n f) t))) = R) ?_ fun t ht => ?_
    · push_cast (config := { maxSteps := 10000000 })
      have q4 := sS_le (w := [107, 105, 110, 100]) hb b1
      have q5 := sZ_ge (B := bytesOf n f) (a := t.a) [107, 105, 110, 100] b3
      have q6 := said_fit [107, 105, 110, 100] hb b1
      have q7 : sZ (bytesOf n f) t.a t.z [107, 105, 110, 100] < 0 → sS (bytesOf n f) t.a t.z [107, 105, 110, 100] = lineV (bytesOf n f) t.a [107, 105, 110, 100] := sS_ok
      have e0 : kindI (sS (bytesOf n f) t.a t.z [107, 105, 110, 100]) = 0 → tp4 (bytesOf n f) t = ⟨t.a, stZ t.a (sZ (bytesOf n f) t.a t.z [107, 105, 110, 100]), { t.r with ki := 0 }, t.ln, t.dg, t.pd⟩ := fun g => by
        unfold tp4
        rw [if_pos (show kindI (sS (bytesOf n f) t.a t.z wKind) = 0 from g)]
        rfl
      have e1 : ¬ kindI (sS (bytesOf n f) t.a t.z [107, 105, 110, 100]) = 0 → tp4 (bytesOf n f) t = ⟨t.a + (6 + (kindW.getD (kindI (sS (bytesOf n f) t.a t.z [107, 105, 110, 100]) - 1).toNat []).length + 2), sZ (bytesOf n f) t.a t.z [107, 105, 110, 100], { t.r with ki := kindI (sS (bytesOf n f) t.a t.z [107, 105, 110, 100]) }, t.ln, t.dg, t.pd⟩ := fun g => by
        unfold tp4
        rw [if_neg (show ¬ kindI (sS (bytesOf n f) t.a t.z wKind) = 0 from g)]
        rfl
      generalize sZ (bytesOf n f) t.a t.z [107, 105, 110, 100] = Z2 at *
      generalize sS (bytesOf n f) t.a t.z [107, 105, 110, 100] = S2 at *
      have kb := kindI_b S2
      have kl := kindW_le (kindI S2 - 1).toNat
      refine ⟨fun g => ?_, fun g => ?_⟩
      · rw [e0 g] at hT
        refine ⟨_, ⟨?_, hT⟩, ⟨rfl, rfl⟩, g, rfl, rfl, rfl⟩
        exact ⟨fun x => absurd x stZ_no, by show t.a ≤ 2300000; omega, stZ_ge q5 (by omega), b4, b5, b6, b7⟩
      · rw [e1 g] at hT
        have kw := congrArg List.length (kindI_word g)
        refine ⟨⟨by omega, by omega⟩, by omega, ⟨by omega, by omega⟩, _, ⟨?_, hT⟩, ⟨?_, rfl⟩, rfl, rfl, rfl, rfl⟩
        · refine ⟨fun x => ?_, by show t.a + _ ≤ 2300000; omega, q5, b4, b5, b6, b7⟩
          have := q6 x
          simp only [List.length_cons, List.length_nil] at this
          show t.a + _ ≤ n
          omega
        · push_cast; omega
    obtain ⟨hI, hT⟩ := ht
    push_cast (config := { maxSteps := 10000000 })
    clear b1 b2 b3 b4 b5 b6 b7
    obtain ⟨b1, b2, b3, b4, b5, b6, b7⟩ := hI
    have q4 := sS_le (w := [100, 97, 116, 101]) hb b1
    refine ⟨⟨h1, by omega, b1⟩, by omega, ?_⟩
    refine SeqW.cut ⟨hct, fol⟩ (by kernel_rfl) (by kernel_rfl) [] (fun t : Tp => [(0, .ptr (i + 9000) 0), (2, .ptr 2 0), (5, .ptr 5 0), (6, .str t.pd), (7, .int .i64 t.r.ti)]) (fun t => [(i + 9000, .cells [.sl n f, .int .i64 t.a, .int .i64 t.z]), (2, .cells [.int .i64 0, .str [], .str [], .int .i64 0, .str [], .nilsl, .nilsl]), (5, .cells [.int .i64 t.r.ki, .str t.r.id, .str t.r.ow, .int .i64 0, .str t.r.ke, .nilsl, .nilsl])]) (fun t => ((t.z < 0 → t.a ≤ n) ∧ t.a ≤ 2900000 ∧ -1 ≤ t.z ∧ t.r.ke = [] ∧ t.r.hd = [] ∧ t.r.bd = [] ∧ t.pd.length ≤ n ∧ (t.z < 0 → t.a + (6 + t.pd.length + 2) ≤ n)) ∧ tq7 (bytesOf n f) (tq6 (bytesOf n f) (tq5 (bytesOf n f) t)) = R) ?_ fun t ht => ?_
    · push_cast (config := { maxSteps := 10000000 })
      have q5 := sZ_ge (B := bytesOf n f) (a := t.a) [100, 97, 116, 101] b3
      have q6 := said_fit [100, 97, 116, 101] hb b1
      have e0 : tq4 (bytesOf n f) t = ⟨t.a, if rdB (sS (bytesOf n f) t.a t.z [100, 97, 116, 101]) = true then sZ (bytesOf n f) t.a t.z [100, 97, 116, 101] else stZ t.a (sZ (bytesOf n f) t.a t.z [100, 97, 116, 101]), { t.r with ti := rdV (sS (bytesOf n f) t.a t.z [100, 97, 116, 101]) }, t.ln, t.dg, sS (bytesOf n f) t.a t.z [100, 97, 116, 101]⟩ := by
        unfold tq4
        rfl
      rw [e0] at hT
      clear e0
      generalize sZ (bytesOf n f) t.a t.z [100, 97, 116, 101] = Z2 at *
      generalize sS (bytesOf n f) t.a t.z [100, 97, 116, 101] = S2 at *
      cases hr : rdB S2 with
      | false =>
        rw [hr] at hT
        refine ⟨fun _ => ⟨_, ⟨?_, hT⟩, ⟨rfl, rfl⟩, ⟨rfl, rfl⟩, rfl, rfl, rfl, rfl⟩, fun h => absurd h (by decide)⟩
        exact ⟨fun x => absurd x stZ_no, by show t.a ≤ 2900000; omega, stZ_ge q5 (by omega), b5, b6, b7, q4, fun x => absurd x stZ_no⟩
      | true =>
        rw [hr] at hT
        refine ⟨fun h => absurd rfl h, fun _ => ⟨_, ⟨?_, hT⟩, ⟨rfl, rfl⟩, ⟨rfl, rfl⟩, rfl, rfl, rfl, rfl⟩⟩
        have q8 : Z2 < 0 → t.a + (6 + S2.length + 2) ≤ n := fun x => by
          have := q6 x
          simp only [List.length_cons, List.length_nil] at this
          omega
        exact ⟨fun x => by have := q8 x; show t.a ≤ n; omega, by show t.a ≤ 2900000; omega, q5, b5, b6, b7, q4, q8⟩
    obtain ⟨hI, hT⟩ := ht
    push_cast (config := { maxSteps := 10000000 })
    clear b1 b2 b3 b4 b5 b6 b7 q4
    obtain ⟨b1, b2, b3, b5, b6, b7, b8, b9⟩ := hI
    have eA : ((t.a : Int) + (t.pd.length + 1 + 1 + 1 + 1 + 1 + 1 + 2)).toNat = t.a + (6 + t.pd.length + 2) := by omega
    rw [eA]
    have c2 := tA_fit [107, 101, 121] hb b9
    have c3 := sZ_ge (B := bytesOf n f) (a := t.a + (6 + t.pd.length + 2)) [107, 101, 121] b3
    have e5 : tq5 (bytesOf n f) t = tp8 (bytesOf n f) (tp7 (bytesOf n f) ⟨tA (bytesOf n f) (t.a + (6 + t.pd.length + 2)) t.z [107, 101, 121], sZ (bytesOf n f) (t.a + (6 + t.pd.length + 2)) t.z [107, 101, 121], { t.r with ke := sS (bytesOf n f) (t.a + (6 + t.pd.length + 2)) t.z [107, 101, 121] }, t.ln, t.dg, t.pd⟩) := by
      unfold tq5
      rfl
    rw [e5] at hT
    clear e5
    generalize tA (bytesOf n f) (t.a + (6 + t.pd.length + 2)) t.z [107, 101, 121] = A6 at *
    generalize sZ (bytesOf n f) (t.a + (6 + t.pd.length + 2)) t.z [107, 101, 121] = Z6 at *
    generalize sS (bytesOf n f) (t.a + (6 + t.pd.length + 2)) t.z [107, 101, 121] = S6 at *
    have c4 := rH_fit hb c2.1 c3
    have e7 : tp7 (bytesOf n f) ⟨A6, Z6, { t.r with ke := S6 }, t.ln, t.dg, t.pd⟩ = ⟨(rH (bytesOf n f) A6 Z6).2.1, (rH (bytesOf n f) A6 Z6).2.2, { t.r with ke := S6, hd := (rH (bytesOf n f) A6 Z6).1 }, t.ln, t.dg, t.pd⟩ := rfl
    rw [e7] at hT
    clear e7
    generalize rH (bytesOf n f) A6 Z6 = H at *
    obtain ⟨Hh, Ha, Hz⟩ := H
    simp only at hT c4 ⊢
    have c5 := sS_le (w := [108, 101, 110, 103, 116, 104]) hb c4.1
    refine ⟨by omega, ⟨by omega, by omega⟩, ⟨h1, by omega, by omega, by omega, fun x => by have := b9 x; omega⟩, ⟨h1, by omega, c2.1⟩, ⟨h1, by omega, c4.1⟩, by omega, ?_⟩
    refine SeqW.cut ⟨hct, fol⟩ (by kernel_rfl) (by kernel_rfl) [] (fun t : Tp => [(0, .ptr (i + 9000) 0), (2, .ptr 2 0), (5, .ptr 5 0), (9, .str t.pd), (10, .int .i64 t.ln)]) (fun t => [(i + 9000, .cells [.sl n f, .int .i64 t.a, .int .i64 t.z]), (2, .cells [.int .i64 0, .str [], .str [], .int .i64 0, .str [], .nilsl, .nilsl]), (5, .cells [.int .i64 t.r.ki, .str t.r.id, .str t.r.ow, .int .i64 t.r.ti, .str t.r.ke, .sl t.r.hd.length (lsF cHd t.r.hd), .nilsl])]) (fun t => ((t.z < 0 → t.a ≤ n) ∧ t.a ≤ 3500000 ∧ -1 ≤ t.z ∧ t.r.bd = [] ∧ t.pd.length ≤ n ∧ (t.z < 0 → t.a + (8 + t.pd.length + 2) ≤ n)) ∧ tq7 (bytesOf n f) (tq6 (bytesOf n f) t) = R) ?_ fun t ht => ?_
    · push_cast (config := { maxSteps := 10000000 })
      have q5 := sZ_ge (B := bytesOf n f) (a := Ha) [108, 101, 110, 103, 116, 104] c4.2.2
      have q6 := said_fit [108, 101, 110, 103, 116, 104] hb c4.1
      have e8 : tp8 (bytesOf n f) ⟨Ha, Hz, { t.r with ke := S6, hd := Hh }, t.ln, t.dg, t.pd⟩ = ⟨Ha, if digL (sS (bytesOf n f) Ha Hz [108, 101, 110, 103, 116, 104]) 9 = true then sZ (bytesOf n f) Ha Hz [108, 101, 110, 103, 116, 104] else stZ Ha (sZ (bytesOf n f) Ha Hz [108, 101, 110, 103, 116, 104]), { t.r with ke := S6, hd := Hh }, if digL (sS (bytesOf n f) Ha Hz [108, 101, 110, 103, 116, 104]) 9 = true then (natOf (sS (bytesOf n f) Ha Hz [108, 101, 110, 103, 116, 104]) : Int) else 0, t.dg, sS (bytesOf n f) Ha Hz [108, 101, 110, 103, 116, 104]⟩ := rfl
      rw [e8] at hT
      clear e8
      generalize sZ (bytesOf n f) Ha Hz [108, 101, 110, 103, 116, 104] = Z8 at *
      generalize sS (bytesOf n f) Ha Hz [108, 101, 110, 103, 116, 104] = S8 at *
      cases hr : digL S8 9 with
      | false =>
        rw [hr] at hT
        refine ⟨fun _ => ⟨_, ⟨?_, hT⟩, ⟨rfl, rfl⟩, ⟨rfl, rfl⟩, rfl, rfl, rfl, rfl, rfl, rfl, fun _ _ => rfl⟩, fun h => absurd h (by decide)⟩
        exact ⟨fun x => absurd x stZ_no, by show Ha ≤ 3500000; omega, stZ_ge q5 (by omega), b7, c5, fun x => absurd x stZ_no⟩
      | true =>
        rw [hr] at hT
        refine ⟨fun h => absurd h (by decide), fun _ => ⟨_, ⟨?_, hT⟩, ⟨rfl, rfl⟩, ⟨rfl, rfl⟩, rfl, rfl, rfl, rfl, rfl, rfl, fun _ _ => rfl⟩⟩
        have q8 : Z8 < 0 → Ha + (8 + S8.length + 2) ≤ n := fun x => by
          have := q6 x
          simp only [List.length_cons, List.length_nil] at this
          omega
        exact ⟨fun x => by have := q8 x; show Ha ≤ n; omega, by show Ha ≤ 3500000; omega, q5, b7, c5, q8⟩
    obtain ⟨hI, hT⟩ := ht
    push_cast (config := { maxSteps := 10000000 })
    clear b1 b2 b3 b5 b6 b7 b8 b9 c2 c3 c4 c5 eA
    obtain ⟨b1, b2, b3, b7, b8, b9⟩ := hI
    have eA : ((t.a : Int) + (t.pd.length + 1 + 1 + 1 + 1 + 1 + 1 + 1 + 1 + 2)).toNat = t.a + (8 + t.pd.length + 2) := by omega
    rw [eA]
    have c5 := sS_le (w := [100, 105, 103, 101, 115, 116]) hb b9
    refine ⟨by omega, ⟨by omega, by omega⟩, ⟨h1, by omega, by omega, fun x => by have := b9 x; omega⟩, ?_⟩
    refine SeqW.cut ⟨hct, fol⟩ (by kernel_rfl) (by kernel_rfl) [] (fun t : Tp => [(0, .ptr (i + 9000) 0), (2, .ptr 2 0), (5, .ptr 5 0), (10, .int .i64 t.ln), (12, .str t.dg)]) (fun t => [(i + 9000, .cells [.sl n f, .int .i64 t.a, .int .i64 t.z]), (2, .cells [.int .i64 0, .str [], .str [], .int .i64 0, .str [], .nilsl, .nilsl]), (5, .cells [.int .i64 t.r.ki, .str t.r.id, .str t.r.ow, .int .i64 t.r.ti, .str t.r.ke, .sl t.r.hd.length (lsF cHd t.r.hd), .nilsl])]) (fun t => ((t.z < 0 → t.a ≤ n) ∧ t.a ≤ 4100000 ∧ -1 ≤ t.z ∧ t.r.bd = [] ∧ t.dg.length ≤ n ∧ (t.z < 0 → t.a + (8 + t.dg.length + 2) ≤ n)) ∧ tq7 (bytesOf n f) t = R) ?_ fun t ht => ?_
    · push_cast (config := { maxSteps := 10000000 })
      have q5 := sZ_ge (B := bytesOf n f) (a := t.a + (8 + t.pd.length + 2)) [100, 105, 103, 101, 115, 116] b3
      have q6 := said_fit [100, 105, 103, 101, 115, 116] hb b9
      have e8 : tq6 (bytesOf n f) t = ⟨t.a + (8 + t.pd.length + 2), if dgB (sS (bytesOf n f) (t.a + (8 + t.pd.length + 2)) t.z [100, 105, 103, 101, 115, 116]) = true then sZ (bytesOf n f) (t.a + (8 + t.pd.length + 2)) t.z [100, 105, 103, 101, 115, 116] else stZ (t.a + (8 + t.pd.length + 2) : Nat) (sZ (bytesOf n f) (t.a + (8 + t.pd.length + 2)) t.z [100, 105, 103, 101, 115, 116]), t.r, t.ln, sS (bytesOf n f) (t.a + (8 + t.pd.length + 2)) t.z [100, 105, 103, 101, 115, 116], t.pd⟩ := by
        unfold tq6
        rfl
      rw [e8] at hT
      clear e8
      have eB : (t.a : Int) + (t.pd.length + 1 + 1 + 1 + 1 + 1 + 1 + 1 + 1 + 2) = ((t.a + (8 + t.pd.length + 2) : Nat) : Int) := by omega
      rw [eB]
      generalize sZ (bytesOf n f) (t.a + (8 + t.pd.length + 2)) t.z [100, 105, 103, 101, 115, 116] = Z8 at *
      generalize sS (bytesOf n f) (t.a + (8 + t.pd.length + 2)) t.z [100, 105, 103, 101, 115, 116] = S8 at *
      cases hr : dgB S8 with
      | false =>
        rw [hr] at hT
        refine ⟨by omega, fun _ => ⟨_, ⟨?_, hT⟩, ⟨rfl, rfl⟩, ⟨rfl, rfl⟩, rfl, rfl, rfl, rfl, rfl, rfl, fun _ _ => rfl⟩, fun h => absurd h (by decide)⟩
        exact ⟨fun x => absurd x stZ_no, by show t.a + _ ≤ 4100000; omega, stZ_ge q5 (by omega), b7, c5, fun x => absurd x stZ_no⟩
      | true =>
        rw [hr] at hT
        refine ⟨by omega, fun h => absurd h (by decide), fun _ => ⟨_, ⟨?_, hT⟩, ⟨rfl, rfl⟩, ⟨rfl, rfl⟩, rfl, rfl, rfl, rfl, rfl, rfl, fun _ _ => rfl⟩⟩
        have q8 : Z8 < 0 → t.a + (8 + t.pd.length + 2) + (8 + S8.length + 2) ≤ n := fun x => by
          have := q6 x
          simp only [List.length_cons, List.length_nil] at this
          omega
        exact ⟨fun x => by have := q8 x; show t.a + _ ≤ n; omega, by show t.a + _ ≤ 4100000; omega, q5, b7, c5, q8⟩
    obtain ⟨hI, hT⟩ := ht
    push_cast (config := { maxSteps := 10000000 })
    clear b1 b2 b3 b7 b8 b9 c5 eA
    obtain ⟨b1, b2, b3, b7, b8, b9⟩ := hI
    have eA : (t.a : Int) + (t.dg.length + 1 + 1 + 1 + 1 + 1 + 1 + 1 + 1 + 2) = ((t.a + (8 + t.dg.length + 2) : Nat) : Int) := by omega
    refine ⟨by omega, ⟨by omega, by omega⟩, ?_⟩
    rw [eA]
    refine SeqW.cut ⟨hct, fol⟩ (by kernel_rfl) (by kernel_rfl) [] (fun t : Tp => [(0, .ptr (i + 9000) 0), (2, .ptr 2 0), (5, .ptr 5 0), (10, .int .i64 t.ln), (12, .str t.dg)]) (fun t => [(i + 9000, .cells [.sl n f, .int .i64 t.a, .int .i64 t.z]), (2, .cells [.int .i64 0, .str [], .str [], .int .i64 0, .str [], .nilsl, .nilsl]), (5, .cells [.int .i64 t.r.ki, .str t.r.id, .str t.r.ow, .int .i64 t.r.ti, .str t.r.ke, .sl t.r.hd.length (lsF cHd t.r.hd), .nilsl])]) (fun t => ((t.z < 0 → t.a ≤ n) ∧ t.a ≤ 4700000 ∧ -1 ≤ t.z ∧ t.r.bd = []) ∧ t = R) ?_ fun t ht => ?_
    · push_cast (config := { maxSteps := 10000000 })
      have eT : ((t.a : Int) + (8 + t.dg.length + 1 + 1)).toNat = t.a + (8 + t.dg.length + 2) := by omega
      have e8 : tq7 (bytesOf n f) t = tp12 (bytesOf n f) ⟨t.a + (8 + t.dg.length + 2), t.z, t.r, t.ln, t.dg, t.pd⟩ := by
        unfold tq7
        rfl
      rw [e8] at hT
      clear e8
      rw [eT]
      refine ⟨fun hz => ⟨⟨h1, by omega, by omega, by have := b9 hz; omega⟩, fun g => ⟨⟨by omega, by omega⟩, ?_⟩, fun g => ⟨⟨by omega, by omega⟩, ?_⟩⟩, fun hz => ?_⟩
      · have e9 : tp12 (bytesOf n f) ⟨t.a + (8 + t.dg.length + 2), t.z, t.r, t.ln, t.dg, t.pd⟩ = ⟨t.a + (8 + t.dg.length + 2) + 2, stZ (t.a + (8 + t.dg.length + 2) : Nat) t.z, t.r, t.ln, t.dg, t.pd⟩ := by
          unfold tp12
          rw [if_pos hz, if_pos g]
        rw [e9] at hT
        refine ⟨_, ⟨?_, hT⟩, ⟨rfl, rfl⟩, ⟨?_, ?_⟩, rfl, rfl, rfl, rfl, rfl, rfl, fun _ _ => rfl⟩
        · exact ⟨fun x => absurd x stZ_no, by show t.a + _ + 2 ≤ 4700000; omega, stZ_ge b3 (by omega), b7⟩
        · first | (push_cast; done) | (push_cast; omega)
        · unfold stZ; split <;> first | rfl | omega
      · have e9 : tp12 (bytesOf n f) ⟨t.a + (8 + t.dg.length + 2), t.z, t.r, t.ln, t.dg, t.pd⟩ = ⟨t.a + (8 + t.dg.length + 2) + 2, t.z, t.r, t.ln, t.dg, t.pd⟩ := by
          unfold tp12
          rw [if_pos hz, if_neg (fun x => x.elim (fun y => by rw [g.1] at y; cases y) (fun y => y g.2))]
        rw [e9] at hT
        refine ⟨_, ⟨?_, hT⟩, ⟨rfl, rfl⟩, ⟨?_, rfl⟩, rfl, rfl, rfl, rfl, rfl, rfl, fun _ _ => rfl⟩
        · have hf := ln_fit (b := bytesOf n f) (by have := b9 hz; omega) g.1
          exact ⟨fun x => by show t.a + _ + 2 ≤ n; omega, by show t.a + _ + 2 ≤ 4700000; omega, b3, b7⟩
        · first | (push_cast; done) | (push_cast; omega)
      · have e9 : tp12 (bytesOf n f) ⟨t.a + (8 + t.dg.length + 2), t.z, t.r, t.ln, t.dg, t.pd⟩ = ⟨t.a + (8 + t.dg.length + 2), t.z, t.r, t.ln, t.dg, t.pd⟩ := by
          unfold tp12
          rw [if_neg hz]
        rw [e9] at hT
        refine ⟨_, ⟨?_, hT⟩, ⟨rfl, rfl⟩, ⟨?_, rfl⟩, rfl, rfl, rfl, rfl, rfl, rfl, fun _ _ => rfl⟩
        · exact ⟨fun x => absurd x hz, by show t.a + _ ≤ 4700000; omega, b3, b7⟩
        · first | (push_cast; done) | (push_cast; omega)
    obtain ⟨hI, hT⟩ := ht
    push_cast (config := { maxSteps := 10000000 })
    clear b1 b2 b3 b7 b8 b9
    obtain ⟨b1, b2, b3, b7⟩ := hI
    subst hT
    exact ⟨⟨⟨rfl, rfl, rfl, rfl, rfl, ⟨rfl, fun _ _ => rfl⟩⟩, rfl, rfl⟩, rfl, rfl⟩
  · cases h
@[push_cast] theorem top_ids (i o : Nat) : ckTop.ids [.ptr i o] = [i] := rfl
@[push_cast] theorem top_k (i n : Nat) (f : Nat → V) (a z : Int) : ckTop.k [.ptr i 0] [.cells [.sl n f, .int .i64 a, .int .i64 z]] = some (isBy n f ∧ n ≤ 500000 ∧ 0 ≤ a ∧ a ≤ n ∧ z = -1, .tup [.agg [.int .i64 (topL (bytesOf n f) a.toNat).r.ki, .str (topL (bytesOf n f) a.toNat).r.id, .str (topL (bytesOf n f) a.toNat).r.ow, .int .i64 (topL (bytesOf n f) a.toNat).r.ti, .str (topL (bytesOf n f) a.toNat).r.ke, .sl (topL (bytesOf n f) a.toNat).r.hd.length (lsF cHd (topL (bytesOf n f) a.toNat).r.hd), .nilsl], .int .i64 (topL (bytesOf n f) a.toNat).ln, .str (topL (bytesOf n f) a.toNat).dg], [.cells [.sl n f, .int .i64 (topL (bytesOf n f) a.toNat).a, .int .i64 (topL (bytesOf n f) a.toNat).z]]) := rfl

theorem stZ_pos {a z : Int} (h : 0 ≤ z) : stZ a z = z := by unfold stZ; rw [if_neg (by omega)]
theorem stZ_m1 {a : Int} : stZ a (-1) = a := by unfold stZ; rw [if_pos (by omega)]
theorem stZ_nat {a : Int} {k : Nat} : stZ a k = k := stZ_pos (by omega)
theorem sZ_pos {B : List UInt8} {a : Nat} {z : Int} {w : List UInt8} (h : 0 ≤ z) : sZ B a z w = z := by unfold sZ; rw [if_pos h]
theorem sS_pos {B : List UInt8} {a : Nat} {z : Int} {w : List UInt8} (h : 0 ≤ z) : sS B a z w = [] := by unfold sS; rw [if_pos h]
section
variable {B : List UInt8} {x : Tp}
theorem z2 (h : 0 ≤ x.z) : (tp2 B x).z = x.z := by unfold tp2; exact sZ_pos h
theorem z3 (h : 0 ≤ x.z) : (tp3 B x).z = x.z := by unfold tp3; rw [if_neg (by omega)]
theorem z4 (h : 0 ≤ x.z) : (tp4 B x).z = x.z := by
  unfold tp4
  split
  · show stZ x.a (sZ B x.a x.z wKind) = _
    rw [sZ_pos h, stZ_pos h]
  · exact sZ_pos h
theorem zq4 (h : 0 ≤ x.z) : (tq4 B x).z = x.z := by
  unfold tq4
  show (if rdB (sS B x.a x.z wDate) = true then sZ B x.a x.z wDate else stZ x.a (sZ B x.a x.z wDate)) = _
  split <;> rw [sZ_pos h]
  rw [stZ_pos h]
theorem z6 (h : 0 ≤ x.z) : (tp6 B x).z = x.z := sZ_pos h
theorem z7 (h : 0 ≤ x.z) : (tp7 B x).z = x.z := by
  show (rH B x.a x.z).2.2 = _
  unfold rH
  rw [if_pos h]
theorem z8 (h : 0 ≤ x.z) : (tp8 B x).z = x.z := by
  show (if digL (sS B x.a x.z wLng) 9 = true then sZ B x.a x.z wLng else stZ x.a (sZ B x.a x.z wLng)) = _
  split <;> rw [sZ_pos h]
  rw [stZ_pos h]
theorem zq5 (h : 0 ≤ x.z) : (tq5 B x).z = x.z := by
  unfold tq5
  have h5 : (tp5 B x).z = x.z := rfl
  have h6 : (tp6 B (tp5 B x)).z = x.z := z6 (x := tp5 B x) h
  have h7 : (tp7 B (tp6 B (tp5 B x))).z = x.z := (z7 (by rw [h6]; exact h)).trans h6
  exact (z8 (by rw [h7]; exact h)).trans h7
theorem zq6 (h : 0 ≤ x.z) : (tq6 B x).z = x.z := by
  unfold tq6
  show (if dgB (sS B (tp9 B x).a x.z wDig) = true then sZ B (tp9 B x).a x.z wDig else stZ (tp9 B x).a (sZ B (tp9 B x).a x.z wDig)) = _
  split <;> rw [sZ_pos h]
  rw [stZ_pos h]
theorem zq7 (h : 0 ≤ x.z) : (tq7 B x).z = x.z := by
  unfold tq7 tp12
  rw [if_neg (by show ¬ x.z < 0; omega)]
  rfl
end
theorem said_ok {B : List UInt8} {a : Nat} {w : List UInt8} (h : lineOk B a w = true) : sS B a (-1) w = lineV B a w ∧ sZ B a (-1) w = -1 ∧ tA B a (-1) w = lnN B a := by
  unfold sS sZ tA
  have m1 : ¬ (0 : Int) ≤ -1 := by decide
  rw [if_neg m1, if_neg m1, if_neg m1, if_pos h, if_pos h, if_pos h]
  exact ⟨rfl, rfl, rfl⟩
theorem said_no {B : List UInt8} {a : Nat} {w : List UInt8} (h : lineOk B a w = false) : sS B a (-1) w = [] ∧ sZ B a (-1) w = a ∧ tA B a (-1) w = a := by
  unfold sS sZ tA
  have m1 : ¬ (0 : Int) ≤ -1 := by decide
  rw [if_neg m1, if_neg m1, if_neg m1, if_neg (by rw [h]; simp), if_neg (by rw [h]; simp), if_neg (by rw [h]; simp)]
  exact ⟨rfl, rfl, rfl⟩
/-- what the two readers make of lines -/
def Cc (T : Tp) (L : Bool × Rp × List Hd) : Prop := (L.1 = true → T.z = -1 ∧ T.a = L.2.1.pl ∧ T.r = ⟨L.2.1.ki, L.2.1.id, L.2.1.ow, L.2.1.ti, L.2.1.ke, L.2.2, []⟩ ∧ T.ln = L.2.1.ln ∧ T.dg = L.2.1.dg) ∧ (L.1 = false → T.z = L.2.1.pl)
theorem Cc.no {T : Tp} {x : Rp} {h : List Hd} (e : T.z = x.pl) : Cc T (false, x, h) := ⟨fun h => (by cases h), fun _ => e⟩
theorem dig_nil : digL [] 9 = false := rfl
theorem dg_nil : dgB [] = false := rfl
theorem rd_nil : rdB [] = false := by
  cases h : rdB [] with
  | false => rfl
  | true => have := (rdB_fields h).1; simp at this
theorem kind_nil : kindI [] = 0 := rfl
theorem ccD {B : List UInt8} {pl : Nat} (hp : pl ≤ B.length) (r : Rcd) (hb : r.bd = []) (l0 l1 : Int) (d0 d1 pd : List UInt8) : Cc (tq7 B (tq6 B (tp8 B ⟨pl, -1, r, l0, d0, pd⟩))) (linesD B ⟨pl, r.ki, r.id, r.ow, r.ti, r.ke, l1, d1⟩ r.hd) := by
  unfold linesD
  dsimp only
  cases h8 : lnR B pl wLng (fun v => digL v 9) with
  | false =>
    rw [if_pos rfl]
    obtain ⟨e1, e2⟩ := lnR_no h8
    refine Cc.no ?_
    have hz : (tp8 B ⟨pl, -1, r, l0, d0, pd⟩).z = (pl : Int) := by
      show (if digL (sS B pl (-1) wLng) 9 = true then sZ B pl (-1) wLng else stZ pl (sZ B pl (-1) wLng)) = _
      rcases e2 with e | ⟨e, e'⟩
      · rw [(said_no e).1, (said_no e).2.1, dig_nil, if_neg (by simp), stZ_nat]
      · rw [(said_ok e).1, (said_ok e).2.1, e', if_neg (by simp), stZ_m1]
    have h6 : (tq6 B (tp8 B ⟨pl, -1, r, l0, d0, pd⟩)).z = (pl : Int) := (zq6 (by rw [hz]; omega)).trans hz
    rw [zq7 (by rw [h6]; omega), h6, e1]
  | true =>
    rw [if_neg (by simp)]
    obtain ⟨e1, e2, e3⟩ := lnR_ok h8
    obtain ⟨f1, f2⟩ := lineOk_fit hp e1
    have hx : tp8 B ⟨pl, -1, r, l0, d0, pd⟩ = ⟨pl, -1, r, natOf (lineV B pl wLng), d0, lineV B pl wLng⟩ := by
      unfold tp8
      simp only [(said_ok e1).1, (said_ok e1).2.1, e2, if_true]
    rw [hx, e3, lnF_ok e1, if_pos e2]
    have hx9 : tp9 B ⟨pl, -1, r, natOf (lineV B pl wLng), d0, lineV B pl wLng⟩ = ⟨lnN B pl, -1, r, natOf (lineV B pl wLng), d0, lineV B pl wLng⟩ := by
      unfold tp9
      simp only
      congr 1
    generalize lineV B pl wLng = v at *
    generalize lnN B pl = p2 at *
    unfold tq6
    rw [hx9]
    cases h9 : lnR B p2 wDig dgB with
    | false =>
      rw [if_pos rfl]
      obtain ⟨e1, e2⟩ := lnR_no h9
      refine Cc.no ?_
      have hz : (tp10 B ⟨p2, -1, r, natOf v, d0, v⟩).z = (p2 : Int) := by
        show (if dgB (sS B p2 (-1) wDig) = true then sZ B p2 (-1) wDig else stZ p2 (sZ B p2 (-1) wDig)) = _
        rcases e2 with e | ⟨e, e'⟩
        · rw [(said_no e).1, (said_no e).2.1, dg_nil, if_neg (by simp), stZ_nat]
        · rw [(said_ok e).1, (said_ok e).2.1, e', if_neg (by simp), stZ_m1]
      rw [zq7 (by rw [hz]; omega), hz, e1]
    | true =>
      rw [if_neg (by simp)]
      obtain ⟨e1, e2, e3⟩ := lnR_ok h9
      obtain ⟨g1, g2⟩ := lineOk_fit f2 e1
      have hx : tp10 B ⟨p2, -1, r, natOf v, d0, v⟩ = ⟨p2, -1, r, natOf v, lineV B p2 wDig, v⟩ := by
        unfold tp10
        simp only [(said_ok e1).1, (said_ok e1).2.1, e2, if_true]
      rw [hx, e3, lnF_ok e1]
      unfold tq7
      have hx11 : tp11 B ⟨p2, -1, r, natOf v, lineV B p2 wDig, v⟩ = ⟨lnN B p2, -1, r, natOf v, lineV B p2 wDig, v⟩ := by
        unfold tp11
        simp only
        congr 1
      rw [hx11]
      generalize lineV B p2 wDig = u at *
      generalize lnN B p2 = p3 at *
      unfold tp12 wholeB wholeA wholeB
      rw [if_pos (by show (-1 : Int) < 0; omega)]
      cases hB : lnB B p3 with
      | false =>
        rw [if_pos (.inl rfl)]
        refine ⟨fun h => by simp at h, fun _ => ?_⟩
        simp only [Bool.false_and, Bool.false_eq_true, if_false]
        exact stZ_m1
      | true =>
        obtain ⟨k1, k2⟩ := l6S_eq hB
        rw [k1]
        by_cases hn : lnS B p3 = []
        · rw [if_neg (by rw [hn]; simp)]
          refine ⟨fun _ => ⟨rfl, ?_, ?_, rfl, rfl⟩, fun h => by simp [hn] at h⟩
          · simp only [hn, Bool.true_and, BEq.rfl, if_true]
            rw [hn] at k2
            simp only [List.length_nil] at k2
            omega
          · cases r; simp_all
        · rw [if_pos (.inr hn)]
          have : (lnS B p3 == []) = false := by simpa using hn
          refine ⟨fun h => by rw [this] at h; simp at h, fun _ => ?_⟩
          simp only [this, Bool.true_and, Bool.false_eq_true, if_false]
          exact stZ_m1
theorem ccC {B : List UInt8} {pl : Nat} (hp : pl ≤ B.length) (r : Rcd) (hh : r.hd = []) (hb : r.bd = []) (l0 l1 : Int) (d0 d1 pd : List UInt8) : Cc (tq7 B (tq6 B (tq5 B (tq4 B (tp4 B ⟨pl, -1, r, l0, d0, pd⟩))))) (linesC B B.length ⟨pl, r.ki, r.id, r.ow, r.ti, r.ke, l1, d1⟩) := by
  unfold linesC
  dsimp only
  cases h4 : lnR B pl wKind kindB with
  | false =>
    rw [if_pos rfl]
    obtain ⟨e1, e2⟩ := lnR_no h4
    refine Cc.no ?_
    have hz : (tp4 B ⟨pl, -1, r, l0, d0, pd⟩).z = (pl : Int) := by
      unfold tp4
      dsimp only
      rcases e2 with e | ⟨e, e'⟩
      · rw [(said_no e).1, (said_no e).2.1, if_pos kind_nil, stZ_nat]
      · have e0 : kindI (lineV B pl wKind) = 0 := by
          have := of_decide_eq_false e'
          have := kindI_b (lineV B pl wKind)
          omega
        rw [(said_ok e).1, (said_ok e).2.1, if_pos e0, stZ_m1]
    have k1 := (zq4 (x := tp4 B ⟨pl, -1, r, l0, d0, pd⟩) (B := B) (by rw [hz]; omega)).trans hz
    have k2 := (zq5 (B := B) (by rw [k1]; omega)).trans k1
    have k3 := (zq6 (B := B) (by rw [k2]; omega)).trans k2
    rw [zq7 (by rw [k3]; omega), k3, e1]
  | true =>
    rw [if_neg (by simp)]
    obtain ⟨e1, e2, e3⟩ := lnR_ok h4
    obtain ⟨f1, f2⟩ := lineOk_fit hp e1
    have e0 : ¬ kindI (lineV B pl wKind) = 0 := by
      have := of_decide_eq_true e2
      omega
    have hx : tp4 B ⟨pl, -1, r, l0, d0, pd⟩ = ⟨lnN B pl, -1, { r with ki := kindI (lineV B pl wKind) }, l0, d0, pd⟩ := by
      unfold tp4
      dsimp only
      rw [(said_ok e1).1, (said_ok e1).2.1, if_neg e0, kindI_word e0]
      congr 1
    rw [hx, e3, lnF_ok e1]
    generalize hk : kindI (lineV B pl wKind) = ki at *
    generalize lnN B pl = p2 at *
    clear f1
    cases h5 : lnR B p2 wDate rdB with
    | false =>
      rw [if_pos rfl]
      obtain ⟨e1, e2⟩ := lnR_no h5
      refine Cc.no ?_
      have hz : (tq4 B ⟨p2, -1, { r with ki := ki }, l0, d0, pd⟩).z = (p2 : Int) := by
        unfold tq4
        dsimp only
        rcases e2 with e | ⟨e, e'⟩
        · rw [(said_no e).1, (said_no e).2.1, rd_nil, if_neg (by simp), stZ_nat]
        · rw [(said_ok e).1, (said_ok e).2.1, e', if_neg (by simp), stZ_m1]
      have k2 := (zq5 (B := B) (by rw [hz]; omega)).trans hz
      have k3 := (zq6 (B := B) (by rw [k2]; omega)).trans k2
      rw [zq7 (by rw [k3]; omega), k3, e1]
    | true =>
      rw [if_neg (by simp)]
      obtain ⟨e1, e2, e3⟩ := lnR_ok h5
      obtain ⟨g1, g2⟩ := lineOk_fit f2 e1
      have hx : tp5 B (tq4 B ⟨p2, -1, { r with ki := ki }, l0, d0, pd⟩) = ⟨lnN B p2, -1, { r with ki := ki, ti := rdV (lineV B p2 wDate) }, l0, d0, lineV B p2 wDate⟩ := by
        unfold tp5 tq4
        dsimp only
        rw [(said_ok e1).1, (said_ok e1).2.1, e2, if_pos rfl]
        congr 1
      unfold tq5
      rw [hx, e3, lnF_ok e1]
      generalize lineV B p2 wDate = v at *
      generalize lnN B p2 = p3 at *
      clear g1
      cases h6 : lnR B p3 wKey (fun _ => true) with
      | false =>
        rw [if_pos rfl]
        obtain ⟨e1, e2⟩ := lnR_no h6
        have e : lineOk B p3 wKey = false := e2.resolve_right (fun x => by cases x.2)
        refine Cc.no ?_
        have hz : (tp6 B ⟨p3, -1, { r with ki := ki, ti := rdV v }, l0, d0, v⟩).z = (p3 : Int) := (said_no e).2.1
        have k1 := (z7 (B := B) (by rw [hz]; omega)).trans hz
        have k2 := (z8 (B := B) (by rw [k1]; omega)).trans k1
        have k3 := (zq6 (B := B) (by rw [k2]; omega)).trans k2
        rw [zq7 (by rw [k3]; omega), k3, e1]
      | true =>
        rw [if_neg (by simp)]
        obtain ⟨e1, e2, e3⟩ := lnR_ok h6
        obtain ⟨q1, q2⟩ := lineOk_fit g2 e1
        have hx : tp6 B ⟨p3, -1, { r with ki := ki, ti := rdV v }, l0, d0, v⟩ = ⟨lnN B p3, -1, { r with ki := ki, ti := rdV v, ke := lineV B p3 wKey }, l0, d0, v⟩ := by
          unfold tp6
          dsimp only
          rw [(said_ok e1).1, (said_ok e1).2.1, (said_ok e1).2.2]
        rw [hx, e3, lnF_ok e1]
        generalize lineV B p3 wKey = u at *
        generalize lnN B p3 = p4 at *
        clear q1
        have hl := (hds_le (B := B) (B.length + 1) p4 [] q2 (nohds _) (Nat.zero_le _)).1
        have m1 : ¬ (0 : Int) ≤ -1 := by decide
        cases h7 : (hdsR B (B.length + 1) p4 []).1 with
        | false =>
          rw [if_pos rfl]
          refine Cc.no ?_
          have hz : (tp7 B ⟨p4, -1, { r with ki := ki, ti := rdV v, ke := u }, l0, d0, v⟩).z = ((hdsR B (B.length + 1) p4 []).2.1 : Int) := by
            unfold tp7 rH
            dsimp only
            rw [if_neg m1, if_neg (by rw [h7]; simp)]
          have k2 := (z8 (B := B) (by rw [hz]; omega)).trans hz
          have k3 := (zq6 (B := B) (by rw [k2]; omega)).trans k2
          rw [zq7 (by rw [k3]; omega), k3]
        | true =>
          rw [if_neg (by simp)]
          have hx : tp7 B ⟨p4, -1, { r with ki := ki, ti := rdV v, ke := u }, l0, d0, v⟩ = ⟨(hdsR B (B.length + 1) p4 []).2.1, -1, { r with ki := ki, ti := rdV v, ke := u, hd := (hdsR B (B.length + 1) p4 []).2.2 }, l0, d0, v⟩ := by
            unfold tp7 rH
            dsimp only
            rw [if_neg m1, if_pos h7]
          rw [hx]
          exact ccD hl { r with ki := ki, ti := rdV v, ke := u, hd := (hdsR B (B.length + 1) p4 []).2.2 } hb l0 l1 d0 d1 v
theorem pre_of (B : List UInt8) (i : Nat) : hasPre (B.drop i) [111, 102, 58, 32] = isL B i wOf := by
  change _ = isL B i [111, 102]
  unfold isL hasPre
  simp only [List.length_cons, List.length_nil, List.length_drop]
  rw [Bool.eq_iff_iff]
  simp only [Bool.and_eq_true, decide_eq_true_eq, beq_iff_eq]
  constructor
  · exact fun h => h.2
  · intro h
    have hl := congrArg List.length h
    simp only [List.length_take, List.length_drop, List.length_append, List.length_cons, List.length_nil] at hl
    exact ⟨by omega, h⟩
theorem top_lines {B : List UInt8} {a : Nat} (ha : a ≤ B.length) : Cc (topL B a) (linesL B B.length (rp0 a)) := by
  unfold topL linesL rp0
  dsimp only
  have m1 : ¬ (0 : Int) ≤ -1 := by decide
  cases h1 : wholeB B a wKept0 with
  | false =>
    rw [if_pos rfl]
    have e1 : wholeA B a wKept0 = a := by unfold wholeA; rw [if_neg (by rw [h1]; simp)]
    have hx : (tp1 B a).z = (a : Int) := by unfold tp1; rw [if_neg (by rw [h1]; simp)]
    refine Cc.no ?_
    have k2 := (z2 (B := B) (by rw [hx]; omega)).trans hx
    have k3 := (z3 (B := B) (by rw [k2]; omega)).trans k2
    have k4 := (z4 (B := B) (by rw [k3]; omega)).trans k3
    have k5 := (zq4 (B := B) (by rw [k4]; omega)).trans k4
    have k6 := (zq5 (B := B) (by rw [k5]; omega)).trans k5
    have k7 := (zq6 (B := B) (by rw [k6]; omega)).trans k6
    rw [zq7 (by rw [k7]; omega), k7, e1]
  | true =>
    rw [if_neg (by simp)]
    have e1 : wholeA B a wKept0 = a + 8 ∧ a + 8 ≤ B.length := by
      have h1' := h1
      unfold wholeB at h1'
      simp only [Bool.and_eq_true, beq_iff_eq] at h1'
      have hf := ln_fit ha h1'.1
      have h8 := congrArg List.length h1'.2
      have h9 : wKept0.length = 6 := rfl
      unfold wholeA
      rw [if_pos h1]
      omega
    have hx : tp1 B a = ⟨a + 8, -1, noRec, 0, [], []⟩ := by unfold tp1; rw [if_pos h1]
    rw [hx, e1.1]
    generalize a + 8 = p1 at *
    have hp := e1.2
    clear e1 hx h1 ha
    cases h2 : lnR B p1 wId (fun _ => true) with
    | false =>
      rw [if_pos rfl]
      obtain ⟨e1, e2⟩ := lnR_no h2
      have e : lineOk B p1 wId = false := e2.resolve_right (fun x => by cases x.2)
      refine Cc.no ?_
      have hz : (tp2 B ⟨p1, -1, noRec, 0, [], []⟩).z = (p1 : Int) := by unfold tp2; exact (said_no e).2.1
      have k3 := (z3 (B := B) (by rw [hz]; omega)).trans hz
      have k4 := (z4 (B := B) (by rw [k3]; omega)).trans k3
      have k5 := (zq4 (B := B) (by rw [k4]; omega)).trans k4
      have k6 := (zq5 (B := B) (by rw [k5]; omega)).trans k5
      have k7 := (zq6 (B := B) (by rw [k6]; omega)).trans k6
      rw [zq7 (by rw [k7]; omega), k7, e1]
    | true =>
      rw [if_neg (by simp)]
      obtain ⟨e1, e2, e3⟩ := lnR_ok h2
      obtain ⟨q1, q2⟩ := lineOk_fit hp e1
      have hx : tp2 B ⟨p1, -1, noRec, 0, [], []⟩ = ⟨lnN B p1, -1, { noRec with id := lineV B p1 wId }, 0, [], []⟩ := by
        unfold tp2
        dsimp only
        rw [(said_ok e1).1, (said_ok e1).2.1, (said_ok e1).2.2]
      rw [hx, e3, lnF_ok e1]
      generalize lineV B p1 wId = v at *
      generalize lnN B p1 = p2 at *
      clear q1 hx e1 e2 e3 h2
      cases ho : isL B p2 wOf with
      | false =>
        rw [if_neg (by simp)]
        have hx : tp3 B ⟨p2, -1, { noRec with id := v }, 0, [], []⟩ = ⟨p2, -1, { noRec with id := v }, 0, [], []⟩ := by
          unfold tp3
          rw [if_neg]
          rw [pre_of]
          intro x
          have := x.2
          dsimp only at this
          rw [ho] at this; cases this
        rw [hx]
        exact ccC q2 { noRec with id := v } rfl rfl 0 0 [] [] []
      | true =>
        rw [if_pos rfl]
        have hc : ((-1 : Int) < 0 ∧ hasPre (B.drop p2) [111, 102, 58, 32] = true) := ⟨by decide, by rw [pre_of]; exact ho⟩
        cases h3 : lnR B p2 wOf ofB with
        | false =>
          rw [if_pos rfl]
          obtain ⟨e1, e2⟩ := lnR_no h3
          refine Cc.no ?_
          have hz : (tp3 B ⟨p2, -1, { noRec with id := v }, 0, [], []⟩).z = (p2 : Int) := by
            unfold tp3
            dsimp only
            rw [if_pos hc]
            dsimp only
            rcases e2 with e | ⟨e, e'⟩
            · rw [(said_no e).1, (said_no e).2.1, if_pos rfl, stZ_nat]
            · have e0 : lineV B p2 wOf = [] := by
                unfold ofB at e'
                simpa using e'
              rw [(said_ok e).1, (said_ok e).2.1, if_pos e0, stZ_m1]
          have k4 := (z4 (B := B) (by rw [hz]; omega)).trans hz
          have k5 := (zq4 (B := B) (by rw [k4]; omega)).trans k4
          have k6 := (zq5 (B := B) (by rw [k5]; omega)).trans k5
          have k7 := (zq6 (B := B) (by rw [k6]; omega)).trans k6
          rw [zq7 (by rw [k7]; omega), k7, e1]
        | true =>
          rw [if_neg (by simp)]
          obtain ⟨e1, e2, e3⟩ := lnR_ok h3
          obtain ⟨g1, g2⟩ := lineOk_fit q2 e1
          have e0 : ¬ lineV B p2 wOf = [] := by
            unfold ofB at e2
            simpa using e2
          have hx : tp3 B ⟨p2, -1, { noRec with id := v }, 0, [], []⟩ = ⟨lnN B p2, -1, { noRec with id := v, ow := lineV B p2 wOf }, 0, [], []⟩ := by
            unfold tp3
            dsimp only
            rw [if_pos hc, (said_ok e1).1, (said_ok e1).2.1, if_neg e0]
            congr 1
          rw [hx, e3, lnF_ok e1]
          exact ccC g2 { noRec with id := v, ow := lineV B p2 wOf } rfl rfl 0 0 [] [] []

theorem conReadOne02 : Con pg 80 ckReadOne0 := by
  have hct := (ctF_ok conTop6 (ctA_ok conDigest2 (ctA_ok conCheckRec2 (ctN_ok _))))
  intro args q r h hq
  unfold ckReadOne0 at h
  split at h
  · cases h
    rename_i n f a
    refine pcall_args (args' := [.sl (bytesOf n f).length (byF (bytesOf n f)), .int .i64 a]) ⟨isBy.vle hq.1, VLe.refl _, trivial⟩ ?_
    obtain ⟨-, hn, h0, h1⟩ := hq
    have hl := bytesOf_len n f
    rw [← hl] at hn h1
    generalize bytesOf n f = B at hn h1 ⊢
    clear hl
    obtain ⟨a, rfl⟩ : ∃ k : Nat, a = k := ⟨a.toNat, by omega⟩
    rw [Int.toNat_natCast]
    refine w80 (fun _ => false) [.frz 59] rfl hct rfl rfl ?_
    push_cast (config := { maxSteps := 10000000 })
    have h1 : a ≤ B.length := by omega
    have cc := top_lines h1
    have lk := linesL_ok (B := B) (rp0_ok (n := B.length) (a := a) h1)
    generalize topL B a = T at cc ⊢
    generalize hR : rdOne B a = R
    unfold rdOne at hR
    generalize linesL B B.length (rp0 a) = L at lk hR cc
    obtain ⟨ok, ⟨pl, ki, id, ow, ti, ke, ln, dg⟩, hs⟩ := L
    obtain ⟨⟨p1, ⟨p2, p2'⟩, p3, p4, ⟨p5, p5'⟩, p6, ⟨p7, p7'⟩⟩, p8, p9⟩ := lk
    simp only at hR p1 p2 p2' p3 p4 p5 p5' p6 p7 p7' p8 p9
    cases ok with
    | false =>
      have ez : T.z = (pl : Int) := cc.2 rfl
      rw [if_pos rfl] at hR
      rw [← hR]
      exact ⟨⟨hn, h1⟩, fun _ => ⟨⟨rfl, rfl, rfl, rfl, rfl, rfl, rfl⟩, ez, rfl⟩, fun h => absurd (by omega) h⟩
    | true =>
      obtain ⟨e1, e2, e3, e4, e5⟩ := cc.1 rfl
      obtain ⟨ta, tz, tr, tl, td, tp⟩ := T
      simp only at e1 e2 e3 e4 e5
      subst e1; subst e2; subst e3; subst e4; subst e5
      obtain ⟨ln, rfl⟩ : ∃ k : Nat, tl = k := ⟨tl.toNat, by omega⟩
      rw [if_neg (by simp)] at hR
      simp only
      have e1 : ((ta : Int) + ln).toNat = ta + ln := by omega
      have e2 : ((ta : Int) + ln + 4).toNat = ta + ln + 4 := by omega
      simp only [e1, e2, Int.toNat_natCast, Nat.add_sub_cancel_left] at hR ⊢
      have full : ¬ (B.length : Int) - ta < ln → ByI ln (shF (byF B) ta) ((B.drop ta).take ln) := fun h => ByI.sh (ByI.by B) (l := ta) (k := ln) (by omega)
      refine ⟨⟨hn, h1⟩, fun h => by omega, fun _ => ⟨⟨by omega, by omega⟩, fun h => ?_, fun h => ?_⟩⟩
      · rw [if_pos (by omega)] at hR
        rw [← hR]
        exact ⟨⟨rfl, rfl, rfl, rfl, rfl, rfl, rfl⟩, rfl, rfl⟩
      have bb := full h
      have bb' : bytesOf ln (fun i => shF (byF B) ta i) = (B.drop ta).take ln := bb.bytes
      refine ⟨⟨by omega, by omega⟩, ⟨⟨by omega, by omega⟩, by omega, by omega⟩, ⟨by omega, by omega⟩, ⟨by omega, by omega⟩, ⟨by omega, by omega⟩, fun h2 => ⟨bb.pure, ?_⟩, fun h2 => ?_⟩
      · rw [if_pos (by omega)] at hR
        rw [← hR]
        exact ⟨⟨rfl, rfl, rfl, rfl, rfl, rfl, rfl⟩, rfl, rfl⟩
      rw [if_neg (by omega)] at hR
      have b4 := ByI.sh (ByI.by B) (l := ta + ln) (k := 4) (by omega)
      have b4' : bytesOf 4 (shF (byF B) (ta + ln)) = (B.drop (ta + ln)).take 4 := b4.bytes
      simp only [b4', bb']
      refine ⟨⟨by omega, by omega⟩, ⟨⟨by omega, by omega⟩, ⟨by omega, by omega⟩, by omega⟩, b4.bytesP, fun h3 => ⟨bb.pure, ?_⟩, fun h3 => ⟨⟨bb.is, by omega⟩, bb.pure, fun h4 => ⟨bb.pure, ?_⟩, fun h4 => ⟨⟨isC_rec (isLs_ls hs) bb.is, ?_⟩, bb.pure, fun h5 => ⟨bb.pure, ?_⟩, fun h5 => ⟨⟨by omega, by omega⟩, bb.pure, ?_⟩⟩⟩⟩
      · rw [if_pos (show _ ≠ crlf2 from h3)] at hR
        rw [← hR]
        exact ⟨⟨rfl, rfl, rfl, rfl, rfl, rfl, rfl⟩, rfl, rfl⟩
      · rw [if_neg (show ¬ (List.take 4 (List.drop (ta + ln) B) ≠ crlf2) from fun x => x h3), if_pos h4] at hR
        rw [← hR]
        exact ⟨⟨rfl, rfl, rfl, rfl, rfl, rfl, rfl⟩, rfl, rfl⟩
      · have := bb.1
        refine ⟨fun x hx => ?_, ?_, ?_, ?_, ?_, ?_, ?_, ?_, ?_, ?_⟩
        · have := p8 x hx
          omega
        all_goals simp only
        all_goals omega
      · rw [if_neg (show ¬ (List.take 4 (List.drop (ta + ln) B) ≠ crlf2) from fun x => x h3), if_neg (fun x => x h4), if_pos h5] at hR
        rw [← hR]
        exact ⟨⟨rfl, rfl, rfl, rfl, rfl, rfl, rfl⟩, rfl, rfl⟩
      · rw [if_neg (show ¬ (List.take 4 (List.drop (ta + ln) B) ≠ crlf2) from fun x => x h3), if_neg (fun x => x h4), if_neg (fun x => x h5)] at hR
        rw [← hR]
        exact ⟨⟨rfl, rfl, rfl, rfl, rfl, ⟨rfl, fun _ _ => rfl⟩, bb.1, bb.2⟩, rfl, rfl⟩
  · cases h
theorem conReadOne2 : Con pg 41 ckReadOne := by
  have hct := (ctA_ok conReadOne02 (ctA_ok conWithin6 (ctN_ok _)))
  intro args q r h hq
  unfold ckReadOne at h
  split at h
  · cases h
    rename_i n f a
    refine pcall_args (args' := [.sl (bytesOf n f).length (byF (bytesOf n f)), .int .i64 a]) ⟨isBy.vle hq.1, VLe.refl _, trivial⟩ ?_
    obtain ⟨-, hn⟩ := hq
    have hl := bytesOf_len n f
    rw [← hl] at hn
    generalize bytesOf n f = B at hn ⊢
    clear hl
    refine w41 (fun _ => false) [] rfl hct rfl rfl ?_
    push_cast (config := { maxSteps := 10000000 })
    generalize hR : rdOneR B a = R
    unfold rdOneR at hR
    refine ⟨fun h => ?_, fun h => ⟨⟨by omega, by omega, by omega⟩, ?_⟩⟩
    · rw [if_pos (by omega)] at hR
      rw [← hR]
      exact ⟨⟨rfl, rfl, rfl, rfl, rfl, rfl, rfl⟩, rfl, rfl⟩
    · rw [if_neg (by omega)] at hR
      rw [← hR]
      exact ⟨⟨rfl, rfl, rfl, rfl, rfl, ⟨rfl, fun _ _ => rfl⟩, rfl, fun _ _ => rfl⟩, rfl, rfl⟩
  · cases h

end Go.Abs
