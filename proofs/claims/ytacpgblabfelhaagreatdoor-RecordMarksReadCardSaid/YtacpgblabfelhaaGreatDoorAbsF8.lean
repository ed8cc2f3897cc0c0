/- what functions of this program compute: contracts, each a function's own -/
import Derived.Test.YtacpgblabfelhaaGreatDoorAbsK2
import Derived.Test.YtacpgblabfelhaaGreatDoorAbsFacts
import Derived.Test.YtacpgblabfelhaaGreatDoorAbsF7
import Derived.Test.YtacpgblabfelhaaGreatDoorAbsShelf
import Derived.Lib.SlTrimSet
import Derived.Lib.Atoi
import Derived.Lib.Itoa
import Derived.Lib.ItoaNum
import Derived.Lib.AtoiErrMem
import Derived.Lib.ItoaLen
import Derived.Lib.SplitLaws
import Derived.Shelf.Bytes.SlIndexWhole
import Derived.Lib.Index
import Derived.Lib.IndexBytes
import Derived.Shelf.Spec.SlicesGrow
namespace Go.Abs
open Go Go.Proofs
set_option maxHeartbeats 4000000
set_option maxRecDepth 100000
set_option linter.unusedVariables false
set_option linter.unusedSimpArgs false
theorem stZ_pos {a z : Int} (h : 0 ≤ z) : stZ a z = z := by unfold stZ; rw [if_neg (by omega)]
theorem stZ_m1 {a : Int} : stZ a (-1) = a := by unfold stZ; rw [if_pos (by omega)]
theorem stZ_nat {a : Int} {k : Nat} : stZ a k = k := stZ_pos (by omega)
theorem sZ_pos {B : List UInt8} {a : Nat} {z : Int} {w : List UInt8} (h : 0 ≤ z) : sZ B a z w = z := by unfold sZ; rw [if_pos h]
theorem sS_pos {B : List UInt8} {a : Nat} {z : Int} {w : List UInt8} (h : 0 ≤ z) : sS B a z w = [] := by unfold sS; rw [if_pos h]
section
variable {B : List UInt8} {x : Tp}
theorem z2 (h : 0 ≤ x.z) : (tp2 B x).z = x.z := by unfold tp2; exact sZ_pos h
theorem z3 (h : 0 ≤ x.z) : (tp3 B x).z = x.z := by unfold tp3; rw [if_neg (by omega)]
theorem z4 (h : 0 ≤ x.z) : (tp4 B x).z = x.z := by
  unfold tp4
  split
  · show stZ x.a (sZ B x.a x.z wKind) = _
    rw [sZ_pos h, stZ_pos h]
  · exact sZ_pos h
theorem zq4 (h : 0 ≤ x.z) : (tq4 B x).z = x.z := by
  unfold tq4
  show (if rdB (sS B x.a x.z wDate) = true then sZ B x.a x.z wDate else stZ x.a (sZ B x.a x.z wDate)) = _
  split <;> rw [sZ_pos h]
  rw [stZ_pos h]
theorem z6 (h : 0 ≤ x.z) : (tp6 B x).z = x.z := sZ_pos h
theorem z7 (h : 0 ≤ x.z) : (tp7 B x).z = x.z := by
  show (rH B x.a x.z).2.2 = _
  unfold rH
  rw [if_pos h]
theorem z8 (h : 0 ≤ x.z) : (tp8 B x).z = x.z := by
  show (if digL (sS B x.a x.z wLng) 9 = true then sZ B x.a x.z wLng else stZ x.a (sZ B x.a x.z wLng)) = _
  split <;> rw [sZ_pos h]
  rw [stZ_pos h]
theorem zq5 (h : 0 ≤ x.z) : (tq5 B x).z = x.z := by
  unfold tq5
  have h5 : (tp5 B x).z = x.z := rfl
  have h6 : (tp6 B (tp5 B x)).z = x.z := z6 (x := tp5 B x) h
  have h7 : (tp7 B (tp6 B (tp5 B x))).z = x.z := (z7 (by rw [h6]; exact h)).trans h6
  exact (z8 (by rw [h7]; exact h)).trans h7
theorem zq6 (h : 0 ≤ x.z) : (tq6 B x).z = x.z := by
  unfold tq6
  show (if dgB (sS B (tp9 B x).a x.z wDig) = true then sZ B (tp9 B x).a x.z wDig else stZ (tp9 B x).a (sZ B (tp9 B x).a x.z wDig)) = _
  split <;> rw [sZ_pos h]
  rw [stZ_pos h]
theorem zq7 (h : 0 ≤ x.z) : (tq7 B x).z = x.z := by
  unfold tq7 tp12
  rw [if_neg (by show ¬ x.z < 0; omega)]
  rfl
end
theorem said_ok {B : List UInt8} {a : Nat} {w : List UInt8} (h : lineOk B a w = true) : sS B a (-1) w = lineV B a w ∧ sZ B a (-1) w = -1 ∧ tA B a (-1) w = lnN B a := by
  unfold sS sZ tA
  have m1 : ¬ (0 : Int) ≤ -1 := by decide
  rw [if_neg m1, if_neg m1, if_neg m1, if_pos h, if_pos h, if_pos h]
  exact ⟨rfl, rfl, rfl⟩
theorem said_no {B : List UInt8} {a : Nat} {w : List UInt8} (h : lineOk B a w = false) : sS B a (-1) w = [] ∧ sZ B a (-1) w = a ∧ tA B a (-1) w = a := by
  unfold sS sZ tA
  have m1 : ¬ (0 : Int) ≤ -1 := by decide
  rw [if_neg m1, if_neg m1, if_neg m1, if_neg (by rw [h]; simp), if_neg (by rw [h]; simp), if_neg (by rw [h]; simp)]
  exact ⟨rfl, rfl, rfl⟩
/-- what the two readers make of lines -/
def Cc (T : Tp) (L : Bool × Rp × List Hd) : Prop := (L.1 = true → T.z = -1 ∧ T.a = L.2.1.pl ∧ T.r = ⟨L.2.1.ki, L.2.1.id, L.2.1.ow, L.2.1.ti, L.2.1.ke, L.2.2, []⟩ ∧ T.ln = L.2.1.ln ∧ T.dg = L.2.1.dg) ∧ (L.1 = false → T.z = L.2.1.pl)
theorem Cc.no {T : Tp} {x : Rp} {h : List Hd} (e : T.z = x.pl) : Cc T (false, x, h) := ⟨fun h => (by cases h), fun _ => e⟩
theorem dig_nil : digL [] 9 = false := rfl
theorem dg_nil : dgB [] = false := rfl
theorem rd_nil : rdB [] = false := by
  cases h : rdB [] with
  | false => rfl
  | true => have := (rdB_fields h).1; simp at this
theorem kind_nil : kindI [] = 0 := rfl
theorem ccD {B : List UInt8} {pl : Nat} (hp : pl ≤ B.length) (r : Rcd) (hb : r.bd = []) (l0 l1 : Int) (d0 d1 pd : List UInt8) : Cc (tq7 B (tq6 B (tp8 B ⟨pl, -1, r, l0, d0, pd⟩))) (linesD B ⟨pl, r.ki, r.id, r.ow, r.ti, r.ke, l1, d1⟩ r.hd) := by
  unfold linesD
  dsimp only
  cases h8 : lnR B pl wLng (fun v => digL v 9) with
  | false =>
    rw [if_pos rfl]
    obtain ⟨e1, e2⟩ := lnR_no h8
    refine Cc.no ?_
    have hz : (tp8 B ⟨pl, -1, r, l0, d0, pd⟩).z = (pl : Int) := by
      show (if digL (sS B pl (-1) wLng) 9 = true then sZ B pl (-1) wLng else stZ pl (sZ B pl (-1) wLng)) = _
      rcases e2 with e | ⟨e, e'⟩
      · rw [(said_no e).1, (said_no e).2.1, dig_nil, if_neg (by simp), stZ_nat]
      · rw [(said_ok e).1, (said_ok e).2.1, e', if_neg (by simp), stZ_m1]
    have h6 : (tq6 B (tp8 B ⟨pl, -1, r, l0, d0, pd⟩)).z = (pl : Int) := (zq6 (by rw [hz]; omega)).trans hz
    rw [zq7 (by rw [h6]; omega), h6, e1]
  | true =>
    rw [if_neg (by simp)]
    obtain ⟨e1, e2, e3⟩ := lnR_ok h8
    obtain ⟨f1, f2⟩ := lineOk_fit hp e1
    have hx : tp8 B ⟨pl, -1, r, l0, d0, pd⟩ = ⟨pl, -1, r, natOf (lineV B pl wLng), d0, lineV B pl wLng⟩ := by
      unfold tp8
      simp only [(said_ok e1).1, (said_ok e1).2.1, e2, if_true]
    rw [hx, e3, lnF_ok e1, if_pos e2]
    have hx9 : tp9 B ⟨pl, -1, r, natOf (lineV B pl wLng), d0, lineV B pl wLng⟩ = ⟨lnN B pl, -1, r, natOf (lineV B pl wLng), d0, lineV B pl wLng⟩ := by
      unfold tp9
      simp only
      congr 1
    generalize lineV B pl wLng = v at *
    generalize lnN B pl = p2 at *
    unfold tq6
    rw [hx9]
    cases h9 : lnR B p2 wDig dgB with
    | false =>
      rw [if_pos rfl]
      obtain ⟨e1, e2⟩ := lnR_no h9
      refine Cc.no ?_
      have hz : (tp10 B ⟨p2, -1, r, natOf v, d0, v⟩).z = (p2 : Int) := by
        show (if dgB (sS B p2 (-1) wDig) = true then sZ B p2 (-1) wDig else stZ p2 (sZ B p2 (-1) wDig)) = _
        rcases e2 with e | ⟨e, e'⟩
        · rw [(said_no e).1, (said_no e).2.1, dg_nil, if_neg (by simp), stZ_nat]
        · rw [(said_ok e).1, (said_ok e).2.1, e', if_neg (by simp), stZ_m1]
      rw [zq7 (by rw [hz]; omega), hz, e1]
    | true =>
      rw [if_neg (by simp)]
      obtain ⟨e1, e2, e3⟩ := lnR_ok h9
      obtain ⟨g1, g2⟩ := lineOk_fit f2 e1
      have hx : tp10 B ⟨p2, -1, r, natOf v, d0, v⟩ = ⟨p2, -1, r, natOf v, lineV B p2 wDig, v⟩ := by
        unfold tp10
        simp only [(said_ok e1).1, (said_ok e1).2.1, e2, if_true]
      rw [hx, e3, lnF_ok e1]
      unfold tq7
      have hx11 : tp11 B ⟨p2, -1, r, natOf v, lineV B p2 wDig, v⟩ = ⟨lnN B p2, -1, r, natOf v, lineV B p2 wDig, v⟩ := by
        unfold tp11
        simp only
        congr 1
      rw [hx11]
      generalize lineV B p2 wDig = u at *
      generalize lnN B p2 = p3 at *
      unfold tp12 wholeB wholeA wholeB
      rw [if_pos (by show (-1 : Int) < 0; omega)]
      cases hB : lnB B p3 with
      | false =>
        rw [if_pos (.inl rfl)]
        refine ⟨fun h => by simp at h, fun _ => ?_⟩
        simp only [Bool.false_and, Bool.false_eq_true, if_false]
        exact stZ_m1
      | true =>
        obtain ⟨k1, k2⟩ := l6S_eq hB
        rw [k1]
        by_cases hn : lnS B p3 = []
        · rw [if_neg (by rw [hn]; simp)]
          refine ⟨fun _ => ⟨rfl, ?_, ?_, rfl, rfl⟩, fun h => by simp [hn] at h⟩
          · simp only [hn, Bool.true_and, BEq.rfl, if_true]
            rw [hn] at k2
            simp only [List.length_nil] at k2
            omega
          · cases r; simp_all
        · rw [if_pos (.inr hn)]
          have : (lnS B p3 == []) = false := by simpa using hn
          refine ⟨fun h => by rw [this] at h; simp at h, fun _ => ?_⟩
          simp only [this, Bool.true_and, Bool.false_eq_true, if_false]
          exact stZ_m1
theorem ccC {B : List UInt8} {pl : Nat} (hp : pl ≤ B.length) (r : Rcd) (hh : r.hd = []) (hb : r.bd = []) (l0 l1 : Int) (d0 d1 pd : List UInt8) : Cc (tq7 B (tq6 B (tq5 B (tq4 B (tp4 B ⟨pl, -1, r, l0, d0, pd⟩))))) (linesC B B.length ⟨pl, r.ki, r.id, r.ow, r.ti, r.ke, l1, d1⟩) := by
  unfold linesC
  dsimp only
  cases h4 : lnR B pl wKind kindB with
  | false =>
    rw [if_pos rfl]
    obtain ⟨e1, e2⟩ := lnR_no h4
    refine Cc.no ?_
    have hz : (tp4 B ⟨pl, -1, r, l0, d0, pd⟩).z = (pl : Int) := by
      unfold tp4
      dsimp only
      rcases e2 with e | ⟨e, e'⟩
      · rw [(said_no e).1, (said_no e).2.1, if_pos kind_nil, stZ_nat]
      · have e0 : kindI (lineV B pl wKind) = 0 := by
          have := of_decide_eq_false e'
          have := kindI_b (lineV B pl wKind)
          omega
        rw [(said_ok e).1, (said_ok e).2.1, if_pos e0, stZ_m1]
    have k1 := (zq4 (x := tp4 B ⟨pl, -1, r, l0, d0, pd⟩) (B := B) (by rw [hz]; omega)).trans hz
    have k2 := (zq5 (B := B) (by rw [k1]; omega)).trans k1
    have k3 := (zq6 (B := B) (by rw [k2]; omega)).trans k2
    rw [zq7 (by rw [k3]; omega), k3, e1]
  | true =>
    rw [if_neg (by simp)]
    obtain ⟨e1, e2, e3⟩ := lnR_ok h4
    obtain ⟨f1, f2⟩ := lineOk_fit hp e1
    have e0 : ¬ kindI (lineV B pl wKind) = 0 := by
      have := of_decide_eq_true e2
      omega
    have hx : tp4 B ⟨pl, -1, r, l0, d0, pd⟩ = ⟨lnN B pl, -1, { r with ki := kindI (lineV B pl wKind) }, l0, d0, pd⟩ := by
      unfold tp4
      dsimp only
      rw [(said_ok e1).1, (said_ok e1).2.1, if_neg e0, kindI_word e0]
      congr 1
    rw [hx, e3, lnF_ok e1]
    generalize hk : kindI (lineV B pl wKind) = ki at *
    generalize lnN B pl = p2 at *
    clear f1
    cases h5 : lnR B p2 wDate rdB with
    | false =>
      rw [if_pos rfl]
      obtain ⟨e1, e2⟩ := lnR_no h5
      refine Cc.no ?_
      have hz : (tq4 B ⟨p2, -1, { r with ki := ki }, l0, d0, pd⟩).z = (p2 : Int) := by
        unfold tq4
        dsimp only
        rcases e2 with e | ⟨e, e'⟩
        · rw [(said_no e).1, (said_no e).2.1, rd_nil, if_neg (by simp), stZ_nat]
        · rw [(said_ok e).1, (said_ok e).2.1, e', if_neg (by simp), stZ_m1]
      have k2 := (zq5 (B := B) (by rw [hz]; omega)).trans hz
      have k3 := (zq6 (B := B) (by rw [k2]; omega)).trans k2
      rw [zq7 (by rw [k3]; omega), k3, e1]
    | true =>
      rw [if_neg (by simp)]
      obtain ⟨e1, e2, e3⟩ := lnR_ok h5
      obtain ⟨g1, g2⟩ := lineOk_fit f2 e1
      have hx : tp5 B (tq4 B ⟨p2, -1, { r with ki := ki }, l0, d0, pd⟩) = ⟨lnN B p2, -1, { r with ki := ki, ti := rdV (lineV B p2 wDate) }, l0, d0, lineV B p2 wDate⟩ := by
        unfold tp5 tq4
        dsimp only
        rw [(said_ok e1).1, (said_ok e1).2.1, e2, if_pos rfl]
        congr 1
      unfold tq5
      rw [hx, e3, lnF_ok e1]
      generalize lineV B p2 wDate = v at *
      generalize lnN B p2 = p3 at *
      clear g1
      cases h6 : lnR B p3 wKey (fun _ => true) with
      | false =>
        rw [if_pos rfl]
        obtain ⟨e1, e2⟩ := lnR_no h6
        have e : lineOk B p3 wKey = false := e2.resolve_right (fun x => by cases x.2)
        refine Cc.no ?_
        have hz : (tp6 B ⟨p3, -1, { r with ki := ki, ti := rdV v }, l0, d0, v⟩).z = (p3 : Int) := (said_no e).2.1
        have k1 := (z7 (B := B) (by rw [hz]; omega)).trans hz
        have k2 := (z8 (B := B) (by rw [k1]; omega)).trans k1
        have k3 := (zq6 (B := B) (by rw [k2]; omega)).trans k2
        rw [zq7 (by rw [k3]; omega), k3, e1]
      | true =>
        rw [if_neg (by simp)]
        obtain ⟨e1, e2, e3⟩ := lnR_ok h6
        obtain ⟨q1, q2⟩ := lineOk_fit g2 e1
        have hx : tp6 B ⟨p3, -1, { r with ki := ki, ti := rdV v }, l0, d0, v⟩ = ⟨lnN B p3, -1, { r with ki := ki, ti := rdV v, ke := lineV B p3 wKey }, l0, d0, v⟩ := by
          unfold tp6
          dsimp only
          rw [(said_ok e1).1, (said_ok e1).2.1, (said_ok e1).2.2]
        rw [hx, e3, lnF_ok e1]
        generalize lineV B p3 wKey = u at *
        generalize lnN B p3 = p4 at *
        clear q1
        have hl := (hds_le (B := B) (B.length + 1) p4 [] q2 (nohds _) (Nat.zero_le _)).1
        have m1 : ¬ (0 : Int) ≤ -1 := by decide
        cases h7 : (hdsR B (B.length + 1) p4 []).1 with
        | false =>
          rw [if_pos rfl]
          refine Cc.no ?_
          have hz : (tp7 B ⟨p4, -1, { r with ki := ki, ti := rdV v, ke := u }, l0, d0, v⟩).z = ((hdsR B (B.length + 1) p4 []).2.1 : Int) := by
            unfold tp7 rH
            dsimp only
            rw [if_neg m1, if_neg (by rw [h7]; simp)]
          have k2 := (z8 (B := B) (by rw [hz]; omega)).trans hz
          have k3 := (zq6 (B := B) (by rw [k2]; omega)).trans k2
          rw [zq7 (by rw [k3]; omega), k3]
        | true =>
          rw [if_neg (by simp)]
          have hx : tp7 B ⟨p4, -1, { r with ki := ki, ti := rdV v, ke := u }, l0, d0, v⟩ = ⟨(hdsR B (B.length + 1) p4 []).2.1, -1, { r with ki := ki, ti := rdV v, ke := u, hd := (hdsR B (B.length + 1) p4 []).2.2 }, l0, d0, v⟩ := by
            unfold tp7 rH
            dsimp only
            rw [if_neg m1, if_pos h7]
          rw [hx]
          exact ccD hl { r with ki := ki, ti := rdV v, ke := u, hd := (hdsR B (B.length + 1) p4 []).2.2 } hb l0 l1 d0 d1 v
theorem pre_of (B : List UInt8) (i : Nat) : hasPre (B.drop i) [111, 102, 58, 32] = isL B i wOf := by
  change _ = isL B i [111, 102]
  unfold isL hasPre
  simp only [List.length_cons, List.length_nil, List.length_drop]
  rw [Bool.eq_iff_iff]
  simp only [Bool.and_eq_true, decide_eq_true_eq, beq_iff_eq]
  constructor
  · exact fun h => h.2
  · intro h
    have hl := congrArg List.length h
    simp only [List.length_take, List.length_drop, List.length_append, List.length_cons, List.length_nil] at hl
    exact ⟨by omega, h⟩
theorem top_lines {B : List UInt8} {a : Nat} (ha : a ≤ B.length) : Cc (topL B a) (linesL B B.length (rp0 a)) := by
  unfold topL linesL rp0
  dsimp only
  have m1 : ¬ (0 : Int) ≤ -1 := by decide
  cases h1 : wholeB B a wKept0 with
  | false =>
    rw [if_pos rfl]
    have e1 : wholeA B a wKept0 = a := by unfold wholeA; rw [if_neg (by rw [h1]; simp)]
    have hx : (tp1 B a).z = (a : Int) := by unfold tp1; rw [if_neg (by rw [h1]; simp)]
    refine Cc.no ?_
    have k2 := (z2 (B := B) (by rw [hx]; omega)).trans hx
    have k3 := (z3 (B := B) (by rw [k2]; omega)).trans k2
    have k4 := (z4 (B := B) (by rw [k3]; omega)).trans k3
    have k5 := (zq4 (B := B) (by rw [k4]; omega)).trans k4
    have k6 := (zq5 (B := B) (by rw [k5]; omega)).trans k5
    have k7 := (zq6 (B := B) (by rw [k6]; omega)).trans k6
    rw [zq7 (by rw [k7]; omega), k7, e1]
  | true =>
    rw [if_neg (by simp)]
    have e1 : wholeA B a wKept0 = a + 8 ∧ a + 8 ≤ B.length := by
      have h1' := h1
      unfold wholeB at h1'
      simp only [Bool.and_eq_true, beq_iff_eq] at h1'
      have hf := ln_fit ha h1'.1
      have h8 := congrArg List.length h1'.2
      have h9 : wKept0.length = 6 := rfl
      unfold wholeA
      rw [if_pos h1]
      omega
    have hx : tp1 B a = ⟨a + 8, -1, noRec, 0, [], []⟩ := by unfold tp1; rw [if_pos h1]
    rw [hx, e1.1]
    generalize a + 8 = p1 at *
    have hp := e1.2
    clear e1 hx h1 ha
    cases h2 : lnR B p1 wId (fun _ => true) with
    | false =>
      rw [if_pos rfl]
      obtain ⟨e1, e2⟩ := lnR_no h2
      have e : lineOk B p1 wId = false := e2.resolve_right (fun x => by cases x.2)
      refine Cc.no ?_
      have hz : (tp2 B ⟨p1, -1, noRec, 0, [], []⟩).z = (p1 : Int) := by unfold tp2; exact (said_no e).2.1
      have k3 := (z3 (B := B) (by rw [hz]; omega)).trans hz
      have k4 := (z4 (B := B) (by rw [k3]; omega)).trans k3
      have k5 := (zq4 (B := B) (by rw [k4]; omega)).trans k4
      have k6 := (zq5 (B := B) (by rw [k5]; omega)).trans k5
      have k7 := (zq6 (B := B) (by rw [k6]; omega)).trans k6
      rw [zq7 (by rw [k7]; omega), k7, e1]
    | true =>
      rw [if_neg (by simp)]
      obtain ⟨e1, e2, e3⟩ := lnR_ok h2
      obtain ⟨q1, q2⟩ := lineOk_fit hp e1
      have hx : tp2 B ⟨p1, -1, noRec, 0, [], []⟩ = ⟨lnN B p1, -1, { noRec with id := lineV B p1 wId }, 0, [], []⟩ := by
        unfold tp2
        dsimp only
        rw [(said_ok e1).1, (said_ok e1).2.1, (said_ok e1).2.2]
      rw [hx, e3, lnF_ok e1]
      generalize lineV B p1 wId = v at *
      generalize lnN B p1 = p2 at *
      clear q1 hx e1 e2 e3 h2
      cases ho : isL B p2 wOf with
      | false =>
        rw [if_neg (by simp)]
        have hx : tp3 B ⟨p2, -1, { noRec with id := v }, 0, [], []⟩ = ⟨p2, -1, { noRec with id := v }, 0, [], []⟩ := by
          unfold tp3
          rw [if_neg]
          rw [pre_of]
          intro x
          have := x.2
          dsimp only at this
          rw [ho] at this; cases this
        rw [hx]
        exact ccC q2 { noRec with id := v } rfl rfl 0 0 [] [] []
      | true =>
        rw [if_pos rfl]
        have hc : ((-1 : Int) < 0 ∧ hasPre (B.drop p2) [111, 102, 58, 32] = true) := ⟨by decide, by rw [pre_of]; exact ho⟩
        cases h3 : lnR B p2 wOf ofB with
        | false =>
          rw [if_pos rfl]
          obtain ⟨e1, e2⟩ := lnR_no h3
          refine Cc.no ?_
          have hz : (tp3 B ⟨p2, -1, { noRec with id := v }, 0, [], []⟩).z = (p2 : Int) := by
            unfold tp3
            dsimp only
            rw [if_pos hc]
            dsimp only
            rcases e2 with e | ⟨e, e'⟩
            · rw [(said_no e).1, (said_no e).2.1, if_pos rfl, stZ_nat]
            · have e0 : lineV B p2 wOf = [] := by
                unfold ofB at e'
                simpa using e'
              rw [(said_ok e).1, (said_ok e).2.1, if_pos e0, stZ_m1]
          have k4 := (z4 (B := B) (by rw [hz]; omega)).trans hz
          have k5 := (zq4 (B := B) (by rw [k4]; omega)).trans k4
          have k6 := (zq5 (B := B) (by rw [k5]; omega)).trans k5
          have k7 := (zq6 (B := B) (by rw [k6]; omega)).trans k6
          rw [zq7 (by rw [k7]; omega), k7, e1]
        | true =>
          rw [if_neg (by simp)]
          obtain ⟨e1, e2, e3⟩ := lnR_ok h3
          obtain ⟨g1, g2⟩ := lineOk_fit q2 e1
          have e0 : ¬ lineV B p2 wOf = [] := by
            unfold ofB at e2
            simpa using e2
          have hx : tp3 B ⟨p2, -1, { noRec with id := v }, 0, [], []⟩ = ⟨lnN B p2, -1, { noRec with id := v, ow := lineV B p2 wOf }, 0, [], []⟩ := by
            unfold tp3
            dsimp only
            rw [if_pos hc, (said_ok e1).1, (said_ok e1).2.1, if_neg e0]
            congr 1
          rw [hx, e3, lnF_ok e1]
          exact ccC g2 { noRec with id := v, ow := lineV B p2 wOf } rfl rfl 0 0 [] [] []

theorem conReadOne02 : Con pg 80 ckReadOne0 := by
  have hct := (ctF_ok conTop6 (ctA_ok conDigest2 (ctA_ok conCheckRec2 (ctN_ok _))))
  intro args q r h hq
  unfold ckReadOne0 at h
  split at h
  · cases h
    rename_i n f a
    refine pcall_args (args' := [.sl (bytesOf n f).length (byF (bytesOf n f)), .int .i64 a]) ⟨isBy.vle hq.1, VLe.refl _, trivial⟩ ?_
    obtain ⟨-, hn, h0, h1⟩ := hq
    have hl := bytesOf_len n f
    rw [← hl] at hn h1
    generalize bytesOf n f = B at hn h1 ⊢
    clear hl
    obtain ⟨a, rfl⟩ : ∃ k : Nat, a = k := ⟨a.toNat, by omega⟩
    rw [Int.toNat_natCast]
    refine w80 (fun _ => false) [.frz 59] rfl hct rfl rfl ?_
    push_cast (config := { maxSteps := 10000000 })
    have h1 : a ≤ B.length := by omega
    have cc := top_lines h1
    have lk := linesL_ok (B := B) (rp0_ok (n := B.length) (a := a) h1)
    generalize topL B a = T at cc ⊢
    generalize hR : rdOne B a = R
    unfold rdOne at hR
    generalize linesL B B.length (rp0 a) = L at lk hR cc
    obtain ⟨ok, ⟨pl, ki, id, ow, ti, ke, ln, dg⟩, hs⟩ := L
    obtain ⟨⟨p1, ⟨p2, p2'⟩, p3, p4, ⟨p5, p5'⟩, p6, ⟨p7, p7'⟩⟩, p8, p9⟩ := lk
    simp only at hR p1 p2 p2' p3 p4 p5 p5' p6 p7 p7' p8 p9
    cases ok with
    | false =>
      have ez : T.z = (pl : Int) := cc.2 rfl
      rw [if_pos rfl] at hR
      rw [← hR]
      exact ⟨⟨hn, h1⟩, fun _ => ⟨⟨rfl, rfl, rfl, rfl, rfl, rfl, rfl⟩, ez, rfl⟩, fun h => absurd (by omega) h⟩
    | true =>
      obtain ⟨e1, e2, e3, e4, e5⟩ := cc.1 rfl
      obtain ⟨ta, tz, tr, tl, td, tp⟩ := T
      simp only at e1 e2 e3 e4 e5
      subst e1; subst e2; subst e3; subst e4; subst e5
      obtain ⟨ln, rfl⟩ : ∃ k : Nat, tl = k := ⟨tl.toNat, by omega⟩
      rw [if_neg (by simp)] at hR
      simp only
      have e1 : ((ta : Int) + ln).toNat = ta + ln := by omega
      have e2 : ((ta : Int) + ln + 4).toNat = ta + ln + 4 := by omega
      simp only [e1, e2, Int.toNat_natCast, Nat.add_sub_cancel_left] at hR ⊢
      have full : ¬ (B.length : Int) - ta < ln → ByI ln (shF (byF B) ta) ((B.drop ta).take ln) := fun h => ByI.sh (ByI.by B) (l := ta) (k := ln) (by omega)
      refine ⟨⟨hn, h1⟩, fun h => by omega, fun _ => ⟨⟨by omega, by omega⟩, fun h => ?_, fun h => ?_⟩⟩
      · rw [if_pos (by omega)] at hR
        rw [← hR]
        exact ⟨⟨rfl, rfl, rfl, rfl, rfl, rfl, rfl⟩, rfl, rfl⟩
      have bb := full h
      have bb' : bytesOf ln (fun i => shF (byF B) ta i) = (B.drop ta).take ln := bb.bytes
      refine ⟨⟨by omega, by omega⟩, ⟨⟨by omega, by omega⟩, by omega, by omega⟩, ⟨by omega, by omega⟩, ⟨by omega, by omega⟩, ⟨by omega, by omega⟩, fun h2 => ⟨bb.pure, ?_⟩, fun h2 => ?_⟩
      · rw [if_pos (by omega)] at hR
        rw [← hR]
        exact ⟨⟨rfl, rfl, rfl, rfl, rfl, rfl, rfl⟩, rfl, rfl⟩
      rw [if_neg (by omega)] at hR
      have b4 := ByI.sh (ByI.by B) (l := ta + ln) (k := 4) (by omega)
      have b4' : bytesOf 4 (shF (byF B) (ta + ln)) = (B.drop (ta + ln)).take 4 := b4.bytes
      simp only [b4', bb']
      refine ⟨⟨by omega, by omega⟩, ⟨⟨by omega, by omega⟩, ⟨by omega, by omega⟩, by omega⟩, b4.bytesP, fun h3 => ⟨bb.pure, ?_⟩, fun h3 => ⟨⟨bb.is, by omega⟩, bb.pure, fun h4 => ⟨bb.pure, ?_⟩, fun h4 => ⟨⟨isC_rec (isLs_ls hs) bb.is, ?_⟩, bb.pure, fun h5 => ⟨bb.pure, ?_⟩, fun h5 => ⟨⟨by omega, by omega⟩, bb.pure, ?_⟩⟩⟩⟩
      · rw [if_pos (show _ ≠ crlf2 from h3)] at hR
        rw [← hR]
        exact ⟨⟨rfl, rfl, rfl, rfl, rfl, rfl, rfl⟩, rfl, rfl⟩
      · rw [if_neg (show ¬ (List.take 4 (List.drop (ta + ln) B) ≠ crlf2) from fun x => x h3), if_pos h4] at hR
        rw [← hR]
        exact ⟨⟨rfl, rfl, rfl, rfl, rfl, rfl, rfl⟩, rfl, rfl⟩
      · have := bb.1
        refine ⟨fun x hx => ?_, ?_, ?_, ?_, ?_, ?_, ?_, ?_, ?_, ?_⟩
        · have := p8 x hx
          omega
        all_goals simp only
        all_goals omega
      · rw [if_neg (show ¬ (List.take 4 (List.drop (ta + ln) B) ≠ crlf2) from fun x => x h3), if_neg (fun x => x h4), if_pos h5] at hR
        rw [← hR]
        exact ⟨⟨rfl, rfl, rfl, rfl, rfl, rfl, rfl⟩, rfl, rfl⟩
      · rw [if_neg (show ¬ (List.take 4 (List.drop (ta + ln) B) ≠ crlf2) from fun x => x h3), if_neg (fun x => x h4), if_neg (fun x => x h5)] at hR
        rw [← hR]
        exact ⟨⟨rfl, rfl, rfl, rfl, rfl, ⟨rfl, fun _ _ => rfl⟩, bb.1, bb.2⟩, rfl, rfl⟩
  · cases h
theorem conReadOne2 : Con pg 41 ckReadOne := by
  have hct := (ctA_ok conReadOne02 (ctA_ok conWithin6 (ctN_ok _)))
  intro args q r h hq
  unfold ckReadOne at h
  split at h
  · cases h
    rename_i n f a
    refine pcall_args (args' := [.sl (bytesOf n f).length (byF (bytesOf n f)), .int .i64 a]) ⟨isBy.vle hq.1, VLe.refl _, trivial⟩ ?_
    obtain ⟨-, hn⟩ := hq
    have hl := bytesOf_len n f
    rw [← hl] at hn
    generalize bytesOf n f = B at hn ⊢
    clear hl
    refine w41 (fun _ => false) [] rfl hct rfl rfl ?_
    push_cast (config := { maxSteps := 10000000 })
    generalize hR : rdOneR B a = R
    unfold rdOneR at hR
    refine ⟨fun h => ?_, fun h => ⟨⟨by omega, by omega, by omega⟩, ?_⟩⟩
    · rw [if_pos (by omega)] at hR
      rw [← hR]
      exact ⟨⟨rfl, rfl, rfl, rfl, rfl, rfl, rfl⟩, rfl, rfl⟩
    · rw [if_neg (by omega)] at hR
      rw [← hR]
      exact ⟨⟨rfl, rfl, rfl, rfl, rfl, ⟨rfl, fun _ _ => rfl⟩, rfl, fun _ _ => rfl⟩, rfl, rfl⟩
  · cases h

/-- the number of the record with a name, or -1 -/
def fndL (l : List Rcd) (s : List UInt8) : Int := match l.findIdx? (fun r => r.id == s) with
  | some k => k
  | none => -1
theorem fndL_at {l : List Rcd} {s : List UInt8} {i : Nat} (hi : i < l.length) (h : (l.getD i noRec).id = s) (hn : ∀ j, j < i → (l.getD j noRec).id ≠ s) : fndL l s = i := by
  unfold fndL
  have : l.findIdx? (fun r => r.id == s) = some i := by
    rw [List.findIdx?_eq_some_iff_getElem]
    refine ⟨hi, ?_, fun j hj => ?_⟩
    · rw [List.getD_eq_getElem?_getD, List.getElem?_eq_getElem hi] at h; exact beq_iff_eq.2 h
    · have h1 := hn j hj
      rw [List.getD_eq_getElem?_getD, List.getElem?_eq_getElem (by omega)] at h1
      simpa using h1
  rw [this]
theorem fndL_no {l : List Rcd} {s : List UInt8} (hn : ∀ j, j < l.length → (l.getD j noRec).id ≠ s) : fndL l s = -1 := by
  unfold fndL
  have : l.findIdx? (fun r => r.id == s) = none := by
    rw [List.findIdx?_eq_none_iff]
    intro x hx
    obtain ⟨j, hj, rfl⟩ := List.getElem_of_mem hx
    have h1 := hn j hj
    rw [List.getD_eq_getElem?_getD, List.getElem?_eq_getElem hj] at h1
    simpa using h1
  rw [this]
theorem fndL_in (l : List Rcd) (s : List UInt8) : 0 ≤ fndL l s ↔ (l.map Rcd.id).contains s = true := by
  unfold fndL
  cases h : l.findIdx? (fun r => r.id == s) with
  | none =>
    rw [List.findIdx?_eq_none_iff] at h
    constructor
    · intro h'; have h' : (0 : Int) ≤ -1 := h'; omega
    · intro h'
      rw [List.contains_iff_mem, List.mem_map] at h'
      obtain ⟨r, hr, e⟩ := h'
      have := h r hr
      rw [e] at this; simp at this
  | some k =>
    rw [List.findIdx?_eq_some_iff_getElem] at h
    obtain ⟨hk, h1, _⟩ := h
    constructor
    · intro _
      rw [List.contains_iff_mem, List.mem_map]
      exact ⟨l[k], List.getElem_mem hk, beq_iff_eq.1 h1⟩
    · intro _; exact Int.natCast_nonneg k
theorem fndL_ok {l : List Rcd} {s : List UInt8} (h : 0 ≤ fndL l s) : (fndL l s).toNat < l.length ∧ (l.getD (fndL l s).toNat noRec).id = s ∧ ∀ j, j < (fndL l s).toNat → (l.getD j noRec).id ≠ s := by
  unfold fndL at h ⊢
  cases e : l.findIdx? (fun r => r.id == s) with
  | none => rw [e] at h; have h : (0 : Int) ≤ -1 := h; omega
  | some k =>
    rw [List.findIdx?_eq_some_iff_getElem] at e
    obtain ⟨hk, h1, h2⟩ := e
    refine ⟨hk, ?_, fun j hj => ?_⟩
    · show (l.getD k noRec).id = s
      rw [List.getD_eq_getElem?_getD, List.getElem?_eq_getElem hk]; exact beq_iff_eq.1 h1
    · have hj : j < k := hj
      have := h2 j hj
      rw [List.getD_eq_getElem?_getD, List.getElem?_eq_getElem (by omega)]
      simpa using this
theorem fndL_b (l : List Rcd) (s : List UInt8) : -1 ≤ fndL l s ∧ fndL l s < l.length := by
  by_cases h : 0 ≤ fndL l s
  · have := (fndL_ok h).1; omega
  · refine ⟨?_, by omega⟩
    unfold fndL
    split <;> omega
def ckFind : Ck
  | [.sl n f, .str s] => some (isLs cRec n f ∧ n ≤ 4611686018427387900, .int .i64 (fndL (lsOf cRec n f) s))
  | _ => none
theorem conFind : Con pg 26 ckFind := by
  have hct := ctN_ok pg
  intro args q r h hq
  unfold ckFind at h
  split at h
  · cases h
    rename_i n f s
    refine pcall_args (args' := [.sl (lsOf cRec n f).length (lsF cRec (lsOf cRec n f)), .str s]) ⟨isLs.vle hq.1, VLe.refl _, trivial⟩ ?_
    have hn : (lsOf cRec n f).length ≤ 4611686018427387900 := by rw [lsOf_len]; exact hq.2
    generalize lsOf cRec n f = l at hn ⊢
    refine w26 (fun _ => false) [] rfl hct rfl rfl ?_
    push_cast (config := { maxSteps := 10000000 })
    refine LoopW.adj ⟨hct, fol⟩ (by kernel_rfl) [] (fun i : Nat => [(0, .sl l.length (lsF cRec l)), (1, .str s), (5, .int .i64 i)]) (fun _ => []) (fun i => i ≤ l.length ∧ ∀ j, j < i → (l.getD j noRec).id ≠ s) (fun i => l.length - i) 0 ?_ fun i hi => ?_
    · push_cast (config := { maxSteps := 10000000 })
      exact Nat.zero_le _
    · push_cast (config := { maxSteps := 10000000 })
      obtain ⟨h1, h2⟩ := hi
      refine ⟨fun h => ⟨h, fun g => (fndL_at h g h2).symm, fun g => ⟨⟨by omega, by omega⟩, i + 1, ⟨by omega, fun j hj => ?_⟩, by omega, by omega⟩⟩, fun h => (fndL_no fun j hj => h2 j (by omega)).symm⟩
      by_cases e : j = i
      · subst e; exact g
      · exact h2 j (by omega)
  · cases h
attribute [push_cast] ckFind

def ckWritten : Ck
  | [x] => some (isC cRec x ∧ recOk (cRec.dec x) ∧ checkRecL (cRec.dec x) = 0, .sl (recB (cRec.dec x)).length (byF (recB (cRec.dec x))))
  | _ => none
theorem conWritten : Con pg 88 ckWritten := by
  have hct := (ctA_ok conKindW (ctA_ok conDateOf2 (ctA_ok conItoa (ctA_ok conDigest2 (ctN_ok _)))))
  intro args q r h hq
  unfold ckWritten at h
  split at h
  · cases h
    rename_i x
    refine pcall_args (args' := [cRec.enc (cRec.dec x)]) ⟨hq.1, trivial⟩ ?_
    obtain ⟨-, ha, hc⟩ := hq
    generalize cRec.dec x = r at ha hc ⊢
    refine w88 (fun _ => false) [.frz 73] rfl hct rfl rfl ?_
    push_cast (config := { maxSteps := 10000000 })
    obtain ⟨z1, z2, z3, z4, z5, z6, z7⟩ := rec_sz hc
    obtain ⟨y1, y2, y3, y4, y5, y6, y7, y8, y9, y10⟩ := rec_ok hc
    have zk := kindW_le (r.ki - 1).toNat
    have zp := recP_le hc
    refine ⟨by omega, by omega, fun how => ?_, fun how => ?_⟩
    · (repeat (refine ⟨by omega, ?_⟩))
      refine LoopW.adj ⟨hct, fol⟩ (by kernel_rfl) [] (fun t : Nat × List UInt8 => [(1, .ptr 1 0), (3, .str t.2), (4, .int .i64 t.1)]) (fun t => [(1, .cells [.int .i64 r.ki, .str r.id, .str r.ow, .int .i64 r.ti, .str r.ke, .sl r.hd.length (lsF cHd r.hd), .sl r.bd.length (byF r.bd)])]) (fun t => t.1 ≤ r.hd.length ∧ t.2 ++ headsB (r.hd.drop t.1) = recP r ++ headsB r.hd) (fun t => r.hd.length - t.1) (0, recP r) ?_ fun t ht => ?_
      · push_cast (config := { maxSteps := 10000000 })
        refine ⟨Nat.zero_le _, ?_⟩
        unfold recP; rw [if_neg how]; simp [lnB2, wKept]
      · obtain ⟨i, o⟩ := t
        obtain ⟨i1, i2⟩ : i ≤ r.hd.length ∧ o ++ headsB (r.hd.drop i) = recP r ++ headsB r.hd := ht
        have hl := congrArg List.length i2
        simp only [List.length_append] at hl
        push_cast (config := { maxSteps := 10000000 })
        refine ⟨fun h => ?_, fun h => ?_⟩
        · have e := dropG (d := ⟨[], []⟩) h
          rw [e, headsB] at i2 hl
          have hx : (headB (r.hd.getD i ⟨[], []⟩)).length = (r.hd.getD i ⟨[], []⟩).name.length + 2 + (r.hd.getD i ⟨[], []⟩).value.length + 2 := by simp [headB]; omega
          simp only [List.length_append] at hl
          generalize r.hd.getD i ⟨[], []⟩ = y at *
          (repeat (refine ⟨by omega, ?_⟩))
          exact ⟨((i + 1, o ++ (y.name ++ [58, 32] ++ y.value ++ [13, 10])) : Nat × List UInt8), ⟨by show i + 1 ≤ _; omega, by rw [← i2]; simp [headB]⟩, by show r.hd.length - (i + 1) < r.hd.length - i; omega, rfl, by show (i : Int) + 1 = ((i + 1 : Nat) : Int); omega⟩
        · rw [List.drop_eq_nil_of_le (by omega)] at i2 hl
          simp only [headsB, List.append_nil, List.length_nil, Nat.add_zero] at i2 hl
          have hi6 := itoa_len (n := r.bd.length) (by omega)
          have hdg : (digestL r.bd).length = 16 := hex16_len _
          (repeat (refine ⟨by omega, ?_⟩))
          have eq : (o ++ 108 :: 101 :: 110 :: 103 :: 116 :: 104 :: 58 :: 32 :: (Lib.itoa r.bd.length ++ [13, 10, 100, 105, 103, 101, 115, 116, 58, 32] ++ digestL r.bd ++ [13, 10, 13, 10])) ++ r.bd ++ [13, 10, 13, 10] = recB r := by
            rw [i2]; simp [recB, recQ, lnB2]
          have hQ : (o ++ 108 :: 101 :: 110 :: 103 :: 116 :: 104 :: 58 :: 32 :: (Lib.itoa r.bd.length ++ [13, 10, 100, 105, 103, 101, 115, 116, 58, 32] ++ digestL r.bd ++ [13, 10, 13, 10])).length = o.length + ((Lib.itoa r.bd.length).length + 10 + (digestL r.bd).length + 4 + 1 + 1 + 1 + 1 + 1 + 1 + 1 + 1) := by simp; omega
          have app := (ByI.app (ByI.app (ByI.by (o ++ 108 :: 101 :: 110 :: 103 :: 116 :: 104 :: 58 :: 32 :: (Lib.itoa r.bd.length ++ [13, 10, 100, 105, 103, 101, 115, 116, 58, 32] ++ digestL r.bd ++ [13, 10, 13, 10]))) (ByI.by r.bd) rfl) (ByI.by [13, 10, 13, 10]) rfl).eq eq
          rw [hQ] at app
          exact ⟨app.pure, app.1, app.2⟩
    · (repeat (refine ⟨by omega, ?_⟩))
      refine LoopW.adj ⟨hct, fol⟩ (by kernel_rfl) [] (fun t : Nat × List UInt8 => [(1, .ptr 1 0), (3, .str t.2), (4, .int .i64 t.1)]) (fun t => [(1, .cells [.int .i64 r.ki, .str r.id, .str r.ow, .int .i64 r.ti, .str r.ke, .sl r.hd.length (lsF cHd r.hd), .sl r.bd.length (byF r.bd)])]) (fun t => t.1 ≤ r.hd.length ∧ t.2 ++ headsB (r.hd.drop t.1) = recP r ++ headsB r.hd) (fun t => r.hd.length - t.1) (0, recP r) ?_ fun t ht => ?_
      · push_cast (config := { maxSteps := 10000000 })
        refine ⟨Nat.zero_le _, ?_⟩
        unfold recP; rw [if_pos how]; simp [lnB2, wKept]
      · obtain ⟨i, o⟩ := t
        obtain ⟨i1, i2⟩ : i ≤ r.hd.length ∧ o ++ headsB (r.hd.drop i) = recP r ++ headsB r.hd := ht
        have hl := congrArg List.length i2
        simp only [List.length_append] at hl
        push_cast (config := { maxSteps := 10000000 })
        refine ⟨fun h => ?_, fun h => ?_⟩
        · have e := dropG (d := ⟨[], []⟩) h
          rw [e, headsB] at i2 hl
          have hx : (headB (r.hd.getD i ⟨[], []⟩)).length = (r.hd.getD i ⟨[], []⟩).name.length + 2 + (r.hd.getD i ⟨[], []⟩).value.length + 2 := by simp [headB]; omega
          simp only [List.length_append] at hl
          generalize r.hd.getD i ⟨[], []⟩ = y at *
          (repeat (refine ⟨by omega, ?_⟩))
          exact ⟨((i + 1, o ++ (y.name ++ [58, 32] ++ y.value ++ [13, 10])) : Nat × List UInt8), ⟨by show i + 1 ≤ _; omega, by rw [← i2]; simp [headB]⟩, by show r.hd.length - (i + 1) < r.hd.length - i; omega, rfl, by show (i : Int) + 1 = ((i + 1 : Nat) : Int); omega⟩
        · rw [List.drop_eq_nil_of_le (by omega)] at i2 hl
          simp only [headsB, List.append_nil, List.length_nil, Nat.add_zero] at i2 hl
          have hi6 := itoa_len (n := r.bd.length) (by omega)
          have hdg : (digestL r.bd).length = 16 := hex16_len _
          (repeat (refine ⟨by omega, ?_⟩))
          have eq : (o ++ 108 :: 101 :: 110 :: 103 :: 116 :: 104 :: 58 :: 32 :: (Lib.itoa r.bd.length ++ [13, 10, 100, 105, 103, 101, 115, 116, 58, 32] ++ digestL r.bd ++ [13, 10, 13, 10])) ++ r.bd ++ [13, 10, 13, 10] = recB r := by
            rw [i2]; simp [recB, recQ, lnB2]
          have hQ : (o ++ 108 :: 101 :: 110 :: 103 :: 116 :: 104 :: 58 :: 32 :: (Lib.itoa r.bd.length ++ [13, 10, 100, 105, 103, 101, 115, 116, 58, 32] ++ digestL r.bd ++ [13, 10, 13, 10])).length = o.length + ((Lib.itoa r.bd.length).length + 10 + (digestL r.bd).length + 4 + 1 + 1 + 1 + 1 + 1 + 1 + 1 + 1) := by simp; omega
          have app := (ByI.app (ByI.app (ByI.by (o ++ 108 :: 101 :: 110 :: 103 :: 116 :: 104 :: 58 :: 32 :: (Lib.itoa r.bd.length ++ [13, 10, 100, 105, 103, 101, 115, 116, 58, 32] ++ digestL r.bd ++ [13, 10, 13, 10]))) (ByI.by r.bd) rfl) (ByI.by [13, 10, 13, 10]) rfl).eq eq
          rw [hQ] at app
          exact ⟨app.pure, app.1, app.2⟩
  · cases h
attribute [push_cast] ckWritten

theorem conCheckFile2 : Con pg 54 ckCheckFile := by
  have hct := (ctA_ok conCheckRec2 (ctA_ok conWritten (ctA_ok conFind (ctN_ok _))))
  intro args q r h hq
  unfold ckCheckFile at h
  split at h
  · cases h
    rename_i n f
    refine pcall_args (args' := [.sl (lsOf cRec n f).length (lsF cRec (lsOf cRec n f))]) ⟨isLs.vle hq.1, trivial⟩ ?_
    obtain ⟨-, hl⟩ := hq
    generalize lsOf cRec n f = l at hl ⊢
    refine w54 (fun _ => false) [] rfl hct rfl rfl ?_
    push_cast (config := { maxSteps := 10000000 })
    refine ⟨fun h => by unfold checkFileL; rw [if_pos (by omega)], fun h => ?_⟩
    have e0 : checkFileL l = cfGo [] 0 l := by unfold checkFileL; rw [if_neg (by omega)]
    rw [e0]
    refine LoopW.adj ⟨hct, fol⟩ (by kernel_rfl) [] (fun t : Nat × Int => [(0, .sl l.length (lsF cRec l)), (3, .int .i64 t.2), (4, .int .i64 t.1)]) (fun t => []) (fun t => t.1 ≤ l.length ∧ 0 ≤ t.2 ∧ t.2 ≤ t.1 * 400000 ∧ cfGo ((l.take t.1).map Rcd.id) t.2 (l.drop t.1) = cfGo [] 0 l) (fun t => l.length - t.1) (0, 0) ?_ fun t ht => ?_
    · push_cast (config := { maxSteps := 10000000 })
      exact Nat.zero_le _
    · obtain ⟨i, m⟩ := t
      obtain ⟨h1, h2, h3, h4⟩ : i ≤ l.length ∧ 0 ≤ m ∧ m ≤ i * 400000 ∧ cfGo ((l.take i).map Rcd.id) m (l.drop i) = cfGo [] 0 l := ht
      push_cast (config := { maxSteps := 10000000 })
      refine ⟨fun hi => ?_, fun hi => ?_⟩
      · rw [dropG (d := noRec) hi, cfGo] at h4
        have ea := cf_app hi
        have ok := recsOk_at hl hi
        have hk := LsI.sh (LsI.ls (c := cRec) l) (l := 0) (k := i) (by omega)
        rw [List.drop_zero] at hk
        have hf := fndL_in (l.take i) (l.getD i noRec).id
        rw [hk.of]
        generalize l.getD i noRec = r at *
        refine ⟨hi, ok, fun g => ?_, fun g => ⟨by omega, hi, ⟨hk.is, by omega⟩, fun g2 => ?_, fun g2 => ⟨hi, ⟨ok, g⟩, ?_⟩⟩⟩
        · rw [if_pos g] at h4; exact h4
        · rw [if_neg (fun x => x g), if_pos (hf.1 g2)] at h4; exact h4
        · rw [if_neg (fun x => x g), if_neg (fun x => g2 (hf.2 x))] at h4
          have hb := recB_le g
          exact ⟨⟨by omega, by omega⟩, ⟨by omega, by omega⟩, ((i + 1, m + (recB r).length) : Nat × Int), ⟨by show i + 1 ≤ _; omega, by show 0 ≤ m + _; omega, by show m + _ ≤ ((i + 1 : Nat) : Int) * 400000; omega, by rw [ea]; exact h4⟩, by show l.length - (i + 1) < l.length - i; omega, rfl, by show (i : Int) + 1 = ((i + 1 : Nat) : Int); omega⟩
      · rw [List.drop_eq_nil_of_le (by omega), cfGo] at h4
        exact ⟨fun g => by rw [if_pos g] at h4; exact h4, fun g => by rw [if_neg g] at h4; exact h4⟩
  · cases h
attribute [push_cast] ckCheckFile
attribute [push_cast] ckFileBytes
theorem conReadFile02 : Con pg 82 ckReadFile0 := by
  have hct := (ctA_ok conReadOne02 (ctA_ok conCheckFile2 (ctN_ok _)))
  intro args q r h hq
  unfold ckReadFile0 at h
  split at h
  · cases h
    rename_i n f
    refine pcall_args (args' := [.sl (bytesOf n f).length (byF (bytesOf n f))]) ⟨isBy.vle hq.1, trivial⟩ ?_
    obtain ⟨-, hn⟩ := hq
    have hl := bytesOf_len n f
    rw [← hl] at hn
    generalize bytesOf n f = B at hn ⊢
    clear hl
    refine w82 (fun _ => false) [.frz 8000, .frz 8001] rfl hct rfl rfl ?_
    push_cast (config := { maxSteps := 10000000 })
    generalize hR : readFileL B = R
    unfold readFileL at hR
    refine ⟨fun h => ?_, fun h => ?_⟩
    · rw [if_pos (by omega)] at hR
      rw [← hR]
      exact ⟨rfl, rfl, rfl, rfl⟩
    rw [if_neg (by omega)] at hR
    have hB : B.length ≤ 500000 := by omega
    refine LoopW.adj ⟨hct, fol⟩ (by kernel_rfl) [.nv 6 8000 7 (lsF cRec []), .nv 7 8001 3 (lsF cMk [])] (fun t : Nat × List Rcd × List Mk => [(0, .sl B.length (byF B)), (6, .vec 8000 t.2.1.length), (7, .vec 8001 t.2.2.length), (8, .int .i64 t.1)]) (fun t => [(8000, .vec 7 t.2.1.length (lsF cRec t.2.1)), (8001, .vec 3 t.2.2.length (lsF cMk t.2.2))]) (fun t => t.1 ≤ B.length ∧ recsOk t.2.1 ∧ t.2.1.length ≤ t.1 ∧ t.2.2.length ≤ t.1 ∧ ∃ k, B.length < t.1 + k ∧ rfGo B k t.1 t.2.1 t.2.2 = R) (fun t => B.length - t.1) (0, [], []) ?_ fun t ht => ?_
    · push_cast (config := { maxSteps := 10000000 })
      exact ⟨Nat.zero_le _, fun r hr => (by cases hr), B.length + 1, by omega, hR⟩
    · obtain ⟨i, l, m⟩ := t
      obtain ⟨i1, i2, i3, i4, k, i5, i6⟩ : i ≤ B.length ∧ recsOk l ∧ l.length ≤ i ∧ m.length ≤ i ∧ ∃ k, B.length < i + k ∧ rfGo B k i l m = R := ht
      obtain ⟨k, rfl⟩ : ∃ k', k = k' + 1 := ⟨k - 1, by omega⟩
      rw [rfGo] at i6
      push_cast (config := { maxSteps := 10000000 })
      refine ⟨fun hi => ⟨⟨hB, i1⟩, fun g => ?_, fun g => ?_⟩, fun hi => ⟨i2, fun g => ?_, fun g => ?_⟩⟩
      · rw [if_pos hi, if_neg g] at i6
        rw [← i6]
        exact ⟨rfl, rfl, rfl, rfl⟩
      · rw [if_pos hi, if_pos g] at i6
        obtain ⟨o1, o2⟩ := rdOne_fit hB i1
        obtain ⟨o3, o4, o5⟩ := o2 g
        have app1 := LsI.app (c := cRec) (f := lsF cRec l) (g := litF [cRec.enc (rdOne B i).1]) (LsI.ls l) (LsI.one (c := cRec) (a := (rdOne B i).1) rfl) rfl
        have app2 := LsI.app (c := cMk) (f := lsF cMk m) (g := litF [cMk.enc (Mk.mk (rdOne B i).1.id i (rdOne B i).2.1)]) (LsI.ls m) (LsI.one (c := cMk) (a := Mk.mk (rdOne B i).1.id i (rdOne B i).2.1) rfl) rfl
        generalize rdOne B i = X at *
        refine ⟨⟨by omega, by omega⟩, ⟨by omega, by omega⟩, ((X.2.1.toNat, l ++ [X.1], m ++ [Mk.mk X.1.id i X.2.1]) : Nat × List Rcd × List Mk), ⟨?_, fun r hr => ?_, ?_, ?_, k, ?_, i6⟩, ?_, ⟨by simp, by simp, ?_⟩, ⟨by simp, app1.2⟩, by simp, app2.2⟩
        · show X.2.1.toNat ≤ _; omega
        · rcases List.mem_append.1 hr with hr | hr
          · exact i2 r hr
          · rw [List.mem_singleton] at hr; subst hr; exact o1
        · show (l ++ [_]).length ≤ X.2.1.toNat; simp; omega
        · show (m ++ [_]).length ≤ X.2.1.toNat; simp; omega
        · show B.length < X.2.1.toNat + k; omega
        · show B.length - X.2.1.toNat < B.length - i; omega
        · show X.2.1 = ((X.2.1.toNat : Nat) : Int); omega
      · rw [if_neg hi, if_neg g] at i6
        rw [← i6]
        exact ⟨rfl, rfl, rfl, rfl⟩
      · rw [if_neg hi, if_pos g] at i6
        rw [← i6]
        exact ⟨⟨rfl, fun _ _ => rfl⟩, ⟨rfl, fun _ _ => rfl⟩, rfl, rfl⟩
  · cases h
theorem conReadFile2 : Con pg 45 ckReadFile := by
  have hct := (ctA_ok conReadFile02 (ctN_ok _))
  intro args q r h hq
  unfold ckReadFile at h
  split at h
  · cases h
    rename_i n f
    refine w45 (fun _ => false) [] rfl hct rfl rfl ?_
    push_cast (config := { maxSteps := 10000000 })
    exact hq
  · cases h
theorem conMarks2 : Con pg 46 ckMarks := by
  have hct := (ctA_ok conReadFile02 (ctN_ok _))
  intro args q r h hq
  unfold ckMarks at h
  split at h
  · cases h
    rename_i n f
    refine w46 (fun _ => false) [] rfl hct rfl rfl ?_
    push_cast (config := { maxSteps := 10000000 })
    exact hq
  · cases h

theorem eq_take {α : Type} [DecidableEq α] {d : α} {a b : List α} (h : a.length = b.length) (hh : ∀ j, j < a.length → a.getD j d = b.getD j d) : a = b := by
  apply List.ext_getElem h
  intro i h1 h2
  have := hh i h1
  rwa [List.getD_eq_getElem?_getD, List.getD_eq_getElem?_getD, List.getElem?_eq_getElem h1, List.getElem?_eq_getElem h2] at this
theorem ne_at {α : Type} {d : α} {a b : List α} {i : Nat} (h : a.getD i d ≠ b.getD i d) : a ≠ b := fun e => h (by rw [e])
def ckEqHd : Ck
  | [.sl n f, .sl m g] => some (isLs cHd n f ∧ isLs cHd m g ∧ n ≤ 4611686018427387904, .bool (decide (lsOf cHd n f = lsOf cHd m g)))
  | _ => none
theorem conEqHd : Con pg 76 ckEqHd := by
  have hct := ctN_ok pg
  intro args q r h hq
  unfold ckEqHd at h
  split at h
  · cases h
    rename_i n f m g
    refine pcall_args (args' := [.sl (lsOf cHd n f).length (lsF cHd (lsOf cHd n f)), .sl (lsOf cHd m g).length (lsF cHd (lsOf cHd m g))]) ⟨isLs.vle hq.1, isLs.vle hq.2.1, trivial⟩ ?_
    have hn : (lsOf cHd n f).length ≤ 4611686018427387904 := by rw [lsOf_len]; exact hq.2.2
    generalize lsOf cHd n f = a at hn ⊢
    generalize lsOf cHd m g = b
    refine w76 (fun _ => false) [] rfl hct rfl rfl ?_
    push_cast (config := { maxSteps := 10000000 })
    refine ⟨fun h => ?_, fun h => ?_⟩
    · exact (decide_eq_false fun e => h (by rw [e])).symm
    refine LoopW.adj ⟨hct, fol⟩ (by kernel_rfl) [] (fun i : Nat => [(0, .sl a.length (lsF cHd a)), (1, .sl b.length (lsF cHd b)), (12, .int .i64 a.length), (13, .int .i64 i)]) (fun _ => []) (fun i => i ≤ a.length ∧ ∀ j, j < i → a.getD j ⟨[], []⟩ = b.getD j ⟨[], []⟩) (fun i => a.length - i) 0 ?_ fun i hi => ?_
    · push_cast (config := { maxSteps := 10000000 })
      exact Nat.zero_le _
    · push_cast (config := { maxSteps := 10000000 })
      obtain ⟨h1, h2⟩ := hi
      refine ⟨fun hlt => ⟨hlt, by omega, fun hne => ?_, fun he => ⟨by omega, i + 1, ⟨by omega, fun j hj => ?_⟩, by omega, by omega⟩⟩, fun hge => ?_⟩
      · exact (decide_eq_false (ne_at (d := ⟨[], []⟩) (i := i) fun e => hne (by rw [e]) (by rw [e]))).symm
      · by_cases e : j = i
        · subst e
          have e1 : ∀ x y : Hd, x.name = y.name → x.value = y.value → x = y := fun x y h h' => by cases x; cases y; simp_all
          exact e1 _ _ he.1 he.2
        · exact h2 j (by omega)
      · exact (decide_eq_true (eq_take (d := ⟨[], []⟩) (by omega) fun j hj => h2 j (by omega))).symm
  · cases h
attribute [push_cast] ckEqHd

def ckSame6 : Ck
  | [.agg [.int .i64 k1, .str i1, .str o1, .int .i64 t1, .str e1, .sl n f, .sl m g], .agg [.int .i64 k2, .str i2, .str o2, .int .i64 t2, .str e2, .sl n' f', .sl m' g']] => some (isLs cHd n f ∧ isLs cHd n' f' ∧ n ≤ 4611686018427387904 ∧ isBy m g ∧ isBy m' g', .bool (decide ((⟨k1, i1, o1, t1, e1, lsOf cHd n f, bytesOf m g⟩ : Rcd) = ⟨k2, i2, o2, t2, e2, lsOf cHd n' f', bytesOf m' g'⟩)))
  | _ => none
theorem conSame6 : Con pg 33 ckSame6 := by
  have hct := (ctA_ok conEqHd (ctA_ok conBEqual (ctN_ok _)))
  intro args q r h hq
  unfold ckSame6 at h
  split at h
  · cases h
    rename_i k1 i1 o1 t1 e1 n f m g k2 i2 o2 t2 e2 n' f' m' g'
    refine w33 (fun _ => false) [] rfl hct rfl rfl ?_
    push_cast (config := { maxSteps := 10000000 })
    obtain ⟨h1, h2, h3, h4, h5⟩ := hq
    refine ⟨fun h => ⟨h, h1, h2, h3⟩, fun h => ⟨h, h4, h5⟩, ?_⟩
    rw [Bool.eq_iff_iff]
    simp only [Bool.and_eq_true, beq_iff_eq, decide_eq_true_eq, Rcd.mk.injEq, and_assoc]
  · cases h
attribute [push_cast] ckSame6
def ckSameAll : Ck
  | [.sl n f, .sl m g] => some (isLs cRec n f ∧ isLs cRec m g ∧ n ≤ 1000000 ∧ (∀ r ∈ lsOf cRec n f, r.hd.length ≤ 4611686018427387904), .bool (decide (lsOf cRec n f = lsOf cRec m g)))
  | _ => none
theorem conSameAll : Con pg 20 ckSameAll := by
  have hct := (ctA_ok conSame6 (ctN_ok _))
  intro args q r h hq
  unfold ckSameAll at h
  split at h
  · cases h
    rename_i n f m g
    refine pcall_args (args' := [.sl (lsOf cRec n f).length (lsF cRec (lsOf cRec n f)), .sl (lsOf cRec m g).length (lsF cRec (lsOf cRec m g))]) ⟨isLs.vle hq.1, isLs.vle hq.2.1, trivial⟩ ?_
    obtain ⟨-, -, hn, hh⟩ := hq
    have hn : (lsOf cRec n f).length ≤ 1000000 := by rw [lsOf_len]; exact hn
    generalize lsOf cRec n f = a at hn hh ⊢
    generalize lsOf cRec m g = b
    refine w20 (fun _ => false) [] rfl hct rfl rfl ?_
    push_cast (config := { maxSteps := 10000000 })
    refine ⟨fun h => ?_, fun h => ?_⟩
    · exact (decide_eq_false fun e => h (by rw [e])).symm
    refine LoopW.adj ⟨hct, fol⟩ (by kernel_rfl) [] (fun i : Nat => [(0, .sl a.length (lsF cRec a)), (1, .sl b.length (lsF cRec b)), (5, .int .i64 i)]) (fun _ => []) (fun i => i ≤ a.length ∧ ∀ j, j < i → a.getD j noRec = b.getD j noRec) (fun i => a.length - i) 0 ?_ fun i hi => ?_
    · push_cast (config := { maxSteps := 10000000 })
      exact Nat.zero_le _
    · push_cast (config := { maxSteps := 10000000 })
      obtain ⟨h1, h2⟩ := hi
      refine ⟨fun hlt => ⟨hlt, by omega, ?_, fun hne => ?_, fun he => ⟨⟨by omega, by omega⟩, i + 1, ⟨by omega, fun j hj => ?_⟩, by omega, by omega⟩⟩, fun hge => ?_⟩
      · exact hh _ (by rw [List.getD_eq_getElem?_getD, List.getElem?_eq_getElem hlt]; exact List.getElem_mem hlt)
      · exact (decide_eq_false (ne_at (d := noRec) (i := i) fun e => hne e)).symm
      · by_cases e : j = i
        · subst e; exact he
        · exact h2 j (by omega)
      · exact (decide_eq_true (eq_take (d := noRec) (by omega) fun j hj => h2 j (by omega))).symm
  · cases h
attribute [push_cast] ckSameAll

/- structs within structs are compared cell by cell too -/
section
variable {P : Program}
theorem eqStructN (m : Nat) {t : TypeId} {fields : Array Field} {z cs ds : List V} (h : P.underlying t = some (.struct fields)) (hs : P.stoodInHeld t = false) (hc : chkF P 0 fields.toList z = true) (h1 : eqP z cs) (h2 : eqP cs ds) (xs ys : Array Value)
    (hx : ∀ i, i < cs.length → xs[0 + i]? = some (exV (cs.getD i .any))) (hy : ∀ i, i < ds.length → ys[0 + i]? = some (exV (ds.getD i .any))) (w : World) : (Op.equalIn (m + 1 + 1) t (.agg xs) (.agg ys)).run P w = .ok (eqB cs ds) w := by
  have hl := eqLoop (P := P) m xs ys w fields.toList 0 z cs ds hc h1 h2 hx hy
  rw [Op.equalIn]
  simp only [Sem.run_bind, run_und h, Result.andThen_ok]
  have hp : (Sem.run P program w) = .ok P w := rfl
  rw [hp]
  simp only [Result.andThen_ok, hs, Bool.false_eq_true, if_false]
  rw [← Array.forIn_toList]
  have hl' := hl
  unfold eqBody at hl'
  simp only [Sem.run_bind]
  erw [hl']
  simp only [Result.andThen_ok]
  cases eqB cs ds <;> rfl
def chkF2 (P : Program) : Nat → List Field → List V → Bool
  | _, [], [] => true
  | off, f :: fs, z => f.name != "_" && f.offset == off && (match P.underlying f.type with
    | some (.struct gs) => !P.stoodInHeld f.type && ((P.info? f.type).map (·.size) == some gs.size) && decide (gs.size ≤ z.length) && chkF P 0 gs.toList (z.take gs.size) && chkF2 P (off + gs.size) fs (z.drop gs.size)
    | _ => chkF P off [f] (z.take 1) && chkF2 P (off + 1) fs (z.drop 1))
  | _, _, _ => false
theorem eqP_len : ∀ {z c : List V}, eqP z c → z.length = c.length
  | [], [], _ => rfl
  | [], _ :: _, h => by simp [eqP] at h
  | x :: _, [], h => by cases x <;> simp [eqP] at h
  | x :: z, y :: c, h => by
    have := eqP_len (eqP_cons h).2
    simp [this]
theorem eqP_take : ∀ {z c : List V} (k : Nat), eqP z c → eqP (z.take k) (c.take k)
  | [], [], k, _ => by simp [eqP]
  | [], _ :: _, _, h => by simp [eqP] at h
  | x :: _, [], _, h => by cases x <;> simp [eqP] at h
  | x :: z, y :: c, 0, h => by simp [eqP]
  | x :: z, y :: c, k + 1, h => by
    obtain ⟨a, b⟩ := eqP_cons h
    have := eqP_take k b
    simp only [List.take_succ_cons]
    cases x <;> cases y <;> simp only [eqP] at a ⊢ <;> first | exact ⟨a.1, this⟩ | exact this | exact a.elim
theorem eqP_drop : ∀ {z c : List V} (k : Nat), eqP z c → eqP (z.drop k) (c.drop k)
  | z, c, 0, h => by simpa using h
  | [], [], k + 1, _ => by simp [eqP]
  | [], _ :: _, _, h => by simp [eqP] at h
  | x :: _, [], _, h => by cases x <;> simp [eqP] at h
  | x :: z, y :: c, k + 1, h => by
    simp only [List.drop_succ_cons]
    exact eqP_drop k (eqP_cons h).2
theorem eqB_split : ∀ {c d : List V} (k : Nat), eqP c d → eqB c d = (eqB (c.take k) (d.take k) && eqB (c.drop k) (d.drop k))
  | [], [], k, _ => by simp [eqB]
  | [], _ :: _, _, h => by simp [eqP] at h
  | x :: _, [], _, h => by cases x <;> simp [eqP] at h
  | x :: z, y :: c, 0, h => by simp [eqB]
  | x :: z, y :: c, k + 1, h => by
    obtain ⟨a, b⟩ := eqP_cons h
    simp only [List.take_succ_cons, List.drop_succ_cons]
    rw [eqB_cons a, eqB_cons (cs := z.take k) (ds := c.take k) a, eqB_split k b, Bool.and_assoc]
theorem getD_take {l : List V} {k i : Nat} (h : i < (l.take k).length) : (l.take k).getD i .any = l.getD i .any := by
  rw [List.length_take] at h
  rw [List.getD_eq_getElem?_getD, List.getD_eq_getElem?_getD, List.getElem?_take_of_lt (by omega)]
theorem getD_drop {l : List V} {k i : Nat} : (l.drop k).getD i .any = l.getD (k + i) .any := by
  rw [List.getD_eq_getElem?_getD, List.getD_eq_getElem?_getD, List.getElem?_drop]
theorem part_agg {t : TypeId} {gs : Array Field} {sz : Nat} (h : P.underlying t = some (.struct gs)) (hi : (P.info? t).map (·.size) = some sz) (cs : Array Value) (off : Nat) (w : World) : (part t cs off).run P w = .ok (.agg (cs.extract off (off + sz))) w := by
  have ha : (isAgg t).run P w = .ok true w := by
    unfold isAgg
    simp only [Sem.run_bind, run_und h, Result.andThen_ok]
    rfl
  obtain ⟨i, h1, h2⟩ := Option.map_eq_some_iff.1 hi
  simp only [part, Sem.run_bind, ha, Result.andThen_ok, if_true, run_size h1, h2, Sem.run_pure]
theorem eqLoop2 (n : Nat) (xs ys : Array Value) (w : World) : ∀ (fs : List Field) (off : Nat) (z cs ds : List V), chkF2 P off fs z = true → eqP z cs → eqP cs ds → (∀ i, i < cs.length → xs[off + i]? = some (exV (cs.getD i .any))) → (∀ i, i < ds.length → ys[off + i]? = some (exV (ds.getD i .any))) →
    (forIn fs ((none, ()) : Option Bool × Unit) (eqBody (n + 1 + 1) xs ys)).run P w = .ok (if eqB cs ds then (none, ()) else (some false, ())) w
  | [], off, [], cs, ds, _, h1, h2, _, _ => by
    cases cs with
    | cons c cs => simp [eqP] at h1
    | nil => cases ds with
      | cons d ds => simp [eqP] at h2
      | nil => rfl
  | [], _, _ :: _, _, _, h, _, _, _, _ => by simp [chkF2] at h
  | f :: fs, off, z, cs, ds, h, h1, h2, hx, hy => by
    rw [chkF2] at h
    simp only [Bool.and_eq_true] at h
    obtain ⟨⟨hn, ho⟩, hk⟩ := h
    have ho := eq_of_beq ho
    have hname : f.name ≠ "_" := by simpa using hn
    have step : ∀ k, (∀ zz, zz = z.drop k → chkF2 P (off + k) fs zz = true) → (∃ a b : Value, (part f.type xs f.offset).run P w = .ok a w ∧ (part f.type ys f.offset).run P w = .ok b w ∧ (Op.equalIn (n + 1 + 1) f.type a b).run P w = .ok (eqB (cs.take k) (ds.take k)) w) →
        (forIn (f :: fs) ((none, ()) : Option Bool × Unit) (eqBody (n + 1 + 1) xs ys)).run P w = .ok (if eqB cs ds then (none, ()) else (some false, ())) w := by
      intro k hr ⟨a, b, px, py, he⟩
      have ih := eqLoop2 n xs ys w fs (off + k) (z.drop k) (cs.drop k) (ds.drop k) (hr _ rfl) (eqP_drop k h1) (eqP_drop k h2)
        (fun i hi => by rw [List.length_drop] at hi; rw [getD_drop, Nat.add_assoc]; exact hx _ (by omega)) (fun i hi => by rw [List.length_drop] at hi; rw [getD_drop, Nat.add_assoc]; exact hy _ (by omega))
      rw [List.forIn_cons, eqB_split k h2]
      have hb : (eqBody (n + 1 + 1) xs ys f (none, ())).run P w = .ok (if (!eqB (cs.take k) (ds.take k)) = true then ForInStep.done (some false, ()) else ForInStep.yield (none, ())) w := by
        unfold eqBody
        rw [if_pos hname]
        simp only [Sem.run_bind, px, py, he, Result.andThen_ok]
        cases eqB (cs.take k) (ds.take k) <;> rfl
      simp only [Sem.run_bind, hb, Result.andThen_ok]
      cases hq : eqB (cs.take k) (ds.take k) with
      | false => rfl
      | true => simpa using ih
    split at hk
    · rename_i gs hu
      simp only [Bool.and_eq_true, Bool.not_eq_true', decide_eq_true_eq] at hk
      obtain ⟨⟨⟨⟨k1, k2⟩, k3⟩, k4⟩, k5⟩ := hk
      have k2 := eq_of_beq k2
      have e1 := eqP_len h1
      have e2 := eqP_len h2
      refine step gs.size (fun zz e => by rw [e]; exact k5) ⟨_, _, part_agg hu k2 xs f.offset w, part_agg hu k2 ys f.offset w, ?_⟩
      refine eqStructN n hu k1 k4 (eqP_take _ h1) (eqP_take _ h2) _ _ (fun i hi => ?_) (fun i hi => ?_) w
      · rw [getD_take hi]
        rw [List.length_take] at hi
        have := hx i (by omega)
        rw [ho, Nat.zero_add, Array.getElem?_extract, if_pos]
        · exact this
        · have := (Array.getElem?_eq_some_iff.1 this).1
          omega
      · rw [getD_take hi]
        rw [List.length_take] at hi
        have := hy i (by omega)
        rw [ho, Nat.zero_add, Array.getElem?_extract, if_pos]
        · exact this
        · have := (Array.getElem?_eq_some_iff.1 this).1
          omega
    · simp only [Bool.and_eq_true] at hk
      cases z with
      | nil => simp [chkF] at hk
      | cons v z =>
      cases cs with
      | nil => cases v <;> simp [eqP] at h1
      | cons c cs =>
      cases ds with
      | nil => cases c <;> simp [eqP] at h2
      | cons d ds =>
      have hk1 := hk.1
      simp only [List.take_succ_cons, List.take_zero, chkF, Bool.and_eq_true] at hk1
      obtain ⟨a1, _⟩ := eqP_cons h1
      obtain ⟨b1, _⟩ := eqP_cons h2
      obtain ⟨⟨dsc, u1, u2⟩, he⟩ := eqLeaf (n := n + 1) hk1.1.2 a1 b1 w
      have px := part_run u1 u2 (cs := xs) (off := f.offset) (v := exV c) (by rw [ho]; simpa using hx 0 (by simp)) w
      have py := part_run u1 u2 (cs := ys) (off := f.offset) (v := exV d) (by rw [ho]; simpa using hy 0 (by simp)) w
      exact step 1 (fun zz e => by rw [e]; exact hk.2) ⟨_, _, px, py, by simpa using he⟩
theorem eqOk_struct2 {t : TypeId} {fields : Array Field} {z : V} (h : P.underlying t = some (.struct fields)) (hg : P.eqGuardType P.depth t = false) (hs : P.stoodInHeld t = false) (hz : (ti P t).zero = some z) (hc : chkF2 P 0 fields.toList z.flat = true) : EqOk P t := by
  refine ⟨hg, fun cs ds w h1 h2 => ?_⟩
  unfold zP at h1
  rw [hz] at h1
  have at' : ∀ (l : List V) (i : Nat), i < l.length → ((l.map exV).toArray)[0 + i]? = some (exV (l.getD i .any)) := fun l i hi => by simp [hi]
  have aux : ∀ m, m = 9997 → (Op.equalIn (m + 1 + 1 + 1) t (.agg (cs.map exV).toArray) (.agg (ds.map exV).toArray)).run P w = .ok (eqB cs ds) w := by
    intro m hm
    have hl := eqLoop2 (P := P) m ((cs.map exV).toArray) ((ds.map exV).toArray) w fields.toList 0 z.flat cs ds hc h1 h2 (at' cs) (at' ds)
    clear hm
    rw [Op.equalIn]
    simp only [Sem.run_bind, run_und h, Result.andThen_ok]
    have hp : (Sem.run P program w) = .ok P w := rfl
    rw [hp]
    simp only [Result.andThen_ok, hs, Bool.false_eq_true, if_false]
    rw [← Array.forIn_toList]
    have hl' := hl
    unfold eqBody at hl'
    simp only [Sem.run_bind]
    erw [hl']
    simp only [Result.andThen_ok]
    cases eqB cs ds <;> rfl
  exact aux 9997 rfl
def eqChk2 (P : Program) (t : TypeId) : Bool := match P.underlying t, (ti P t).zero with
  | some (.struct fs), some z => !P.eqGuardType P.depth t && !P.stoodInHeld t && chkF2 P 0 fs.toList z.flat
  | _, _ => false
theorem eqOk2_of {t : TypeId} (h : eqChk2 P t = true) : EqOk P t := by
  unfold eqChk2 at h
  split at h
  · rename_i fs z hu hz
    simp only [Bool.and_eq_true, Bool.not_eq_true'] at h
    exact eqOk_struct2 hu h.1.1 h.1.2 hz h.2
  · cases h
end

@[push_cast] theorem eqMkT : EqOk Tryz.prog 68 = True := eq_true (eqOk2_of (by kernel_rfl))
def ckEqMk : Ck
  | [.sl n f, .sl m g] => some (isLs cMk n f ∧ isLs cMk m g ∧ n ≤ 4611686018427387904, .bool (decide (lsOf cMk n f = lsOf cMk m g)))
  | _ => none
theorem conEqMk : Con pg 47 ckEqMk := by
  have hct := ctN_ok pg
  intro args q r h hq
  unfold ckEqMk at h
  split at h
  · cases h
    rename_i n f m g
    refine pcall_args (args' := [.sl (lsOf cMk n f).length (lsF cMk (lsOf cMk n f)), .sl (lsOf cMk m g).length (lsF cMk (lsOf cMk m g))]) ⟨isLs.vle hq.1, isLs.vle hq.2.1, trivial⟩ ?_
    have hn : (lsOf cMk n f).length ≤ 4611686018427387904 := by rw [lsOf_len]; exact hq.2.2
    generalize lsOf cMk n f = a at hn ⊢
    generalize lsOf cMk m g = b
    refine w47 (fun _ => false) [] rfl hct rfl rfl ?_
    push_cast (config := { maxSteps := 10000000 })
    refine ⟨fun h => ?_, fun h => ?_⟩
    · exact (decide_eq_false fun e => h (by rw [e])).symm
    refine LoopW.adj ⟨hct, fol⟩ (by kernel_rfl) [] (fun i : Nat => [(0, .sl a.length (lsF cMk a)), (1, .sl b.length (lsF cMk b)), (12, .int .i64 a.length), (13, .int .i64 i)]) (fun _ => []) (fun i => i ≤ a.length ∧ ∀ j, j < i → a.getD j noMk = b.getD j noMk) (fun i => a.length - i) 0 ?_ fun i hi => ?_
    · push_cast (config := { maxSteps := 10000000 })
      exact Nat.zero_le _
    · push_cast (config := { maxSteps := 10000000 })
      obtain ⟨h1, h2⟩ := hi
      refine ⟨fun hlt => ⟨hlt, by omega, fun hne => ?_, fun he => ⟨⟨by omega, by omega⟩, i + 1, ⟨by omega, fun j hj => ?_⟩, by omega, by omega⟩⟩, fun hge => ?_⟩
      · exact (decide_eq_false (ne_at (d := noMk) (i := i) fun e => hne (by rw [e]) (by rw [e]) (by rw [e]))).symm
      · by_cases e : j = i
        · subst e
          have e1 : ∀ x y : Mk, x.id = y.id → x.fr = y.fr → x.en = y.en → x = y := fun x y h h' h'' => by cases x; cases y; simp_all
          exact e1 _ _ he.1 he.2.1 he.2.2
        · exact h2 j (by omega)
      · exact (decide_eq_true (eq_take (d := noMk) (by omega) fun j hj => h2 j (by omega))).symm
  · cases h
attribute [push_cast] ckEqMk

end Go.Abs
