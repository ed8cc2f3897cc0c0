/- what functions of this program compute: contracts, each a function's own -/
import Derived.Test.YtcbkpkcmbijipaaGreatDoorAbsK3
import Derived.Test.YtcbkpkcmbijipaaGreatDoorAbsFacts
import Derived.Test.YtcbkpkcmbijipaaGreatDoorAbsF6
import Derived.Test.YtcbkpkcmbijipaaGreatDoorAbsShelf
import Derived.Lib.SlTrimSet
import Derived.Lib.Atoi
import Derived.Lib.Itoa
import Derived.Lib.ItoaNum
import Derived.Lib.AtoiErrMem
import Derived.Lib.Repeat
import Derived.Lib.ItoaLen
import Derived.Lib.Walk
import Derived.WalkKit
import Derived.OwnWalkIn
import Derived.TacticsInMore
import Derived.RegionIn
import Derived.LoopNIn
import Derived.LoopIn
import Derived.Shelf.Abstract
namespace Go.Abs
open Go Go.Proofs
set_option maxHeartbeats 4000000
set_option maxRecDepth 100000
set_option linter.unusedVariables false
set_option linter.unusedSimpArgs false
def recR (r : Rcd) : List UInt8 := if checkRecL r = 0 then recB r else []
def digR (r : Rcd) : List UInt8 := if checkRecL r = 0 then digestL r.bd else []
def ckRecBytes : Ck
  | [x] => some (isC cRec x ∧ recOk (cRec.dec x), .tup [.sl (recR (cRec.dec x)).length (byF (recR (cRec.dec x))), .int .i64 (checkRecL (cRec.dec x))])
  | _ => none
attribute [push_cast] ckRecBytes
def ckDigestOf : Ck
  | [x] => some (isC cRec x ∧ recOk (cRec.dec x), .tup [.str (digR (cRec.dec x)), .int .i64 (checkRecL (cRec.dec x))])
  | _ => none
theorem conDigestOf : Con pg 24 ckDigestOf := by
  have hct := (ctA_ok conCheckRec (ctA_ok conDigest (ctN_ok _)))
  intro args q r h hq
  unfold ckDigestOf at h
  split at h
  · cases h
    rename_i x
    refine pcall_args (args' := [cRec.enc (cRec.dec x)]) ⟨hq.1, trivial⟩ ?_
    obtain ⟨-, ha⟩ := hq
    generalize cRec.dec x = r at ha ⊢
    refine w24 (fun _ => false) [] rfl hct rfl rfl ?_
    push_cast (config := { maxSteps := 10000000 })
    exact ⟨ha, fun h => by unfold digR; rw [if_neg h], fun h => ⟨by have := (rec_ok h).2.2.2.2.2.2.2.2.2; omega, by unfold digR; rw [if_pos h], h.symm⟩⟩
  · cases h
attribute [push_cast] ckDigestOf
def recA : Rcd := ⟨1, [97], [], 0, [107], [], []⟩
def ckDigNil : Ck
  | [.agg [.int .i64 1, .str [97], .str [], .int .i64 0, .str [107], .nilsl, .nilsl]] => some (True, .tup [.str (digR recA), .int .i64 (checkRecL recA)])
  | _ => none
theorem conDigNil : Con pg 24 ckDigNil := by
  intro args q r h hq
  unfold ckDigNil at h
  split at h
  · cases h
    have hz : ∀ f, VLe .nilsl (.sl 0 f) := fun f => vle1_ok (show vle1 .nilsl (.sl 0 f) from rfl)
    refine pcall_args (args' := [cRec.enc recA]) ⟨VLe.agg ⟨VLe.refl _, VLe.refl _, VLe.refl _, VLe.refl _, VLe.refl _, hz _, hz _, trivial⟩, trivial⟩ ?_
    have := conDigestOf [cRec.enc recA] _ _ rfl ⟨isC_enc cRec recA, ?_⟩
    · rw [cRec.ok] at this
      exact this
    · rw [cRec.ok]
      exact ⟨fun x hx => (by cases hx), by decide, by decide, by decide, by decide, by decide, by decide, by decide, by decide, by decide⟩
  · cases h
attribute [push_cast] ckDigNil
def ckAwake6 : Ck
  | [] => some (True, .bool true)
  | _ => none
theorem conAwake6 : Con pg 8 ckAwake6 := by
  have hct := (ctA_ok conDigNil (ctN_ok _))
  intro args q r h hq
  unfold ckAwake6 at h
  split at h
  · cases h
    refine w8 (fun _ => false) [] rfl hct rfl rfl ?_
    push_cast (config := { maxSteps := 10000000 })
    exact ⟨by decide +kernel, by decide +kernel⟩
  · cases h
attribute [push_cast] ckAwake6

theorem conCheckFile2 : Con pg 30 ckCheckFile := by
  have hct := (ctA_ok conCheckRec2 (ctA_ok conWritten (ctA_ok conFind (ctN_ok _))))
  intro args q r h hq
  unfold ckCheckFile at h
  split at h
  · cases h
    rename_i n f
    refine pcall_args (args' := [.sl (lsOf cRec n f).length (lsF cRec (lsOf cRec n f))]) ⟨isLs.vle hq.1, trivial⟩ ?_
    obtain ⟨-, hl⟩ := hq
    generalize lsOf cRec n f = l at hl ⊢
    refine w30 (fun _ => false) [] rfl hct rfl rfl ?_
    push_cast (config := { maxSteps := 10000000 })
    refine ⟨fun h => by unfold checkFileL; rw [if_pos (by omega)], fun h => ?_⟩
    have e0 : checkFileL l = cfGo [] 0 l := by unfold checkFileL; rw [if_neg (by omega)]
    rw [e0]
    refine LoopW.adj ⟨hct, fol⟩ (by kernel_rfl) [] (fun t : Nat × Int => [(0, .sl l.length (lsF cRec l)), (3, .int .i64 t.2), (4, .int .i64 t.1)]) (fun t => []) (fun t => t.1 ≤ l.length ∧ 0 ≤ t.2 ∧ t.2 ≤ t.1 * 400000 ∧ cfGo ((l.take t.1).map Rcd.id) t.2 (l.drop t.1) = cfGo [] 0 l) (fun t => l.length - t.1) (0, 0) ?_ fun t ht => ?_
    · push_cast (config := { maxSteps := 10000000 })
      exact Nat.zero_le _
    · obtain ⟨i, m⟩ := t
      obtain ⟨h1, h2, h3, h4⟩ : i ≤ l.length ∧ 0 ≤ m ∧ m ≤ i * 400000 ∧ cfGo ((l.take i).map Rcd.id) m (l.drop i) = cfGo [] 0 l := ht
      push_cast (config := { maxSteps := 10000000 })
      refine ⟨fun hi => ?_, fun hi => ?_⟩
      · rw [dropG (d := noRec) hi, cfGo] at h4
        have ea := cf_app hi
        have ok := recsOk_at hl hi
        have hk := LsI.sh (LsI.ls (c := cRec) l) (l := 0) (k := i) (by omega)
        rw [List.drop_zero] at hk
        have hf := fndL_in (l.take i) (l.getD i noRec).id
        rw [hk.of]
        generalize l.getD i noRec = r at *
        refine ⟨hi, ok, fun g => ?_, fun g => ⟨by omega, hi, ⟨hk.is, by omega⟩, fun g2 => ?_, fun g2 => ⟨hi, ⟨ok, g⟩, ?_⟩⟩⟩
        · rw [if_pos g] at h4; exact h4
        · rw [if_neg (fun x => x g), if_pos (hf.1 g2)] at h4; exact h4
        · rw [if_neg (fun x => x g), if_neg (fun x => g2 (hf.2 x))] at h4
          have hb := recB_le g
          exact ⟨⟨by omega, by omega⟩, ⟨by omega, by omega⟩, ((i + 1, m + (recB r).length) : Nat × Int), ⟨by show i + 1 ≤ _; omega, by show 0 ≤ m + _; omega, by show m + _ ≤ ((i + 1 : Nat) : Int) * 400000; omega, by rw [ea]; exact h4⟩, by show l.length - (i + 1) < l.length - i; omega, rfl, by show (i : Int) + 1 = ((i + 1 : Nat) : Int); omega⟩
      · rw [List.drop_eq_nil_of_le (by omega), cfGo] at h4
        exact ⟨fun g => by rw [if_pos g] at h4; exact h4, fun g => by rw [if_neg g] at h4; exact h4⟩
  · cases h
attribute [push_cast] ckCheckFile
attribute [push_cast] ckFileBytes
theorem conPieces2 : Con pg 17 ckPieces := by
  have hct := (ctA_ok conCheckRec2 (ctA_ok conWithin6 (ctA_ok conValues2 (ctW_ok conCutH (ctA_ok conItoa (ctN_ok _))))))
  intro args q r h hq
  unfold ckPieces at h
  split at h
  · cases h
    rename_i x k
    refine pcall_args (args' := [cRec.enc (cRec.dec x), .int .i64 k]) ⟨hq.1, VLe.refl _, trivial⟩ ?_
    obtain ⟨-, ok⟩ := hq
    generalize cRec.dec x = r at *
    refine w17 (fun d => decide (d = 49 ∨ d = 20023)) [.frz 48, .frz 49, .frz 8000] rfl hct rfl rfl ?_
    push_cast (config := { maxSteps := 10000000 })
    have hv : 0 ≤ fstH r.hd wPieces ↔ ¬ ((valuesL r.hd [112, 105, 101, 99, 101, 115]).length : Int) = 0 := fstH_val r.hd
    refine ⟨ok, fun h => ?_, fun hc => ⟨fun h => ?_, fun h => ?_⟩⟩
    · have e : pcE r k = checkRecL r := by unfold pcE; rw [if_pos h]
      have e2 : pcP r k = [] := by unfold pcP; rw [e, if_pos h]
      rw [e, e2]; exact ⟨rfl, rfl⟩
    · have e : pcE r k = 1 := by unfold pcE; rw [if_neg (fun x => x hc), if_pos (fun x => h x.1 x.2)]
      have e2 : pcP r k = [] := by unfold pcP; rw [e]; rfl
      rw [e, e2]; exact ⟨rfl, rfl⟩
    obtain ⟨h1, h2⟩ := h
    obtain ⟨k, rfl⟩ : ∃ j : Nat, k = j := ⟨k.toNat, by omega⟩
    obtain ⟨z1, z2, z3, z4, z5, z6, z7⟩ := rec_sz hc
    have e0 : ((r.bd.length : Int) + k - 1) / k = (((r.bd.length + k - 1) / k : Nat) : Int) := by
      rw [Int.natCast_ediv, show ((r.bd.length + k - 1 : Nat) : Int) = (r.bd.length : Int) + k - 1 by omega]
    have hN : max 1 (((r.bd.length : Int) + k - 1) / k) = ((pcN r k : Nat) : Int) := by
      rw [e0]
      unfold pcN
      generalize (r.bd.length + k - 1) / k = q
      omega
    rw [hN]
    have hlt := fun i => @pcN_iff r k i (by omega)
    have eE : pcE r k = if 1000 < pcN r k then 2 else if r.ki = 5 ∨ 0 ≤ fstH r.hd wPieces then 12 else if pcN r k = 1 then 0 else bad1 (pcL r k (pcN r k)) := by
      unfold pcE
      rw [if_neg (fun x => x hc), if_neg (fun x => x ⟨h1, h2⟩), Int.toNat_natCast]
    have eP : pcP r k = if ¬ pcE r k = 0 then [] else if pcN r k = 1 then [r] else pcL r k (pcN r k) := by
      unfold pcP
      rw [Int.toNat_natCast]
    have hm1 : 1 ≤ pcN r k := by unfold pcN; omega
    generalize pcN r k = m at *
    refine ⟨⟨by omega, by omega⟩, ⟨by omega, by omega⟩, ⟨by omega, by omega, by omega, by omega⟩, fun h => ?_, fun h3 => ⟨fun h => ⟨h, ok.1, by omega⟩, fun h => ?_, fun h => ⟨fun h4 => ?_, fun h4 => ?_⟩⟩⟩
    · rw [if_pos (by omega)] at eE
      rw [eE, if_pos (by decide)] at eP
      rw [eE, eP]; exact ⟨rfl, rfl⟩
    · have h5 : r.ki = 5 ∨ 0 ≤ fstH r.hd wPieces := by
        rcases h with h | h
        · exact .inl h
        · exact .inr (hv.2 (by omega))
      rw [if_neg (by omega), if_pos h5] at eE
      rw [eE, if_pos (by decide)] at eP
      rw [eE, eP]; exact ⟨rfl, rfl⟩
    · have h5 : ¬ (r.ki = 5 ∨ 0 ≤ fstH r.hd wPieces) := fun x => x.elim h.1 fun y => by have := hv.1 y; omega
      rw [if_neg (by omega), if_neg h5, if_pos (by omega)] at eE
      rw [eE, if_neg (by simp), if_pos (by omega)] at eP
      rw [eE, eP]
      refine ⟨⟨ok, by omega, Nat.le_refl _⟩, rfl, fun i hi => ?_, ⟨rfl, fun i hi => ?_⟩, rfl⟩
      · obtain rfl : i = 0 := by omega
        show V.isPure (frzV 48 2 r.hd.length _ (.agg [_, _, _, _, _, _, _])) = true
        push_cast (config := { maxSteps := 10000000 })
        done
      · obtain rfl : i = 0 := by omega
        show frzV 48 2 r.hd.length _ (.agg [_, _, _, _, _, _, _]) = _
        push_cast (config := { maxSteps := 10000000 })
        rfl
    have h5 : ¬ (r.ki = 5 ∨ 0 ≤ fstH r.hd wPieces) := fun x => x.elim h.1 fun y => by have := hv.1 y; omega
    rw [if_neg (by omega), if_neg h5, if_neg (by omega)] at eE
    rw [eE, if_neg (show ¬ m = 1 by omega)] at eP
    have hb := fun i (h : i < (pcL r k m).length) h0 => @bad1_take (pcL r k m) i h h0
    have hbs := fun i h => @bad1_stop (pcL r k m) i h
    have hL := pcL_len r k m
    have hA := fun i (h : i < m) => pcL_at r k h
    have hX := fun i (h : i < m) => pcX_ok (k := k) (m := m) (i := i) ok hc (by omega) h
    refine LoopW.adj ⟨hct, fol⟩ (by kernel_rfl) [.nv 8 8000 7 (lsF cRec (pcL r k m))] (fun i : Nat => [(1, .int .i64 k), (2, .ptr 2 0), (7, .int .i64 m), (8, .vec 8000 i), (9, .int .i64 i)]) (fun i => [(2, .cells (cRec.enc r).flat), (8000, .vec 7 i (lsF cRec (pcL r k m)))]) (fun i => i ≤ m ∧ bad1 ((pcL r k m).take i) = 0) (fun i => m - i) 0 ?_ fun i hi => ?_
    · push_cast (config := { maxSteps := 10000000 })
      exact ⟨Nat.zero_le _, rfl⟩
    · obtain ⟨i1, i2⟩ := hi
      have im : i * k ≤ 1000 * 100000 := Nat.mul_le_mul (by omega) (by omega)
      have hil := hlt i (by omega)
      have q1 : ((i : Int) + 1) * k = ((i * k + k : Nat) : Int) := by rw [Int.add_mul, Int.one_mul]; rfl
      have q2 : (i : Int) * k = ((i * k : Nat) : Int) := rfl
      have hB : List.take ((min (((i * k + k : Nat) : Int)) (r.bd.length : Int)).toNat - (((i * k : Nat) : Int)).toNat) (List.drop (((i * k : Nat) : Int)).toNat r.bd) = (r.bd.drop (i * k)).take k := by
        rw [Int.toNat_natCast]
        generalize i * k = w
        by_cases e : w + k ≤ r.bd.length
        · rw [show (min (((w + k : Nat) : Int)) (r.bd.length : Int)).toNat - w = k by omega]
        · rw [List.take_of_length_le (by rw [List.length_drop]; omega), List.take_of_length_le (by rw [List.length_drop]; omega)]
      have hBl : min ((min (((i * k + k : Nat) : Int)) (r.bd.length : Int)).toNat - (((i * k : Nat) : Int)).toNat) (r.bd.length - (((i * k : Nat) : Int)).toNat) = ((r.bd.drop (i * k)).take k).length := by
        rw [← hB, List.length_take, List.length_drop]
      push_cast (config := { maxSteps := 10000000 })
      rw [q1, q2, hB, hBl]
      refine ⟨fun him => ⟨⟨by omega, by omega⟩, ⟨by omega, by omega⟩, ⟨by omega, by omega⟩, ⟨ok, by omega, by omega, by omega, by omega⟩, rfl, ?_⟩, fun him => ?_⟩
      · refine SeqW.cut ⟨hct, fol⟩ (by kernel_rfl) (by kernel_rfl) [.frz 67] (fun _ : Unit => [(1, .int .i64 k), (2, .ptr 2 0), (7, .int .i64 m), (8, .vec 8000 i), (9, .int .i64 i), (10, .ptr 10 0)]) (fun _ => [(2, .cells (cRec.enc r).flat), (8000, .vec 7 i (lsF cRec (pcL r k m))), (10, .cells (cRec.enc (pcX r k m i)).flat)]) (fun _ => True) ?_ fun t _ => ?_
        · push_cast (config := { maxSteps := 10000000 })
          have hbl : min k (r.bd.length - i * k) = ((r.bd.drop (i * k)).take k).length := by rw [List.length_take, List.length_drop]
          refine ⟨fun i0 => ?_, fun i0 => ?_⟩
          · obtain rfl : i = 0 := by omega
            have hH : LsI cHd (r.hd.length + 1) (appF r.hd.length (fun i => V.agg [V.str (r.hd.getD i ⟨[], []⟩).name, V.str (r.hd.getD i ⟨[], []⟩).value]) (litF [V.agg [V.str [112, 105, 101, 99, 101, 115], V.str (Lib.itoa (m : Int))]])) (r.hd ++ [⟨wPieces, Lib.itoa m⟩]) := LsI.app (LsI.ls r.hd) (LsI.one rfl) rfl
            have e0 : pcX r k m 0 = ⟨r.ki, r.id, r.ow, r.ti, r.ke, r.hd ++ [⟨wPieces, Lib.itoa m⟩], (r.bd.drop (0 * k)).take k⟩ := if_pos rfl
            rw [hbl, e0]
            refine ⟨⟨by omega, by omega⟩, ⟨by omega, by omega⟩, (), fun j hj => hH.pure (fun _ => rfl) j hj, rfl, rfl, rfl, rfl, rfl, ⟨hH.1, fun j hj => hH.2 j hj⟩, rfl, fun j hj => rfl⟩
          · have i0 : i ≠ 0 := by omega
            have hit := itoa_len6 (i := (i : Int) + 1) (by omega) (by omega)
            rw [pcX_s r k m i0, hbl]
            refine ⟨⟨by omega, by omega⟩, ⟨by omega, by omega⟩, by omega, by omega, (), rfl, rfl, rfl, rfl, rfl, ⟨rfl, fun j hj => ?_⟩, rfl, fun j hj => rfl⟩
            obtain rfl : j = 0 := by omega
            rfl
        · push_cast (config := { maxSteps := 10000000 })
          have hbi := hb i (by omega) i2
          rw [hA i him] at hbi
          refine ⟨hX i him, fun hne => ?_, fun he => ⟨⟨by omega, by omega⟩, ⟨by omega, by omega⟩, i + 1, ⟨by omega, by rw [hbi]; exact he⟩, by omega, ⟨rfl, by omega⟩, rfl, fun j hj => ?_⟩⟩
          · have e : bad1 (pcL r k m) = checkRecL (pcX r k m i) := by rw [hbs (i + 1) (by rw [hbi]; exact hne), hbi]
            rw [eE] at *
            rw [eP, e, if_pos hne]; exact ⟨rfl, rfl⟩
          · unfold appF
            by_cases e : j < i
            · rw [decide_eq_true e, cond_true]; rfl
            · obtain rfl : j = i := by omega
              rw [decide_eq_false e, cond_false, Nat.sub_self, hA j him]; rfl
      · obtain rfl : i = m := by omega
        rw [List.take_of_length_le (by omega)] at i2
        rw [eE, eP, i2, if_neg (by simp)]
        exact ⟨⟨hL.symm, fun j hj => rfl⟩, rfl⟩
  · cases h
attribute [push_cast] ckPieces

theorem dig49 (v : List UInt8) : (digL v 4 = true → digL v 9 = true) ∧ (digL v 9 = true → digL v 4 = false → 10000 ≤ natOf v) := by
  unfold digL
  refine ⟨fun h => ?_, fun h h4 => ?_⟩
  · simp only [Bool.and_eq_true, decide_eq_true_eq] at h ⊢
    exact ⟨⟨⟨h.1.1.1, by omega⟩, h.1.2⟩, h.2⟩
  · simp only [Bool.and_eq_true, decide_eq_true_eq] at h
    obtain ⟨⟨⟨h1, h2⟩, h3⟩, h5⟩ := h
    rw [h3, h5, decide_eq_true h1] at h4
    simp only [Bool.true_and, Bool.and_true, decide_eq_false_iff_not] at h4
    apply Nat.le_of_not_lt
    intro hn
    have e := dec_natOf h3 h1 (by
      rw [Bool.or_eq_true, decide_eq_true_eq, beq_iff_eq] at h5
      rcases h5 with h5 | h5
      · exact .inl h5
      · rw [h5]; exact .inr rfl)
    have := dec_len 3 (natOf v) (by omega)
    rw [e] at this
    omega
def nb9 (v : List UInt8) : Int := if digL v 9 = true then natOf v else -1
theorem nb9_num (v : List UInt8) : ((2 ≤ nb9 v ∧ nb9 v ≤ 9999) ∧ nb9 v = numV v ∧ 2 ≤ numV v) ∨ (¬ (2 ≤ nb9 v ∧ nb9 v ≤ 9999) ∧ numV v < 2) := by
  obtain ⟨h1, h2⟩ := dig49 v
  have h3 := numV_le v
  unfold nb9
  unfold numV at *
  cases h4 : digL v 4 with
  | true =>
    rw [h1 h4]
    rw [h4] at h3
    simp only [if_true] at h3 ⊢
    by_cases hh : (2 : Int) ≤ natOf v
    · exact .inl ⟨⟨hh, by omega⟩, trivial, hh⟩
    · exact .inr ⟨fun x => hh x.1, by omega⟩
  | false =>
    simp only [Bool.false_eq_true, if_false]
    cases h9 : digL v 9 with
    | true =>
      have := h2 h9 h4
      simp only [if_true]
      exact .inr ⟨fun x => by omega, by omega⟩
    | false =>
      simp only [Bool.false_eq_true, if_false]
      exact .inr ⟨fun x => by omega, by omega⟩
theorem fst_cons (h : Hd) (t : List Hd) (w : List UInt8) : fstH (h :: t) w = if lowL h.name = w then 0 else if fstH t w < 0 then -1 else fstH t w + 1 := by
  unfold fstH
  rw [List.findIdx?_cons]
  by_cases e : lowL h.name = w
  · rw [if_pos e, if_pos (beq_iff_eq.2 e)]; rfl
  · rw [if_neg e, if_neg (fun x => e (beq_iff_eq.1 x))]
    cases t.findIdx? (fun h => lowL h.name == w) with
    | none => rfl
    | some k => simp only [Option.map_some]; rw [if_neg (by omega)]; rfl
/-- the values of a name, and its first head -/
theorem values_fst (w : List UInt8) : ∀ l : List Hd, (fstH l w < 0 ∧ valuesL l w = []) ∨ (0 ≤ fstH l w ∧ ∃ t, valuesL l w = (l.getD (fstH l w).toNat ⟨[], []⟩).value :: t)
  | [] => .inl ⟨show (-1 : Int) < 0 by decide, rfl⟩
  | h :: t => by
    rw [fst_cons]
    unfold valuesL
    rw [List.filter_cons]
    by_cases e : lowL h.name = w
    · rw [if_pos e, if_pos (beq_iff_eq.2 e)]
      exact .inr ⟨Int.le_refl _, _, rfl⟩
    · rw [if_neg e, if_neg (fun x => e (beq_iff_eq.1 x))]
      rcases values_fst w t with ⟨h1, h2⟩ | ⟨h1, t', h2⟩
      · rw [if_pos h1]; exact .inl ⟨by decide, h2⟩
      · rw [if_neg (by omega)]
        refine .inr ⟨by omega, t', ?_⟩
        rw [show (fstH t w + 1).toNat = (fstH t w).toNat + 1 by omega, List.getD_cons_succ]
        exact h2
theorem fst_at {l : List Hd} {w : List UInt8} {i : Nat} (h : i < l.length) (h0 : 0 ≤ fstH l w) : ((i : Int) < fstH l w → ¬ lowL (l.getD i ⟨[], []⟩).name = w) ∧ ((i : Int) = fstH l w → lowL (l.getD i ⟨[], []⟩).name = w) := by
  unfold fstH at *
  cases hk : l.findIdx? (fun h => lowL h.name == w) with
  | none => rw [hk] at h0; simp at h0
  | some k =>
    simp only
    obtain ⟨h1, h2, h3⟩ := List.findIdx?_eq_some_iff_getElem.1 hk
    rw [List.getD_eq_getElem?_getD, List.getElem?_eq_getElem h, Option.getD_some]
    refine ⟨fun hi => ?_, fun hi => ?_⟩
    · have := h3 i (by omega)
      simpa using this
    · have : i = k := by omega
      subst this
      simpa using h2
/-- all but one, up to a place -/
def eraT (l : List Hd) (k i : Nat) : List Hd := if i ≤ k then l.take i else (l.take i).eraseIdx k
theorem eraT_le {l : List Hd} {k i : Nat} (h : i < l.length) (hi : i < k) : eraT l k (i + 1) = eraT l k i ++ [l.getD i ⟨[], []⟩] := by
  unfold eraT
  rw [if_pos (by omega), if_pos (by omega), takeG (d := ⟨[], []⟩) h]
theorem eraT_eq {l : List Hd} {k : Nat} (h : k < l.length) : eraT l k (k + 1) = eraT l k k := by
  unfold eraT
  rw [if_neg (by omega), if_pos (Nat.le_refl _), takeG (d := ⟨[], []⟩) h]
  have e : (l.take k).length = k := by rw [List.length_take]; omega
  rw [List.eraseIdx_append_of_length_le (by omega), e, Nat.sub_self]
  simp
theorem eraT_gt {l : List Hd} {k i : Nat} (h : i < l.length) (hi : k < i) : eraT l k (i + 1) = eraT l k i ++ [l.getD i ⟨[], []⟩] := by
  unfold eraT
  rw [if_neg (by omega), if_neg (by omega), takeG (d := ⟨[], []⟩) h, List.eraseIdx_append_of_lt_length (by rw [List.length_take]; omega)]
theorem eraT_len (l : List Hd) (k i : Nat) : (eraT l k i).length ≤ i := by
  unfold eraT
  split
  · rw [List.length_take]; omega
  · have := List.length_eraseIdx_le (l := l.take i) k
    rw [List.length_take] at this; omega
theorem eraT_end {l : List Hd} {k i : Nat} (h : l.length ≤ i) (hk : k < l.length) : eraT l k i = l.eraseIdx k := by
  unfold eraT
  rw [if_neg (by omega), List.take_of_length_le h]
def flatB (l : List Rcd) : List UInt8 := (l.map Rcd.bd).flatten
theorem flatB_app (a : List Rcd) (x : Rcd) : flatB (a ++ [x]) = flatB a ++ x.bd := by unfold flatB; rw [List.map_append, List.flatten_append]; simp
/-- the number that the first head of a name is, or -1 -/
def nbG : List (List UInt8) → Int
  | [] => -1
  | v :: _ => if digL v 9 = true then natOf v else -1
theorem nb_iff {x : Rcd} {n : Int} (h2 : 2 ≤ n) (h9 : n ≤ 9999) : nbG (valuesL x.hd wNumber) = n ↔ 0 ≤ fstH x.hd wNumber ∧ nbV x = n := by
  rcases values_fst wNumber x.hd with ⟨v1, v2⟩ | ⟨v1, t, v2⟩
  · rw [v2]
    constructor
    · intro h; have h : (-1 : Int) = n := h; omega
    · intro h; omega
  · rw [v2]
    show nb9 (hdV x wNumber) = n ↔ _ ∧ numV (hdV x wNumber) = n
    rcases nb9_num (hdV x wNumber) with ⟨q1, q2, q3⟩ | ⟨q1, q2⟩
    · rw [q2]; exact ⟨fun h => ⟨v1, h⟩, fun h => h.2⟩
    · exact ⟨fun h => absurd ⟨by omega, by omega⟩ q1, fun h => by omega⟩
theorem pc_iff {r x : Rcd} {id : List UInt8} {n : Int} (h2 : 2 ≤ n) (h9 : n ≤ 9999) : (((((x.ki = 5 ∧ x.ow = id) ∧ x.ti = r.ti) ∧ x.ke = r.ke) ∧ nbG (valuesL x.hd wNumber) = n) ↔ (isPc r id x = true ∧ nbV x = n)) := by
  rw [nb_iff h2 h9, isPc_iff]
  constructor
  · rintro ⟨⟨⟨⟨a, b⟩, c⟩, d⟩, e, f⟩; exact ⟨⟨⟨⟨⟨a, b⟩, e⟩, c⟩, d⟩, f⟩
  · rintro ⟨⟨⟨⟨⟨a, b⟩, e⟩, c⟩, d⟩, f⟩; exact ⟨⟨⟨⟨a, b⟩, c⟩, d⟩, e, f⟩

def ckPlainNum : Ck
  | [.str s] => some (s.length ≤ 4611686018427387900, .tup [.int .i64 (if digL s 9 = true then (natOf s : Int) else 0), .bool (digL s 9)])
  | _ => none
theorem pn_no {s : List UInt8} (h : (s = [] ∨ 9 < (s.length : Int)) ∨ 1 < (s.length : Int) ∧ ((s.getD 0 0).toNat : Int) = 48) : digL s 9 = false := by
  unfold digL
  rcases h with (rfl | h) | ⟨h1, h2⟩
  · rfl
  · rw [show decide ((s.length : Int) ≤ 9) = false from decide_eq_false (by omega)]; simp
  · have e1 : decide (s.getD 0 0 ≠ 48) = false := decide_eq_false fun x => x (by
      rw [u8_eq]; exact h2)
    have e2 : (s == [48]) = false := by
      rw [Bool.eq_false_iff]
      intro x
      rw [beq_iff_eq] at x
      subst x
      simp at h1
    rw [e1, e2]; simp
theorem pn_yes {s : List UInt8} (h : (¬ s = [] ∧ ¬ 9 < (s.length : Int)) ∧ (1 < (s.length : Int) → ¬ ((s.getD 0 0).toNat : Int) = 48)) (ha : s.all isDg = true) : digL s 9 = true := by
  unfold digL
  obtain ⟨⟨h1, h2⟩, h3⟩ := h
  have hp : 1 ≤ s.length := by
    cases s with
    | nil => exact absurd rfl h1
    | cons a t => simp
  rw [ha, decide_eq_true hp, decide_eq_true (show (s.length : Int) ≤ 9 by omega)]
  simp only [Bool.and_self, Bool.true_and, Bool.or_eq_true, decide_eq_true_eq, beq_iff_eq]
  by_cases e : s.getD 0 0 = 48
  · right
    have hl : s.length = 1 := by
      rcases Nat.lt_or_ge 1 s.length with h | h
      · exact absurd ((u8_eq _ _).1 e) (h3 (by omega))
      · omega
    match s, hl with
    | [c], _ => simpa using e
  · left; exact e
theorem conPlainNum : Con pg 84 ckPlainNum := by
  have hct := (ctA_ok conAtoi (ctN_ok _))
  intro args q r h hq
  unfold ckPlainNum at h
  split at h
  · cases h
    rename_i s
    refine w84 (fun _ => false) [] rfl hct rfl rfl ?_
    push_cast (config := { maxSteps := 10000000 })
    refine ⟨fun h => ⟨h, by omega⟩, fun h => ⟨h, fun h' => ⟨h, h'⟩⟩, fun h => by rw [pn_no h]; exact ⟨rfl, rfl⟩, fun h => ?_⟩
    refine LoopW.adj ⟨hct, fol⟩ (by kernel_rfl) [] (fun i : Nat => [(0, .str s), (4, .int .i64 i)]) (fun _ => []) (fun i => i ≤ s.length ∧ ∀ j, j < i → isDg (s.getD j 0) = true) (fun i => s.length - i) 0 ?_ fun i hi => ?_
    · push_cast (config := { maxSteps := 10000000 })
      exact Nat.zero_le _
    · push_cast (config := { maxSteps := 10000000 })
      obtain ⟨h1, h2⟩ := hi
      refine ⟨fun h3 => ⟨h3, fun x => ⟨x, h3⟩, fun x => ?_, fun x => ⟨⟨by omega, by omega⟩, i + 1, ⟨by omega, fun j hj => ?_⟩, by omega, by omega⟩⟩, fun h3 => ?_⟩
      · have : digL s 9 = false := by
          unfold digL
          rw [all_no h3 (p := isDg) (decide_eq_false (by omega))]; simp
        rw [this]; exact ⟨rfl, rfl⟩
      · by_cases e : j = i
        · subst e; exact decide_eq_true (by omega)
        · exact h2 j (by omega)
      · have ha := all_at (p := isDg) fun j hj => h2 j (by omega)
        have hy := pn_yes h ha
        rw [hy]
        have hp : 1 ≤ s.length := by
          cases s with
          | nil => exact absurd rfl h.1.1
          | cons a t => simp
        exact ⟨⟨hp, by omega, ha⟩, rfl, rfl⟩
  · cases h
attribute [push_cast] ckPlainNum

def ckNumOf : Ck
  | [x, .str w] => some (isC cRec x ∧ recOk (cRec.dec x) ∧ (cRec.dec x).hd.length ≤ 1000000, .int .i64 (nbG (valuesL (cRec.dec x).hd w)))
  | _ => none
theorem conNumOf : Con pg 69 ckNumOf := by
  have hct := (ctA_ok conValues2 (ctA_ok conPlainNum (ctN_ok _)))
  intro args q r h hq
  unfold ckNumOf at h
  split at h
  · cases h
    rename_i x w
    refine pcall_args (args' := [cRec.enc (cRec.dec x), .str w]) ⟨hq.1, VLe.refl _, trivial⟩ ?_
    obtain ⟨-, ok, h1⟩ := hq
    generalize cRec.dec x = r at *
    refine w69 (fun _ => false) [] rfl hct rfl rfl ?_
    push_cast (config := { maxSteps := 10000000 })
    refine ⟨⟨ok.1, h1⟩, fun h => ?_, fun h => ⟨by omega, ?_, fun h2 => ?_, fun h2 => ?_⟩⟩
    · rw [List.length_eq_zero_iff.1 (show (valuesL r.hd w).length = 0 by omega)]; rfl
    · obtain ⟨v, t, e⟩ : ∃ v t, valuesL r.hd w = v :: t := by
        cases hv : valuesL r.hd w with
        | nil => rw [hv] at h; exact absurd rfl h
        | cons a b => exact ⟨a, b, rfl⟩
      have hm : v ∈ valuesL r.hd w := by rw [e]; simp
      rw [e]
      unfold valuesL at hm
      obtain ⟨y, hy, rfl⟩ := List.mem_map.1 hm
      have := (ok.1 y (List.mem_filter.1 hy).1).2
      show y.value.length ≤ _
      omega
    · cases hv : valuesL r.hd w with
      | nil => rw [hv] at h; exact absurd rfl h
      | cons a b =>
        rw [hv] at h2
        have h2 : digL a 9 = false := h2
        show -1 = if digL a 9 = true then (natOf a : Int) else -1
        rw [h2]; rfl
    · cases hv : valuesL r.hd w with
      | nil => rw [hv] at h; exact absurd rfl h
      | cons a b =>
        rw [hv] at h2
        have h2 : digL a 9 = true := h2
        show (if digL a 9 = true then (natOf a : Int) else 0) = if digL a 9 = true then (natOf a : Int) else -1
        rw [h2]; rfl
  · cases h
attribute [push_cast] ckNumOf
theorem conJoinedOf : Con pg 41 ckJoined := by
  have hct := (ctA_ok conFind (ctA_ok conValues2 (ctW_ok conCutB (ctA_ok conNumOf (ctA_ok conWithin6 (ctA_ok conSmall (ctA_ok conCheckRec2 (ctN_ok _))))))))
  intro args q r h hq
  unfold ckJoined at h
  split at h
  · cases h
    rename_i n f s
    refine pcall_args (args' := [.sl (lsOf cRec n f).length (lsF cRec (lsOf cRec n f)), .str s]) ⟨isLs.vle hq.1, VLe.refl _, trivial⟩ ?_
    obtain ⟨-, hl, hck⟩ := hq
    generalize lsOf cRec n f = l at hl hck ⊢
    refine w41 (fun _ => false) [.frz 44, .frz 55, .frz 8000] rfl hct rfl rfl ?_
    push_cast (config := { maxSteps := 10000000 })
    rw [show ([112, 105, 101, 99, 101, 115] : List UInt8) = wPieces from rfl]
    obtain ⟨hcl, hfl, hlen⟩ := file_ok hck
    have fbd := fndL_b l s
    refine ⟨by omega, fun h => ⟨h, by omega, by omega⟩, fun h => ?_, fun h => ?_⟩
    · have e : joinL l s = (noRec, 9) := by
        unfold joinL
        rw [if_pos]
        rcases h with h | h
        · exact .inl (by omega)
        · by_cases h0 : 0 ≤ fndL l s
          · right; unfold fndR; rw [if_pos h0]; exact h
          · exact .inl h0
      rw [e]; exact ⟨⟨rfl, rfl, rfl, rfl, rfl, rfl, rfl⟩, rfl⟩
    have h0 : 0 ≤ fndL l s := by omega
    have eR : fndR l s = l.getD (fndL l s).toNat noRec := by unfold fndR; rw [if_pos h0]
    have eJ : joinL l s = jnR l s (fndR l s) := by unfold joinL; rw [if_neg (fun x => x.elim (fun y => y h0) (by rw [eR]; exact h.2))]
    rw [eJ, eR]
    have hr : l.getD (fndL l s).toNat noRec ∈ l := getD_memH (d := noRec) (by omega)
    generalize l.getD (fndL l s).toNat noRec = r at hr h eR ⊢
    have ok := hl r hr
    obtain ⟨z1, z2, z3, z4, z5, z6, z7⟩ := rec_sz (hcl r hr)
    refine ⟨⟨h0, by omega⟩, ⟨ok.1, by omega⟩, fun g => ?_, fun g => ?_⟩
    · have e : jnR l s r = (r, 0) := by
        rcases values_fst wPieces r.hd with ⟨v1, v2⟩ | ⟨v1, t, v2⟩
        · unfold jnR; rw [if_pos v1]
        · rw [v2] at g; simp at g; omega
      rw [e]
      exact ⟨⟨ok, by omega, Nat.le_refl _⟩, rfl, ⟨rfl, rfl, rfl, rfl, rfl, ⟨rfl, fun _ _ => rfl⟩, rfl, fun _ _ => rfl⟩, rfl⟩
    obtain ⟨g1, tv, g2⟩ : 0 ≤ fstH r.hd wPieces ∧ ∃ t, valuesL r.hd wPieces = hdV r wPieces :: t := by
      rcases values_fst wPieces r.hd with ⟨v1, v2⟩ | h
      · rw [v2] at g; exact absurd rfl g
      · exact h
    have g3 := fstH_lt r.hd wPieces g1
    have eN : nbG (valuesL r.hd wPieces) = nb9 (hdV r wPieces) := by rw [g2]; rfl
    rw [eN]
    refine ⟨⟨ok, by omega⟩, fun g4 => ?_, fun g4 => ⟨⟨ok, by omega, Nat.le_refl _⟩, rfl, ?_⟩⟩
    · rcases nb9_num (hdV r wPieces) with ⟨q1, q2, q3⟩ | ⟨q1, q2⟩
      · exact absurd q1.2 (g4 q1.1)
      · have e : jnR l s r = (noRec, 3) := by unfold jnR; rw [if_neg (by omega), if_pos q2]
        rw [e]; exact ⟨⟨rfl, rfl, rfl, rfl, rfl, rfl, rfl⟩, rfl⟩
    obtain ⟨q2, q3⟩ : nb9 (hdV r wPieces) = numV (hdV r wPieces) ∧ 2 ≤ numV (hdV r wPieces) := by
      rcases nb9_num (hdV r wPieces) with ⟨q1, q2, q3⟩ | ⟨q1, q2⟩
      · exact ⟨q2, q3⟩
      · exact absurd g4 q1
    have m9 := numV_le (hdV r wPieces)
    have eJ2 : jnR l s r = jnE r (joinG (pcsL r s l) (numV (hdV r wPieces) - 1).toNat 2 r.bd) := by unfold jnR; rw [if_neg (by omega), if_neg (by omega)]
    rw [eJ2, q2]
    generalize numV (hdV r wPieces) = M at *
    have okX : ∀ b, b.length ≤ 140737488355328 → recOk (jnX r b) := fun b hb => jnX_ok ok hb
    obtain ⟨k, hk⟩ : ∃ k : Nat, fstH r.hd wPieces = k := ⟨(fstH r.hd wPieces).toNat, by omega⟩
    have eX : ∀ b, jnX r b = ⟨r.ki, r.id, r.ow, r.ti, r.ke, r.hd.eraseIdx k, b⟩ := fun b => by unfold jnX; rw [hk, Int.toNat_natCast]
    have fat := fun i (hi : i < r.hd.length) => fst_at hi g1
    rw [hk] at g3 fat
    refine LoopW.adj ⟨hct, fol⟩ (by kernel_rfl) [.nvc 9 5 8000 2 (lsF cHd [])] (fun i : Nat => [(0, .sl l.length (lsF cRec l)), (1, .str s), (4, .ptr 4 0), (7, .ptr 7 0), (8, .int .i64 M), (9, .ptr 9 0), (10, .bool (decide (k < i))), (11, .int .i64 i)]) (fun i => [(4, .cells [.int .i64 0, .str [], .str [], .int .i64 0, .str [], .nilsl, .nilsl]), (7, .cells [.int .i64 r.ki, .str r.id, .str r.ow, .int .i64 r.ti, .str r.ke, .sl r.hd.length (lsF cHd r.hd), .sl r.bd.length (byF r.bd)]), (9, .cells [.int .i64 r.ki, .str r.id, .str r.ow, .int .i64 r.ti, .str r.ke, .vec 8000 (eraT r.hd k i).length, .vec 55 r.bd.length]), (55, .vec 1 r.bd.length (byF r.bd)), (8000, .vec 2 (eraT r.hd k i).length (lsF cHd (eraT r.hd k i)))]) (fun i => i ≤ r.hd.length) (fun i => r.hd.length - i) 0 ?_ fun i hi => ?_
    · push_cast (config := { maxSteps := 10000000 })
      exact ⟨Nat.zero_le _, rfl⟩
    · have hi : i ≤ r.hd.length := hi
      have fat := fat i
      have el := eraT_len r.hd k i
      push_cast (config := { maxSteps := 10000000 })
      refine ⟨fun hlt => ⟨fun x => ⟨x, hlt⟩, fun x => ⟨x, (ok.1 _ (getD_memH (d := ⟨[], []⟩) hlt)).1⟩, fun hc => ?_, fun hc => ⟨hlt, ⟨by omega, by omega⟩, ⟨by omega, by omega⟩, i + 1, by omega, by omega, ⟨?_, by omega⟩, ?_⟩⟩, fun hge => ?_⟩
      · have ei : i = k := by
          rcases Nat.lt_trichotomy i k with x | x | x
          · exact absurd hc.2 ((fat hlt).1 (by omega))
          · exact x
          · exact absurd x hc.1
        subst ei
        have e := eraT_eq hlt
        exact ⟨⟨by omega, by omega⟩, i + 1, by omega, by omega, ⟨(decide_eq_true (by omega)).symm, by omega⟩, by rw [e], by rw [e], fun j hj => by rw [e]⟩
      · have ne : i ≠ k := fun e => hc (by omega) ((fat hlt).2 (by omega))
        exact decide_eq_decide.2 (by omega)
      · have ne : i ≠ k := fun e => hc (by omega) ((fat hlt).2 (by omega))
        have e : eraT r.hd k (i + 1) = eraT r.hd k i ++ [r.hd.getD i ⟨[], []⟩] := by
          by_cases x : i < k
          · exact eraT_le hlt x
          · exact eraT_gt hlt (by omega)
        rw [e]
        generalize eraT r.hd k i = E
        refine ⟨by rw [List.length_append]; rfl, by rw [List.length_append]; rfl, fun j hj => ?_⟩
        exact (LsI.app (c := cHd) (k := E.length + 1) (LsI.ls E) (LsI.one (f := litF [cHd.enc (r.hd.getD i ⟨[], []⟩)]) rfl) rfl).2 j hj
      · have ee : eraT r.hd k i = r.hd.eraseIdx k := eraT_end (by omega) (by omega)
        rw [ee] at el ⊢
        have el2 : (r.hd.eraseIdx k).length ≤ 30 := by omega
        generalize r.hd.eraseIdx k = H at *
        have hqm : ∀ n x, x ∈ pcsL r s l n → x ∈ l := fun n x h => pcsL_mem h
        have hqs : ∀ i, i < l.length → ∀ n, pcsL r s (l.take (i + 1)) n = pcsL r s (l.take i) n ++ (if isPc r s (l.getD i noRec) = true ∧ nbV (l.getD i noRec) = n then [l.getD i noRec] else []) := fun i h n => pcsL_s r s l h n
        refine LoopW.adj ⟨hct, fol⟩ (by kernel_rfl) [] (fun t : Nat × List UInt8 => [(0, .sl l.length (lsF cRec l)), (1, .str s), (4, .ptr 4 0), (7, .ptr 7 0), (8, .int .i64 M), (9, .ptr 9 0), (12, .int .i64 (2 + t.1))]) (fun t => [(4, .cells [.int .i64 0, .str [], .str [], .int .i64 0, .str [], .nilsl, .nilsl]), (7, .cells [.int .i64 r.ki, .str r.id, .str r.ow, .int .i64 r.ti, .str r.ke, .sl r.hd.length (lsF cHd r.hd), .sl r.bd.length (byF r.bd)]), (9, .cells [.int .i64 r.ki, .str r.id, .str r.ow, .int .i64 r.ti, .str r.ke, .vec 8000 H.length, .vec 55 t.2.length]), (55, .vec 1 t.2.length (byF t.2)), (8000, .vec 2 H.length (lsF cHd H))]) (fun t => (t.1 : Int) ≤ M - 1 ∧ t.2.length ≤ 200000 * (t.1 + 1) ∧ joinG (pcsL r s l) (M - 1).toNat 2 r.bd = joinG (pcsL r s l) ((M - 1).toNat - t.1) (2 + t.1) t.2) (fun t => 10000 - t.1) (0, r.bd) ?_ fun t ht => ?_
        · push_cast (config := { maxSteps := 10000000 })
          exact ⟨by omega, by omega⟩
        · obtain ⟨j, b⟩ := t
          obtain ⟨t1, t2, t3⟩ := ht
          have t1 : (j : Int) ≤ M - 1 := t1
          have t2 : b.length ≤ 200000 * (j + 1) := t2
          have t3 : joinG (pcsL r s l) (M - 1).toNat 2 r.bd = joinG (pcsL r s l) ((M - 1).toNat - j) (2 + j) b := t3
          push_cast (config := { maxSteps := 10000000 })
          refine ⟨fun hM => ?_, fun hM => ?_⟩
          · refine LoopW.adj ⟨hct, fol⟩ (by kernel_rfl) [] (fun i : Nat => [(0, .sl l.length (lsF cRec l)), (1, .str s), (4, .ptr 4 0), (7, .ptr 7 0), (8, .int .i64 M), (9, .ptr 9 0), (12, .int .i64 (2 + j)), (13, .int .i64 (pcsL r s (l.take i) (2 + j)).length), (14, .int .i64 i)]) (fun i => [(4, .cells [.int .i64 0, .str [], .str [], .int .i64 0, .str [], .nilsl, .nilsl]), (7, .cells [.int .i64 r.ki, .str r.id, .str r.ow, .int .i64 r.ti, .str r.ke, .sl r.hd.length (lsF cHd r.hd), .sl r.bd.length (byF r.bd)]), (9, .cells [.int .i64 r.ki, .str r.id, .str r.ow, .int .i64 r.ti, .str r.ke, .vec 8000 H.length, .vec 55 (b ++ flatB (pcsL r s (l.take i) (2 + j))).length]), (55, .vec 1 (b ++ flatB (pcsL r s (l.take i) (2 + j))).length (byF (b ++ flatB (pcsL r s (l.take i) (2 + j))))), (8000, .vec 2 H.length (lsF cHd H))]) (fun i => i ≤ l.length ∧ (b ++ flatB (pcsL r s (l.take i) (2 + j))).length ≤ 200000 * (j + 1) + 200000 * i) (fun i => l.length - i) 0 ?_ fun i hi => ?_
            · push_cast (config := { maxSteps := 10000000 })
              refine ⟨⟨by omega, ?_⟩, rfl, rfl, rfl, fun y _ => ?_⟩
              · show b.length + 0 ≤ _
                omega
              · show byF b y = byF (b ++ []) y
                rw [List.append_nil]
            · obtain ⟨i1, i2⟩ := hi
              rw [List.length_append] at i2
              have hqi := hqs i
              push_cast (config := { maxSteps := 10000000 })
              rw [show ([110, 117, 109, 98, 101, 114] : List UInt8) = wNumber from rfl]
              have hq1 : (pcsL r s (l.take i) (2 + j)).length ≤ 1000 := by
                have := List.length_filter_le (fun y => isPc r s y && decide (nbV y = 2 + j)) (l.take i)
                rw [List.length_take] at this
                show (List.filter _ _).length ≤ _
                omega
              refine ⟨fun hlt => ?_, fun hge => ?_⟩
              · have hx : l.getD i noRec ∈ l := getD_memH (d := noRec) hlt
                have hqi := hqi hlt (2 + j)
                generalize l.getD i noRec = x at hx hqi ⊢
                have okx := hl x hx
                obtain ⟨y1, y2, y3, y4, y5, y6, y7⟩ := rec_sz (hcl x hx)
                have hm := pc_iff (r := r) (id := s) (x := x) (n := 2 + j) (by omega) (by omega)
                refine ⟨hlt, fun h => ⟨h, okx, by omega⟩, fun h => ?_, fun h => ?_⟩
                · rw [if_pos (hm.1 h)] at hqi
                  have e2 : flatB (pcsL r s (l.take (i + 1)) (2 + j)) = flatB (pcsL r s (l.take i) (2 + j)) ++ x.bd := by rw [hqi, flatB_app]
                  have e3 : (pcsL r s (l.take (i + 1)) (2 + j)).length = (pcsL r s (l.take i) (2 + j)).length + 1 := by rw [hqi, List.length_append]; rfl
                  refine ⟨⟨by omega, by omega⟩, ⟨by omega, by omega⟩, ⟨by omega, by omega⟩, i + 1, ⟨by omega, ?_⟩, by omega, ⟨by rw [e3]; omega, by omega⟩, ?_, ?_, fun y hy => ?_⟩
                  · rw [e2, List.length_append]; omega
                  · rw [e2, List.length_append]; omega
                  · rw [e2, List.length_append]; omega
                  · rw [e2, ← List.append_assoc]
                    rw [← List.length_append] at hy ⊢
                    exact (ByI.app (k := (b ++ flatB (pcsL r s (l.take i) (2 + j))).length + x.bd.length) (ByI.by (b ++ flatB (pcsL r s (l.take i) (2 + j)))) (ByI.by x.bd) rfl).2 y hy
                · rw [if_neg (fun q => by have q := hm.2 q; exact h q.1 q.2), List.append_nil] at hqi
                  exact ⟨⟨by omega, by omega⟩, i + 1, ⟨by omega, by rw [hqi]; omega⟩, by omega, ⟨by rw [hqi], by omega⟩, by rw [hqi], by rw [hqi], fun y hy => by rw [hqi]⟩
              · have ei : l.take i = l := List.take_of_length_le (by omega)
                rw [ei] at *
                refine ⟨fun h1 => ?_, fun h1 => ⟨⟨by omega, by omega⟩, (j + 1, b ++ flatB (pcsL r s l (2 + j))), ⟨by show ((j + 1 : Nat) : Int) ≤ _; omega, ?_, ?_⟩, by show 10000 - (j + 1) < _; omega, by show _ = 2 + ((j + 1 : Nat) : Int); omega, List.length_append.symm, List.length_append.symm, fun y hy => rfl⟩⟩
                · have e3 : joinG (pcsL r s l) (M - 1).toNat 2 r.bd = none := by
                    rw [t3, show (M - 1).toNat - j = ((M - 1).toNat - (j + 1)) + 1 by omega]
                    show (if (pcsL r s l (2 + (j : Int))).length = 1 then _ else _) = _
                    rw [if_neg (by omega)]
                  rw [e3]; exact ⟨⟨rfl, rfl, rfl, rfl, rfl, rfl, rfl⟩, rfl⟩
                · obtain ⟨y, hy⟩ := List.length_eq_one_iff.1 (show (pcsL r s l (2 + (j : Int))).length = 1 by omega)
                  have hyl : y ∈ l := hqm (2 + j) y (by rw [hy]; simp)
                  have y6 := (rec_sz (hcl y hyl)).2.2.2.2.2.1
                  rw [hy]
                  show (b ++ flatB [y]).length ≤ 200000 * (j + 1 + 1)
                  rw [List.length_append, show flatB [y] = y.bd by simp [flatB]]; omega
                · obtain ⟨y, hy⟩ := List.length_eq_one_iff.1 (show (pcsL r s l (2 + (j : Int))).length = 1 by omega)
                  rw [t3, show (M - 1).toNat - j = ((M - 1).toNat - (j + 1)) + 1 by omega]
                  show (if (pcsL r s l (2 + (j : Int))).length = 1 then _ else _) = _
                  rw [if_pos (by omega), hy, show (2 : Int) + j + 1 = 2 + ((j + 1 : Nat) : Int) by omega, show flatB [y] = y.bd by simp [flatB]]; rfl
          · have e3 : joinG (pcsL r s l) (M - 1).toNat 2 r.bd = some b := by
              rw [t3, show (M - 1).toNat - j = 0 by omega]; rfl
            rw [e3]
            rw [← eX b]
            refine ⟨⟨?_, okX b (by omega)⟩, fun hc => ?_, fun hc => ?_⟩
            · have := isC_enc cRec (jnX r b)
              rw [eX b] at this; exact this
            · have e4 : jnE r (some b) = (noRec, checkRecL (jnX r b)) := if_neg hc
              rw [e4]; exact ⟨⟨rfl, rfl, rfl, rfl, rfl, rfl, rfl⟩, rfl⟩
            · have e4 : jnE r (some b) = (jnX r b, 0) := if_pos hc
              rw [e4, eX b]; exact ⟨⟨rfl, rfl, rfl, rfl, rfl, ⟨rfl, fun _ _ => rfl⟩, rfl, fun _ _ => rfl⟩, rfl⟩
  · cases h

theorem conJoinedX2 : Con pg 19 ckJoinedX := by
  have hct := (ctA_ok conCheckFile2 (ctA_ok conJoinedOf (ctN_ok _)))
  intro args q r h hq
  unfold ckJoinedX at h
  split at h
  · cases h
    rename_i n f s
    refine pcall_args (args' := [.sl (lsOf cRec n f).length (lsF cRec (lsOf cRec n f)), .str s]) ⟨isLs.vle hq.1, VLe.refl _, trivial⟩ ?_
    obtain ⟨-, hl⟩ := hq
    generalize lsOf cRec n f = l at hl ⊢
    refine w19 (fun _ => false) [] rfl hct rfl rfl ?_
    push_cast (config := { maxSteps := 10000000 })
    refine ⟨hl, fun h => ?_, fun h => ?_⟩
    · have e : joinedL l s = (noRec, checkFileL l) := by unfold joinedL; rw [if_pos h]
      rw [e]; exact ⟨⟨rfl, rfl, rfl, rfl, rfl, rfl, rfl⟩, rfl⟩
    · have e : joinedL l s = joinL l s := by unfold joinedL; rw [if_neg (fun x => x h)]
      rw [e]; exact ⟨⟨hl, h⟩, ⟨rfl, rfl, rfl, rfl, rfl, ⟨rfl, fun _ _ => rfl⟩, rfl, fun _ _ => rfl⟩, rfl⟩
  · cases h
theorem conShownOf : Con pg 32 ckShown0 := by
  have hct := (ctA_ok conFind (ctA_ok conJoinedOf (ctN_ok _)))
  intro args q r h hq
  unfold ckShown0 at h
  split at h
  · cases h
    rename_i n f s
    refine pcall_args (args' := [.sl (lsOf cRec n f).length (lsF cRec (lsOf cRec n f)), .str s]) ⟨isLs.vle hq.1, VLe.refl _, trivial⟩ ?_
    obtain ⟨-, hl, h⟩ := hq
    generalize lsOf cRec n f = l at hl h ⊢
    refine w32 (fun _ => false) [.frz 8000] rfl hct rfl rfl ?_
    push_cast (config := { maxSteps := 10000000 })
    have e : showL l s = showG l (l.length + 1) [] s := by unfold showL; rw [if_neg (fun x => x h)]
    rw [e]
    have h0 := shI_0 l s
    generalize showG l (l.length + 1) [] s = R at h0 ⊢
    obtain ⟨hcl, hfl, hlen⟩ := file_ok h
    refine LoopW.adj ⟨hct, fol⟩ (by kernel_rfl) [.nv 6 8000 1 (lsF cStr [])] (fun t : Nat × List (List UInt8) × List UInt8 => [(0, .sl l.length (lsF cRec l)), (1, .str t.2.2), (6, .vec 8000 t.2.1.length)]) (fun t => [(8000, .vec 1 t.2.1.length (lsF cStr t.2.1))]) (fun t => shI l R t) (fun t => t.1) (l.length + 1, [], s) ?_ fun t ht => ?_
    · push_cast (config := { maxSteps := 10000000 })
      exact h0
    · obtain ⟨f, seen, id⟩ := t
      obtain ⟨p1, p2⟩ := shI_pos ht
      obtain ⟨f, rfl⟩ : ∃ g, f = g + 1 := ⟨f - 1, by have p1 : 1 ≤ f := p1; omega⟩
      have p2 : seen.length ≤ l.length := p2
      push_cast (config := { maxSteps := 10000000 })
      refine LoopW.adj ⟨hct, fol⟩ (by kernel_rfl) [] (fun i : Nat => [(0, .sl l.length (lsF cRec l)), (1, .str id), (6, .vec 8000 seen.length), (7, .int .i64 i)]) (fun _ => [(8000, .vec 1 seen.length (lsF cStr seen))]) (fun i => i ≤ seen.length ∧ ∀ j, j < i → seen.getD j [] ≠ id) (fun i => seen.length - i) 0 ?_ fun i hi => ?_
      · push_cast (config := { maxSteps := 10000000 })
        exact Nat.zero_le _
      · obtain ⟨i1, i2⟩ := hi
        have hR : R = if ¬ 0 ≤ fndL l id then ([], 9) else if seen.contains id = true then ([], 17) else if ¬ (fndR l id).ki = 4 then ((joinL l id).1.bd, (joinL l id).2) else showG l f (seen ++ [id]) (fndR l id).ow := ht.2.2.2
        have fb := fndL_b l id
        push_cast (config := { maxSteps := 10000000 })
        refine ⟨fun h1 => ⟨h1, h1, fun h2 => ?_, fun h2 => ⟨⟨by omega, by omega⟩, i + 1, ⟨by omega, fun j hj => ?_⟩, by omega, by omega⟩⟩, fun h1 => ?_⟩
        · have hm : id ∈ seen := by rw [← h2]; exact getD_memH (d := []) h1
          have g := fnd_of_mem (ht.2.1 id hm)
          rw [hR, if_neg (fun x => x g), if_pos (List.contains_iff_mem.2 hm)]; exact ⟨rfl, rfl⟩
        · by_cases e : j = i
          · subst e; exact h2
          · exact i2 j (by omega)
        · have g2 : ¬ seen.contains id = true := fun hc => by
            rw [List.contains_iff_mem] at hc
            obtain ⟨j, hj, e⟩ := List.getElem_of_mem hc
            have := i2 j (by omega)
            rw [List.getD_eq_getElem?_getD, List.getElem?_eq_getElem hj] at this
            exact this e
          have eA := LsI.app (c := cStr) (k := seen.length + 1) (LsI.ls seen) (LsI.one (f := litF [cStr.enc id]) rfl) rfl
          have pA : ∀ j, j < seen.length + 1 → (appF seen.length (lsF cStr seen) (litF [V.str id]) j).isPure = true := fun j hj => by
            have := eA.2 j hj
            exact (congrArg V.isPure this).trans rfl
          have pK : ∀ j, j < seen.length + 1 → (V.kill 9 (appF seen.length (lsF cStr seen) (litF [V.str id]) j)).isPure = true := fun j hj => by
            have := eA.2 j hj
            exact (congrArg (fun v => (V.kill 9 v).isPure) this).trans rfl
          refine ⟨⟨by omega, by omega⟩, by omega, fun g => ⟨pA, ?_⟩, fun g => ?_⟩
          · rw [hR, if_pos (by omega)]; exact ⟨rfl, rfl⟩
          have g : 0 ≤ fndL l id := by omega
          have eR : fndR l id = l.getD (fndL l id).toNat noRec := by unfold fndR; rw [if_pos g]
          rw [← eR]
          refine ⟨⟨g, by omega⟩, fun g3 => ⟨⟨hl, h⟩, fun g4 => ⟨pK, ?_⟩, fun g4 => ⟨pK, ?_⟩⟩, fun g3 => ⟨⟨g, by omega⟩, (f, seen ++ [id], (fndR l id).ow), shI_s ht g g2 g3, Nat.lt_succ_self f, ⟨rfl, ?_⟩, ?_, fun j hj => ?_⟩⟩
          · rw [hR, if_neg (fun x => x g), if_neg g2, if_pos g3, joinL_err g4]; exact ⟨rfl, rfl⟩
          · rw [hR, if_neg (fun x => x g), if_neg g2, if_pos g3]; exact ⟨⟨rfl, fun _ _ => rfl⟩, g4.symm⟩
          · rw [List.length_append]; rfl
          · rw [List.length_append]; rfl
          · exact eA.2 j hj
  · cases h
attribute [push_cast] ckShown0
theorem conShown2 : Con pg 14 ckShown := by
  have hct := (ctA_ok conCheckFile2 (ctA_ok conShownOf (ctN_ok _)))
  intro args q r h hq
  unfold ckShown at h
  split at h
  · cases h
    rename_i n f s
    refine pcall_args (args' := [.sl (lsOf cRec n f).length (lsF cRec (lsOf cRec n f)), .str s]) ⟨isLs.vle hq.1, VLe.refl _, trivial⟩ ?_
    obtain ⟨-, hl⟩ := hq
    generalize lsOf cRec n f = l at hl ⊢
    refine w14 (fun _ => false) [] rfl hct rfl rfl ?_
    push_cast (config := { maxSteps := 10000000 })
    refine ⟨hl, fun h => ?_, fun h => ?_⟩
    · have e : showL l s = ([], checkFileL l) := by unfold showL; rw [if_pos h]
      rw [e]; exact ⟨rfl, rfl⟩
    · exact ⟨hl, h⟩
  · cases h

/- lists of things as arguments, cell by cell -/
theorem VLe.slV {n : Nat} {f g : Nat → V} (h : ∀ i, i < n → (g i).flat.length = (f i).flat.length ∧ ∀ j, j < (f i).flat.length → VLe ((f i).flat.getD j .any) ((g i).flat.getD j .any) ∧ ((g i).flat.getD j .any).isPure = true) : VLe (.sl n f) (.sl n g) := by
  intro γ imm w v hr
  cases inv_sl (S := ⟨γ, imm, fun _ => none, w⟩) hr with
  | sl0 _ a c => exact .pure (.sl0 _ a c)
  | sl _ _ b off c sz u hb hnc hs hf hc ho hp =>
    refine .pure (.sl n g b off c sz u hb hnc hs (fun i hi => (h i hi).1.trans (hf i hi)) hc ho (fun i j hi hj => ?_))
    have hj' : j < (f i).flat.length := by rw [hf i hi]; exact hj
    obtain ⟨h1, h2⟩ := (h i hi).2 j hj'
    exact isPure_rep (S := ⟨γ, imm, fun _ => none, w⟩) (h1 _ _ _ _ (.pure (hp i j hi hj))) h2
def isLv {α : Type} (c : Cod α) (n : Nat) (f : Nat → V) : Prop := VLe (.sl n f) (.sl (lsOf c n f).length (lsF c (lsOf c n f)))
/-- a thing's cells say what its code says -/
def isE {α : Type} (c : Cod α) (v : V) : Prop := (c.enc (c.dec v)).flat.length = v.flat.length ∧ ∀ j, j < v.flat.length → VLe (v.flat.getD j .any) ((c.enc (c.dec v)).flat.getD j .any) ∧ ((c.enc (c.dec v)).flat.getD j .any).isPure = true
theorem shListE {α : Type} {c : Cod α} {s : Sh} {p : α → Prop} (hs : ∀ m v, s.has m v → isE c v ∧ p (c.dec v)) {m : Nat} {v : V} (h : Sh.has (.list s) m v) : ∃ (n : Nat) (f : Nat → V), v = .sl n f ∧ isLv c n f ∧ n ≤ 140737488355328 ∧ ∀ a ∈ lsOf c n f, p a := by
  obtain ⟨l, ms, rfl, h1, h2, h3, h4⟩ := h
  have := reach_le
  refine ⟨_, _, rfl, ?_, by omega, fun a ha => ?_⟩
  · unfold isLv
    rw [lsOf_len]
    refine VLe.slV fun i hi => ?_
    have hE := (hs _ _ (h4 i hi)).1
    have e2 : lsF c (lsOf c l.length (litF l)) i = c.enc (c.dec (litF l i)) := by
      unfold lsF lsOf
      rw [List.getD_eq_getElem?_getD, List.getElem?_map, List.getElem?_range hi]; rfl
    rw [e2]
    exact hE
  · simp only [lsOf, List.mem_map, List.mem_range] at ha
    obtain ⟨i, hi, rfl⟩ := ha
    exact (hs _ _ (h4 i hi)).2

/- lists of records as arguments -/
theorem shRecX {m : Nat} {v : V} (h : Sh.has (.tup [.int .i64, .str, .str, .int .i64, .str, .list (.tup [.str, .str]), .list (.int .u8)]) m v) : ∃ ki id ow ti ke n f k g, v = .agg [.int .i64 ki, .str id, .str ow, .int .i64 ti, .str ke, .sl n f, .sl k g] ∧ isLs cHd n f ∧ isBy k g := by
  obtain ⟨l, ms, rfl, -, hl⟩ := h
  obtain ⟨m1, v1, ms, l, rfl, h1, hl⟩ := hasL_cons hl
  obtain ⟨m2, v2, ms, l, rfl, h2, hl⟩ := hasL_cons hl
  obtain ⟨m3, v3, ms, l, rfl, h3, hl⟩ := hasL_cons hl
  obtain ⟨m4, v4, ms, l, rfl, h4, hl⟩ := hasL_cons hl
  obtain ⟨m5, v5, ms, l, rfl, h5, hl⟩ := hasL_cons hl
  obtain ⟨m6, v6, ms, l, rfl, h6, hl⟩ := hasL_cons hl
  obtain ⟨m7, v7, ms, l, rfl, h7, hl⟩ := hasL_cons hl
  obtain rfl := hasL_nil hl
  obtain ⟨ki, rfl, c1⟩ := shInt h1
  obtain ⟨id, rfl, b2⟩ := shStr h2
  obtain ⟨ow, rfl, b3⟩ := shStr h3
  obtain ⟨ti, rfl, c4⟩ := shInt h4
  obtain ⟨ke, rfl, b5⟩ := shStr h5
  obtain ⟨n, f, rfl, i6, b6, k6⟩ := shList (c := cHd) (fun m v h => shHead h) h6
  obtain ⟨k, g, rfl, i7, b7⟩ := shBytes h7
  exact ⟨ki, id, ow, ti, ke, n, f, k, g, rfl, i6, i7⟩
theorem shRecs {m : Nat} {v : V} (h : Sh.has (.list (.tup [.int .i64, .str, .str, .int .i64, .str, .list (.tup [.str, .str]), .list (.int .u8)])) m v) : ∃ (n : Nat) (f : Nat → V), v = .sl n f ∧ isLv cRec n f ∧ n ≤ 140737488355328 ∧ recsOk (lsOf cRec n f) := by
  obtain ⟨l, ms, rfl, h1, h2, h3, h4⟩ := h
  have := reach_le
  refine ⟨_, _, rfl, ?_, by omega, fun a ha => ?_⟩
  · unfold isLv
    rw [lsOf_len]
    refine VLe.slV fun i hi => ?_
    obtain ⟨ki, id, ow, ti, ke, n, f, k, g, e, i6, i7⟩ := shRecX (h4 i hi)
    have e : litF l i = _ := e
    have e2 : lsF cRec (lsOf cRec l.length (litF l)) i = cRec.enc (cRec.dec (litF l i)) := by
      unfold lsF lsOf
      rw [List.getD_eq_getElem?_getD, List.getElem?_map, List.getElem?_range hi]; rfl
    rw [e2, e]
    refine ⟨rfl, fun j hj => ?_⟩
    match j, hj with
    | 0, _ => exact ⟨VLe.refl _, rfl⟩
    | 1, _ => exact ⟨VLe.refl _, rfl⟩
    | 2, _ => exact ⟨VLe.refl _, rfl⟩
    | 3, _ => exact ⟨VLe.refl _, rfl⟩
    | 4, _ => exact ⟨VLe.refl _, rfl⟩
    | 5, _ => exact ⟨isLs.vle i6, rfl⟩
    | 6, _ => exact ⟨isBy.vle i7, rfl⟩
  · simp only [lsOf, List.mem_map, List.mem_range] at ha
    obtain ⟨i, hi, rfl⟩ := ha
    exact (shRec (h4 i hi)).2

theorem pcs_recs (r : Rcd) (k : Int) : (pcP r k).length ≤ 1000000 ∧ ∀ x ∈ pcP r k, x.hd.length ≤ 4611686018427387904 := by
  unfold pcP
  by_cases h : pcE r k = 0
  · rw [if_neg (fun x => x h)]
    have hc : checkRecL r = 0 := by
      unfold pcE at h
      by_cases hc : checkRecL r = 0
      · exact hc
      · rw [if_pos hc] at h; exact absurd h hc
    have hn : ¬ 1000 < pcN r k.toNat := by
      intro hn
      unfold pcE at h
      rw [if_neg (fun x => x hc), if_pos hn] at h
      by_cases h1 : 1 ≤ k ∧ k ≤ 100000
      · rw [if_neg (fun x => x h1)] at h; cases h
      · rw [if_pos h1] at h; cases h
    obtain ⟨z1, z2, z3, z4, z5, z6, z7⟩ := rec_sz hc
    by_cases e : pcN r k.toNat = 1
    · rw [if_pos e]
      refine ⟨(by decide : (1 : Nat) ≤ 1000000), fun x hx => ?_⟩
      simp only [List.mem_singleton] at hx
      subst hx; omega
    · rw [if_neg e, pcL_len]
      refine ⟨by omega, fun x hx => ?_⟩
      unfold pcL at hx
      obtain ⟨i, hi, rfl⟩ := List.mem_map.1 hx
      by_cases i0 : i = 0
      · subst i0
        rw [pcX_0]
        show (r.hd ++ [_]).length ≤ _
        rw [List.length_append, List.length_singleton]; omega
      · rw [pcX_s r _ _ i0]
        show 1 ≤ _
        omega
  · rw [if_pos h]
    exact ⟨Nat.zero_le _, fun x hx => by cases hx⟩
theorem noRec_hd : noRec.hd.length ≤ 140737488355328 := Nat.zero_le _
theorem joined_hd {l : List Rcd} (ha : recsOk l) (s : List UInt8) : (joinedL l s).1.hd.length ≤ 140737488355328 := by
  have hf : (fndR l s).hd.length ≤ 140737488355328 := by
    unfold fndR
    by_cases h : 0 ≤ fndL l s
    · rw [if_pos h]
      exact (ha _ (getD_memH (d := noRec) (fndL_ok h).1)).2.2.2.2.1
    · rw [if_neg h]; exact noRec_hd
  unfold joinedL
  by_cases h : checkFileL l = 0
  · rw [if_neg (fun x => x h)]
    unfold joinL
    generalize fndR l s = r at hf ⊢
    by_cases h1 : ¬ 0 ≤ fndL l s ∨ r.ki = 5
    · rw [if_pos h1]; exact noRec_hd
    · rw [if_neg h1]
      unfold jnR
      by_cases h2 : fstH r.hd wPieces < 0
      · rw [if_pos h2]; exact hf
      · rw [if_neg h2]
        by_cases h3 : numV (hdV r wPieces) < 2
        · rw [if_pos h3]; exact noRec_hd
        · rw [if_neg h3]
          generalize joinG (pcsL r s l) (numV (hdV r wPieces) - 1).toNat 2 r.bd = o
          unfold jnE
          cases o with
          | none => exact noRec_hd
          | some b =>
            by_cases h4 : checkRecL (jnX r b) = 0
            · simp only [if_pos h4]
              exact Nat.le_trans (List.length_eraseIdx_le _ _) hf
            · simp only [if_neg h4]; exact noRec_hd
  · rw [if_pos h]; exact noRec_hd
def ckLawPM : Ck
  | [x, .int .i64 k, .sl n f, .str s] => some (isC cRec x ∧ recOk (cRec.dec x) ∧ isLv cRec n f ∧ recsOk (lsOf cRec n f), .bool true)
  | _ => none
theorem conLawPM : Con pg 5 ckLawPM := by
  have hct := (ctA_ok conPieces (ctA_ok conPieces2 (ctA_ok conJoinedX (ctA_ok conJoinedX2 (ctA_ok conSameAll (ctA_ok conSame6 (ctA_ok conAwake6 (ctN_ok _))))))))
  intro args q r h hq
  unfold ckLawPM at h
  split at h
  · cases h
    rename_i x k n f s
    refine pcall_args (args' := [cRec.enc (cRec.dec x), .int .i64 k, .sl (lsOf cRec n f).length (lsF cRec (lsOf cRec n f)), .str s]) ⟨hq.1, VLe.refl _, hq.2.2.1, VLe.refl _, trivial⟩ ?_
    obtain ⟨-, hr, -, ha⟩ := hq
    generalize lsOf cRec n f = l at ha ⊢
    generalize cRec.dec x = r at *
    refine w5 (fun _ => false) [] rfl hct rfl rfl ?_
    push_cast (config := { maxSteps := 10000000 })
    exact ⟨hr, hr, ha, ha, pcs_recs r k, Nat.le_trans (joined_hd ha s) (by decide)⟩
  · cases h
attribute [push_cast] ckLawPM
theorem allLawPM {H : Type} (ds : List (DataW H)) (hh : hasD [.tup [.int .i64, .str, .str, .int .i64, .str, .list (.tup [.str, .str]), .list (.int .u8)], .int .i64, .list (.tup [.int .i64, .str, .str, .int .i64, .str, .list (.tup [.str, .str]), .list (.int .u8)]), .str] ds) : PCall pg 5 (ds.map toV) (.bool true) := by
  obtain ⟨d1, d2, d3, d4, rfl, a, b, c, d⟩ := hasD4 hh
  obtain ⟨n, f, e1, i1, b1, k1⟩ := shRecs c
  obtain ⟨k, e2, c2⟩ := shInt b
  obtain ⟨s, e3, c3⟩ := shStr d
  simp only [List.map_cons, List.map_nil, e1, e2, e3]
  exact conLawPM _ _ _ rfl ⟨(shRec a).1, (shRec a).2, i1, k1⟩

def ckPJ0 : Ck
  | [x, .int .i64 k, .bool b] => some (isC cRec x ∧ recOk (cRec.dec x) ∧ ¬ pcE (cRec.dec x) k = 0, .bool true)
  | _ => none
theorem conPJ0 : Con pg 6 ckPJ0 := by
  have hct := (ctA_ok conPieces (ctA_ok conAwake6 (ctN_ok _)))
  intro args q r h hq
  unfold ckPJ0 at h
  split at h
  · cases h
    rename_i x k b
    refine pcall_args (args' := [cRec.enc (cRec.dec x), .int .i64 k, .bool b]) ⟨hq.1, VLe.refl _, VLe.refl _, trivial⟩ ?_
    obtain ⟨-, hr, he⟩ := hq
    generalize cRec.dec x = r at *
    refine w6 (fun _ => false) [] rfl hct rfl rfl ?_
    push_cast (config := { maxSteps := 10000000 })
    refine ⟨hr, fun _ => ?_, fun h => absurd h he⟩
    have e : pcP r k = [] := by unfold pcP; rw [if_pos he]
    rw [e]; rfl
  · cases h
attribute [push_cast] ckPJ0
theorem pcP_ok {r : Rcd} {k : Int} (hr : recOk r) (he : pcE r k = 0) : recsOk (pcP r k) := by
  obtain ⟨hc, ⟨h1, h2⟩, h3, -, -⟩ := pcE_ok he
  unfold pcP
  rw [if_neg (fun x => x he)]
  by_cases hm : pcN r k.toNat = 1
  · rw [if_pos hm]
    intro x hx
    simp only [List.mem_singleton] at hx
    subst hx; exact hr
  · rw [if_neg hm]
    intro x hx
    unfold pcL at hx
    obtain ⟨i, hi, rfl⟩ := List.mem_map.1 hx
    exact pcX_ok hr hc (by omega) (List.mem_range.1 hi)
def ckPJ1 : Ck
  | [x, .int .i64 k, .bool b] => some (isC cRec x ∧ recOk (cRec.dec x) ∧ pcE (cRec.dec x) k = 0, .bool true)
  | _ => none
theorem conPJ1 : Con pg 6 ckPJ1 := by
  have hct := (ctW_ok conPiecesN (ctA_ok conCheckFile (ctF_ok conRevR (ctA_ok conJoinedX (ctA_ok conSame6 (ctA_ok conAwake6 (ctN_ok _)))))))
  intro args q r h hq
  unfold ckPJ1 at h
  split at h
  · cases h
    rename_i x k b
    refine pcall_args (args' := [cRec.enc (cRec.dec x), .int .i64 k, .bool b]) ⟨hq.1, VLe.refl _, VLe.refl _, trivial⟩ ?_
    obtain ⟨-, hr, he⟩ := hq
    generalize cRec.dec x = r at *
    refine w6 (fun d => decide (d = 20008)) [] rfl hct rfl rfl ?_
    push_cast (config := { maxSteps := 10000000 })
    have hrs := pcP_ok hr he
    have hn := (pcs_recs r k).1
    refine ⟨⟨hr, he⟩, rfl, hrs, fun hf => ?_⟩
    refine SeqW.cut ⟨hct, fol⟩ (by kernel_rfl) (by kernel_rfl) [.frz 13] (fun L : List Rcd => [(3, .ptr 3 0), (7, .sl L.length (lsF cRec L))]) (fun _ => [(3, .cells (cRec.enc r).flat)]) (fun L => L = pcP r k ∨ L = (pcP r k).reverse) ?_ fun L hL => ?_
    · push_cast (config := { maxSteps := 10000000 })
      exact ⟨fun _ => ⟨hn, _, .inr rfl, List.length_reverse.symm, fun j hj => rfl⟩, fun _ => ⟨_, .inl rfl, rfl, fun j hj => rfl⟩⟩
    · have hj := pc_join he hL (by
        rcases hL with h | h
        · rw [h]; exact hf
        · rw [h]; exact file_rev hf)
      have hL2 : recsOk L := by
        rcases hL with h | h
        · rw [h]; exact hrs
        · rw [h]; exact fun x hx => hrs x (List.mem_reverse.1 hx)
      push_cast (config := { maxSteps := 10000000 })
      rw [hj]
      exact ⟨hL2, fun _ => ⟨rfl, Nat.le_trans hr.2.2.2.2.1 (by decide)⟩, rfl, rfl⟩
  · cases h
attribute [push_cast] ckPJ1
theorem conLawPJ {x : V} {k : Int} {b : Bool} (h1 : isC cRec x) (h2 : recOk (cRec.dec x)) : PCall pg 6 [x, .int .i64 k, .bool b] (.bool true) := by
  by_cases he : pcE (cRec.dec x) k = 0
  · exact conPJ1 _ _ _ rfl ⟨h1, h2, he⟩
  · exact conPJ0 _ _ _ rfl ⟨h1, h2, he⟩
theorem allLawPJ {H : Type} (ds : List (DataW H)) (hh : hasD [.tup [.int .i64, .str, .str, .int .i64, .str, .list (.tup [.str, .str]), .list (.int .u8)], .int .i64, .bool] ds) : PCall pg 6 (ds.map toV) (.bool true) := by
  obtain ⟨d1, d2, d3, rfl, a, b, c⟩ := hasD3 hh
  obtain ⟨k, e2, c2⟩ := shInt b
  obtain ⟨t, e3, _⟩ := c
  simp only [List.map_cons, List.map_nil, e2, e3]
  exact conLawPJ (shRec a).1 (shRec a).2

end Go.Abs
