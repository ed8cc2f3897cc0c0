/- what functions of this program compute: contracts, each a function's own -/
import Derived.Test.YtacpgblabfelhaaGreatDoorAbsK2
import Derived.Test.YtacpgblabfelhaaGreatDoorAbsFacts
import Derived.Test.YtacpgblabfelhaaGreatDoorAbsF7
import Derived.Test.YtacpgblabfelhaaGreatDoorAbsShelf
import Derived.Lib.SlTrimSet
import Derived.Lib.Atoi
import Derived.Lib.Itoa
import Derived.Lib.ItoaNum
import Derived.Lib.AtoiErrMem
import Derived.Lib.ItoaLen
import Derived.Lib.SplitLaws
import Derived.Shelf.Bytes.SlIndexWhole
import Derived.Lib.Index
import Derived.Lib.IndexBytes
namespace Go.Abs
open Go Go.Proofs
set_option maxHeartbeats 4000000
set_option maxRecDepth 100000
set_option linter.unusedVariables false
set_option linter.unusedSimpArgs false
theorem eq_take {α : Type} [DecidableEq α] {d : α} {a b : List α} (h : a.length = b.length) (hh : ∀ j, j < a.length → a.getD j d = b.getD j d) : a = b := by
  apply List.ext_getElem h
  intro i h1 h2
  have := hh i h1
  rwa [List.getD_eq_getElem?_getD, List.getD_eq_getElem?_getD, List.getElem?_eq_getElem h1, List.getElem?_eq_getElem h2] at this
theorem ne_at {α : Type} {d : α} {a b : List α} {i : Nat} (h : a.getD i d ≠ b.getD i d) : a ≠ b := fun e => h (by rw [e])
def ckEqHd : Ck
  | [.sl n f, .sl m g] => some (isLs cHd n f ∧ isLs cHd m g ∧ n ≤ 4611686018427387904, .bool (decide (lsOf cHd n f = lsOf cHd m g)))
  | _ => none
theorem conEqHd : Con pg 76 ckEqHd := by
  have hct := ctN_ok pg
  intro args q r h hq
  unfold ckEqHd at h
  split at h
  · cases h
    rename_i n f m g
    refine pcall_args (args' := [.sl (lsOf cHd n f).length (lsF cHd (lsOf cHd n f)), .sl (lsOf cHd m g).length (lsF cHd (lsOf cHd m g))]) ⟨isLs.vle hq.1, isLs.vle hq.2.1, trivial⟩ ?_
    have hn : (lsOf cHd n f).length ≤ 4611686018427387904 := by rw [lsOf_len]; exact hq.2.2
    generalize lsOf cHd n f = a at hn ⊢
    generalize lsOf cHd m g = b
    refine w76 (fun _ => false) [] rfl hct rfl rfl ?_
    push_cast (config := { maxSteps := 10000000 })
    refine ⟨fun h => ?_, fun h => ?_⟩
    · exact (decide_eq_false fun e => h (by rw [e])).symm
    refine LoopW.adj ⟨hct, fol⟩ (by kernel_rfl) [] (fun i : Nat => [(0, .sl a.length (lsF cHd a)), (1, .sl b.length (lsF cHd b)), (12, .int .i64 a.length), (13, .int .i64 i)]) (fun _ => []) (fun i => i ≤ a.length ∧ ∀ j, j < i → a.getD j ⟨[], []⟩ = b.getD j ⟨[], []⟩) (fun i => a.length - i) 0 ?_ fun i hi => ?_
    · push_cast (config := { maxSteps := 10000000 })
      exact Nat.zero_le _
    · push_cast (config := { maxSteps := 10000000 })
      obtain ⟨h1, h2⟩ := hi
      refine ⟨fun hlt => ⟨hlt, by omega, fun hne => ?_, fun he => ⟨by omega, i + 1, ⟨by omega, fun j hj => ?_⟩, by omega, by omega⟩⟩, fun hge => ?_⟩
      · exact (decide_eq_false (ne_at (d := ⟨[], []⟩) (i := i) fun e => hne (by rw [e]) (by rw [e]))).symm
      · by_cases e : j = i
        · subst e
          have e1 : ∀ x y : Hd, x.name = y.name → x.value = y.value → x = y := fun x y h h' => by cases x; cases y; simp_all
          exact e1 _ _ he.1 he.2
        · exact h2 j (by omega)
      · exact (decide_eq_true (eq_take (d := ⟨[], []⟩) (by omega) fun j hj => h2 j (by omega))).symm
  · cases h
attribute [push_cast] ckEqHd

def ckSame6 : Ck
  | [.agg [.int .i64 k1, .str i1, .str o1, .int .i64 t1, .str e1, .sl n f, .sl m g], .agg [.int .i64 k2, .str i2, .str o2, .int .i64 t2, .str e2, .sl n' f', .sl m' g']] => some (isLs cHd n f ∧ isLs cHd n' f' ∧ n ≤ 4611686018427387904 ∧ isBy m g ∧ isBy m' g', .bool (decide ((⟨k1, i1, o1, t1, e1, lsOf cHd n f, bytesOf m g⟩ : Rcd) = ⟨k2, i2, o2, t2, e2, lsOf cHd n' f', bytesOf m' g'⟩)))
  | _ => none
theorem conSame6 : Con pg 33 ckSame6 := by
  have hct := (ctA_ok conEqHd (ctA_ok conBEqual (ctN_ok _)))
  intro args q r h hq
  unfold ckSame6 at h
  split at h
  · cases h
    rename_i k1 i1 o1 t1 e1 n f m g k2 i2 o2 t2 e2 n' f' m' g'
    refine w33 (fun _ => false) [] rfl hct rfl rfl ?_
    push_cast (config := { maxSteps := 10000000 })
    obtain ⟨h1, h2, h3, h4, h5⟩ := hq
    refine ⟨fun h => ⟨h, h1, h2, h3⟩, fun h => ⟨h, h4, h5⟩, ?_⟩
    rw [Bool.eq_iff_iff]
    simp only [Bool.and_eq_true, beq_iff_eq, decide_eq_true_eq, Rcd.mk.injEq, and_assoc]
  · cases h
attribute [push_cast] ckSame6
def ckSameAll : Ck
  | [.sl n f, .sl m g] => some (isLs cRec n f ∧ isLs cRec m g ∧ n ≤ 1000000 ∧ (∀ r ∈ lsOf cRec n f, r.hd.length ≤ 4611686018427387904), .bool (decide (lsOf cRec n f = lsOf cRec m g)))
  | _ => none
theorem conSameAll : Con pg 20 ckSameAll := by
  have hct := (ctA_ok conSame6 (ctN_ok _))
  intro args q r h hq
  unfold ckSameAll at h
  split at h
  · cases h
    rename_i n f m g
    refine pcall_args (args' := [.sl (lsOf cRec n f).length (lsF cRec (lsOf cRec n f)), .sl (lsOf cRec m g).length (lsF cRec (lsOf cRec m g))]) ⟨isLs.vle hq.1, isLs.vle hq.2.1, trivial⟩ ?_
    obtain ⟨-, -, hn, hh⟩ := hq
    have hn : (lsOf cRec n f).length ≤ 1000000 := by rw [lsOf_len]; exact hn
    generalize lsOf cRec n f = a at hn hh ⊢
    generalize lsOf cRec m g = b
    refine w20 (fun _ => false) [] rfl hct rfl rfl ?_
    push_cast (config := { maxSteps := 10000000 })
    refine ⟨fun h => ?_, fun h => ?_⟩
    · exact (decide_eq_false fun e => h (by rw [e])).symm
    refine LoopW.adj ⟨hct, fol⟩ (by kernel_rfl) [] (fun i : Nat => [(0, .sl a.length (lsF cRec a)), (1, .sl b.length (lsF cRec b)), (5, .int .i64 i)]) (fun _ => []) (fun i => i ≤ a.length ∧ ∀ j, j < i → a.getD j noRec = b.getD j noRec) (fun i => a.length - i) 0 ?_ fun i hi => ?_
    · push_cast (config := { maxSteps := 10000000 })
      exact Nat.zero_le _
    · push_cast (config := { maxSteps := 10000000 })
      obtain ⟨h1, h2⟩ := hi
      refine ⟨fun hlt => ⟨hlt, by omega, ?_, fun hne => ?_, fun he => ⟨⟨by omega, by omega⟩, i + 1, ⟨by omega, fun j hj => ?_⟩, by omega, by omega⟩⟩, fun hge => ?_⟩
      · exact hh _ (by rw [List.getD_eq_getElem?_getD, List.getElem?_eq_getElem hlt]; exact List.getElem_mem hlt)
      · exact (decide_eq_false (ne_at (d := noRec) (i := i) fun e => hne e)).symm
      · by_cases e : j = i
        · subst e; exact he
        · exact h2 j (by omega)
      · exact (decide_eq_true (eq_take (d := noRec) (by omega) fun j hj => h2 j (by omega))).symm
  · cases h
attribute [push_cast] ckSameAll

def ckWritten : Ck
  | [x] => some (isC cRec x ∧ recOk (cRec.dec x) ∧ checkRecL (cRec.dec x) = 0, .sl (recB (cRec.dec x)).length (byF (recB (cRec.dec x))))
  | _ => none
theorem conWritten : Con pg 88 ckWritten := by
  have hct := (ctA_ok conKindW (ctA_ok conDateOf2 (ctA_ok conItoa (ctA_ok conDigest2 (ctN_ok _)))))
  intro args q r h hq
  unfold ckWritten at h
  split at h
  · cases h
    rename_i x
    refine pcall_args (args' := [cRec.enc (cRec.dec x)]) ⟨hq.1, trivial⟩ ?_
    obtain ⟨-, ha, hc⟩ := hq
    generalize cRec.dec x = r at ha hc ⊢
    refine w88 (fun _ => false) [.frz 73] rfl hct rfl rfl ?_
    push_cast (config := { maxSteps := 10000000 })
    obtain ⟨z1, z2, z3, z4, z5, z6, z7⟩ := rec_sz hc
    obtain ⟨y1, y2, y3, y4, y5, y6, y7, y8, y9, y10⟩ := rec_ok hc
    have zk := kindW_le (r.ki - 1).toNat
    have zp := recP_le hc
    refine ⟨by omega, by omega, fun how => ?_, fun how => ?_⟩
    · (repeat (refine ⟨by omega, ?_⟩))
      refine LoopW.adj ⟨hct, fol⟩ (by kernel_rfl) [] (fun t : Nat × List UInt8 => [(1, .ptr 1 0), (3, .str t.2), (4, .int .i64 t.1)]) (fun t => [(1, .cells [.int .i64 r.ki, .str r.id, .str r.ow, .int .i64 r.ti, .str r.ke, .sl r.hd.length (lsF cHd r.hd), .sl r.bd.length (byF r.bd)])]) (fun t => t.1 ≤ r.hd.length ∧ t.2 ++ headsB (r.hd.drop t.1) = recP r ++ headsB r.hd) (fun t => r.hd.length - t.1) (0, recP r) ?_ fun t ht => ?_
      · push_cast (config := { maxSteps := 10000000 })
        refine ⟨Nat.zero_le _, ?_⟩
        unfold recP; rw [if_neg how]; simp [lnB2, wKept]
      · obtain ⟨i, o⟩ := t
        obtain ⟨i1, i2⟩ : i ≤ r.hd.length ∧ o ++ headsB (r.hd.drop i) = recP r ++ headsB r.hd := ht
        have hl := congrArg List.length i2
        simp only [List.length_append] at hl
        push_cast (config := { maxSteps := 10000000 })
        refine ⟨fun h => ?_, fun h => ?_⟩
        · have e := dropG (d := ⟨[], []⟩) h
          rw [e, headsB] at i2 hl
          have hx : (headB (r.hd.getD i ⟨[], []⟩)).length = (r.hd.getD i ⟨[], []⟩).name.length + 2 + (r.hd.getD i ⟨[], []⟩).value.length + 2 := by simp [headB]; omega
          simp only [List.length_append] at hl
          generalize r.hd.getD i ⟨[], []⟩ = y at *
          (repeat (refine ⟨by omega, ?_⟩))
          exact ⟨((i + 1, o ++ (y.name ++ [58, 32] ++ y.value ++ [13, 10])) : Nat × List UInt8), ⟨by show i + 1 ≤ _; omega, by rw [← i2]; simp [headB]⟩, by show r.hd.length - (i + 1) < r.hd.length - i; omega, rfl, by show (i : Int) + 1 = ((i + 1 : Nat) : Int); omega⟩
        · rw [List.drop_eq_nil_of_le (by omega)] at i2 hl
          simp only [headsB, List.append_nil, List.length_nil, Nat.add_zero] at i2 hl
          have hi6 := itoa_len (n := r.bd.length) (by omega)
          have hdg : (digestL r.bd).length = 16 := hex16_len _
          (repeat (refine ⟨by omega, ?_⟩))
          have eq : (o ++ 108 :: 101 :: 110 :: 103 :: 116 :: 104 :: 58 :: 32 :: (Lib.itoa r.bd.length ++ [13, 10, 100, 105, 103, 101, 115, 116, 58, 32] ++ digestL r.bd ++ [13, 10, 13, 10])) ++ r.bd ++ [13, 10, 13, 10] = recB r := by
            rw [i2]; simp [recB, recQ, lnB2]
          have hQ : (o ++ 108 :: 101 :: 110 :: 103 :: 116 :: 104 :: 58 :: 32 :: (Lib.itoa r.bd.length ++ [13, 10, 100, 105, 103, 101, 115, 116, 58, 32] ++ digestL r.bd ++ [13, 10, 13, 10])).length = o.length + ((Lib.itoa r.bd.length).length + 10 + (digestL r.bd).length + 4 + 1 + 1 + 1 + 1 + 1 + 1 + 1 + 1) := by simp; omega
          have app := (ByI.app (ByI.app (ByI.by (o ++ 108 :: 101 :: 110 :: 103 :: 116 :: 104 :: 58 :: 32 :: (Lib.itoa r.bd.length ++ [13, 10, 100, 105, 103, 101, 115, 116, 58, 32] ++ digestL r.bd ++ [13, 10, 13, 10]))) (ByI.by r.bd) rfl) (ByI.by [13, 10, 13, 10]) rfl).eq eq
          rw [hQ] at app
          exact ⟨app.pure, app.1, app.2⟩
    · (repeat (refine ⟨by omega, ?_⟩))
      refine LoopW.adj ⟨hct, fol⟩ (by kernel_rfl) [] (fun t : Nat × List UInt8 => [(1, .ptr 1 0), (3, .str t.2), (4, .int .i64 t.1)]) (fun t => [(1, .cells [.int .i64 r.ki, .str r.id, .str r.ow, .int .i64 r.ti, .str r.ke, .sl r.hd.length (lsF cHd r.hd), .sl r.bd.length (byF r.bd)])]) (fun t => t.1 ≤ r.hd.length ∧ t.2 ++ headsB (r.hd.drop t.1) = recP r ++ headsB r.hd) (fun t => r.hd.length - t.1) (0, recP r) ?_ fun t ht => ?_
      · push_cast (config := { maxSteps := 10000000 })
        refine ⟨Nat.zero_le _, ?_⟩
        unfold recP; rw [if_pos how]; simp [lnB2, wKept]
      · obtain ⟨i, o⟩ := t
        obtain ⟨i1, i2⟩ : i ≤ r.hd.length ∧ o ++ headsB (r.hd.drop i) = recP r ++ headsB r.hd := ht
        have hl := congrArg List.length i2
        simp only [List.length_append] at hl
        push_cast (config := { maxSteps := 10000000 })
        refine ⟨fun h => ?_, fun h => ?_⟩
        · have e := dropG (d := ⟨[], []⟩) h
          rw [e, headsB] at i2 hl
          have hx : (headB (r.hd.getD i ⟨[], []⟩)).length = (r.hd.getD i ⟨[], []⟩).name.length + 2 + (r.hd.getD i ⟨[], []⟩).value.length + 2 := by simp [headB]; omega
          simp only [List.length_append] at hl
          generalize r.hd.getD i ⟨[], []⟩ = y at *
          (repeat (refine ⟨by omega, ?_⟩))
          exact ⟨((i + 1, o ++ (y.name ++ [58, 32] ++ y.value ++ [13, 10])) : Nat × List UInt8), ⟨by show i + 1 ≤ _; omega, by rw [← i2]; simp [headB]⟩, by show r.hd.length - (i + 1) < r.hd.length - i; omega, rfl, by show (i : Int) + 1 = ((i + 1 : Nat) : Int); omega⟩
        · rw [List.drop_eq_nil_of_le (by omega)] at i2 hl
          simp only [headsB, List.append_nil, List.length_nil, Nat.add_zero] at i2 hl
          have hi6 := itoa_len (n := r.bd.length) (by omega)
          have hdg : (digestL r.bd).length = 16 := hex16_len _
          (repeat (refine ⟨by omega, ?_⟩))
          have eq : (o ++ 108 :: 101 :: 110 :: 103 :: 116 :: 104 :: 58 :: 32 :: (Lib.itoa r.bd.length ++ [13, 10, 100, 105, 103, 101, 115, 116, 58, 32] ++ digestL r.bd ++ [13, 10, 13, 10])) ++ r.bd ++ [13, 10, 13, 10] = recB r := by
            rw [i2]; simp [recB, recQ, lnB2]
          have hQ : (o ++ 108 :: 101 :: 110 :: 103 :: 116 :: 104 :: 58 :: 32 :: (Lib.itoa r.bd.length ++ [13, 10, 100, 105, 103, 101, 115, 116, 58, 32] ++ digestL r.bd ++ [13, 10, 13, 10])).length = o.length + ((Lib.itoa r.bd.length).length + 10 + (digestL r.bd).length + 4 + 1 + 1 + 1 + 1 + 1 + 1 + 1 + 1) := by simp; omega
          have app := (ByI.app (ByI.app (ByI.by (o ++ 108 :: 101 :: 110 :: 103 :: 116 :: 104 :: 58 :: 32 :: (Lib.itoa r.bd.length ++ [13, 10, 100, 105, 103, 101, 115, 116, 58, 32] ++ digestL r.bd ++ [13, 10, 13, 10]))) (ByI.by r.bd) rfl) (ByI.by [13, 10, 13, 10]) rfl).eq eq
          rw [hQ] at app
          exact ⟨app.pure, app.1, app.2⟩
  · cases h
attribute [push_cast] ckWritten

def recR (r : Rcd) : List UInt8 := if checkRecL r = 0 then recB r else []
def digR (r : Rcd) : List UInt8 := if checkRecL r = 0 then digestL r.bd else []
def ckRecBytes : Ck
  | [x] => some (isC cRec x ∧ recOk (cRec.dec x), .tup [.sl (recR (cRec.dec x)).length (byF (recR (cRec.dec x))), .int .i64 (checkRecL (cRec.dec x))])
  | _ => none
theorem conRecBytes : Con pg 35 ckRecBytes := by
  have hct := (ctA_ok conCheckRec (ctA_ok conWrite (ctN_ok _)))
  intro args q r h hq
  unfold ckRecBytes at h
  split at h
  · cases h
    rename_i x
    refine pcall_args (args' := [cRec.enc (cRec.dec x)]) ⟨hq.1, trivial⟩ ?_
    obtain ⟨-, ha⟩ := hq
    generalize cRec.dec x = r at ha ⊢
    refine w35 (fun _ => false) [] rfl hct rfl rfl ?_
    push_cast (config := { maxSteps := 10000000 })
    have e : checkRecL r = 0 → recR r = recB r := fun h => by unfold recR; rw [if_pos h]
    refine ⟨ha, fun h => by unfold recR; rw [if_neg h]; rfl, fun h => ⟨⟨ha, h⟩, ?_, h.symm⟩⟩
    rw [e h]
    exact ⟨rfl, fun _ _ => rfl⟩
  · cases h
attribute [push_cast] ckRecBytes
def ckDigestOf : Ck
  | [x] => some (isC cRec x ∧ recOk (cRec.dec x), .tup [.str (digR (cRec.dec x)), .int .i64 (checkRecL (cRec.dec x))])
  | _ => none
theorem conDigestOf : Con pg 62 ckDigestOf := by
  have hct := (ctA_ok conCheckRec (ctA_ok conDigest (ctN_ok _)))
  intro args q r h hq
  unfold ckDigestOf at h
  split at h
  · cases h
    rename_i x
    refine pcall_args (args' := [cRec.enc (cRec.dec x)]) ⟨hq.1, trivial⟩ ?_
    obtain ⟨-, ha⟩ := hq
    generalize cRec.dec x = r at ha ⊢
    refine w62 (fun _ => false) [] rfl hct rfl rfl ?_
    push_cast (config := { maxSteps := 10000000 })
    exact ⟨ha, fun h => by unfold digR; rw [if_neg h], fun h => ⟨by have := (rec_ok h).2.2.2.2.2.2.2.2.2; omega, by unfold digR; rw [if_pos h], h.symm⟩⟩
  · cases h
attribute [push_cast] ckDigestOf
def recA : Rcd := ⟨1, [97], [], 0, [107], [], []⟩
def ckDigNil : Ck
  | [.agg [.int .i64 1, .str [97], .str [], .int .i64 0, .str [107], .nilsl, .nilsl]] => some (True, .tup [.str (digR recA), .int .i64 (checkRecL recA)])
  | _ => none
theorem conDigNil : Con pg 62 ckDigNil := by
  intro args q r h hq
  unfold ckDigNil at h
  split at h
  · cases h
    have hz : ∀ f, VLe .nilsl (.sl 0 f) := fun f => vle1_ok (show vle1 .nilsl (.sl 0 f) from rfl)
    refine pcall_args (args' := [cRec.enc recA]) ⟨VLe.agg ⟨VLe.refl _, VLe.refl _, VLe.refl _, VLe.refl _, VLe.refl _, hz _, hz _, trivial⟩, trivial⟩ ?_
    have := conDigestOf [cRec.enc recA] _ _ rfl ⟨isC_enc cRec recA, ?_⟩
    · rw [cRec.ok] at this
      exact this
    · rw [cRec.ok]
      exact ⟨fun x hx => (by cases hx), by decide, by decide, by decide, by decide, by decide, by decide, by decide, by decide, by decide⟩
  · cases h
attribute [push_cast] ckDigNil
def ckAwake6 : Ck
  | [] => some (True, .bool true)
  | _ => none
theorem conAwake6 : Con pg 21 ckAwake6 := by
  have hct := (ctA_ok conDigNil (ctN_ok _))
  intro args q r h hq
  unfold ckAwake6 at h
  split at h
  · cases h
    refine w21 (fun _ => false) [] rfl hct rfl rfl ?_
    push_cast (config := { maxSteps := 10000000 })
    exact ⟨by decide +kernel, by decide +kernel⟩
  · cases h
attribute [push_cast] ckAwake6

/- lists of records as arguments -/
theorem VLe.slV {n : Nat} {f g : Nat → V} (h : ∀ i, i < n → (g i).flat.length = (f i).flat.length ∧ ∀ j, j < (f i).flat.length → VLe ((f i).flat.getD j .any) ((g i).flat.getD j .any) ∧ ((g i).flat.getD j .any).isPure = true) : VLe (.sl n f) (.sl n g) := by
  intro γ imm w v hr
  cases inv_sl (S := ⟨γ, imm, fun _ => none, w⟩) hr with
  | sl0 _ a c => exact .pure (.sl0 _ a c)
  | sl _ _ b off c sz u hb hnc hs hf hc ho hp =>
    refine .pure (.sl n g b off c sz u hb hnc hs (fun i hi => (h i hi).1.trans (hf i hi)) hc ho (fun i j hi hj => ?_))
    have hj' : j < (f i).flat.length := by rw [hf i hi]; exact hj
    obtain ⟨h1, h2⟩ := (h i hi).2 j hj'
    exact isPure_rep (S := ⟨γ, imm, fun _ => none, w⟩) (h1 _ _ _ _ (.pure (hp i j hi hj))) h2
def isLv {α : Type} (c : Cod α) (n : Nat) (f : Nat → V) : Prop := VLe (.sl n f) (.sl (lsOf c n f).length (lsF c (lsOf c n f)))
theorem shRecX {m : Nat} {v : V} (h : Sh.has (.tup [.int .i64, .str, .str, .int .i64, .str, .list (.tup [.str, .str]), .list (.int .u8)]) m v) : ∃ ki id ow ti ke n f k g, v = .agg [.int .i64 ki, .str id, .str ow, .int .i64 ti, .str ke, .sl n f, .sl k g] ∧ isLs cHd n f ∧ isBy k g := by
  obtain ⟨l, ms, rfl, -, hl⟩ := h
  obtain ⟨m1, v1, ms, l, rfl, h1, hl⟩ := hasL_cons hl
  obtain ⟨m2, v2, ms, l, rfl, h2, hl⟩ := hasL_cons hl
  obtain ⟨m3, v3, ms, l, rfl, h3, hl⟩ := hasL_cons hl
  obtain ⟨m4, v4, ms, l, rfl, h4, hl⟩ := hasL_cons hl
  obtain ⟨m5, v5, ms, l, rfl, h5, hl⟩ := hasL_cons hl
  obtain ⟨m6, v6, ms, l, rfl, h6, hl⟩ := hasL_cons hl
  obtain ⟨m7, v7, ms, l, rfl, h7, hl⟩ := hasL_cons hl
  obtain rfl := hasL_nil hl
  obtain ⟨ki, rfl, c1⟩ := shInt h1
  obtain ⟨id, rfl, b2⟩ := shStr h2
  obtain ⟨ow, rfl, b3⟩ := shStr h3
  obtain ⟨ti, rfl, c4⟩ := shInt h4
  obtain ⟨ke, rfl, b5⟩ := shStr h5
  obtain ⟨n, f, rfl, i6, b6, k6⟩ := shList (c := cHd) (fun m v h => shHead h) h6
  obtain ⟨k, g, rfl, i7, b7⟩ := shBytes h7
  exact ⟨ki, id, ow, ti, ke, n, f, k, g, rfl, i6, i7⟩
theorem shRecs {m : Nat} {v : V} (h : Sh.has (.list (.tup [.int .i64, .str, .str, .int .i64, .str, .list (.tup [.str, .str]), .list (.int .u8)])) m v) : ∃ (n : Nat) (f : Nat → V), v = .sl n f ∧ isLv cRec n f ∧ n ≤ 140737488355328 ∧ recsOk (lsOf cRec n f) := by
  obtain ⟨l, ms, rfl, h1, h2, h3, h4⟩ := h
  have := reach_le
  refine ⟨_, _, rfl, ?_, by omega, fun a ha => ?_⟩
  · unfold isLv
    rw [lsOf_len]
    refine VLe.slV fun i hi => ?_
    obtain ⟨ki, id, ow, ti, ke, n, f, k, g, e, i6, i7⟩ := shRecX (h4 i hi)
    have e : litF l i = _ := e
    have e2 : lsF cRec (lsOf cRec l.length (litF l)) i = cRec.enc (cRec.dec (litF l i)) := by
      unfold lsF lsOf
      rw [List.getD_eq_getElem?_getD, List.getElem?_map, List.getElem?_range hi]; rfl
    rw [e2, e]
    refine ⟨rfl, fun j hj => ?_⟩
    match j, hj with
    | 0, _ => exact ⟨VLe.refl _, rfl⟩
    | 1, _ => exact ⟨VLe.refl _, rfl⟩
    | 2, _ => exact ⟨VLe.refl _, rfl⟩
    | 3, _ => exact ⟨VLe.refl _, rfl⟩
    | 4, _ => exact ⟨VLe.refl _, rfl⟩
    | 5, _ => exact ⟨isLs.vle i6, rfl⟩
    | 6, _ => exact ⟨isBy.vle i7, rfl⟩
  · simp only [lsOf, List.mem_map, List.mem_range] at ha
    obtain ⟨i, hi, rfl⟩ := ha
    exact (shRec (h4 i hi)).2

theorem rdOne_hd {B : List UInt8} {a : Nat} (ha : a ≤ B.length) : (rdOne B a).1.hd.length ≤ B.length := by
  have lk := linesL_ok (B := B) (rp0_ok (n := B.length) (a := a) ha)
  unfold rdOne
  dsimp only
  (repeat' split) <;> first | exact Nat.zero_le _ | exact lk.2.2
theorem rdOneR_hd (B : List UInt8) (a : Int) : (rdOneR B a).1.hd.length ≤ B.length := by
  unfold rdOneR
  split
  · exact Nat.zero_le _
  · exact rdOne_hd (by omega)
def ckLawRR : Ck
  | [.sl n f, .int .i64 a] => some (isBy n f ∧ n ≤ 140737488355328, .bool true)
  | _ => none
theorem conLawRR : Con pg 11 ckLawRR := by
  have hct := (ctA_ok conReadOne (ctA_ok conReadOne2 (ctA_ok conSame6 (ctA_ok conAwake6 (ctN_ok _)))))
  intro args q r h hq
  unfold ckLawRR at h
  split at h
  · cases h
    rename_i n f a
    refine pcall_args (args' := [.sl (bytesOf n f).length (byF (bytesOf n f)), .int .i64 a]) ⟨isBy.vle hq.1, VLe.refl _, trivial⟩ ?_
    obtain ⟨-, hn⟩ := hq
    have hl := bytesOf_len n f
    rw [← hl] at hn
    generalize bytesOf n f = B at hn ⊢
    clear hl
    refine w11 (fun _ => false) [] rfl hct rfl rfl ?_
    push_cast (config := { maxSteps := 10000000 })
    have := rdOneR_hd B a
    exact ⟨hn, hn, by omega⟩
  · cases h
attribute [push_cast] ckLawRR
theorem allLawRR {H : Type} (ds : List (DataW H)) (hh : hasD [.list (.int .u8), .int .i64] ds) : PCall pg 11 (ds.map toV) (.bool true) := by
  obtain ⟨d1, d2, rfl, a, b⟩ := hasD2 hh
  obtain ⟨n, f, e1, i1, b1⟩ := shBytes a
  obtain ⟨k, e2, c2⟩ := shInt b
  have := reach_le
  simp only [List.map_cons, List.map_nil, e1, e2]
  exact conLawRR _ _ _ rfl ⟨i1, by omega⟩

end Go.Abs
