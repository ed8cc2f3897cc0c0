/- what functions of this program compute: contracts, each a function's own -/
import Derived.Test.YtjehocmnedconaaGreatDoorAbsK3
import Derived.Test.YtjehocmnedconaaGreatDoorAbsFacts
import Derived.Test.YtjehocmnedconaaGreatDoorAbsF8
import Derived.Test.YtjehocmnedconaaGreatDoorAbsShelf
import Derived.Lib.SlTrimSet
import Derived.Lib.Atoi
import Derived.Lib.Itoa
import Derived.Lib.ItoaNum
import Derived.Lib.AtoiErrMem
import Derived.Lib.Repeat
import Derived.Lib.ItoaLen
import Derived.Lib.SplitLaws
import Derived.Lib.Join
import Derived.Lib.Index
import Derived.Lib.IndexBytes
import Derived.Lib.Fold
import Derived.Lib.Walk
import Derived.WalkKit
import Derived.ScopeJumps
import Derived.Deep.LoopGhost
import Derived.Laws.RangeAny
import Derived.Lib.BitFns
import Derived.Lib.TrailingZeros
import Derived.Sort.Walk0
namespace Go.Abs
open Go Go.Proofs
set_option maxHeartbeats 4000000
set_option maxRecDepth 100000
set_option linter.unusedVariables false
set_option linter.unusedSimpArgs false
def noA : Ans := ⟨0, [], [], []⟩
def raB (b : List UInt8) (a : Ans) (p : Nat) : Ans × Int × Int × Int :=
  if frameL a.st a.hd = 0 then (noA, 0, 0, 12)
  else if frameL a.st a.hd = 1 then (if 0 < (b.drop p).length then (a, 1, p, 3) else (a, 1, 0, 0))
  else if frameL a.st a.hd = 3 then (if (readC (b.drop p)).2.2.2 = 2 then (noA, 0, 0, 2) else if (readC (b.drop p)).2.2.2 = 10 then (noA, 0, p + (readC (b.drop p)).2.2.1, 10) else if ¬ (readC (b.drop p)).2.2.2 = 0 then (⟨a.st, a.re, a.hd, (readC (b.drop p)).1⟩, 3, p + (readC (b.drop p)).2.2.1, (readC (b.drop p)).2.2.2) else (⟨a.st, a.re, a.hd, (readC (b.drop p)).1⟩, 3, 0, 0))
  else if frameL a.st a.hd = 4 then (if 200000 < (b.drop p).length then (noA, 0, 0, 2) else (⟨a.st, a.re, a.hd, b.drop p⟩, 4, 0, 0))
  else if 200000 < (lengthL a.hd).1 then (noA, 0, 0, 2)
  else if ((b.drop p).length : Int) < (lengthL a.hd).1 then (⟨a.st, a.re, a.hd, b.drop p⟩, 2, b.length, 15)
  else if (lengthL a.hd).1 < (b.drop p).length then (⟨a.st, a.re, a.hd, (b.drop p).take (lengthL a.hd).1.toNat⟩, 2, p + (lengthL a.hd).1, 3)
  else (⟨a.st, a.re, a.hd, b.drop p⟩, 2, 0, 0)
def raL (b : List UInt8) : Ans × Int × Int × Int :=
  if 400000 < b.length then (noA, 0, 0, 2)
  else if (tpV b).2.2 = false then (noA, 0, (tpV b).2.1, 10)
  else if checkTopL (tpV b).1.st (tpV b).1.re (tpV b).1.hd = 0 then raB b (tpV b).1 (tpV b).2.1
  else if (frameL (tpV b).1.st (tpV b).1.hd = 2 ∧ (lengthL (tpV b).1.hd).2 = true) ∧ 200000 < (lengthL (tpV b).1.hd).1 then (noA, 0, 0, 2)
  else (noA, 0, 0, checkTopL (tpV b).1.st (tpV b).1.re (tpV b).1.hd)
theorem tp_fit {b : List UInt8} (h : b.length ≤ 400000) : hdsOk (tpV b).1.hd ∧ (tpV b).1.re.length ≤ 400000 ∧ (tpV b).1.hd.length ≤ 400001 ∧ (tpV b).2.1 ≤ b.length ∧ (tpV b).1.bd = [] := by
  unfold tpV
  split
  · rename_i hk
    have hB : lnB b 0 = true := by
      simp only [tpOk, Bool.and_eq_true] at hk; exact hk.1.1.1
    have hf := ln_fit (Nat.zero_le b.length) hB
    have hr := rh_fit (b.length + 1) (lnN b 0) [] hf.2.1 (fun _ hh => by cases hh)
    have hsl := lnS_le b (Nat.zero_le b.length)
    have hl : (Lib.trimPrefix (lnS b 0) wWebS).length ≤ (lnS b 0).length := by unfold Lib.trimPrefix; split <;> simp
    have hc : (tpC b).2.1.length ≤ (lnS b 0).length := by
      unfold tpC Lib.cut; split
      · rw [List.length_drop]; omega
      · simp
    refine ⟨fun x hx => ?_, by show (tpC b).2.1.length ≤ _; omega, ?_, hr.1, rfl⟩
    · have := hr.2.1 x hx; omega
    · have := hr.2.2; simp only [List.length_nil] at this; show (rqH b).1.length ≤ _; unfold rqH; omega
  · exact ⟨fun _ h => (by cases h), Nat.zero_le _, Nat.zero_le _, Nat.zero_le _, rfl⟩
theorem ra_fin {R : Ans × Int × Int × Int} {x : Ans} {f p e : Int} (h : R = (x, f, p, e)) : (x.st = R.1.st ∧ x.re = R.1.re ∧ (x.hd.length = R.1.hd.length ∧ ∀ i, i < x.hd.length → V.agg [.str (x.hd.getD i ⟨[], []⟩).name, .str (x.hd.getD i ⟨[], []⟩).value] = V.agg [.str (R.1.hd.getD i ⟨[], []⟩).name, .str (R.1.hd.getD i ⟨[], []⟩).value]) ∧ (x.bd.length = R.1.bd.length ∧ ∀ i, i < x.bd.length → byF x.bd i = byF R.1.bd i)) ∧ f = R.2.1 ∧ p = R.2.2.1 ∧ e = R.2.2.2 := by
  subst h; exact ⟨⟨rfl, rfl, ⟨rfl, fun _ _ => rfl⟩, rfl, fun _ _ => rfl⟩, rfl, rfl, rfl⟩
theorem ra_no {R : Ans × Int × Int × Int} {f p e : Int} (h : R = (noA, f, p, e)) : (0 = R.1.st ∧ [] = R.1.re ∧ R.1.hd.length = 0 ∧ R.1.bd.length = 0) ∧ f = R.2.1 ∧ p = R.2.2.1 ∧ e = R.2.2.2 := by
  subst h; exact ⟨⟨rfl, rfl, rfl, rfl⟩, rfl, rfl, rfl⟩
theorem ra_fin2 {R : Ans × Int × Int × Int} {a : Ans} {bd : List UInt8} {n : Nat} {g : Nat → V} (hb : ByI n g bd) {f p e : Int} (h : R = (⟨a.st, a.re, a.hd, bd⟩, f, p, e)) : (a.st = R.1.st ∧ a.re = R.1.re ∧ (a.hd.length = R.1.hd.length ∧ ∀ i, i < a.hd.length → V.agg [.str (a.hd.getD i ⟨[], []⟩).name, .str (a.hd.getD i ⟨[], []⟩).value] = V.agg [.str (R.1.hd.getD i ⟨[], []⟩).name, .str (R.1.hd.getD i ⟨[], []⟩).value]) ∧ (n = R.1.bd.length ∧ ∀ i, i < n → g i = byF R.1.bd i)) ∧ f = R.2.1 ∧ p = R.2.2.1 ∧ e = R.2.2.2 := by
  subst h; exact ⟨⟨rfl, rfl, ⟨rfl, fun _ _ => rfl⟩, hb.1, hb.2⟩, rfl, rfl, rfl⟩
theorem readAll_le {b : List UInt8} : ∀ (k a : Nat) (out : List UInt8), a ≤ b.length → (readAll b k a out).2.2.1 ≤ b.length
  | 0, a, out, h => Nat.zero_le _
  | k + 1, a, out, h => by
    have hb := readL_b (b.drop a)
    rw [List.length_drop] at hb
    rw [readAll]
    split
    · exact h
    rename_i h2
    split
    · split <;> simp
    rename_i h1
    have h3 := hb.2 (by omega)
    split
    · exact readAll_le k _ _ (by omega)
    split
    · exact Nat.zero_le _
    split
    · show a + _ ≤ _; omega
    · exact Nat.zero_le _
theorem length_nn (l : List Hd) : 0 ≤ (lengthL l).1 := by
  unfold lengthL lenV
  split
  · split
    · split
      · simp
      · simp only; omega
    · simp
  · simp
theorem frame_4 (st : Int) (l : List Hd) : frameL st l = 0 ∨ frameL st l = 1 ∨ frameL st l = 2 ∨ frameL st l = 3 ∨ frameL st l = 4 := by
  unfold frameL
  repeat' split
  all_goals simp
def ckReadAns : Ck
  | [.sl n f] => some (isBy n f ∧ n ≤ 4611686018427387900, .tup [cAns.enc (raL (bytesOf n f)).1, .int .i64 (raL (bytesOf n f)).2.1, .int .i64 (raL (bytesOf n f)).2.2.1, .int .i64 (raL (bytesOf n f)).2.2.2])
  | _ => none
theorem conReadAns : Con pg 56 ckReadAns := by
  have hct := (ctA_ok conReadTop (ctA_ok conLength (ctA_ok conCheckTop (ctA_ok conFrame (ctA_ok conReadChunks (ctN_ok _))))))
  intro args q r h hq
  unfold ckReadAns at h
  split at h
  · cases h
    rename_i n f
    refine pcall_args (args' := [.sl (bytesOf n f).length (byF (bytesOf n f))]) ⟨isBy.vle hq.1, trivial⟩ ?_
    have h1 : (bytesOf n f).length ≤ 4611686018427387900 := by rw [bytesOf_len]; exact hq.2
    generalize bytesOf n f = b at h1 ⊢
    refine w56 (fun _ => false) [.frz 115, .frz 128] rfl hct rfl rfl ?_
    push_cast (config := { maxSteps := 10000000 })
    refine ⟨fun h => ra_no (by unfold raL; rw [if_pos (by omega)]), fun h0 => ?_⟩
    have hb : b.length ≤ 400000 := by omega
    obtain ⟨t1, t2, t3, t4, t5⟩ := tp_fit hb
    have e0 : raL b = if (tpV b).2.2 = false then (noA, 0, ((tpV b).2.1 : Int), 10) else if checkTopL (tpV b).1.st (tpV b).1.re (tpV b).1.hd = 0 then raB b (tpV b).1 (tpV b).2.1 else if (frameL (tpV b).1.st (tpV b).1.hd = 2 ∧ (lengthL (tpV b).1.hd).2 = true) ∧ 200000 < (lengthL (tpV b).1.hd).1 then (noA, 0, 0, 2) else (noA, 0, 0, checkTopL (tpV b).1.st (tpV b).1.re (tpV b).1.hd) := by unfold raL; rw [if_neg (by omega)]
    generalize hR : raL b = R at e0 ⊢
    generalize tpV b = T at *
    obtain ⟨a, p, ok⟩ := T
    simp only at *
    refine ⟨hb, fun h => ra_no (by rw [e0, if_pos h]), fun hok => ?_⟩
    rw [if_neg (by simp [hok])] at e0
    have H : hdsOk a.hd ∧ a.hd.length ≤ 1000000 := ⟨t1, by omega⟩
    refine ⟨H, ⟨t1, by omega⟩, fun h => ?_, fun h => ?_⟩
    · rw [if_neg h] at e0
      exact ⟨H, fun h2 => ra_no (by rw [e0, if_pos h2]), fun h2 => ra_no (by rw [e0, if_neg (fun x => h2 x.1 x.2)])⟩
    rw [if_pos h] at e0
    have hdb := drop_by t4
    have hby : bytesOf (b.length - p) (shF (byF b) p) = b.drop p := hdb.bytes
    have hdl : (b.drop p).length = b.length - p := List.length_drop
    rw [hby]
    unfold raB at e0
    refine ⟨H, t4, fun hf => ra_no (by rw [e0, if_pos hf]), fun n0 => ?_⟩
    rw [if_neg n0] at e0
    refine ⟨fun hf => ?_, fun n1 => ?_⟩
    · rw [if_pos hf] at e0
      rw [hf]
      exact ⟨fun h5 => ra_fin (by rw [e0, if_pos (by omega)]), fun h5 => ra_fin (by rw [e0, if_neg (by omega)])⟩
    rw [if_neg n1] at e0
    refine ⟨fun hf => ?_, fun n3 => ?_⟩
    · rw [if_pos hf] at e0
      rw [hf]
      refine ⟨⟨hdb.is, by omega⟩, ?_⟩
      have hle := readAll_le ((b.drop p).length + 1) 0 [] (Nat.zero_le (b.drop p).length)
      change (readC (b.drop p)).2.2.1 ≤ _ at hle
      rw [hdl] at hle
      generalize readC (b.drop p) = C at *
      obtain ⟨c1, c2, c3, c4⟩ := C
      simp only at *
      refine ⟨fun g => ra_no (by rw [e0, if_pos (by omega), g]), fun g2 => ?_⟩
      rw [if_neg (by omega)] at e0
      refine ⟨fun g => ⟨⟨by omega, by omega⟩, ra_no (by rw [e0, if_pos (by omega), g])⟩, fun g10 => ?_⟩
      rw [if_neg (by omega)] at e0
      refine ⟨fun g => ⟨⟨by omega, by omega⟩, ra_fin2 (ByI.by c1) (by rw [e0, if_pos (by omega)])⟩, fun g => ra_fin2 (ByI.by c1) (by rw [e0, if_neg (by omega)])⟩
    rw [if_neg n3] at e0
    refine ⟨fun hf => ?_, fun n4 => ?_⟩
    · rw [if_pos hf] at e0
      rw [hf]
      exact ⟨fun h5 => ra_no (by rw [e0, if_pos (by omega)]), fun h5 => ⟨⟨by omega, by omega⟩, hdb.pure, ra_fin2 hdb (by rw [e0, if_neg (by omega)])⟩⟩
    rw [if_neg n4] at e0
    have f2 : frameL a.st a.hd = 2 := by have := frame_4 a.st a.hd; omega
    rw [f2]
    have hL := length_nn a.hd
    generalize (lengthL a.hd).1 = L at *
    refine ⟨fun h5 => ra_no (by rw [e0, if_pos h5]), fun h5 => ?_⟩
    rw [if_neg h5] at e0
    have hbk : ByI (min L ((b.length - p : Nat) : Int)).toNat (fun i => V.kill 128 (shF (shF (byF b) p) 0 i)) ((b.drop p).take (min L ((b.length - p : Nat) : Int)).toNat) := ByI.sh (ByI.by b) (l := p) (k := (min L ((b.length - p : Nat) : Int)).toNat) (by omega)
    refine ⟨⟨⟨by omega, by omega⟩, by omega⟩, ⟨fun i _ => rfl, by omega, by omega⟩, fun h6 => ⟨fun i _ => rfl, ?_⟩, fun h6 => ⟨fun h7 => ⟨⟨by omega, by omega⟩, fun i _ => rfl, ?_⟩, fun h7 => ⟨fun i _ => rfl, ?_⟩⟩⟩
    · rw [if_pos (by omega)] at e0
      rw [List.take_of_length_le (by omega)] at hbk
      exact ra_fin2 hbk e0
    · rw [if_neg (by omega), if_pos (by omega)] at e0
      rw [show (min L ((b.length - p : Nat) : Int)).toNat = L.toNat by omega] at hbk ⊢
      exact ra_fin2 hbk e0
    · rw [if_neg (by omega), if_neg (by omega)] at e0
      rw [List.take_of_length_le (by omega)] at hbk
      exact ra_fin2 hbk e0
  · cases h
attribute [push_cast] ckReadAns
def iTold (b : List UInt8) : Int × List UInt8 :=
  if (raL b).2.2.2 = 0 then (if (medT (raL b).1.hd).1 = true ∧ isWordL (medT (raL b).1.hd).2.1 40 = true then ((raL b).1.st, (medT (raL b).1.hd).2.1) else ((raL b).1.st, [])) else (0, [])
def ckITold : Ck
  | [.sl n f] => some (isBy n f ∧ n ≤ 4611686018427387900 ∧ ((raL (bytesOf n f)).2.2.2 = 0 → hdsOk (raL (bytesOf n f)).1.hd ∧ (raL (bytesOf n f)).1.hd.length ≤ 1000000 ∧ (medT (raL (bytesOf n f)).1.hd).2.1.length ≤ 140737488355328), .tup [.int .i64 (iTold (bytesOf n f)).1, .str (iTold (bytesOf n f)).2])
  | _ => none
theorem conITold : Con pg 26 ckITold := by
  have hct := (ctA_ok conReadAns (ctA_ok conMediaO (ctA_ok conIsWord (ctN_ok _))))
  intro args q r h hq
  unfold ckITold at h
  split at h
  · cases h
    rename_i n f
    refine pcall_args (args' := [.sl (bytesOf n f).length (byF (bytesOf n f))]) ⟨isBy.vle hq.1, trivial⟩ ?_
    obtain ⟨-, h1, h2⟩ := hq
    have h1 : (bytesOf n f).length ≤ 4611686018427387900 := by rw [bytesOf_len]; exact h1
    generalize bytesOf n f = b at h1 h2 ⊢
    refine w26 (fun _ => false) [] rfl hct rfl rfl ?_
    push_cast (config := { maxSteps := 10000000 })
    generalize hT : iTold b = T
    unfold iTold at hT
    generalize raL b = R at *
    refine ⟨h1, fun h => ?_, fun h => ⟨⟨(h2 h).1, (h2 h).2.1⟩, fun g => ⟨g, (h2 h).2.2⟩, fun g => ?_, fun g => ?_⟩⟩
    · rw [if_neg h] at hT; subst hT; exact ⟨rfl, rfl⟩
    · rw [if_pos h, if_neg (fun k => g.elim (fun g => by rw [k.1] at g; cases g) (fun g => by rw [k.2] at g; cases g))] at hT; subst hT; exact ⟨rfl, rfl⟩
    · rw [if_pos h, if_pos g] at hT; subst hT; exact ⟨rfl, rfl⟩
  · cases h
attribute [push_cast] ckITold
def entOf (nm B : List UInt8) : Ind := ⟨(rOne B).ke, (rOne B).ti, (iTold (rOne B).bd).1, (iTold (rOne B).bd).2, digestL (rOne B).bd, nm, 0, B.length, false⟩
def toldOk (b : List UInt8) : Prop := (raL b).2.2.2 = 0 → hdsOk (raL b).1.hd ∧ (raL b).1.hd.length ≤ 1000000 ∧ (medT (raL b).1.hd).2.1.length ≤ 140737488355328
theorem name_len {s : List UInt8} (h : nameL s = true) : s.length ≤ 1000 := by
  unfold nameL at h
  simp only [Bool.and_eq_true, decide_eq_true_eq] at h
  omega
def ckOfFile : Ck
  | [.str nm, .sl n f] => some (isBy n f ∧ nameL nm = true ∧ oneB (bytesOf n f) ∧ toldOk (rOne (bytesOf n f)).bd, .tup [.sl 1 (lsF cInd [entOf nm (bytesOf n f)]), .int .i64 0])
  | _ => none
theorem conOfFile : Con pg 8 ckOfFile := by
  have hct := (ctA_ok conIsName (ctA_ok conReadFile (ctA_ok conMarks (ctA_ok conShown1 (ctA_ok conDigest (ctA_ok conITold (ctA_ok conSort1 (ctN_ok _))))))))
  intro args q r h hq
  unfold ckOfFile at h
  split at h
  · cases h
    rename_i nm n f
    refine pcall_args (args' := [.str nm, .sl (bytesOf n f).length (byF (bytesOf n f))]) ⟨VLe.refl _, isBy.vle hq.1, trivial⟩ ?_
    obtain ⟨-, hnm, ⟨hR, hone, hB⟩, ht⟩ := hq
    generalize bytesOf n f = B at hR hone hB ht ⊢
    have hE : entOf nm B = ⟨(rOne B).ke, (rOne B).ti, (iTold (rOne B).bd).1, (iTold (rOne B).bd).2, digestL (rOne B).bd, nm, 0, B.length, false⟩ := rfl
    generalize entOf nm B = E at hE ⊢
    generalize rOne B = r at *
    refine w8 (fun d => decide (d = 20019)) [] rfl hct rfl rfl ?_
    push_cast (config := { maxSteps := 10000000 })
    have hnl : nm.length ≤ 1000 := name_len hnm
    rw [hR]
    dsimp only
    refine ⟨by omega, fun h => absurd (hnm.symm.trans h) (by decide), fun _ => ⟨by omega, fun h => absurd rfl h, fun _ => ⟨by omega, ?_⟩⟩⟩
    refine SeqW.cut ⟨hct, fol⟩ (by kernel_rfl) (by kernel_rfl) [.frz 8000] (fun _ : Unit => [(11, .sl 1 (lsF cInd [E]))]) (fun _ => []) (fun _ => True) ?_ fun _ _ => ?_
    · push_cast (config := { maxSteps := 10000000 })
      refine LoopW.adj ⟨hct, fol⟩ (by kernel_rfl) [.nv 11 8000 9 (lsF cInd [])] (fun k : Nat => [(0, .str nm), (6, .sl 1 (lsF cRec [r])), (9, .sl 1 (lsF cMk [⟨r.id, 0, B.length⟩])), (11, .vec 8000 k), (34, .sl 1 (lsF cRec [r])), (35, .int .i64 1), (36, .int .i64 k)]) (fun k => [(8000, .vec 9 k (lsF cInd ([E].take k)))]) (fun k => k = 0 ∨ k = 1) (fun k => 1 - k) 0 ?_ fun k hk => ?_
      · push_cast (config := { maxSteps := 10000000 })
        done
      · rcases hk with rfl | rfl
        · push_cast (config := { maxSteps := 10000000 })
          have h3 : r.ki = 3 := hone.2.2.1
          have h4 : (r.ki == 4) = false := by rw [h3]; decide
          obtain ⟨z1, z2, z3, z4, z5, z6, z7⟩ := rec_sz ((file_ok hone.2.1).1 r List.mem_cons_self)
          refine ⟨fun h => absurd h3 h.1.1, fun _ => ⟨⟨isLs_ls [r], hone⟩, by omega, ⟨by omega, ht⟩, 1, .inr rfl, by omega, ⟨rfl, rfl⟩, rfl, fun i hi => ?_⟩⟩
          rw [h4]
          obtain rfl : i = 0 := by omega
          subst hE
          rfl
        · push_cast (config := { maxSteps := 10000000 })
          exact ⟨(), trivial⟩
    · push_cast (config := { maxSteps := 10000000 })
      done
  · cases h
attribute [push_cast] ckOfFile
def ckWriteHeadsK : List V → List Blk → Option (Prop × V × List Blk)
  | [.vec i n, .sl m f], [.vec 1 k g] => some (k = n ∧ isBy n g ∧ isLs cHd m f ∧ n ≤ 1000000 ∧ m ≤ 1000000 ∧ (headsB (lsOf cHd m f)).length ≤ 100000000000, .vec i (n + (headsB (lsOf cHd m f)).length + 2), [.vec 1 (n + (headsB (lsOf cHd m f)).length + 2) (byF (bytesOf n g ++ headsB (lsOf cHd m f) ++ [13, 10]))])
  | _, _ => none
def ckWriteHeads : Cf := ⟨fun | [.vec i _, _] => [i] | _ => [], ckWriteHeadsK⟩
theorem conWriteHeads : FCon pg 14 ckWriteHeads := by
  have hct := ctN_ok pg
  intro args bs q r bs' h hq
  replace h : ckWriteHeadsK args bs = some (q, r, bs') := h
  unfold ckWriteHeadsK at h
  split at h
  · cases h
    rename_i i n m f k g
    refine ⟨rfl, by first | exact Nat.le_refl _ | exact Nat.zero_le _, ?_⟩
    obtain ⟨rfl, hg, hf, hk, hm, hb⟩ := hq
    refine fcall_args (args' := [.vec (i + 9000) (bytesOf k g).length, .sl (lsOf cHd m f).length (lsF cHd (lsOf cHd m f))]) ⟨VLe.of_eq (by rw [bytesOf_len]; rfl), isLs.vle hf, trivial⟩ ?_
    refine fcall_blk (hm := [(i + 9000, .vec 1 (bytesOf k g).length (byF (bytesOf k g)))]) ⟨rfl, ⟨rfl, (bytesOf_len k g).symm, fun j hj => by show V.shift (g j) = _; rw [hg.2 j hj]; rfl⟩, trivial⟩ ?_
    have hk2 : (bytesOf k g).length ≤ 1000000 := by rw [bytesOf_len]; exact hk
    have hm2 : (lsOf cHd m f).length ≤ 1000000 := by rw [lsOf_len]; exact hm
    have ek : k = (bytesOf k g).length := (bytesOf_len k g).symm
    rw [show k + (headsB (lsOf cHd m f)).length + 2 = (bytesOf k g).length + (headsB (lsOf cHd m f)).length + 2 by rw [← ek]]
    generalize bytesOf k g = b at hk2 ⊢
    generalize lsOf cHd m f = l at hb hm2 ⊢
    show FCall pg 14 [.vec (i + 9000) b.length, .sl l.length (lsF cHd l)] [(i + 9000, .vec 1 b.length (byF b))] (.vec (i + 9000) (b.length + (headsB l).length + 2)) [(i + 9000, .vec 1 (b.length + (headsB l).length + 2) (byF (b ++ headsB l ++ [13, 10])))]
    refine fw14 (fun _ => false) [] rfl hct rfl (by simp) (by simp [hlIn, idsIn, Blk.menIn, V.menInL, V.menIn, V.flat, byF, lsF]) (by simp [V.menIn, V.menInL, idsIn]) ?_
    push_cast (config := { maxSteps := 10000000 })
    refine LoopW.adj ⟨hct, fol⟩ (by kernel_rfl) [] (fun t : Nat × List UInt8 => [(0, .vec (i + 9000) t.2.length), (7, .sl l.length (lsF cHd l)), (8, .int .i64 l.length), (9, .int .i64 t.1)]) (fun t => [(i + 9000, .vec 1 t.2.length (byF t.2))]) (fun t => t.1 ≤ l.length ∧ t.2 ++ headsB (l.drop t.1) = b ++ headsB l) (fun t => l.length - t.1) (0, b) ?_ fun t ht => ?_
    · push_cast (config := { maxSteps := 10000000 })
      exact Nat.zero_le _
    · obtain ⟨j, o⟩ := t
      obtain ⟨h1, h2⟩ : j ≤ l.length ∧ o ++ headsB (l.drop j) = b ++ headsB l := ht
      have hl := congrArg List.length h2
      simp only [List.length_append] at hl
      push_cast (config := { maxSteps := 10000000 })
      refine ⟨fun hlt => ?_, fun hge => ?_⟩
      · have e := dropG (d := ⟨[], []⟩) hlt
        rw [e, headsB] at h2 hl
        clear e
        generalize l.getD j ⟨[], []⟩ = x at *
        have hx : (headB x).length = x.name.length + 2 + x.value.length + 2 := by simp [headB]; omega
        simp only [List.length_append] at hl
        have app := ByI.app (ByI.by o) (ByI.by (headB x)) rfl
        refine ⟨hlt, by omega, by omega, by omega, ⟨by omega, by omega⟩, ⟨by omega, by omega⟩, (j + 1, o ++ headB x), ⟨by show j + 1 ≤ l.length; omega, by rw [← h2]; simp⟩, by show l.length - (j + 1) < l.length - j; omega, ⟨by rw [List.length_append, hx], by simp⟩, by rw [List.length_append, hx], fun i hi => app.2 i (by rw [hx]; omega)⟩
      · rw [List.drop_eq_nil_of_le (by omega)] at h2 hl
        simp only [headsB, List.append_nil, List.length_nil] at h2 hl
        subst h2
        have app := ByI.app (ByI.by (b ++ headsB l)) (ByI.by [13, 10]) rfl
        exact ⟨⟨by omega, by omega⟩, by omega, by omega, app.2⟩
  · cases h
attribute [push_cast] ckWriteHeadsK
@[push_cast] theorem wh_ids (i n : Nat) (x : V) : ckWriteHeads.ids [.vec i n, x] = [i] := rfl
@[push_cast] theorem wh_k (i n : Nat) (m : Nat) (f : Nat → V) (k : Nat) (g : Nat → V) : ckWriteHeads.k [.vec i n, .sl m f] [.vec 1 k g] = some (k = n ∧ isBy n g ∧ isLs cHd m f ∧ n ≤ 1000000 ∧ m ≤ 1000000 ∧ (headsB (lsOf cHd m f)).length ≤ 100000000000, .vec i (n + (headsB (lsOf cHd m f)).length + 2), [.vec 1 (n + (headsB (lsOf cHd m f)).length + 2) (byF (bytesOf n g ++ headsB (lsOf cHd m f) ++ [13, 10]))]) := rfl
def bareL (s : List UInt8) : Bool := s.all fun c => decide (c ≠ 13) && decide (c ≠ 10)
theorem lineS_app : ∀ (s r : List UInt8), bareL s = true → lineS (s ++ [13, 10] ++ r) = some s
  | [], r, _ => by
    show lineS (13 :: 10 :: r) = some []
    rw [lineS, if_pos rfl, if_pos ⟨rfl, by simp⟩]
  | c :: t, r, h => by
    unfold bareL at h
    rw [List.all_cons, Bool.and_eq_true, Bool.and_eq_true, decide_eq_true_eq, decide_eq_true_eq] at h
    have ih := lineS_app t r h.2
    show lineS (c :: (t ++ [13, 10] ++ r)) = _
    rw [lineS, if_neg h.1.1, if_neg h.1.2, ih]; rfl
theorem ln_app {p s r : List UInt8} (h : bareL s = true) : lnB (p ++ (s ++ [13, 10] ++ r)) p.length = true ∧ lnS (p ++ (s ++ [13, 10] ++ r)) p.length = s ∧ lnN (p ++ (s ++ [13, 10] ++ r)) p.length = (p ++ (s ++ [13, 10])).length := by
  have e : lineS ((p ++ (s ++ [13, 10] ++ r)).drop p.length) = some s := by rw [List.drop_left]; exact lineS_app s r h
  unfold lnB lnS lnN
  rw [e]
  refine ⟨rfl, rfl, ?_⟩
  simp; omega
theorem bare_app (a b : List UInt8) : bareL (a ++ b) = (bareL a && bareL b) := by unfold bareL; rw [List.all_append]
theorem all_imp {s : List UInt8} {p q : UInt8 → Bool} (h : s.all p = true) (hi : ∀ c, p c = true → q c = true) : s.all q = true := by
  rw [List.all_eq_true] at h ⊢
  exact fun x hx => hi x (h x hx)
theorem u8_all {P : UInt8 → Prop} (h : ∀ n, n < 256 → P (UInt8.ofNat n)) (c : UInt8) : P c := by
  have := h c.toNat (UInt8.toNat_lt c)
  simpa using this
theorem tok_plain (c : UInt8) : tokB c = true → c ≠ 13 ∧ c ≠ 10 ∧ c ≠ 32 ∧ c ≠ 58 := by
  refine u8_all (P := fun c => tokB c = true → c ≠ 13 ∧ c ≠ 10 ∧ c ≠ 32 ∧ c ≠ 58) ?_ c
  decide +kernel
theorem val_plain (c : UInt8) : valB c = true → c ≠ 13 ∧ c ≠ 10 := by
  refine u8_all (P := fun c => valB c = true → c ≠ 13 ∧ c ≠ 10) ?_ c
  decide +kernel
theorem tg_plain (c : UInt8) : tgB c = true → c ≠ 13 ∧ c ≠ 10 ∧ c ≠ 32 := by
  refine u8_all (P := fun c => tgB c = true → c ≠ 13 ∧ c ≠ 10 ∧ c ≠ 32) ?_ c
  decide +kernel
theorem idx_colon : ∀ (n v : List UInt8), (∀ x ∈ n, x ≠ 58) → Lib.index (n ++ 58 :: 32 :: v) [58, 32] = n.length
  | [], v, _ => by
    show Lib.index (58 :: 32 :: v) [58, 32] = 0
    rw [Lib.index, if_pos (by simp [List.isPrefixOf])]
  | x :: t, v, h => by
    have ih := idx_colon t v fun y hy => h y (by simp [hy])
    have hx := h x (by simp)
    show Lib.index (x :: (t ++ 58 :: 32 :: v)) [58, 32] = _
    have hp : ([58, 32] : List UInt8).isPrefixOf (x :: (t ++ 58 :: 32 :: v)) = false := by simp [List.isPrefixOf, Ne.symm hx]
    rw [Lib.index, hp, ih]
    have h2 : ((t.length : Int) == -1) = false := by rw [beq_eq_false_iff_ne]; omega
    rw [h2]
    simp
theorem no_colon {n : List UInt8} (h : ∀ x ∈ n, x ≠ 58) : Lib.contains n [58] = false := by
  unfold Lib.contains
  rw [decide_eq_false]
  intro h0
  rcases Lib.index_spec n [58] with ⟨h1, _⟩ | ⟨i, h1, h2, h3, _⟩
  · omega
  · unfold Lib.occAt at h3
    cases hd : n.drop i with
    | nil => rw [hd] at h3; simp [List.isPrefixOf] at h3
    | cons y t =>
      rw [hd] at h3
      have e : (58 : UInt8) = y := by simpa [List.isPrefixOf] using h3
      exact h y (List.mem_of_mem_drop (by rw [hd]; simp)) e.symm
theorem hd_app {h : Hd} (hn : ∀ x ∈ h.name, x ≠ 58) (hne : h.name ≠ []) : hdB (h.name ++ [58, 32] ++ h.value) = true ∧ hdV (h.name ++ [58, 32] ++ h.value) = h := by
  have e : hdCut (h.name ++ [58, 32] ++ h.value) = (h.name, h.value, true) := by
    unfold hdCut Lib.cut
    rw [show h.name ++ [58, 32] ++ h.value = h.name ++ 58 :: 32 :: h.value by simp, idx_colon _ _ hn, if_pos (by omega)]
    simp
  have hB : hdB (h.name ++ [58, 32] ++ h.value) = true := by
    unfold hdB
    rw [e]
    simp only
    rw [no_colon hn, bne_iff_ne.2 hne]; rfl
  refine ⟨hB, ?_⟩
  unfold hdV
  rw [if_pos hB, e]
theorem rh_app : ∀ (hd : List Hd) (p : List UInt8) (out : List Hd) (k : Nat) (r : List UInt8), hd.length < k → (∀ h ∈ hd, tokL h.name = true ∧ valueL h.value = true) → rhL (p ++ (headsB hd ++ [13, 10] ++ r)) k p.length out = (out ++ hd, (p ++ (headsB hd ++ [13, 10])).length, true)
  | [], p, out, k + 1, r, _, _ => by
    have h := ln_app (p := p) (s := []) (r := r) rfl
    simp only [List.nil_append] at h
    show rhL (p ++ ([13, 10] ++ r)) (k + 1) p.length out = _
    rw [rhL, if_neg (by simp), h.1, if_neg (by simp), h.2.1, if_pos rfl, h.2.2]
    simp [headsB]
  | x :: t, p, out, k + 1, r, hk, hok => by
    have hx := hok x (by simp)
    have ht := hx.1
    have hv := hx.2
    simp only [tokL, valueL, Bool.and_eq_true, decide_eq_true_eq] at ht hv
    have hbare : bareL (x.name ++ [58, 32] ++ x.value) = true := by
      rw [bare_app, bare_app]
      have b1 : bareL x.name = true := all_imp ht.2 fun c hc => by have := tok_plain c hc; simp [this.1, this.2.1]
      have b2 : bareL x.value = true := all_imp hv.2 fun c hc => by have := val_plain c hc; simp [this.1, this.2]
      rw [b1, b2]; rfl
    have hn : ∀ y ∈ x.name, y ≠ 58 := fun y hy => (tok_plain y (List.all_eq_true.1 ht.2 y hy)).2.2.2
    have hne : x.name ≠ [] := fun e => by rw [e] at ht; simp at ht
    have e : p ++ (headsB (x :: t) ++ [13, 10] ++ r) = p ++ ((x.name ++ [58, 32] ++ x.value) ++ [13, 10] ++ (headsB t ++ [13, 10] ++ r)) := by simp [headsB, headB]
    have h := ln_app (p := p) (s := x.name ++ [58, 32] ++ x.value) (r := headsB t ++ [13, 10] ++ r) hbare
    have hh := hd_app hn hne
    rw [e, rhL, if_neg (by simp; omega), h.1, if_neg (by simp), h.2.1, if_neg (by simp), hh.1, if_neg (by simp), hh.2, h.2.2]
    have ih := rh_app t (p ++ ((x.name ++ [58, 32] ++ x.value) ++ [13, 10])) (out ++ [x]) k r (by simp at hk; omega) fun y hy => hok y (by simp [hy])
    rw [show p ++ ((x.name ++ [58, 32] ++ x.value) ++ [13, 10] ++ (headsB t ++ [13, 10] ++ r)) = p ++ ((x.name ++ [58, 32] ++ x.value) ++ [13, 10]) ++ (headsB t ++ [13, 10] ++ r) by simp, ih]
    simp [headsB, headB]
theorem headsB_ge : ∀ l : List Hd, l.length ≤ (headsB l).length
  | [] => Nat.zero_le _
  | x :: t => by have := headsB_ge t; simp [headsB, headB]; omega
theorem heads_mem {l : List Hd} (e : checkHeadsL l = 0) : ∀ h ∈ l, tokL h.name = true ∧ valueL h.value = true := by
  unfold checkHeadsL at e
  split at e
  · omega
  · have key : ∀ {l : List Hd}, headsGo l = 0 → ∀ h ∈ l, tokL h.name = true ∧ valueL h.value = true := by
      intro l
      induction l with
      | nil => intro _ h hh; cases hh
      | cons x t ih =>
        intro e h hh
        simp only [headsGo] at e
        split at e
        · rename_i h1
          split at e
          · rename_i h2
            rcases List.mem_cons.1 hh with rfl | hh
            · exact ⟨h1, h2⟩
            · exact ih e h hh
          · omega
        · omega
    exact key e
theorem line_at {B w v rest : List UInt8} {i : Nat} (h : B.drop i = lnB2 w v ++ rest) (hw : bareL w = true) (hv : bareL v = true) : lineOk B i w = true ∧ lineV B i w = v ∧ lnN B i = i + (lnB2 w v).length ∧ B.drop (i + (lnB2 w v).length) = rest := by
  have hb : bareL (w ++ [58, 32] ++ v) = true := by rw [bare_app, bare_app, hw, hv]; rfl
  have e : lineS (B.drop i) = some (w ++ [58, 32] ++ v) := by
    rw [h]
    exact lineS_app _ rest hb
  have hd : B.drop (i + (lnB2 w v).length) = rest := by rw [← List.drop_drop, h, List.drop_left]
  unfold lineOk lineV lnB lnS lnN
  rw [e]
  refine ⟨?_, ?_, ?_, hd⟩
  · rw [Option.isSome_some, Bool.true_and]
    exact hasPre_iff.2 ⟨v, by simp⟩
  · simp
  · simp [lnB2]; omega
theorem isL_at {B rest : List UInt8} {i : Nat} {w v : List UInt8} (h : B.drop i = lnB2 w v ++ rest) : isL B i w = true := by
  unfold isL
  rw [h]
  refine decide_eq_true ?_
  unfold lnB2
  rw [show w ++ [58, 32] ++ v ++ [13, 10] ++ rest = (w ++ [58, 32]) ++ (v ++ [13, 10] ++ rest) by simp, show w.length + 2 = (w ++ [58, 32]).length by simp, List.take_left]
theorem isL_not {B : List UInt8} {i : Nat} {w : List UInt8} (c : UInt8) (k : Nat) (hk : k < w.length + 2) (h : (B.drop i).getD k 0 ≠ (w ++ [58, 32]).getD k 0) : isL B i w = false := by
  unfold isL
  refine decide_eq_false fun x => h ?_
  rw [← x, List.getD_eq_getElem?_getD, List.getD_eq_getElem?_getD, List.getElem?_take_of_lt hk]
theorem isL_hd {B rest n v : List UInt8} {i : Nat} (h : B.drop i = n ++ [58, 32] ++ v ++ [13, 10] ++ rest) (hn : ∀ x ∈ n, x ≠ 58) {w : List UInt8} (hw : ∀ x ∈ w, x ≠ 58) (hne : n ≠ w) : isL B i w = false := by
  unfold isL
  refine decide_eq_false fun x => hne ?_
  have h1 : Lib.indexByte (n ++ 58 :: (32 :: v ++ [13, 10] ++ rest)) 58 = n.length := by
    have : ∀ (n r : List UInt8), (∀ x ∈ n, x ≠ 58) → Lib.indexByte (n ++ 58 :: r) 58 = n.length := by
      intro n r hn
      induction n with
      | nil => simp [Lib.indexByte]
      | cons a t ih =>
        have ha := hn a (by simp)
        have := ih fun x hx => hn x (by simp [hx])
        simp only [List.cons_append, Lib.indexByte]
        rw [if_neg (by simpa using ha), this, if_neg (by first | (simp; done) | (simp; omega))]
        simp
    exact this _ _ hn
  have e1 : B.drop i = (w ++ [58, 32]) ++ (B.drop i).drop (w.length + 2) := by
    conv => lhs; rw [← List.take_append_drop (w.length + 2) (B.drop i), x]
  have h2 : Lib.indexByte (w ++ 58 :: (32 :: (B.drop i).drop (w.length + 2))) 58 = w.length := by
    have : ∀ (n r : List UInt8), (∀ x ∈ n, x ≠ 58) → Lib.indexByte (n ++ 58 :: r) 58 = n.length := by
      intro n r hn
      induction n with
      | nil => simp [Lib.indexByte]
      | cons a t ih =>
        have ha := hn a (by simp)
        have := ih fun x hx => hn x (by simp [hx])
        simp only [List.cons_append, Lib.indexByte]
        rw [if_neg (by simpa using ha), this, if_neg (by first | (simp; done) | (simp; omega))]
        simp
    exact this _ _ hw
  have e2 : n ++ 58 :: (32 :: v ++ [13, 10] ++ rest) = w ++ 58 :: (32 :: (B.drop i).drop (w.length + 2)) := by
    have ea : n ++ 58 :: (32 :: v ++ [13, 10] ++ rest) = B.drop i := by rw [h]; simp
    rw [ea]
    conv => lhs; rw [e1]
    simp
  rw [e2, h2] at h1
  have hl : n.length = w.length := by omega
  exact (List.append_inj e2 hl).1
theorem hds_back {B rest v : List UInt8} : ∀ (hds : List Hd) (k i : Nat) (out : List Hd), (∀ h ∈ hds, tokL h.name = true ∧ valueL h.value = true ∧ h.name ≠ wLng) → hds.length < k → B.drop i = headsB hds ++ (lnB2 wLng v ++ rest) → hdsR B k i out = (true, i + (headsB hds).length, out ++ hds)
  | [], k + 1, i, out, _, _, h => by
    have hl : isL B i [108, 101, 110, 103, 116, 104] = true := isL_at (w := wLng) (v := v) (rest := rest) (by rw [h]; simp [headsB])
    rw [hdsR, if_pos hl]
    simp [headsB]
  | x :: t, k + 1, i, out, hok, hk, h => by
    obtain ⟨ht, hv, hne'⟩ := hok x (by simp)
    simp only [tokL, valueL, Bool.and_eq_true, decide_eq_true_eq] at ht hv
    have hbare : bareL (x.name ++ [58, 32] ++ x.value) = true := by
      rw [bare_app, bare_app]
      have b1 : bareL x.name = true := all_imp ht.2 fun c hc => by have := tok_plain c hc; simp [this.1, this.2.1]
      have b2 : bareL x.value = true := all_imp hv.2 fun c hc => by have := val_plain c hc; simp [this.1, this.2]
      rw [b1, b2]; rfl
    have hn : ∀ y ∈ x.name, y ≠ 58 := fun y hy => (tok_plain y (List.all_eq_true.1 ht.2 y hy)).2.2.2
    have hne : x.name ≠ [] := fun e => by rw [e] at ht; simp at ht
    have h' : B.drop i = (x.name ++ [58, 32] ++ x.value) ++ [13, 10] ++ (headsB t ++ (lnB2 wLng v ++ rest)) := by rw [h]; simp [headsB, headB]
    have e : lineS (B.drop i) = some (x.name ++ [58, 32] ++ x.value) := by rw [h']; exact lineS_app _ _ hbare
    have hh := hd_app hn hne
    have e1 : lnB B i = true := by unfold lnB; rw [e]; rfl
    have e2 : lnS B i = x.name ++ [58, 32] ++ x.value := by unfold lnS; rw [e]; rfl
    have e3 : lnN B i = i + (headB x).length := by unfold lnN; rw [e]; simp [headB]; omega
    have hd : B.drop (i + (headB x).length) = headsB t ++ (lnB2 wLng v ++ rest) := by
      rw [← List.drop_drop, h, show headsB (x :: t) ++ (lnB2 wLng v ++ rest) = headB x ++ (headsB t ++ (lnB2 wLng v ++ rest)) by simp [headsB], List.drop_left]
    have hL : isL B i [108, 101, 110, 103, 116, 104] = false := isL_hd (n := x.name) (v := x.value) (rest := headsB t ++ (lnB2 wLng v ++ rest)) (by rw [h']) hn (by decide) hne'
    rw [hdsR, if_neg (by rw [hL]; simp), e1, e2, hh.1, if_pos (show (true && true) = true from rfl), hh.2, e3]
    have ih := hds_back t k (i + (headB x).length) (out ++ [x]) (fun y hy => hok y (by simp [hy])) (by simp at hk; omega) hd
    rw [ih]
    simp [headsB]; omega
theorem nm_bare {s : List UInt8} (h : nameL s = true) : bareL s = true := by
  unfold nameL at h
  simp only [Bool.and_eq_true] at h
  refine all_imp h.2 fun c hc => ?_
  have : nmB c = true → c ≠ 13 ∧ c ≠ 10 := by
    refine u8_all (P := fun c => nmB c = true → c ≠ 13 ∧ c ≠ 10) ?_ c
    decide +kernel
  simp [this hc]
theorem tg_bare {s : List UInt8} (h : targetL s = true) : bareL s = true := by
  unfold targetL at h
  simp only [Bool.and_eq_true] at h
  exact all_imp h.2 fun c hc => by have := tg_plain c hc; simp [this.1, this.2.1]
theorem dgt_bare {s : List UInt8} (h : s.all isDg = true) : bareL s = true := by
  refine all_imp h fun c hc => ?_
  have : isDg c = true → c ≠ 13 ∧ c ≠ 10 := by
    refine u8_all (P := fun c => isDg c = true → c ≠ 13 ∧ c ≠ 10) ?_ c
    decide +kernel
  simp [this hc]
theorem kindW_bare (k : Nat) : bareL (kindW.getD k []) = true := by
  by_cases h : k < 5
  · rcases (by omega : k = 0 ∨ k = 1 ∨ k = 2 ∨ k = 3 ∨ k = 4) with rfl | rfl | rfl | rfl | rfl <;> decide
  · rw [List.getD_eq_getElem?_getD, List.getElem?_eq_none (by simp [kindW]; omega)]; rfl
theorem hexT_dg (k : Nat) (h : k < 16) : dgC (hexT.getD k 0) = true := by
  rcases (by omega : k = 0 ∨ k = 1 ∨ k = 2 ∨ k = 3 ∨ k = 4 ∨ k = 5 ∨ k = 6 ∨ k = 7 ∨ k = 8 ∨ k = 9 ∨ k = 10 ∨ k = 11 ∨ k = 12 ∨ k = 13 ∨ k = 14 ∨ k = 15) with rfl | rfl | rfl | rfl | rfl | rfl | rfl | rfl | rfl | rfl | rfl | rfl | rfl | rfl | rfl | rfl <;> decide
theorem digest_dg (s : List UInt8) : dgB (digestL s) = true := by
  unfold dgB digestL
  rw [decide_eq_true (hex16_len _), Bool.true_and]
  unfold hex16
  rw [List.all_map, List.all_eq_true]
  intro j _
  exact hexT_dg _ (by omega)
theorem dgB_bare {s : List UInt8} (h : dgB s = true) : bareL s = true := by
  unfold dgB at h
  simp only [Bool.and_eq_true] at h
  refine all_imp h.2 fun c hc => ?_
  have : dgC c = true → c ≠ 13 ∧ c ≠ 10 := by
    refine u8_all (P := fun c => dgC c = true → c ≠ 13 ∧ c ≠ 10) ?_ c
    decide +kernel
  simp [this hc]
theorem getD_bare {l : List (List UInt8)} (h : ∀ w ∈ l, bareL w = true) (k : Nat) : bareL (l.getD k []) = true := by
  rw [List.getD_eq_getElem?_getD]
  by_cases hk : k < l.length
  · rw [List.getElem?_eq_getElem hk]; exact h _ (List.getElem_mem hk)
  · rw [List.getElem?_eq_none (by omega)]; rfl
theorem itoa_bare {n : Int} (h : 0 ≤ n) : bareL (Lib.itoa n) = true := by
  obtain ⟨k, rfl⟩ : ∃ k : Nat, n = k := ⟨n.toNat, by omega⟩
  rw [itoa_nat]
  exact dgt_bare (dec_dig k).1
theorem padded_bare {n k : Int} (h : 0 ≤ n) : bareL (paddedL n k) = true := by
  unfold paddedL
  rw [bare_app, itoa_bare h, Bool.and_true]
  generalize (max 0 (k - (Lib.itoa n).length)).toNat = m
  unfold bareL
  rw [List.all_eq_true]
  intro x hx
  have : x = 48 := by
    induction m with
    | zero => simp [Lib.repeatL] at hx
    | succ m ih =>
      simp only [Lib.repeatL, List.cons_append, List.nil_append, List.mem_cons] at hx
      rcases hx with hx | hx
      · exact hx
      · exact ih hx
  subst this; rfl
theorem date_bare {n : Int} (h0 : 0 ≤ n) (h1 : n ≤ 253402300799) : bareL (dateTextL n) = true := by
  obtain ⟨_, _, _, _, _, _, _, _, _, y1, _, d1, _⟩ := date_fields h0 h1
  unfold dateTextL
  simp only [bare_app, getD_bare (l := wdN) (by decide), getD_bare (l := mnN) (by decide), padded_bare (n := n / 86400 - daysI (yearI (n / 86400)) (monthI (n / 86400)) + 1) (by omega), padded_bare (n := yearI (n / 86400)) (by omega), padded_bare (n := n % 86400 / 3600) (by omega), padded_bare (n := n % 86400 / 60 % 60) (by omega), padded_bare (n := n % 86400 % 60) (by omega)]
  rfl
theorem rec_own {r : Rcd} (h : checkRecL r = 0) : ownL r.hd = false := by
  obtain ⟨h1, h2, h3, h4, h5, h6, h7, h8, h9, h10⟩ := rec_ok h
  have a1 : ¬ (r.ki < 1 ∨ 5 < r.ki) := by omega
  have a2 : nmR r := ⟨h3, h4⟩
  by_cases a3 : clR r
  · have := cr12 a1 a2 a3; omega
  · have := crR a1 a2 a3 ⟨h5, h6⟩ h7 (by omega) h9
    rw [this] at h
    cases ho : ownL r.hd with
    | false => rfl
    | true => rw [ho, if_pos rfl] at h; omega
theorem rec_heads {r : Rcd} (h : checkRecL r = 0) : ∀ x ∈ r.hd, tokL x.name = true ∧ valueL x.value = true ∧ x.name ≠ wLng := by
  intro x hx
  obtain ⟨h1, h2, h3, h4, h5, h6, h7, h8, h9, h10⟩ := rec_ok h
  have hm := heads_mem h9 x hx
  refine ⟨hm.1, hm.2, fun e => ?_⟩
  have := rec_own h
  unfold ownL at this
  rw [List.any_eq_false] at this
  have := this x hx
  rw [e] at this
  exact this (by decide)
theorem kind_back {k : Int} (h1 : 1 ≤ k) (h2 : k ≤ 5) : kindI (kindW.getD (k - 1).toNat []) = k := by
  rcases (by omega : k = 1 ∨ k = 2 ∨ k = 3 ∨ k = 4 ∨ k = 5) with rfl | rfl | rfl | rfl | rfl <;> decide
theorem len_back {n : Nat} (h : n ≤ 999999999) : digL (Lib.itoa n) 9 = true ∧ natOf (Lib.itoa n) = n ∧ bareL (Lib.itoa n) = true := by
  refine ⟨?_, ?_, itoa_bare (by omega)⟩
  · rw [itoa_nat]
    obtain ⟨d1, d2, d3, d4, _⟩ := dec_dig n
    have d5 := dec_len 8 n (by omega)
    unfold digL
    rw [d1, decide_eq_true d3, decide_eq_true (show ((Lib.decDigits n).length : Int) ≤ 9 by omega)]
    simp only [Bool.and_self, Bool.true_and, Bool.or_eq_true, decide_eq_true_eq, beq_iff_eq]
    by_cases e : (Lib.decDigits n).getD 0 0 = 48
    · right
      have hl := d4.resolve_left (fun x => x e)
      match hq : Lib.decDigits n, hl with
      | [c], _ => rw [hq] at e; simpa using e
    · left; exact e
  · rw [itoa_nat]; exact (dec_dig n).2.1
theorem stepR {B w v rest : List UInt8} {i : Nat} {acc : List UInt8 → Bool} (hd : B.drop i = lnB2 w v ++ rest) (hw : bareL w = true) (hv : bareL v = true) (ha : acc v = true) :
    lnR B i w acc = true ∧ lnA B i w acc = i + (lnB2 w v).length ∧ B.drop (i + (lnB2 w v).length) = rest ∧ lineOk B i w = true ∧ lineV B i w = v := by
  obtain ⟨h1, h2, h3, h4⟩ := line_at hd hw hv
  have hr : lnR B i w acc = true := by unfold lnR; rw [h1, h2, ha]; rfl
  exact ⟨hr, by unfold lnA; rw [if_pos hr, h3], h4, h1, h2⟩
theorem whole_at {B w rest : List UInt8} {i : Nat} (hd : B.drop i = w ++ [13, 10] ++ rest) (hw : bareL w = true) : wholeB B i w = true ∧ wholeA B i w = i + w.length + 2 ∧ B.drop (i + w.length + 2) = rest := by
  have e : lineS (B.drop i) = some w := by rw [hd]; exact lineS_app w rest hw
  have hb : wholeB B i w = true := by unfold wholeB lnB lnS; rw [e]; simp
  refine ⟨hb, ?_, ?_⟩
  · unfold wholeA
    rw [if_pos hb]
    unfold lnN
    rw [e]
  · rw [Nat.add_assoc, ← List.drop_drop, hd, show w.length + 2 = (w ++ [13, 10]).length by simp, List.drop_left]
theorem linesC_back {B q : List UInt8} {r : Rcd} (h : checkRecL r = 0) (pl : Nat) (ki ti ln : Int) (id ow ke dg : List UInt8) (hp : pl ≤ B.length)
    (hB : B.drop pl = lnB2 wKind (kindW.getD (r.ki - 1).toNat []) ++ (lnB2 wDate (dateTextL r.ti) ++ (lnB2 wKey r.ke ++ (headsB r.hd ++ (lnB2 wLng (Lib.itoa r.bd.length) ++ (lnB2 wDig (digestL r.bd) ++ ([] ++ [13, 10] ++ q))))))) :
    ∃ p : Nat, linesC B B.length ⟨pl, ki, id, ow, ti, ke, ln, dg⟩ = (true, ⟨p, r.ki, id, ow, r.ti, r.ke, r.bd.length, digestL r.bd⟩, r.hd) ∧ B.drop p = q ∧ p + q.length = B.length := by
  obtain ⟨k1, k2, k3, k4, k5, k6, k7, k8, k9, k10⟩ := rec_ok h
  obtain ⟨a1, a2, a3, a4, a5⟩ := stepR (acc := kindB) hB (by decide) (kindW_bare _) (by unfold kindB; rw [kind_back k1 k2]; exact decide_eq_true (by omega))
  obtain ⟨b1, b2, b3, b4, b5⟩ := stepR (acc := rdB) a3 (by decide) (date_bare k5 k6) (rdB_date k5 k6)
  obtain ⟨c1, c2, c3, c4, c5⟩ := stepR (acc := fun _ => true) b3 (by decide) (tg_bare k7) rfl
  obtain ⟨l1, l2, l3⟩ := len_back (n := r.bd.length) (by omega)
  have hlen := congrArg List.length hB
  have hge := headsB_ge r.hd
  simp only [List.length_append, List.length_drop] at hlen
  have d := hds_back r.hd (B.length + 1) _ [] (rec_heads h) (by omega) c3
  have d3 : B.drop (pl + (lnB2 wKind (kindW.getD (r.ki - 1).toNat [])).length + (lnB2 wDate (dateTextL r.ti)).length + (lnB2 wKey r.ke).length + (headsB r.hd).length) = (lnB2 wLng (Lib.itoa r.bd.length) ++ (lnB2 wDig (digestL r.bd) ++ ([] ++ [13, 10] ++ q))) := by rw [← List.drop_drop, c3, List.drop_left]
  obtain ⟨e1, e2, e3, e4, e5⟩ := stepR (acc := fun v => digL v 9) d3 (by decide) l3 l1
  obtain ⟨f1, f2, f3, f4, f5⟩ := stepR (acc := dgB) e3 (by decide) (dgB_bare (digest_dg r.bd)) (digest_dg r.bd)
  obtain ⟨g1, g2, g3⟩ := whole_at f3 rfl
  refine ⟨_, ?_, g3, ?_⟩
  · unfold linesC linesD
    dsimp only
    rw [if_neg (by rw [a1]; simp), a2, if_neg (by rw [b1]; simp), b2, if_neg (by rw [c1]; simp), c2, d]
    dsimp only
    rw [if_neg (by simp), if_neg (by rw [e1]; simp), e2, if_neg (by rw [f1]; simp), f2, g1, g2]
    rw [lnF_ok a4, lnF_ok b4, lnF_ok c4, lnF_ok e4, lnF_ok f4, a5, b5, c5, e5, f5, if_pos l1, l2, kind_back k1 k2]
    unfold rdV
    rw [if_pos (rdB_date k5 k6), momF_date k5 k6]
    simp
  · simp only [List.length_nil, List.length_cons] at hlen ⊢
    omega
theorem rec_split (r : Rcd) (q : List UInt8) : recB r ++ q = wKept0 ++ [13, 10] ++ (lnB2 wId r.id ++ ((if r.ow = [] then [] else lnB2 wOf r.ow) ++ (lnB2 wKind (kindW.getD (r.ki - 1).toNat []) ++ (lnB2 wDate (dateTextL r.ti) ++ (lnB2 wKey r.ke ++ (headsB r.hd ++ (lnB2 wLng (Lib.itoa r.bd.length) ++ (lnB2 wDig (digestL r.bd) ++ ([] ++ [13, 10] ++ (r.bd ++ crlf2 ++ q)))))))))) := by
  unfold recB recP recQ
  simp [wKept, wKept0, crlf2, wId, wOf, wKind, wDate, wKey, wLng, wDig]
theorem lines_back {B q : List UInt8} {r : Rcd} {a : Nat} (h : checkRecL r = 0) (ha : a ≤ B.length) (hB : B.drop a = recB r ++ q) : ∃ pl : Nat, linesL B B.length (rp0 a) = (true, ⟨pl, r.ki, r.id, r.ow, r.ti, r.ke, r.bd.length, digestL r.bd⟩, r.hd) ∧ B.drop pl = r.bd ++ crlf2 ++ q ∧ pl + (r.bd ++ crlf2 ++ q).length = B.length := by
  obtain ⟨k1, k2, k3, k4, k5, k6, k7, k8, k9, k10⟩ := rec_ok h
  have hlen := congrArg List.length hB
  rw [rec_split] at hB
  obtain ⟨a1, a2, a3⟩ := whole_at hB (by decide)
  obtain ⟨b1, b2, b3, b4, b5⟩ := stepR (acc := fun _ => true) a3 (by decide) (nm_bare k3) rfl
  have hp2 : a + wKept0.length + 2 + (lnB2 wId r.id).length ≤ B.length := by
    have := congrArg List.length hB
    simp only [List.length_append, List.length_drop, List.length_cons, List.length_nil] at this
    omega
  unfold linesL rp0
  dsimp only
  by_cases ho : r.ow = []
  · rw [if_pos ho, List.nil_append] at b3
    have hL : isL B (a + wKept0.length + 2 + (lnB2 wId r.id).length) wOf = false := by
      refine isL_not 0 0 (by simp [wOf]) ?_
      rw [b3]
      simp [lnB2, wKind, wOf]
    obtain ⟨p, c1, c2, c3⟩ := linesC_back h (a + wKept0.length + 2 + (lnB2 wId r.id).length) 0 0 0 r.id [] [] [] hp2 b3
    refine ⟨p, ?_, c2, c3⟩
    rw [if_neg (by rw [a1]; simp), a2, if_neg (by rw [b1]; simp), b2, if_neg (by rw [hL]; simp), lnF_ok b4, b5, c1, ho]
  · rw [if_neg ho] at b3
    obtain ⟨d1, d2, d3, d4, d5⟩ := stepR (acc := ofB) b3 (by decide) (nm_bare (k4.resolve_left ho)) (by unfold ofB; simpa using ho)
    have hL := isL_at b3
    have hp3 : a + wKept0.length + 2 + (lnB2 wId r.id).length + (lnB2 wOf r.ow).length ≤ B.length := by
      have := congrArg List.length b3
      simp only [List.length_append, List.length_drop] at this
      have : 2 ≤ (lnB2 wKind (kindW.getD (r.ki - 1).toNat [])).length := by
        unfold lnB2
        simp only [List.length_append, List.length_cons, List.length_nil]
        omega
      omega
    obtain ⟨p, c1, c2, c3⟩ := linesC_back h (a + wKept0.length + 2 + (lnB2 wId r.id).length + (lnB2 wOf r.ow).length) 0 0 0 r.id r.ow [] [] hp3 d3
    refine ⟨p, ?_, c2, c3⟩
    rw [if_neg (by rw [a1]; simp), a2, if_neg (by rw [b1]; simp), b2, if_pos hL, if_neg (by rw [d1]; simp), d2, lnF_ok b4, b5, lnF_ok d4, d5, c1]
theorem rd_back {B q : List UInt8} {r : Rcd} {a : Nat} (h : checkRecL r = 0) (ha : a ≤ B.length) (hB : B.drop a = recB r ++ q) : rdOne B a = (r, ((a + (recB r).length : Nat) : Int), 0) := by
  obtain ⟨pl, e, e2, e3⟩ := lines_back h ha hB
  have hlen := congrArg List.length hB
  simp only [List.length_append, List.length_drop] at hlen e3
  have h4 : crlf2.length = 4 := rfl
  have hb : ((B.drop pl).take r.bd.length) = r.bd := by rw [e2, List.append_assoc, List.take_left]
  have hc : (B.drop (pl + r.bd.length)).take 4 = crlf2 := by
    rw [← List.drop_drop, e2, List.append_assoc, List.drop_left]
    exact List.take_left (l₁ := crlf2)
  unfold rdOne
  rw [e]
  dsimp only
  rw [if_neg (by simp), if_neg (by omega), show (((pl : Nat) : Int) + (r.bd.length : Nat)).toNat = pl + r.bd.length by omega, hc, if_neg (by simp), Int.toNat_natCast, hb, if_neg (by simp), if_neg (by simpa using h)]
  refine Prod.ext rfl (Prod.ext ?_ rfl)
  show (pl : Int) + (r.bd.length : Nat) + 4 = ((a + (recB r).length : Nat) : Int)
  omega
end Go.Abs
