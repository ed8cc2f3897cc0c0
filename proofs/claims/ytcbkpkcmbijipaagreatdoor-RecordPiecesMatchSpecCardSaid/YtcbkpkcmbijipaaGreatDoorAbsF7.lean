/- what functions of this program compute: contracts, each a function's own -/
import Derived.Test.YtcbkpkcmbijipaaGreatDoorAbsK3
import Derived.Test.YtcbkpkcmbijipaaGreatDoorAbsFacts
import Derived.Test.YtcbkpkcmbijipaaGreatDoorAbsF6
import Derived.Test.YtcbkpkcmbijipaaGreatDoorAbsShelf
import Derived.Lib.SlTrimSet
import Derived.Lib.Atoi
import Derived.Lib.Itoa
import Derived.Lib.ItoaNum
import Derived.Lib.AtoiErrMem
import Derived.Lib.Repeat
import Derived.Lib.ItoaLen
import Derived.Lib.Walk
import Derived.WalkKit
import Derived.OwnWalkIn
import Derived.TacticsInMore
import Derived.RegionIn
import Derived.LoopNIn
import Derived.LoopIn
import Derived.Shelf.Abstract
namespace Go.Abs
open Go Go.Proofs
set_option maxHeartbeats 4000000
set_option maxRecDepth 100000
set_option linter.unusedVariables false
set_option linter.unusedSimpArgs false
def ckSame6 : Ck
  | [.agg [.int .i64 k1, .str i1, .str o1, .int .i64 t1, .str e1, .sl n f, .sl m g], .agg [.int .i64 k2, .str i2, .str o2, .int .i64 t2, .str e2, .sl n' f', .sl m' g']] => some (isLs cHd n f ∧ isLs cHd n' f' ∧ n ≤ 4611686018427387904 ∧ isBy m g ∧ isBy m' g', .bool (decide ((⟨k1, i1, o1, t1, e1, lsOf cHd n f, bytesOf m g⟩ : Rcd) = ⟨k2, i2, o2, t2, e2, lsOf cHd n' f', bytesOf m' g'⟩)))
  | _ => none
theorem conSame6 : Con pg 20 ckSame6 := by
  have hct := (ctA_ok conEqHd (ctA_ok conBEqual (ctN_ok _)))
  intro args q r h hq
  unfold ckSame6 at h
  split at h
  · cases h
    rename_i k1 i1 o1 t1 e1 n f m g k2 i2 o2 t2 e2 n' f' m' g'
    refine w20 (fun _ => false) [] rfl hct rfl rfl ?_
    push_cast (config := { maxSteps := 10000000 })
    obtain ⟨h1, h2, h3, h4, h5⟩ := hq
    refine ⟨fun h => ⟨h, h1, h2, h3⟩, fun h => ⟨h, h4, h5⟩, ?_⟩
    rw [Bool.eq_iff_iff]
    simp only [Bool.and_eq_true, beq_iff_eq, decide_eq_true_eq, Rcd.mk.injEq, and_assoc]
  · cases h
attribute [push_cast] ckSame6
def ckSameAll : Ck
  | [.sl n f, .sl m g] => some (isLs cRec n f ∧ isLs cRec m g ∧ n ≤ 1000000 ∧ (∀ r ∈ lsOf cRec n f, r.hd.length ≤ 4611686018427387904), .bool (decide (lsOf cRec n f = lsOf cRec m g)))
  | _ => none
theorem conSameAll : Con pg 15 ckSameAll := by
  have hct := (ctA_ok conSame6 (ctN_ok _))
  intro args q r h hq
  unfold ckSameAll at h
  split at h
  · cases h
    rename_i n f m g
    refine pcall_args (args' := [.sl (lsOf cRec n f).length (lsF cRec (lsOf cRec n f)), .sl (lsOf cRec m g).length (lsF cRec (lsOf cRec m g))]) ⟨isLs.vle hq.1, isLs.vle hq.2.1, trivial⟩ ?_
    obtain ⟨-, -, hn, hh⟩ := hq
    have hn : (lsOf cRec n f).length ≤ 1000000 := by rw [lsOf_len]; exact hn
    generalize lsOf cRec n f = a at hn hh ⊢
    generalize lsOf cRec m g = b
    refine w15 (fun _ => false) [] rfl hct rfl rfl ?_
    push_cast (config := { maxSteps := 10000000 })
    refine ⟨fun h => ?_, fun h => ?_⟩
    · exact (decide_eq_false fun e => h (by rw [e])).symm
    refine LoopW.adj ⟨hct, fol⟩ (by kernel_rfl) [] (fun i : Nat => [(0, .sl a.length (lsF cRec a)), (1, .sl b.length (lsF cRec b)), (5, .int .i64 i)]) (fun _ => []) (fun i => i ≤ a.length ∧ ∀ j, j < i → a.getD j noRec = b.getD j noRec) (fun i => a.length - i) 0 ?_ fun i hi => ?_
    · push_cast (config := { maxSteps := 10000000 })
      exact Nat.zero_le _
    · push_cast (config := { maxSteps := 10000000 })
      obtain ⟨h1, h2⟩ := hi
      refine ⟨fun hlt => ⟨hlt, by omega, ?_, fun hne => ?_, fun he => ⟨⟨by omega, by omega⟩, i + 1, ⟨by omega, fun j hj => ?_⟩, by omega, by omega⟩⟩, fun hge => ?_⟩
      · exact hh _ (by rw [List.getD_eq_getElem?_getD, List.getElem?_eq_getElem hlt]; exact List.getElem_mem hlt)
      · exact (decide_eq_false (ne_at (d := noRec) (i := i) fun e => hne e)).symm
      · by_cases e : j = i
        · subst e; exact he
        · exact h2 j (by omega)
      · exact (decide_eq_true (eq_take (d := noRec) (by omega) fun j hj => h2 j (by omega))).symm
  · cases h
attribute [push_cast] ckSameAll

def recR (r : Rcd) : List UInt8 := if checkRecL r = 0 then recB r else []
def digR (r : Rcd) : List UInt8 := if checkRecL r = 0 then digestL r.bd else []
def ckRecBytes : Ck
  | [x] => some (isC cRec x ∧ recOk (cRec.dec x), .tup [.sl (recR (cRec.dec x)).length (byF (recR (cRec.dec x))), .int .i64 (checkRecL (cRec.dec x))])
  | _ => none
attribute [push_cast] ckRecBytes
def ckDigestOf : Ck
  | [x] => some (isC cRec x ∧ recOk (cRec.dec x), .tup [.str (digR (cRec.dec x)), .int .i64 (checkRecL (cRec.dec x))])
  | _ => none
theorem conDigestOf : Con pg 24 ckDigestOf := by
  have hct := (ctA_ok conCheckRec (ctA_ok conDigest (ctN_ok _)))
  intro args q r h hq
  unfold ckDigestOf at h
  split at h
  · cases h
    rename_i x
    refine pcall_args (args' := [cRec.enc (cRec.dec x)]) ⟨hq.1, trivial⟩ ?_
    obtain ⟨-, ha⟩ := hq
    generalize cRec.dec x = r at ha ⊢
    refine w24 (fun _ => false) [] rfl hct rfl rfl ?_
    push_cast (config := { maxSteps := 10000000 })
    exact ⟨ha, fun h => by unfold digR; rw [if_neg h], fun h => ⟨by have := (rec_ok h).2.2.2.2.2.2.2.2.2; omega, by unfold digR; rw [if_pos h], h.symm⟩⟩
  · cases h
attribute [push_cast] ckDigestOf
def recA : Rcd := ⟨1, [97], [], 0, [107], [], []⟩
def ckDigNil : Ck
  | [.agg [.int .i64 1, .str [97], .str [], .int .i64 0, .str [107], .nilsl, .nilsl]] => some (True, .tup [.str (digR recA), .int .i64 (checkRecL recA)])
  | _ => none
theorem conDigNil : Con pg 24 ckDigNil := by
  intro args q r h hq
  unfold ckDigNil at h
  split at h
  · cases h
    have hz : ∀ f, VLe .nilsl (.sl 0 f) := fun f => vle1_ok (show vle1 .nilsl (.sl 0 f) from rfl)
    refine pcall_args (args' := [cRec.enc recA]) ⟨VLe.agg ⟨VLe.refl _, VLe.refl _, VLe.refl _, VLe.refl _, VLe.refl _, hz _, hz _, trivial⟩, trivial⟩ ?_
    have := conDigestOf [cRec.enc recA] _ _ rfl ⟨isC_enc cRec recA, ?_⟩
    · rw [cRec.ok] at this
      exact this
    · rw [cRec.ok]
      exact ⟨fun x hx => (by cases hx), by decide, by decide, by decide, by decide, by decide, by decide, by decide, by decide, by decide⟩
  · cases h
attribute [push_cast] ckDigNil
def ckAwake6 : Ck
  | [] => some (True, .bool true)
  | _ => none
theorem conAwake6 : Con pg 8 ckAwake6 := by
  have hct := (ctA_ok conDigNil (ctN_ok _))
  intro args q r h hq
  unfold ckAwake6 at h
  split at h
  · cases h
    refine w8 (fun _ => false) [] rfl hct rfl rfl ?_
    push_cast (config := { maxSteps := 10000000 })
    exact ⟨by decide +kernel, by decide +kernel⟩
  · cases h
attribute [push_cast] ckAwake6

/- lists of things as arguments, cell by cell -/
theorem VLe.slV {n : Nat} {f g : Nat → V} (h : ∀ i, i < n → (g i).flat.length = (f i).flat.length ∧ ∀ j, j < (f i).flat.length → VLe ((f i).flat.getD j .any) ((g i).flat.getD j .any) ∧ ((g i).flat.getD j .any).isPure = true) : VLe (.sl n f) (.sl n g) := by
  intro γ imm w v hr
  cases inv_sl (S := ⟨γ, imm, fun _ => none, w⟩) hr with
  | sl0 _ a c => exact .pure (.sl0 _ a c)
  | sl _ _ b off c sz u hb hnc hs hf hc ho hp =>
    refine .pure (.sl n g b off c sz u hb hnc hs (fun i hi => (h i hi).1.trans (hf i hi)) hc ho (fun i j hi hj => ?_))
    have hj' : j < (f i).flat.length := by rw [hf i hi]; exact hj
    obtain ⟨h1, h2⟩ := (h i hi).2 j hj'
    exact isPure_rep (S := ⟨γ, imm, fun _ => none, w⟩) (h1 _ _ _ _ (.pure (hp i j hi hj))) h2
def isLv {α : Type} (c : Cod α) (n : Nat) (f : Nat → V) : Prop := VLe (.sl n f) (.sl (lsOf c n f).length (lsF c (lsOf c n f)))
/-- a thing's cells say what its code says -/
def isE {α : Type} (c : Cod α) (v : V) : Prop := (c.enc (c.dec v)).flat.length = v.flat.length ∧ ∀ j, j < v.flat.length → VLe (v.flat.getD j .any) ((c.enc (c.dec v)).flat.getD j .any) ∧ ((c.enc (c.dec v)).flat.getD j .any).isPure = true
theorem shListE {α : Type} {c : Cod α} {s : Sh} {p : α → Prop} (hs : ∀ m v, s.has m v → isE c v ∧ p (c.dec v)) {m : Nat} {v : V} (h : Sh.has (.list s) m v) : ∃ (n : Nat) (f : Nat → V), v = .sl n f ∧ isLv c n f ∧ n ≤ 140737488355328 ∧ ∀ a ∈ lsOf c n f, p a := by
  obtain ⟨l, ms, rfl, h1, h2, h3, h4⟩ := h
  have := reach_le
  refine ⟨_, _, rfl, ?_, by omega, fun a ha => ?_⟩
  · unfold isLv
    rw [lsOf_len]
    refine VLe.slV fun i hi => ?_
    have hE := (hs _ _ (h4 i hi)).1
    have e2 : lsF c (lsOf c l.length (litF l)) i = c.enc (c.dec (litF l i)) := by
      unfold lsF lsOf
      rw [List.getD_eq_getElem?_getD, List.getElem?_map, List.getElem?_range hi]; rfl
    rw [e2]
    exact hE
  · simp only [lsOf, List.mem_map, List.mem_range] at ha
    obtain ⟨i, hi, rfl⟩ := ha
    exact (hs _ _ (h4 i hi)).2

/- lists of records as arguments -/
theorem shRecX {m : Nat} {v : V} (h : Sh.has (.tup [.int .i64, .str, .str, .int .i64, .str, .list (.tup [.str, .str]), .list (.int .u8)]) m v) : ∃ ki id ow ti ke n f k g, v = .agg [.int .i64 ki, .str id, .str ow, .int .i64 ti, .str ke, .sl n f, .sl k g] ∧ isLs cHd n f ∧ isBy k g := by
  obtain ⟨l, ms, rfl, -, hl⟩ := h
  obtain ⟨m1, v1, ms, l, rfl, h1, hl⟩ := hasL_cons hl
  obtain ⟨m2, v2, ms, l, rfl, h2, hl⟩ := hasL_cons hl
  obtain ⟨m3, v3, ms, l, rfl, h3, hl⟩ := hasL_cons hl
  obtain ⟨m4, v4, ms, l, rfl, h4, hl⟩ := hasL_cons hl
  obtain ⟨m5, v5, ms, l, rfl, h5, hl⟩ := hasL_cons hl
  obtain ⟨m6, v6, ms, l, rfl, h6, hl⟩ := hasL_cons hl
  obtain ⟨m7, v7, ms, l, rfl, h7, hl⟩ := hasL_cons hl
  obtain rfl := hasL_nil hl
  obtain ⟨ki, rfl, c1⟩ := shInt h1
  obtain ⟨id, rfl, b2⟩ := shStr h2
  obtain ⟨ow, rfl, b3⟩ := shStr h3
  obtain ⟨ti, rfl, c4⟩ := shInt h4
  obtain ⟨ke, rfl, b5⟩ := shStr h5
  obtain ⟨n, f, rfl, i6, b6, k6⟩ := shList (c := cHd) (fun m v h => shHead h) h6
  obtain ⟨k, g, rfl, i7, b7⟩ := shBytes h7
  exact ⟨ki, id, ow, ti, ke, n, f, k, g, rfl, i6, i7⟩
theorem shRecs {m : Nat} {v : V} (h : Sh.has (.list (.tup [.int .i64, .str, .str, .int .i64, .str, .list (.tup [.str, .str]), .list (.int .u8)])) m v) : ∃ (n : Nat) (f : Nat → V), v = .sl n f ∧ isLv cRec n f ∧ n ≤ 140737488355328 ∧ recsOk (lsOf cRec n f) := by
  obtain ⟨l, ms, rfl, h1, h2, h3, h4⟩ := h
  have := reach_le
  refine ⟨_, _, rfl, ?_, by omega, fun a ha => ?_⟩
  · unfold isLv
    rw [lsOf_len]
    refine VLe.slV fun i hi => ?_
    obtain ⟨ki, id, ow, ti, ke, n, f, k, g, e, i6, i7⟩ := shRecX (h4 i hi)
    have e : litF l i = _ := e
    have e2 : lsF cRec (lsOf cRec l.length (litF l)) i = cRec.enc (cRec.dec (litF l i)) := by
      unfold lsF lsOf
      rw [List.getD_eq_getElem?_getD, List.getElem?_map, List.getElem?_range hi]; rfl
    rw [e2, e]
    refine ⟨rfl, fun j hj => ?_⟩
    match j, hj with
    | 0, _ => exact ⟨VLe.refl _, rfl⟩
    | 1, _ => exact ⟨VLe.refl _, rfl⟩
    | 2, _ => exact ⟨VLe.refl _, rfl⟩
    | 3, _ => exact ⟨VLe.refl _, rfl⟩
    | 4, _ => exact ⟨VLe.refl _, rfl⟩
    | 5, _ => exact ⟨isLs.vle i6, rfl⟩
    | 6, _ => exact ⟨isBy.vle i7, rfl⟩
  · simp only [lsOf, List.mem_map, List.mem_range] at ha
    obtain ⟨i, hi, rfl⟩ := ha
    exact (shRec (h4 i hi)).2

theorem pcs_recs (r : Rcd) (k : Int) : (pcP r k).length ≤ 1000000 ∧ ∀ x ∈ pcP r k, x.hd.length ≤ 4611686018427387904 := by
  unfold pcP
  by_cases h : pcE r k = 0
  · rw [if_neg (fun x => x h)]
    have hc : checkRecL r = 0 := by
      unfold pcE at h
      by_cases hc : checkRecL r = 0
      · exact hc
      · rw [if_pos hc] at h; exact absurd h hc
    have hn : ¬ 1000 < pcN r k.toNat := by
      intro hn
      unfold pcE at h
      rw [if_neg (fun x => x hc), if_pos hn] at h
      by_cases h1 : 1 ≤ k ∧ k ≤ 100000
      · rw [if_neg (fun x => x h1)] at h; cases h
      · rw [if_pos h1] at h; cases h
    obtain ⟨z1, z2, z3, z4, z5, z6, z7⟩ := rec_sz hc
    by_cases e : pcN r k.toNat = 1
    · rw [if_pos e]
      refine ⟨(by decide : (1 : Nat) ≤ 1000000), fun x hx => ?_⟩
      simp only [List.mem_singleton] at hx
      subst hx; omega
    · rw [if_neg e, pcL_len]
      refine ⟨by omega, fun x hx => ?_⟩
      unfold pcL at hx
      obtain ⟨i, hi, rfl⟩ := List.mem_map.1 hx
      by_cases i0 : i = 0
      · subst i0
        rw [pcX_0]
        show (r.hd ++ [_]).length ≤ _
        rw [List.length_append, List.length_singleton]; omega
      · rw [pcX_s r _ _ i0]
        show 1 ≤ _
        omega
  · rw [if_pos h]
    exact ⟨Nat.zero_le _, fun x hx => by cases hx⟩
theorem noRec_hd : noRec.hd.length ≤ 140737488355328 := Nat.zero_le _
theorem joined_hd {l : List Rcd} (ha : recsOk l) (s : List UInt8) : (joinedL l s).1.hd.length ≤ 140737488355328 := by
  have hf : (fndR l s).hd.length ≤ 140737488355328 := by
    unfold fndR
    by_cases h : 0 ≤ fndL l s
    · rw [if_pos h]
      exact (ha _ (getD_memH (d := noRec) (fndL_ok h).1)).2.2.2.2.1
    · rw [if_neg h]; exact noRec_hd
  unfold joinedL
  by_cases h : checkFileL l = 0
  · rw [if_neg (fun x => x h)]
    unfold joinL
    generalize fndR l s = r at hf ⊢
    by_cases h1 : ¬ 0 ≤ fndL l s ∨ r.ki = 5
    · rw [if_pos h1]; exact noRec_hd
    · rw [if_neg h1]
      unfold jnR
      by_cases h2 : fstH r.hd wPieces < 0
      · rw [if_pos h2]; exact hf
      · rw [if_neg h2]
        by_cases h3 : numV (hdV r wPieces) < 2
        · rw [if_pos h3]; exact noRec_hd
        · rw [if_neg h3]
          generalize joinG (pcsL r s l) (numV (hdV r wPieces) - 1).toNat 2 r.bd = o
          unfold jnE
          cases o with
          | none => exact noRec_hd
          | some b =>
            by_cases h4 : checkRecL (jnX r b) = 0
            · simp only [if_pos h4]
              exact Nat.le_trans (List.length_eraseIdx_le _ _) hf
            · simp only [if_neg h4]; exact noRec_hd
  · rw [if_pos h]; exact noRec_hd
def ckLawPM : Ck
  | [x, .int .i64 k, .sl n f, .str s] => some (isC cRec x ∧ recOk (cRec.dec x) ∧ isLv cRec n f ∧ recsOk (lsOf cRec n f), .bool true)
  | _ => none
theorem conLawPM : Con pg 5 ckLawPM := by
  have hct := (ctA_ok conPieces (ctA_ok conPieces2 (ctA_ok conJoinedX (ctA_ok conJoinedX2 (ctA_ok conSameAll (ctA_ok conSame6 (ctA_ok conAwake6 (ctN_ok _))))))))
  intro args q r h hq
  unfold ckLawPM at h
  split at h
  · cases h
    rename_i x k n f s
    refine pcall_args (args' := [cRec.enc (cRec.dec x), .int .i64 k, .sl (lsOf cRec n f).length (lsF cRec (lsOf cRec n f)), .str s]) ⟨hq.1, VLe.refl _, hq.2.2.1, VLe.refl _, trivial⟩ ?_
    obtain ⟨-, hr, -, ha⟩ := hq
    generalize lsOf cRec n f = l at ha ⊢
    generalize cRec.dec x = r at *
    refine w5 (fun _ => false) [] rfl hct rfl rfl ?_
    push_cast (config := { maxSteps := 10000000 })
    exact ⟨hr, hr, ha, ha, pcs_recs r k, Nat.le_trans (joined_hd ha s) (by decide)⟩
  · cases h
attribute [push_cast] ckLawPM
theorem allLawPM {H : Type} (ds : List (DataW H)) (hh : hasD [.tup [.int .i64, .str, .str, .int .i64, .str, .list (.tup [.str, .str]), .list (.int .u8)], .int .i64, .list (.tup [.int .i64, .str, .str, .int .i64, .str, .list (.tup [.str, .str]), .list (.int .u8)]), .str] ds) : PCall pg 5 (ds.map toV) (.bool true) := by
  obtain ⟨d1, d2, d3, d4, rfl, a, b, c, d⟩ := hasD4 hh
  obtain ⟨n, f, e1, i1, b1, k1⟩ := shRecs c
  obtain ⟨k, e2, c2⟩ := shInt b
  obtain ⟨s, e3, c3⟩ := shStr d
  simp only [List.map_cons, List.map_nil, e1, e2, e3]
  exact conLawPM _ _ _ rfl ⟨(shRec a).1, (shRec a).2, i1, k1⟩

end Go.Abs
