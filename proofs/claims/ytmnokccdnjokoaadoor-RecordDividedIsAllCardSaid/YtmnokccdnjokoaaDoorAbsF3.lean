/- what functions of this program compute: contracts, each a function's own -/
import Derived.Test.YtmnokccdnjokoaaDoorAbsK2
import Derived.Test.YtmnokccdnjokoaaDoorAbsFacts
import Derived.Test.YtmnokccdnjokoaaDoorAbsF2
import Derived.Test.YtmnokccdnjokoaaDoorAbsShelf
import Derived.Lib.SlTrimSet
import Derived.Lib.Atoi
import Derived.Lib.Itoa
import Derived.Lib.ItoaNum
import Derived.Lib.AtoiErrMem
import Derived.Lib.ItoaLen
namespace Go.Abs
open Go Go.Proofs
set_option maxHeartbeats 4000000
set_option maxRecDepth 100000
set_option linter.unusedVariables false
set_option linter.unusedSimpArgs false
def recR (r : Rcd) : List UInt8 := if checkRecL r = 0 then recB r else []
def digR (r : Rcd) : List UInt8 := if checkRecL r = 0 then digestL r.bd else []
def ckRecBytes : Ck
  | [x] => some (isC cRec x ∧ recOk (cRec.dec x), .tup [.sl (recR (cRec.dec x)).length (byF (recR (cRec.dec x))), .int .i64 (checkRecL (cRec.dec x))])
  | _ => none
attribute [push_cast] ckRecBytes
def ckDigestOf : Ck
  | [x] => some (isC cRec x ∧ recOk (cRec.dec x), .tup [.str (digR (cRec.dec x)), .int .i64 (checkRecL (cRec.dec x))])
  | _ => none
theorem conDigestOf : Con pg 15 ckDigestOf := by
  have hct := (ctA_ok conCheckRec (ctA_ok conDigest (ctN_ok _)))
  intro args q r h hq
  unfold ckDigestOf at h
  split at h
  · cases h
    rename_i x
    refine pcall_args (args' := [cRec.enc (cRec.dec x)]) ⟨hq.1, trivial⟩ ?_
    obtain ⟨-, ha⟩ := hq
    generalize cRec.dec x = r at ha ⊢
    refine w15 (fun _ => false) [] rfl hct rfl rfl ?_
    push_cast (config := { maxSteps := 10000000 })
    exact ⟨ha, fun h => by unfold digR; rw [if_neg h], fun h => ⟨by have := (rec_ok h).2.2.2.2.2.2.2.2.2; omega, by unfold digR; rw [if_pos h], h.symm⟩⟩
  · cases h
attribute [push_cast] ckDigestOf
def recA : Rcd := ⟨1, [97], [], 0, [107], [], []⟩
def ckDigNil : Ck
  | [.agg [.int .i64 1, .str [97], .str [], .int .i64 0, .str [107], .nilsl, .nilsl]] => some (True, .tup [.str (digR recA), .int .i64 (checkRecL recA)])
  | _ => none
theorem conDigNil : Con pg 15 ckDigNil := by
  intro args q r h hq
  unfold ckDigNil at h
  split at h
  · cases h
    have hz : ∀ f, VLe .nilsl (.sl 0 f) := fun f => vle1_ok (show vle1 .nilsl (.sl 0 f) from rfl)
    refine pcall_args (args' := [cRec.enc recA]) ⟨VLe.agg ⟨VLe.refl _, VLe.refl _, VLe.refl _, VLe.refl _, VLe.refl _, hz _, hz _, trivial⟩, trivial⟩ ?_
    have := conDigestOf [cRec.enc recA] _ _ rfl ⟨isC_enc cRec recA, ?_⟩
    · rw [cRec.ok] at this
      exact this
    · rw [cRec.ok]
      exact ⟨fun x hx => (by cases hx), by decide, by decide, by decide, by decide, by decide, by decide, by decide, by decide, by decide⟩
  · cases h
attribute [push_cast] ckDigNil
def ckAwake6 : Ck
  | [] => some (True, .bool true)
  | _ => none
theorem conAwake6 : Con pg 6 ckAwake6 := by
  have hct := (ctA_ok conDigNil (ctN_ok _))
  intro args q r h hq
  unfold ckAwake6 at h
  split at h
  · cases h
    refine w6 (fun _ => false) [] rfl hct rfl rfl ?_
    push_cast (config := { maxSteps := 10000000 })
    exact ⟨by decide +kernel, by decide +kernel⟩
  · cases h
attribute [push_cast] ckAwake6

/- lists of records as arguments -/
theorem VLe.slV {n : Nat} {f g : Nat → V} (h : ∀ i, i < n → (g i).flat.length = (f i).flat.length ∧ ∀ j, j < (f i).flat.length → VLe ((f i).flat.getD j .any) ((g i).flat.getD j .any) ∧ ((g i).flat.getD j .any).isPure = true) : VLe (.sl n f) (.sl n g) := by
  intro γ imm w v hr
  cases inv_sl (S := ⟨γ, imm, fun _ => none, w⟩) hr with
  | sl0 _ a c => exact .pure (.sl0 _ a c)
  | sl _ _ b off c sz u hb hnc hs hf hc ho hp =>
    refine .pure (.sl n g b off c sz u hb hnc hs (fun i hi => (h i hi).1.trans (hf i hi)) hc ho (fun i j hi hj => ?_))
    have hj' : j < (f i).flat.length := by rw [hf i hi]; exact hj
    obtain ⟨h1, h2⟩ := (h i hi).2 j hj'
    exact isPure_rep (S := ⟨γ, imm, fun _ => none, w⟩) (h1 _ _ _ _ (.pure (hp i j hi hj))) h2
def isLv {α : Type} (c : Cod α) (n : Nat) (f : Nat → V) : Prop := VLe (.sl n f) (.sl (lsOf c n f).length (lsF c (lsOf c n f)))
theorem shRecX {m : Nat} {v : V} (h : Sh.has (.tup [.int .i64, .str, .str, .int .i64, .str, .list (.tup [.str, .str]), .list (.int .u8)]) m v) : ∃ ki id ow ti ke n f k g, v = .agg [.int .i64 ki, .str id, .str ow, .int .i64 ti, .str ke, .sl n f, .sl k g] ∧ isLs cHd n f ∧ isBy k g := by
  obtain ⟨l, ms, rfl, -, hl⟩ := h
  obtain ⟨m1, v1, ms, l, rfl, h1, hl⟩ := hasL_cons hl
  obtain ⟨m2, v2, ms, l, rfl, h2, hl⟩ := hasL_cons hl
  obtain ⟨m3, v3, ms, l, rfl, h3, hl⟩ := hasL_cons hl
  obtain ⟨m4, v4, ms, l, rfl, h4, hl⟩ := hasL_cons hl
  obtain ⟨m5, v5, ms, l, rfl, h5, hl⟩ := hasL_cons hl
  obtain ⟨m6, v6, ms, l, rfl, h6, hl⟩ := hasL_cons hl
  obtain ⟨m7, v7, ms, l, rfl, h7, hl⟩ := hasL_cons hl
  obtain rfl := hasL_nil hl
  obtain ⟨ki, rfl, c1⟩ := shInt h1
  obtain ⟨id, rfl, b2⟩ := shStr h2
  obtain ⟨ow, rfl, b3⟩ := shStr h3
  obtain ⟨ti, rfl, c4⟩ := shInt h4
  obtain ⟨ke, rfl, b5⟩ := shStr h5
  obtain ⟨n, f, rfl, i6, b6, k6⟩ := shList (c := cHd) (fun m v h => shHead h) h6
  obtain ⟨k, g, rfl, i7, b7⟩ := shBytes h7
  exact ⟨ki, id, ow, ti, ke, n, f, k, g, rfl, i6, i7⟩
theorem shRecs {m : Nat} {v : V} (h : Sh.has (.list (.tup [.int .i64, .str, .str, .int .i64, .str, .list (.tup [.str, .str]), .list (.int .u8)])) m v) : ∃ (n : Nat) (f : Nat → V), v = .sl n f ∧ isLv cRec n f ∧ n ≤ 140737488355328 ∧ recsOk (lsOf cRec n f) := by
  obtain ⟨l, ms, rfl, h1, h2, h3, h4⟩ := h
  have := reach_le
  refine ⟨_, _, rfl, ?_, by omega, fun a ha => ?_⟩
  · unfold isLv
    rw [lsOf_len]
    refine VLe.slV fun i hi => ?_
    obtain ⟨ki, id, ow, ti, ke, n, f, k, g, e, i6, i7⟩ := shRecX (h4 i hi)
    have e : litF l i = _ := e
    have e2 : lsF cRec (lsOf cRec l.length (litF l)) i = cRec.enc (cRec.dec (litF l i)) := by
      unfold lsF lsOf
      rw [List.getD_eq_getElem?_getD, List.getElem?_map, List.getElem?_range hi]; rfl
    rw [e2, e]
    refine ⟨rfl, fun j hj => ?_⟩
    match j, hj with
    | 0, _ => exact ⟨VLe.refl _, rfl⟩
    | 1, _ => exact ⟨VLe.refl _, rfl⟩
    | 2, _ => exact ⟨VLe.refl _, rfl⟩
    | 3, _ => exact ⟨VLe.refl _, rfl⟩
    | 4, _ => exact ⟨VLe.refl _, rfl⟩
    | 5, _ => exact ⟨isLs.vle i6, rfl⟩
    | 6, _ => exact ⟨isBy.vle i7, rfl⟩
  · simp only [lsOf, List.mem_map, List.mem_range] at ha
    obtain ⟨i, hi, rfl⟩ := ha
    exact (shRec (h4 i hi)).2

theorem eq_take {α : Type} [DecidableEq α] {d : α} {a b : List α} (h : a.length = b.length) (hh : ∀ j, j < a.length → a.getD j d = b.getD j d) : a = b := by
  apply List.ext_getElem h
  intro i h1 h2
  have := hh i h1
  rwa [List.getD_eq_getElem?_getD, List.getD_eq_getElem?_getD, List.getElem?_eq_getElem h1, List.getElem?_eq_getElem h2] at this
theorem ne_at {α : Type} {d : α} {a b : List α} {i : Nat} (h : a.getD i d ≠ b.getD i d) : a ≠ b := fun e => h (by rw [e])
def ckEqHd : Ck
  | [.sl n f, .sl m g] => some (isLs cHd n f ∧ isLs cHd m g ∧ n ≤ 4611686018427387904, .bool (decide (lsOf cHd n f = lsOf cHd m g)))
  | _ => none
theorem conEqHd : Con pg 31 ckEqHd := by
  have hct := ctN_ok pg
  intro args q r h hq
  unfold ckEqHd at h
  split at h
  · cases h
    rename_i n f m g
    refine pcall_args (args' := [.sl (lsOf cHd n f).length (lsF cHd (lsOf cHd n f)), .sl (lsOf cHd m g).length (lsF cHd (lsOf cHd m g))]) ⟨isLs.vle hq.1, isLs.vle hq.2.1, trivial⟩ ?_
    have hn : (lsOf cHd n f).length ≤ 4611686018427387904 := by rw [lsOf_len]; exact hq.2.2
    generalize lsOf cHd n f = a at hn ⊢
    generalize lsOf cHd m g = b
    refine w31 (fun _ => false) [] rfl hct rfl rfl ?_
    push_cast (config := { maxSteps := 10000000 })
    refine ⟨fun h => ?_, fun h => ?_⟩
    · exact (decide_eq_false fun e => h (by rw [e])).symm
    refine LoopW.adj ⟨hct, fol⟩ (by kernel_rfl) [] (fun i : Nat => [(0, .sl a.length (lsF cHd a)), (1, .sl b.length (lsF cHd b)), (12, .int .i64 a.length), (13, .int .i64 i)]) (fun _ => []) (fun i => i ≤ a.length ∧ ∀ j, j < i → a.getD j ⟨[], []⟩ = b.getD j ⟨[], []⟩) (fun i => a.length - i) 0 ?_ fun i hi => ?_
    · push_cast (config := { maxSteps := 10000000 })
      exact Nat.zero_le _
    · push_cast (config := { maxSteps := 10000000 })
      obtain ⟨h1, h2⟩ := hi
      refine ⟨fun hlt => ⟨hlt, by omega, fun hne => ?_, fun he => ⟨by omega, i + 1, ⟨by omega, fun j hj => ?_⟩, by omega, by omega⟩⟩, fun hge => ?_⟩
      · exact (decide_eq_false (ne_at (d := ⟨[], []⟩) (i := i) fun e => hne (by rw [e]) (by rw [e]))).symm
      · by_cases e : j = i
        · subst e
          have e1 : ∀ x y : Hd, x.name = y.name → x.value = y.value → x = y := fun x y h h' => by cases x; cases y; simp_all
          exact e1 _ _ he.1 he.2
        · exact h2 j (by omega)
      · exact (decide_eq_true (eq_take (d := ⟨[], []⟩) (by omega) fun j hj => h2 j (by omega))).symm
  · cases h
attribute [push_cast] ckEqHd

def ckSame6 : Ck
  | [.agg [.int .i64 k1, .str i1, .str o1, .int .i64 t1, .str e1, .sl n f, .sl m g], .agg [.int .i64 k2, .str i2, .str o2, .int .i64 t2, .str e2, .sl n' f', .sl m' g']] => some (isLs cHd n f ∧ isLs cHd n' f' ∧ n ≤ 4611686018427387904 ∧ isBy m g ∧ isBy m' g', .bool (decide ((⟨k1, i1, o1, t1, e1, lsOf cHd n f, bytesOf m g⟩ : Rcd) = ⟨k2, i2, o2, t2, e2, lsOf cHd n' f', bytesOf m' g'⟩)))
  | _ => none
theorem conSame6 : Con pg 16 ckSame6 := by
  have hct := (ctA_ok conEqHd (ctA_ok conBEqual (ctN_ok _)))
  intro args q r h hq
  unfold ckSame6 at h
  split at h
  · cases h
    rename_i k1 i1 o1 t1 e1 n f m g k2 i2 o2 t2 e2 n' f' m' g'
    refine w16 (fun _ => false) [] rfl hct rfl rfl ?_
    push_cast (config := { maxSteps := 10000000 })
    obtain ⟨h1, h2, h3, h4, h5⟩ := hq
    refine ⟨fun h => ⟨h, h1, h2, h3⟩, fun h => ⟨h, h4, h5⟩, ?_⟩
    rw [Bool.eq_iff_iff]
    simp only [Bool.and_eq_true, beq_iff_eq, decide_eq_true_eq, Rcd.mk.injEq, and_assoc]
  · cases h
attribute [push_cast] ckSame6
def ckSameAll : Ck
  | [.sl n f, .sl m g] => some (isLs cRec n f ∧ isLs cRec m g ∧ n ≤ 1000000 ∧ (∀ r ∈ lsOf cRec n f, r.hd.length ≤ 4611686018427387904), .bool (decide (lsOf cRec n f = lsOf cRec m g)))
  | _ => none
theorem conSameAll : Con pg 8 ckSameAll := by
  have hct := (ctA_ok conSame6 (ctN_ok _))
  intro args q r h hq
  unfold ckSameAll at h
  split at h
  · cases h
    rename_i n f m g
    refine pcall_args (args' := [.sl (lsOf cRec n f).length (lsF cRec (lsOf cRec n f)), .sl (lsOf cRec m g).length (lsF cRec (lsOf cRec m g))]) ⟨isLs.vle hq.1, isLs.vle hq.2.1, trivial⟩ ?_
    obtain ⟨-, -, hn, hh⟩ := hq
    have hn : (lsOf cRec n f).length ≤ 1000000 := by rw [lsOf_len]; exact hn
    generalize lsOf cRec n f = a at hn hh ⊢
    generalize lsOf cRec m g = b
    refine w8 (fun _ => false) [] rfl hct rfl rfl ?_
    push_cast (config := { maxSteps := 10000000 })
    refine ⟨fun h => ?_, fun h => ?_⟩
    · exact (decide_eq_false fun e => h (by rw [e])).symm
    refine LoopW.adj ⟨hct, fol⟩ (by kernel_rfl) [] (fun i : Nat => [(0, .sl a.length (lsF cRec a)), (1, .sl b.length (lsF cRec b)), (5, .int .i64 i)]) (fun _ => []) (fun i => i ≤ a.length ∧ ∀ j, j < i → a.getD j noRec = b.getD j noRec) (fun i => a.length - i) 0 ?_ fun i hi => ?_
    · push_cast (config := { maxSteps := 10000000 })
      exact Nat.zero_le _
    · push_cast (config := { maxSteps := 10000000 })
      obtain ⟨h1, h2⟩ := hi
      refine ⟨fun hlt => ⟨hlt, by omega, ?_, fun hne => ?_, fun he => ⟨⟨by omega, by omega⟩, i + 1, ⟨by omega, fun j hj => ?_⟩, by omega, by omega⟩⟩, fun hge => ?_⟩
      · exact hh _ (by rw [List.getD_eq_getElem?_getD, List.getElem?_eq_getElem hlt]; exact List.getElem_mem hlt)
      · exact (decide_eq_false (ne_at (d := noRec) (i := i) fun e => hne e)).symm
      · by_cases e : j = i
        · subst e; exact he
        · exact h2 j (by omega)
      · exact (decide_eq_true (eq_take (d := noRec) (by omega) fun j hj => h2 j (by omega))).symm
  · cases h
attribute [push_cast] ckSameAll

def ckLawDA : Ck
  | [.sl n f, .int .i64 m] => some (isLv cRec n f ∧ recsOk (lsOf cRec n f), .bool true)
  | _ => none
theorem conLawDA : Con pg 3 ckLawDA := by
  have hct := (ctA_ok conDivided (ctA_ok conFileBytes (ctA_ok conSameAll (ctA_ok conAwake6 (ctN_ok _)))))
  intro args q r h hq
  unfold ckLawDA at h
  split at h
  · cases h
    rename_i n f m
    refine pcall_args (args' := [.sl (lsOf cRec n f).length (lsF cRec (lsOf cRec n f)), .int .i64 m]) ⟨hq.1, VLe.refl _, trivial⟩ ?_
    obtain ⟨-, ha⟩ := hq
    generalize lsOf cRec n f = l at ha ⊢
    refine w3 (fun _ => false) [] rfl hct rfl rfl ?_
    push_cast (config := { maxSteps := 10000000 })
    refine ⟨ha, fun h => ?_, fun h => ?_⟩
    · have : divL l m = [] := by
        unfold divL
        refine if_neg fun x => h ?_
        unfold divE; rw [if_pos x.1, if_pos x.2]
      rw [this]; rfl
    have hc : checkFileL l = 0 ∧ 1 ≤ m ∧ m ≤ 500000 := by
      unfold divE at h
      split at h
      · rename_i hx
        split at h
        · exact ⟨hx, by assumption⟩
        · cases h
      · exact absurd h (by assumption)
    have eL : divL l m = divOf m l := by unfold divL; rw [if_pos hc]
    rw [eL]
    have hfl := divOf_flat m l
    have hfit := divOf_fit m l
    obtain ⟨d1, d2⟩ := divOf_ok (m := m) hc.1
    obtain ⟨c1, c2, c3⟩ := file_ok hc.1
    generalize divOf m l = L at hfl hfit d1 d2 ⊢
    refine LoopW.adj ⟨hct, fol⟩ (by kernel_rfl) [.nv 7 8000 7 (lsF cRec [])] (fun t : Nat => [(0, .sl l.length (lsF cRec l)), (1, .int .i64 m), (5, .sl L.length (lsF cFile L)), (7, .vec 8000 (L.take t).flatten.length), (8, .int .i64 t)]) (fun t => [(8000, .vec 7 (L.take t).flatten.length (lsF cRec (L.take t).flatten))]) (fun t => t ≤ L.length) (fun t => L.length - t) 0 ?_ fun t ht => ?_
    · push_cast (config := { maxSteps := 10000000 })
      exact ⟨Nat.zero_le _, rfl⟩
    · have ht : t ≤ L.length := ht
      push_cast (config := { maxSteps := 10000000 })
      have hfl' : (L.take t).flatten.length ≤ l.length := by
        have : L.flatten = (L.take t).flatten ++ (L.drop t).flatten := by rw [← List.flatten_append, List.take_append_drop]
        rw [← hfl, this, List.length_append]; omega
      refine ⟨fun hlt => ?_, fun hge => ?_⟩
      · have hm : L.getD t [] ∈ L := by rw [List.getD_eq_getElem?_getD, List.getElem?_eq_getElem hlt]; exact List.getElem_mem hlt
        have et : (L.take (t + 1)).flatten = (L.take t).flatten ++ L.getD t [] := by
          rw [takeG (d := []) hlt, List.flatten_append]; simp
        obtain ⟨x1, x2⟩ := d2 _ hm
        obtain ⟨y1, y2⟩ := hfit _ hm
        have hsub : ∀ r ∈ L.getD t [], r ∈ l := fun r hr => by rw [← hfl]; exact List.mem_flatten.2 ⟨_, hm, hr⟩
        have hfr : fileR (L.getD t []) = fileB (L.getD t []) := by unfold fileR; rw [if_pos x2]
        have h0 : (L.getD t []).length ≠ 0 := fun h => y1 (List.length_eq_zero_iff.1 h)
        rw [hfr]
        generalize L.getD t [] = c at *
        have app := LsI.app (c := cRec) (f := lsF cRec (L.take t).flatten) (g := lsF cRec c) (LsI.ls _) (LsI.ls c) rfl
        rw [← et] at app
        refine ⟨hlt, fun r hr => ha r (hsub r hr), fun h => ⟨h, hlt⟩, fun h => ⟨h, hlt⟩, fun h => ⟨h, fun h' => ⟨h, h'⟩⟩, fun h => ?_, fun h => ⟨hlt, ⟨by omega, by omega⟩, ⟨by omega, by omega⟩, t + 1, by omega, by omega, ⟨by rw [et]; simp, by omega⟩, by rw [et]; simp, app.2⟩⟩
        rcases h with (h | h) | h
        · exact h x2
        · omega
        · omega
      · rw [List.take_of_length_le (by omega), hfl]
        exact ⟨⟨by omega, fun r hr => by have := (rec_ok (c1 r hr)).2.2.2.2.2.2.2.1; omega⟩, rfl⟩
  · cases h
attribute [push_cast] ckLawDA
theorem allLawDA {H : Type} (ds : List (DataW H)) (hh : hasD [.list (.tup [.int .i64, .str, .str, .int .i64, .str, .list (.tup [.str, .str]), .list (.int .u8)]), .int .i64] ds) : PCall pg 3 (ds.map toV) (.bool true) := by
  obtain ⟨d1, d2, rfl, a, b⟩ := hasD2 hh
  obtain ⟨n, f, e1, i1, b1, k1⟩ := shRecs a
  obtain ⟨m, e2, _⟩ := shInt b
  simp only [List.map_cons, List.map_nil, e1, e2]
  exact conLawDA _ _ _ rfl ⟨i1, k1⟩

/-- the number of the record with a name, or -1 -/
def fndL (l : List Rcd) (s : List UInt8) : Int := match l.findIdx? (fun r => r.id == s) with
  | some k => k
  | none => -1
theorem fndL_at {l : List Rcd} {s : List UInt8} {i : Nat} (hi : i < l.length) (h : (l.getD i noRec).id = s) (hn : ∀ j, j < i → (l.getD j noRec).id ≠ s) : fndL l s = i := by
  unfold fndL
  have : l.findIdx? (fun r => r.id == s) = some i := by
    rw [List.findIdx?_eq_some_iff_getElem]
    refine ⟨hi, ?_, fun j hj => ?_⟩
    · rw [List.getD_eq_getElem?_getD, List.getElem?_eq_getElem hi] at h; exact beq_iff_eq.2 h
    · have h1 := hn j hj
      rw [List.getD_eq_getElem?_getD, List.getElem?_eq_getElem (by omega)] at h1
      simpa using h1
  rw [this]
theorem fndL_no {l : List Rcd} {s : List UInt8} (hn : ∀ j, j < l.length → (l.getD j noRec).id ≠ s) : fndL l s = -1 := by
  unfold fndL
  have : l.findIdx? (fun r => r.id == s) = none := by
    rw [List.findIdx?_eq_none_iff]
    intro x hx
    obtain ⟨j, hj, rfl⟩ := List.getElem_of_mem hx
    have h1 := hn j hj
    rw [List.getD_eq_getElem?_getD, List.getElem?_eq_getElem hj] at h1
    simpa using h1
  rw [this]
theorem fndL_in (l : List Rcd) (s : List UInt8) : 0 ≤ fndL l s ↔ (l.map Rcd.id).contains s = true := by
  unfold fndL
  cases h : l.findIdx? (fun r => r.id == s) with
  | none =>
    rw [List.findIdx?_eq_none_iff] at h
    constructor
    · intro h'; have h' : (0 : Int) ≤ -1 := h'; omega
    · intro h'
      rw [List.contains_iff_mem, List.mem_map] at h'
      obtain ⟨r, hr, e⟩ := h'
      have := h r hr
      rw [e] at this; simp at this
  | some k =>
    rw [List.findIdx?_eq_some_iff_getElem] at h
    obtain ⟨hk, h1, _⟩ := h
    constructor
    · intro _
      rw [List.contains_iff_mem, List.mem_map]
      exact ⟨l[k], List.getElem_mem hk, beq_iff_eq.1 h1⟩
    · intro _; exact Int.natCast_nonneg k
theorem fndL_ok {l : List Rcd} {s : List UInt8} (h : 0 ≤ fndL l s) : (fndL l s).toNat < l.length ∧ (l.getD (fndL l s).toNat noRec).id = s ∧ ∀ j, j < (fndL l s).toNat → (l.getD j noRec).id ≠ s := by
  unfold fndL at h ⊢
  cases e : l.findIdx? (fun r => r.id == s) with
  | none => rw [e] at h; have h : (0 : Int) ≤ -1 := h; omega
  | some k =>
    rw [List.findIdx?_eq_some_iff_getElem] at e
    obtain ⟨hk, h1, h2⟩ := e
    refine ⟨hk, ?_, fun j hj => ?_⟩
    · show (l.getD k noRec).id = s
      rw [List.getD_eq_getElem?_getD, List.getElem?_eq_getElem hk]; exact beq_iff_eq.1 h1
    · have hj : j < k := hj
      have := h2 j hj
      rw [List.getD_eq_getElem?_getD, List.getElem?_eq_getElem (by omega)]
      simpa using this
theorem fndL_b (l : List Rcd) (s : List UInt8) : -1 ≤ fndL l s ∧ fndL l s < l.length := by
  by_cases h : 0 ≤ fndL l s
  · have := (fndL_ok h).1; omega
  · refine ⟨?_, by omega⟩
    unfold fndL
    split <;> omega
def ckFind : Ck
  | [.sl n f, .str s] => some (isLs cRec n f ∧ n ≤ 4611686018427387900, .int .i64 (fndL (lsOf cRec n f) s))
  | _ => none
theorem conFind : Con pg 11 ckFind := by
  have hct := ctN_ok pg
  intro args q r h hq
  unfold ckFind at h
  split at h
  · cases h
    rename_i n f s
    refine pcall_args (args' := [.sl (lsOf cRec n f).length (lsF cRec (lsOf cRec n f)), .str s]) ⟨isLs.vle hq.1, VLe.refl _, trivial⟩ ?_
    have hn : (lsOf cRec n f).length ≤ 4611686018427387900 := by rw [lsOf_len]; exact hq.2
    generalize lsOf cRec n f = l at hn ⊢
    refine w11 (fun _ => false) [] rfl hct rfl rfl ?_
    push_cast (config := { maxSteps := 10000000 })
    refine LoopW.adj ⟨hct, fol⟩ (by kernel_rfl) [] (fun i : Nat => [(0, .sl l.length (lsF cRec l)), (1, .str s), (5, .int .i64 i)]) (fun _ => []) (fun i => i ≤ l.length ∧ ∀ j, j < i → (l.getD j noRec).id ≠ s) (fun i => l.length - i) 0 ?_ fun i hi => ?_
    · push_cast (config := { maxSteps := 10000000 })
      exact Nat.zero_le _
    · push_cast (config := { maxSteps := 10000000 })
      obtain ⟨h1, h2⟩ := hi
      refine ⟨fun h => ⟨h, fun g => (fndL_at h g h2).symm, fun g => ⟨⟨by omega, by omega⟩, i + 1, ⟨by omega, fun j hj => ?_⟩, by omega, by omega⟩⟩, fun h => (fndL_no fun j hj => h2 j (by omega)).symm⟩
      by_cases e : j = i
      · subst e; exact g
      · exact h2 j (by omega)
  · cases h
attribute [push_cast] ckFind

/- the names of a right file are apart -/
theorem cf_nodup' : ∀ {l : List Rcd} {s : List (List UInt8)} {m : Int}, cfGo s m l = 0 → (∀ r ∈ l, s.contains r.id = false) ∧ (l.map Rcd.id).Nodup
  | [], s, m, h => ⟨fun r hr => (by cases hr), List.nodup_nil⟩
  | r :: t, s, m, h => by
    rw [cfGo] at h
    by_cases h1 : checkRecL r = 0
    · rw [if_neg (fun x => x h1)] at h
      by_cases h2 : s.contains r.id = true
      · rw [if_pos h2] at h; omega
      · rw [if_neg h2] at h
        obtain ⟨a, b⟩ := cf_nodup' h
        refine ⟨fun x hx => ?_, ?_⟩
        · rcases List.mem_cons.1 hx with rfl | hx
          · simpa using h2
          · have := a x hx
            simp only [Bool.eq_false_iff, ne_eq, List.contains_iff_mem, List.mem_append, not_or] at this ⊢
            exact this.1
        · rw [List.map_cons, List.nodup_cons]
          refine ⟨fun hm => ?_, b⟩
          obtain ⟨x, hx, e⟩ := List.mem_map.1 hm
          have := a x hx
          simp [e] at this
    · rw [if_pos h1] at h; exact absurd h h1
theorem file_apart {l : List Rcd} (h : checkFileL l = 0) {i j : Nat} (hi : i < l.length) (hj : j < l.length) (e : (l.getD i noRec).id = (l.getD j noRec).id) : i = j := by
  have hn : (l.map Rcd.id).Nodup := by
    unfold checkFileL at h
    split at h
    · omega
    · exact (cf_nodup' h).2
  rw [List.getD_eq_getElem?_getD, List.getD_eq_getElem?_getD, List.getElem?_eq_getElem hi, List.getElem?_eq_getElem hj] at e
  have := (List.getElem_inj (i := i) (j := j) (xs := l.map Rcd.id) (h₀ := by simpa using hi) (h₁ := by simpa using hj) hn).1
  exact this (by simpa using e)
/-- one record's step -/
def woS (s : List (List UInt8)) (r : Rcd) : List (List UInt8) := if s.contains r.id = false ∧ s.contains r.ow = true then s ++ [r.id] else s
/-- once over all records -/
def woP (s : List (List UInt8)) (l : List Rcd) : List (List UInt8) := l.foldl woS s
def woN (l : List Rcd) : Nat → List (List UInt8) → List (List UInt8)
  | 0, s => s
  | n + 1, s => woN l n (woP s l)
theorem woP_cons (s : List (List UInt8)) (r : Rcd) (t : List Rcd) : woP s (r :: t) = woP (woS s r) t := rfl
theorem woS_or (s : List (List UInt8)) (r : Rcd) : woS s r = s ∨ (s.contains r.id = false ∧ woS s r = s ++ [r.id]) := by
  unfold woS
  split
  · rename_i h; exact .inr ⟨h.1, rfl⟩
  · exact .inl rfl
theorem woS_sub (s : List (List UInt8)) (r : Rcd) {x : List UInt8} (h : s.contains x = true) : (woS s r).contains x = true := by
  rcases woS_or s r with e | ⟨_, e⟩ <;> rw [e]
  · exact h
  · rw [List.contains_iff_mem] at h ⊢; exact List.mem_append_left _ h
theorem woP_sub : ∀ (t : List Rcd) (s : List (List UInt8)) {x : List UInt8}, s.contains x = true → (woP s t).contains x = true
  | [], _, _, h => h
  | r :: t, s, _, h => woP_sub t _ (woS_sub s r h)
theorem woP_len : ∀ (t : List Rcd) (s : List (List UInt8)), s.length ≤ (woP s t).length
  | [], _ => Nat.le_refl _
  | r :: t, s => by
    rw [woP_cons]
    have := woP_len t (woS s r)
    rcases woS_or s r with e | ⟨_, e⟩ <;> rw [e] at this ⊢
    · exact this
    · simp at this; omega
theorem woP_same : ∀ (t : List Rcd) (s : List (List UInt8)), (woP s t).length = s.length → woP s t = s ∧ ∀ r ∈ t, woS s r = s
  | [], s, _ => ⟨rfl, fun r hr => by cases hr⟩
  | r :: t, s, h => by
    rw [woP_cons] at h ⊢
    have h2 := woP_len t (woS s r)
    rcases woS_or s r with e | ⟨_, e⟩
    · rw [e] at h h2 ⊢
      obtain ⟨a, b⟩ := woP_same t s h
      exact ⟨a, fun x hx => by rcases List.mem_cons.1 hx with rfl | hx; exact e; exact b x hx⟩
    · rw [e] at h h2; simp at h2; omega
/-- how many are not in -/
def woC (l : List Rcd) (s : List (List UInt8)) : Nat := (l.filter fun r => !s.contains r.id).length
theorem woC_le {l : List Rcd} {s s' : List (List UInt8)} (h : ∀ x, s.contains x = true → s'.contains x = true) : woC l s' ≤ woC l s := by
  unfold woC
  induction l with
  | nil => exact Nat.le_refl _
  | cons r t ih =>
    simp only [List.filter_cons]
    cases e : s.contains r.id with
    | true => rw [h _ e]; simpa using ih
    | false =>
      cases e' : s'.contains r.id
      · simp only [Bool.not_false, if_true, List.length_cons]; omega
      · simp only [Bool.not_false, Bool.not_true, if_true, List.length_cons, Bool.false_eq_true, if_false]; omega
theorem woC_lt {l : List Rcd} {s s' : List (List UInt8)} (h : ∀ x, s.contains x = true → s'.contains x = true) {r : Rcd} (hr : r ∈ l) (h1 : s.contains r.id = false) (h2 : s'.contains r.id = true) : woC l s' < woC l s := by
  obtain ⟨a, b, rfl⟩ := List.append_of_mem hr
  have ha := woC_le (l := a) h
  have hb := woC_le (l := b) h
  unfold woC at ha hb ⊢
  rw [List.filter_append, List.filter_append, List.length_append, List.length_append, List.filter_cons, List.filter_cons, h1, h2]
  simp only [Bool.not_true, Bool.not_false, if_true, List.length_cons]
  simp only [Bool.false_eq_true, if_false]
  omega
theorem woP_new : ∀ (t : List Rcd) (s : List (List UInt8)), (woP s t).length ≠ s.length → ∃ r ∈ t, s.contains r.id = false ∧ (woP s t).contains r.id = true
  | [], s, h => absurd rfl h
  | r :: t, s, h => by
    rw [woP_cons] at h ⊢
    rcases woS_or s r with e | ⟨e0, e⟩
    · rw [e] at h ⊢
      obtain ⟨x, hx, h1, h2⟩ := woP_new t s h
      exact ⟨x, List.mem_cons_of_mem _ hx, h1, h2⟩
    · exact ⟨r, by simp, e0, woP_sub t _ (by rw [e, List.contains_iff_mem]; simp)⟩
theorem woP_dec {l : List Rcd} {s : List (List UInt8)} (h : (woP s l).length ≠ s.length) : woC l (woP s l) < woC l s := by
  obtain ⟨r, hr, h1, h2⟩ := woP_new l s h
  exact woC_lt (fun x hx => woP_sub l s hx) hr h1 h2
theorem woN_fix {l : List Rcd} {s : List (List UInt8)} (h : woP s l = s) : ∀ n, woN l n s = s
  | 0 => rfl
  | n + 1 => by rw [woN, h]; exact woN_fix h n
theorem woN_end {l : List Rcd} : ∀ (n : Nat) (s : List (List UInt8)), woC l s ≤ n → woP (woN l n s) l = woN l n s
  | 0, s, h => by
    rw [woN]
    refine (woP_same l s ?_).1
    refine Classical.byContradiction fun hne => ?_
    have := woP_dec hne
    omega
  | n + 1, s, h => by
    rw [woN]
    by_cases e : (woP s l).length = s.length
    · rw [(woP_same l s e).1, woN_fix (woP_same l s e).1, (woP_same l s e).1]
    · exact woN_end n _ (by have := woP_dec e; omega)
theorem woN_comm (l : List Rcd) : ∀ (n : Nat) (s : List (List UInt8)), woN l (n + 1) s = woP (woN l n s) l
  | 0, s => rfl
  | n + 1, s => by rw [woN, woN_comm l n, ← woN]
theorem woC_len (l : List Rcd) (s : List (List UInt8)) : woC l s ≤ l.length := List.length_filter_le _ _
/-- all that is gone -/
def woA (l : List Rcd) (s : List (List UInt8)) : List (List UInt8) := woN l l.length s
theorem woA_step (l : List Rcd) (s : List (List UInt8)) : woA l (woP s l) = woA l s := by
  show woN l (l.length + 1) s = _
  rw [woN_comm]
  exact woN_end _ _ (woC_len l s)
theorem woA_fix (l : List Rcd) (s : List (List UInt8)) : woP (woA l s) l = woA l s := woN_end _ _ (woC_len l s)
theorem woN_sub {l : List Rcd} : ∀ (n : Nat) (s : List (List UInt8)) {x : List UInt8}, s.contains x = true → (woN l n s).contains x = true
  | 0, _, _, h => h
  | n + 1, s, _, h => woN_sub n _ (woP_sub l s h)
/-- the error of names, each of a record -/
def woE (l : List Rcd) : List (List UInt8) → Int
  | [] => 0
  | x :: t => if nameL x = true then (if 0 ≤ fndL l x then woE l t else 9) else 5
def woErr (l : List Rcd) (ids : List (List UInt8)) : Int := if checkFileL l = 0 then (if 1000 < ids.length then 2 else woE l ids) else checkFileL l
def woK (l : List Rcd) (s : List (List UInt8)) : List Rcd := l.filter fun r => !s.contains r.id
def woL (l : List Rcd) (ids : List (List UInt8)) : List Rcd := if woErr l ids = 0 then woK l (woA l ids) else []
theorem woE_ok : ∀ {l : List Rcd} {t : List (List UInt8)}, woE l t = 0 → ∀ x ∈ t, nameL x = true ∧ 0 ≤ fndL l x
  | l, [], _, x, hx => by cases hx
  | l, y :: t, h, x, hx => by
    rw [woE] at h
    split at h
    · split at h
      · rcases List.mem_cons.1 hx with rfl | hx
        · exact ⟨by assumption, by assumption⟩
        · exact woE_ok h x hx
      · cases h
    · cases h
/- marks by number -/
def WoR (l : List Rcd) (s : List (List UInt8)) (g : Nat → Bool) : Prop := (∀ i, i < l.length → g i = s.contains (l.getD i noRec).id) ∧ ∀ x ∈ s, 0 ≤ fndL l x
def setB (g : Nat → Bool) (i : Nat) : Nat → Bool := fun j => bif decide (j = i) then true else g j
theorem fndL_own {l : List Rcd} {i : Nat} (hi : i < l.length) : 0 ≤ fndL l (l.getD i noRec).id := by
  rw [fndL_in, List.contains_iff_mem, List.mem_map]
  exact ⟨l.getD i noRec, by rw [List.getD_eq_getElem?_getD, List.getElem?_eq_getElem hi]; exact List.getElem_mem hi, rfl⟩
theorem wor_put {l : List Rcd} (ha : ∀ i j, i < l.length → j < l.length → (l.getD i noRec).id = (l.getD j noRec).id → i = j) {s : List (List UInt8)} {g : Nat → Bool} (h : WoR l s g) {i : Nat} (hi : i < l.length) : WoR l (s ++ [(l.getD i noRec).id]) (setB g i) := by
  refine ⟨fun j hj => ?_, fun x hx => ?_⟩
  · unfold setB
    by_cases e : j = i
    · subst e
      rw [decide_eq_true rfl]
      exact (List.contains_iff_mem.2 (by simp)).symm
    · rw [decide_eq_false e, cond_false, h.1 j hj, Bool.eq_iff_iff, List.contains_iff_mem, List.contains_iff_mem, List.mem_append, List.mem_singleton]
      exact ⟨.inl, fun x => x.elim id fun q => absurd (ha j i hj hi q) e⟩
  · rcases List.mem_append.1 hx with hx | hx
    · exact h.2 x hx
    · rw [List.mem_singleton.1 hx]; exact fndL_own hi
theorem wor_same {l : List Rcd} {s : List (List UInt8)} {g : Nat → Bool} (h : WoR l s g) {i : Nat} (hi : i < l.length) (hc : s.contains (l.getD i noRec).id = true) : WoR l s (setB g i) := by
  refine ⟨fun j hj => ?_, h.2⟩
  unfold setB
  by_cases e : j = i
  · subst e; rw [decide_eq_true rfl, hc]; rfl
  · rw [decide_eq_false e]; exact h.1 j hj
theorem wor_ow {l : List Rcd} {s : List (List UInt8)} {g : Nat → Bool} (h : WoR l s g) (x : List UInt8) : s.contains x = true ↔ 0 ≤ fndL l x ∧ g (fndL l x).toNat = true := by
  constructor
  · intro hc
    have h0 := h.2 x (List.contains_iff_mem.1 hc)
    obtain ⟨a, b, _⟩ := fndL_ok h0
    exact ⟨h0, by rw [h.1 _ a, b]; exact hc⟩
  · rintro ⟨h0, hg⟩
    obtain ⟨a, b, _⟩ := fndL_ok h0
    rw [h.1 _ a, b] at hg
    exact hg
/-- the step of marks -/
theorem wor_step {l : List Rcd} (ha : ∀ i j, i < l.length → j < l.length → (l.getD i noRec).id = (l.getD j noRec).id → i = j) {s : List (List UInt8)} {g : Nat → Bool} (h : WoR l s g) {i : Nat} (hi : i < l.length) :
    (s.contains (l.getD i noRec).ow = true → WoR l (woS s (l.getD i noRec)) (setB g i)) ∧ (¬ s.contains (l.getD i noRec).ow = true → WoR l (woS s (l.getD i noRec)) g) := by
  refine ⟨fun hc => ?_, fun hc => ?_⟩
  · unfold woS
    by_cases e : s.contains (l.getD i noRec).id = true
    · rw [if_neg (by rw [e]; simp)]; exact wor_same h hi e
    · rw [if_pos ⟨by simpa using e, hc⟩]; exact wor_put ha h hi
  · unfold woS
    rw [if_neg (fun x => hc x.2)]; exact h
theorem woP_take {l : List Rcd} {s : List (List UInt8)} {i : Nat} (hi : i < l.length) : woP s (l.take (i + 1)) = woS (woP s (l.take i)) (l.getD i noRec) := by
  rw [takeG (d := noRec) hi]
  unfold woP
  rw [List.foldl_append]; rfl
/- what is kept, step by step -/
theorem woK_take {l : List Rcd} {s : List (List UInt8)} {i : Nat} (hi : i < l.length) : woK (l.take (i + 1)) s = if s.contains (l.getD i noRec).id = true then woK (l.take i) s else woK (l.take i) s ++ [l.getD i noRec] := by
  rw [takeG (d := noRec) hi]
  unfold woK
  rw [List.filter_append, List.filter_cons]
  cases s.contains (l.getD i noRec).id <;> simp
theorem woK_len (l : List Rcd) (s : List (List UInt8)) : (woK l s).length ≤ l.length := List.length_filter_le _ _
/- what the law says -/
theorem wo_none {l : List Rcd} {ids : List (List UInt8)} {x : Rcd} (hx : x ∈ woK l (woA l ids)) : ids.contains x.id = false := by
  unfold woK at hx
  rw [List.mem_filter] at hx
  cases e : ids.contains x.id with
  | false => rfl
  | true =>
    have := woN_sub (l := l) l.length ids e
    have h2 := hx.2
    unfold woA at h2
    rw [this] at h2; cases h2
theorem wo_of {l : List Rcd} {ids : List (List UInt8)} {x : Rcd} (hx : x ∈ woK l (woA l ids)) (h : 0 ≤ fndL l x.ow) : 0 ≤ fndL (woK l (woA l ids)) x.ow := by
  rw [fndL_in, List.contains_iff_mem, List.mem_map] at h ⊢
  obtain ⟨y, hy, e⟩ := h
  refine ⟨y, ?_, e⟩
  unfold woK at hx ⊢
  rw [List.mem_filter] at hx ⊢
  refine ⟨hy, ?_⟩
  cases hc : (woA l ids).contains y.id with
  | false => rfl
  | true =>
    have hf := (woP_same l (woA l ids) (by rw [woA_fix])).2 x hx.1
    have h1 : (woA l ids).contains x.id = false := by simpa using hx.2
    unfold woS at hf
    rw [if_pos ⟨h1, by rw [← e]; exact hc⟩] at hf
    have := congrArg List.length hf
    simp at this

theorem woL_ok (l : List Rcd) (s : List (List UInt8)) : (woL l s).length ≤ 1000 ∧ ∀ r ∈ woL l s, r ∈ l ∧ checkRecL r = 0 := by
  unfold woL
  split
  · rename_i h
    have hc : checkFileL l = 0 := by
      unfold woErr at h
      split at h
      · assumption
      · exact h
    obtain ⟨c1, c2, c3⟩ := file_ok hc
    have := woK_len l (woA l s)
    refine ⟨by omega, fun r hr => ?_⟩
    have : r ∈ l := (List.mem_filter.1 hr).1
    exact ⟨this, c1 r this⟩
  · exact ⟨by simp, fun x hx => by cases hx⟩

/- the record with a name -/
def ckFClK : List V → List Blk → Option (Prop × V × List Blk)
  | [.agg [.int .i64 ki, .str id, .str ow, .int .i64 ti, .str ke, x, y], .ptr i 0], [.cells [.str s]] => some (True, .bool (id == s), [.cells [.str s]])
  | _, _ => none
def ckFCl : Cf := ⟨fun | [_, .ptr i _] => [i] | _ => [], ckFClK⟩
theorem conFCl : FCon pg 35 ckFCl := by
  have hct := ctN_ok pg
  intro args bs q r bs' h hq
  replace h : ckFClK args bs = some (q, r, bs') := h
  unfold ckFClK at h
  split at h
  · cases h
    rename_i ki id ow ti ke x y i s
    refine ⟨rfl, by first | exact Nat.le_refl _ | exact Nat.zero_le _, ?_⟩
    show FCall pg 35 [.agg [.int .i64 ki, .str id, .str ow, .int .i64 ti, .str ke, x.shift, y.shift], .ptr (i + 9000) 0] [(i + 9000, .cells [.str s])] (.bool (id == s)) [(i + 9000, .cells [.str s])]
    refine fw35 (fun _ => false) [] rfl hct rfl (by simp) (by simp [hlIn, idsIn, Blk.menIn, V.menInL, V.menIn, V.flat, byF, lsF]) (by simp [V.menIn, V.menInL, idsIn]) ?_
    push_cast (config := { maxSteps := 10000000 })
  · cases h
attribute [push_cast] ckFClK
@[push_cast] theorem fcl_ids (x : V) (i o : Nat) : ckFCl.ids [x, .ptr i o] = [i] := rfl
@[push_cast] theorem fcl_k {id ow ke s : List UInt8} {ki ti : Int} {x y : V} (i : Nat) : ckFCl.k [.agg [.int .i64 ki, .str id, .str ow, .int .i64 ti, .str ke, x, y], .ptr i 0] [.cells [.str s]] = some (True, .bool (id == s), [.cells [.str s]]) := rfl
@[push_cast] theorem vle_fnR (f : Fn) (a b : List V) : vle (.fn f a b) (.fn f a b) = True := eq_true rfl
def ckIxRK : List V → List Blk → Option (Prop × V × List Blk)
  | [.sl n f, .fn (.func 35) [] [.ptr i 0]], [.cells [.str s]] => some (isLs cRec n f ∧ n ≤ 4611686018427387900, .int .i64 (fndL (lsOf cRec n f) s), [.cells [.str s]])
  | _, _ => none
def ckIxR : Cf := ⟨fun | [_, .fn _ _ [.ptr i _]] => [i] | _ => [], ckIxRK⟩
theorem conIxR : FCon pg 34 ckIxR := by
  have hct := (ctF_ok conFCl (ctN_ok _))
  intro args bs q r bs' h hq
  replace h : ckIxRK args bs = some (q, r, bs') := h
  unfold ckIxRK at h
  split at h
  · cases h
    rename_i n f i s
    refine ⟨rfl, by first | exact Nat.le_refl _ | exact Nat.zero_le _, ?_⟩
    refine fcall_args (args' := [.sl (lsOf cRec n f).length (lsF cRec (lsOf cRec n f)), .fn (.func 35) [] [.ptr (i + 9000) 0]]) ⟨isLs.vle hq.1, VLe.refl _, trivial⟩ ?_
    have hn : (lsOf cRec n f).length ≤ 4611686018427387900 := by rw [lsOf_len]; exact hq.2
    generalize lsOf cRec n f = l at hn ⊢
    show FCall pg 34 [.sl l.length (lsF cRec l), .fn (.func 35) [] [.ptr (i + 9000) 0]] [(i + 9000, .cells [.str s])] (.int .i64 (fndL l s)) [(i + 9000, .cells [.str s])]
    refine fw34 (fun _ => false) [] rfl hct rfl (by simp) (by simp [hlIn, idsIn, Blk.menIn, V.menInL, V.menIn, V.flat, byF, lsF]) (by simp [V.menIn, V.menInL, idsIn]) ?_
    push_cast (config := { maxSteps := 10000000 })
    refine LoopW.adj ⟨hct, fol⟩ (by kernel_rfl) [] (fun k : Nat => [(0, .sl l.length (lsF cRec l)), (1, .fn (.func 35) [] [.ptr (i + 9000) 0]), (7, .int .i64 l.length), (8, .int .i64 k)]) (fun _ => [(i + 9000, .cells [.str s])]) (fun k => k ≤ l.length ∧ ∀ j, j < k → (l.getD j noRec).id ≠ s) (fun k => l.length - k) 0 ?_ fun k hk => ?_
    · push_cast (config := { maxSteps := 10000000 })
      exact Nat.zero_le _
    · push_cast (config := { maxSteps := 10000000 })
      obtain ⟨h1, h2⟩ := hk
      refine ⟨fun h => ⟨h, fun h3 => (fndL_at h h3 h2).symm, fun h3 => ⟨⟨by omega, by omega⟩, k + 1, ⟨by omega, fun j hj => ?_⟩, by omega, by omega⟩⟩, fun h => (fndL_no fun j hj => h2 j (by omega)).symm⟩
      by_cases e : j = k
      · subst e; exact h3
      · exact h2 j (by omega)
  · cases h
attribute [push_cast] ckIxRK
@[push_cast] theorem ixR_ids (x : V) (f : Fn) (i o : Nat) : ckIxR.ids [x, .fn f [] [.ptr i o]] = [i] := rfl
@[push_cast] theorem ixR_k {n : Nat} {f : Nat → V} {s : List UInt8} (i : Nat) : ckIxR.k [.sl n f, .fn (.func 35) [] [.ptr i 0]] [.cells [.str s]] = some (isLs cRec n f ∧ n ≤ 4611686018427387900, .int .i64 (fndL (lsOf cRec n f) s), [.cells [.str s]]) := rfl
def fndR (l : List Rcd) (s : List UInt8) : Rcd := if 0 ≤ fndL l s then l.getD (fndL l s).toNat noRec else noRec
def ckFind6 : Ck
  | [.sl n f, .str s] => some (isLs cRec n f ∧ n ≤ 4611686018427387900, .tup [cRec.enc (fndR (lsOf cRec n f) s), .bool (decide (0 ≤ fndL (lsOf cRec n f) s))])
  | _ => none
theorem conFind6 : Con pg 18 ckFind6 := by
  have hct := (ctF_ok conIxR (ctN_ok _))
  intro args q r h hq
  unfold ckFind6 at h
  split at h
  · cases h
    rename_i n f s
    refine pcall_args (args' := [.sl (lsOf cRec n f).length (lsF cRec (lsOf cRec n f)), .str s]) ⟨isLs.vle hq.1, VLe.refl _, trivial⟩ ?_
    have hn : (lsOf cRec n f).length ≤ 4611686018427387900 := by rw [lsOf_len]; exact hq.2
    generalize lsOf cRec n f = l at hn ⊢
    refine w18 (fun _ => false) [] rfl hct rfl rfl ?_
    push_cast (config := { maxSteps := 10000000 })
    refine ⟨hn, fun h => ?_, fun h => ?_⟩
    · have e : fndR l s = noRec := by unfold fndR; rw [if_neg (by omega)]
      rw [e]
      exact ⟨⟨rfl, rfl, rfl, rfl, rfl, rfl, rfl⟩, (decide_eq_false (by omega)).symm⟩
    · have e : fndR l s = l.getD (fndL l s).toNat noRec := by unfold fndR; rw [if_pos (by omega)]
      rw [e]
      exact ⟨⟨by omega, (fndL_b l s).2⟩, ⟨rfl, rfl, rfl, rfl, rfl, ⟨rfl, fun _ _ => rfl⟩, rfl, fun _ _ => rfl⟩, (decide_eq_true (by omega)).symm⟩
  · cases h
attribute [push_cast] ckFind6

end Go.Abs
