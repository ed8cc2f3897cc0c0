/- what functions of this program compute: contracts, each a function's own -/
import Derived.Test.YtacpgblabfelhaaGreatDoorAbsK2
import Derived.Test.YtacpgblabfelhaaGreatDoorAbsFacts
import Derived.Test.YtacpgblabfelhaaGreatDoorAbsF8
import Derived.Test.YtacpgblabfelhaaGreatDoorAbsShelf
import Derived.Lib.SlTrimSet
import Derived.Lib.Atoi
import Derived.Lib.Itoa
import Derived.Lib.ItoaNum
import Derived.Lib.AtoiErrMem
import Derived.Lib.ItoaLen
import Derived.Lib.SplitLaws
import Derived.Shelf.Bytes.SlIndexWhole
import Derived.Lib.Index
import Derived.Lib.IndexBytes
import Derived.Shelf.Spec.SlicesGrow
namespace Go.Abs
open Go Go.Proofs
set_option maxHeartbeats 4000000
set_option maxRecDepth 100000
set_option linter.unusedVariables false
set_option linter.unusedSimpArgs false
def recR (r : Rcd) : List UInt8 := if checkRecL r = 0 then recB r else []
def digR (r : Rcd) : List UInt8 := if checkRecL r = 0 then digestL r.bd else []
def ckRecBytes : Ck
  | [x] => some (isC cRec x ∧ recOk (cRec.dec x), .tup [.sl (recR (cRec.dec x)).length (byF (recR (cRec.dec x))), .int .i64 (checkRecL (cRec.dec x))])
  | _ => none
theorem conRecBytes : Con pg 35 ckRecBytes := by
  have hct := (ctA_ok conCheckRec (ctA_ok conWrite (ctN_ok _)))
  intro args q r h hq
  unfold ckRecBytes at h
  split at h
  · cases h
    rename_i x
    refine pcall_args (args' := [cRec.enc (cRec.dec x)]) ⟨hq.1, trivial⟩ ?_
    obtain ⟨-, ha⟩ := hq
    generalize cRec.dec x = r at ha ⊢
    refine w35 (fun _ => false) [] rfl hct rfl rfl ?_
    push_cast (config := { maxSteps := 10000000 })
    have e : checkRecL r = 0 → recR r = recB r := fun h => by unfold recR; rw [if_pos h]
    refine ⟨ha, fun h => by unfold recR; rw [if_neg h]; rfl, fun h => ⟨⟨ha, h⟩, ?_, h.symm⟩⟩
    rw [e h]
    exact ⟨rfl, fun _ _ => rfl⟩
  · cases h
attribute [push_cast] ckRecBytes
def ckDigestOf : Ck
  | [x] => some (isC cRec x ∧ recOk (cRec.dec x), .tup [.str (digR (cRec.dec x)), .int .i64 (checkRecL (cRec.dec x))])
  | _ => none
theorem conDigestOf : Con pg 62 ckDigestOf := by
  have hct := (ctA_ok conCheckRec (ctA_ok conDigest (ctN_ok _)))
  intro args q r h hq
  unfold ckDigestOf at h
  split at h
  · cases h
    rename_i x
    refine pcall_args (args' := [cRec.enc (cRec.dec x)]) ⟨hq.1, trivial⟩ ?_
    obtain ⟨-, ha⟩ := hq
    generalize cRec.dec x = r at ha ⊢
    refine w62 (fun _ => false) [] rfl hct rfl rfl ?_
    push_cast (config := { maxSteps := 10000000 })
    exact ⟨ha, fun h => by unfold digR; rw [if_neg h], fun h => ⟨by have := (rec_ok h).2.2.2.2.2.2.2.2.2; omega, by unfold digR; rw [if_pos h], h.symm⟩⟩
  · cases h
attribute [push_cast] ckDigestOf
def recA : Rcd := ⟨1, [97], [], 0, [107], [], []⟩
def ckDigNil : Ck
  | [.agg [.int .i64 1, .str [97], .str [], .int .i64 0, .str [107], .nilsl, .nilsl]] => some (True, .tup [.str (digR recA), .int .i64 (checkRecL recA)])
  | _ => none
theorem conDigNil : Con pg 62 ckDigNil := by
  intro args q r h hq
  unfold ckDigNil at h
  split at h
  · cases h
    have hz : ∀ f, VLe .nilsl (.sl 0 f) := fun f => vle1_ok (show vle1 .nilsl (.sl 0 f) from rfl)
    refine pcall_args (args' := [cRec.enc recA]) ⟨VLe.agg ⟨VLe.refl _, VLe.refl _, VLe.refl _, VLe.refl _, VLe.refl _, hz _, hz _, trivial⟩, trivial⟩ ?_
    have := conDigestOf [cRec.enc recA] _ _ rfl ⟨isC_enc cRec recA, ?_⟩
    · rw [cRec.ok] at this
      exact this
    · rw [cRec.ok]
      exact ⟨fun x hx => (by cases hx), by decide, by decide, by decide, by decide, by decide, by decide, by decide, by decide, by decide⟩
  · cases h
attribute [push_cast] ckDigNil
def ckAwake6 : Ck
  | [] => some (True, .bool true)
  | _ => none
theorem conAwake6 : Con pg 21 ckAwake6 := by
  have hct := (ctA_ok conDigNil (ctN_ok _))
  intro args q r h hq
  unfold ckAwake6 at h
  split at h
  · cases h
    refine w21 (fun _ => false) [] rfl hct rfl rfl ?_
    push_cast (config := { maxSteps := 10000000 })
    exact ⟨by decide +kernel, by decide +kernel⟩
  · cases h
attribute [push_cast] ckAwake6

/- lists of records as arguments -/
theorem VLe.slV {n : Nat} {f g : Nat → V} (h : ∀ i, i < n → (g i).flat.length = (f i).flat.length ∧ ∀ j, j < (f i).flat.length → VLe ((f i).flat.getD j .any) ((g i).flat.getD j .any) ∧ ((g i).flat.getD j .any).isPure = true) : VLe (.sl n f) (.sl n g) := by
  intro γ imm w v hr
  cases inv_sl (S := ⟨γ, imm, fun _ => none, w⟩) hr with
  | sl0 _ a c => exact .pure (.sl0 _ a c)
  | sl _ _ b off c sz u hb hnc hs hf hc ho hp =>
    refine .pure (.sl n g b off c sz u hb hnc hs (fun i hi => (h i hi).1.trans (hf i hi)) hc ho (fun i j hi hj => ?_))
    have hj' : j < (f i).flat.length := by rw [hf i hi]; exact hj
    obtain ⟨h1, h2⟩ := (h i hi).2 j hj'
    exact isPure_rep (S := ⟨γ, imm, fun _ => none, w⟩) (h1 _ _ _ _ (.pure (hp i j hi hj))) h2
def isLv {α : Type} (c : Cod α) (n : Nat) (f : Nat → V) : Prop := VLe (.sl n f) (.sl (lsOf c n f).length (lsF c (lsOf c n f)))
theorem shRecX {m : Nat} {v : V} (h : Sh.has (.tup [.int .i64, .str, .str, .int .i64, .str, .list (.tup [.str, .str]), .list (.int .u8)]) m v) : ∃ ki id ow ti ke n f k g, v = .agg [.int .i64 ki, .str id, .str ow, .int .i64 ti, .str ke, .sl n f, .sl k g] ∧ isLs cHd n f ∧ isBy k g := by
  obtain ⟨l, ms, rfl, -, hl⟩ := h
  obtain ⟨m1, v1, ms, l, rfl, h1, hl⟩ := hasL_cons hl
  obtain ⟨m2, v2, ms, l, rfl, h2, hl⟩ := hasL_cons hl
  obtain ⟨m3, v3, ms, l, rfl, h3, hl⟩ := hasL_cons hl
  obtain ⟨m4, v4, ms, l, rfl, h4, hl⟩ := hasL_cons hl
  obtain ⟨m5, v5, ms, l, rfl, h5, hl⟩ := hasL_cons hl
  obtain ⟨m6, v6, ms, l, rfl, h6, hl⟩ := hasL_cons hl
  obtain ⟨m7, v7, ms, l, rfl, h7, hl⟩ := hasL_cons hl
  obtain rfl := hasL_nil hl
  obtain ⟨ki, rfl, c1⟩ := shInt h1
  obtain ⟨id, rfl, b2⟩ := shStr h2
  obtain ⟨ow, rfl, b3⟩ := shStr h3
  obtain ⟨ti, rfl, c4⟩ := shInt h4
  obtain ⟨ke, rfl, b5⟩ := shStr h5
  obtain ⟨n, f, rfl, i6, b6, k6⟩ := shList (c := cHd) (fun m v h => shHead h) h6
  obtain ⟨k, g, rfl, i7, b7⟩ := shBytes h7
  exact ⟨ki, id, ow, ti, ke, n, f, k, g, rfl, i6, i7⟩
theorem shRecs {m : Nat} {v : V} (h : Sh.has (.list (.tup [.int .i64, .str, .str, .int .i64, .str, .list (.tup [.str, .str]), .list (.int .u8)])) m v) : ∃ (n : Nat) (f : Nat → V), v = .sl n f ∧ isLv cRec n f ∧ n ≤ 140737488355328 ∧ recsOk (lsOf cRec n f) := by
  obtain ⟨l, ms, rfl, h1, h2, h3, h4⟩ := h
  have := reach_le
  refine ⟨_, _, rfl, ?_, by omega, fun a ha => ?_⟩
  · unfold isLv
    rw [lsOf_len]
    refine VLe.slV fun i hi => ?_
    obtain ⟨ki, id, ow, ti, ke, n, f, k, g, e, i6, i7⟩ := shRecX (h4 i hi)
    have e : litF l i = _ := e
    have e2 : lsF cRec (lsOf cRec l.length (litF l)) i = cRec.enc (cRec.dec (litF l i)) := by
      unfold lsF lsOf
      rw [List.getD_eq_getElem?_getD, List.getElem?_map, List.getElem?_range hi]; rfl
    rw [e2, e]
    refine ⟨rfl, fun j hj => ?_⟩
    match j, hj with
    | 0, _ => exact ⟨VLe.refl _, rfl⟩
    | 1, _ => exact ⟨VLe.refl _, rfl⟩
    | 2, _ => exact ⟨VLe.refl _, rfl⟩
    | 3, _ => exact ⟨VLe.refl _, rfl⟩
    | 4, _ => exact ⟨VLe.refl _, rfl⟩
    | 5, _ => exact ⟨isLs.vle i6, rfl⟩
    | 6, _ => exact ⟨isBy.vle i7, rfl⟩
  · simp only [lsOf, List.mem_map, List.mem_range] at ha
    obtain ⟨i, hi, rfl⟩ := ha
    exact (shRec (h4 i hi)).2

theorem rfGo_ok {B : List UInt8} (hB : B.length ≤ 500000) : ∀ (k a : Nat) (l : List Rcd) (m : List Mk), a ≤ B.length → recsOk l → l.length ≤ a → m.length ≤ a → recsOk (rfGo B k a l m).1 ∧ (rfGo B k a l m).1.length ≤ B.length ∧ (rfGo B k a l m).2.1.length ≤ B.length
  | 0, a, l, m, _, _, _, _ => ⟨fun r hr => (by cases hr), Nat.zero_le _, Nat.zero_le _⟩
  | k + 1, a, l, m, ha, hl, h1, h2 => by
    rw [rfGo]
    split
    · split
      · rename_i g
        obtain ⟨o1, o2⟩ := rdOne_fit hB ha
        obtain ⟨o3, o4, o5⟩ := o2 g
        refine rfGo_ok hB k _ _ _ (by omega) (fun r hr => ?_) (by simp only [List.length_append, List.length_singleton]; omega) (by simp only [List.length_append, List.length_singleton]; omega)
        rcases List.mem_append.1 hr with hr | hr
        · exact hl r hr
        · rw [List.mem_singleton] at hr; subst hr; exact o1
      · exact ⟨fun r hr => (by cases hr), Nat.zero_le _, Nat.zero_le _⟩
    · split
      · exact ⟨hl, by simp only; omega, by simp only; omega⟩
      · exact ⟨fun r hr => (by cases hr), Nat.zero_le _, Nat.zero_le _⟩
theorem readFile_ok (B : List UInt8) : recsOk (readFileL B).1 ∧ (readFileL B).1.length ≤ 500000 ∧ (readFileL B).2.1.length ≤ 500000 := by
  unfold readFileL
  split
  · exact ⟨fun r hr => (by cases hr), Nat.zero_le _, Nat.zero_le _⟩
  · have := rfGo_ok (B := B) (by omega) (B.length + 1) 0 [] [] (Nat.zero_le _) (fun r hr => (by cases hr)) (Nat.le_refl _) (Nat.le_refl _)
    exact ⟨this.1, by omega, by omega⟩
def ckLawFR : Ck
  | [.sl n f] => some (isBy n f ∧ n ≤ 140737488355328, .bool true)
  | _ => none
theorem conLawFR : Con pg 13 ckLawFR := by
  have hct := (ctA_ok conReadFile (ctA_ok conReadFile2 (ctA_ok conMarks (ctA_ok conMarks2 (ctA_ok conSameAll (ctA_ok conEqMk (ctA_ok conAwake6 (ctN_ok _))))))))
  intro args q r h hq
  unfold ckLawFR at h
  split at h
  · cases h
    rename_i n f
    refine pcall_args (args' := [.sl (bytesOf n f).length (byF (bytesOf n f))]) ⟨isBy.vle hq.1, trivial⟩ ?_
    obtain ⟨-, hn⟩ := hq
    have hl := bytesOf_len n f
    rw [← hl] at hn
    generalize bytesOf n f = B at hn ⊢
    clear hl
    refine w13 (fun _ => false) [] rfl hct rfl rfl ?_
    push_cast (config := { maxSteps := 10000000 })
    obtain ⟨h1, h2, h3⟩ := readFile_ok B
    have h4 : ∀ r ∈ (readFileL B).1, r.hd.length ≤ 4611686018427387904 := fun r hr => by have := (h1 r hr).2.2.2.2.1; omega
    exact ⟨hn, hn, hn, hn, ⟨by omega, h4⟩, by omega⟩
  · cases h
attribute [push_cast] ckLawFR
theorem allLawFR {H : Type} (ds : List (DataW H)) (hh : hasD [.list (.int .u8)] ds) : PCall pg 13 (ds.map toV) (.bool true) := by
  obtain ⟨d1, rfl, a⟩ := hasD1 hh
  obtain ⟨n, f, e1, i1, b1⟩ := shBytes a
  have := reach_le
  simp only [List.map_cons, List.map_nil, e1]
  exact conLawFR _ _ _ rfl ⟨i1, by omega⟩

/-- harmed bytes -/
structure Hm where
  fr : Int
  en : Int
deriving DecidableEq
def noHm : Hm := ⟨0, 0⟩
def decHm : V → Hm
  | .agg [.int _ fr, .int _ en] => ⟨fr, en⟩
  | _ => noHm
def cHm : Cod Hm := ⟨fun a => .agg [.int .i64 a.fr, .int .i64 a.en], decHm, noHm, fun a => rfl⟩
@[push_cast] theorem enc_hm (a : Hm) : cHm.enc a = .agg [.int .i64 a.fr, .int .i64 a.en] := rfl
@[push_cast] theorem dec_hm (k k' : IntKind) (fr en : Int) : cHm.dec (.agg [.int k fr, .int k' en]) = ⟨fr, en⟩ := rfl
@[push_cast] theorem lsF_hm (l : List Hm) (i : Nat) : lsF cHm l i = .agg [.int .i64 (l.getD i noHm).fr, .int .i64 (l.getD i noHm).en] := rfl
def harmL (h : List Hm) (a b : Int) : List Hm := if a < b then h ++ [⟨a, b⟩] else h
/-- the records of any bytes, and what is harmed -/
def rsGo (B : List UInt8) : Nat → Nat → Nat → List Rcd → List Hm → List Rcd × List Hm
  | 0, _, _, l, h => (l, h)
  | k + 1, a, f, l, h => if a < B.length then (if (rdOne B a).2.2 = 0 ∧ (l.map Rcd.id).contains (rdOne B a).1.id = false then rsGo B k (rdOne B a).2.1.toNat (rdOne B a).2.1.toNat (l ++ [(rdOne B a).1]) (harmL h f a) else rsGo B k (a + 1) f l h) else (l, harmL h f a)
def rescL (B : List UInt8) : List Rcd × List Hm × Int := if 500000 < B.length then ([], [], 2) else if 1000 < (rsGo B (B.length + 1) 0 0 [] []).1.length then ([], [], 2) else ((rsGo B (B.length + 1) 0 0 [] []).1, (rsGo B (B.length + 1) 0 0 [] []).2, 0)
theorem rsGo_ge {B : List UInt8} : ∀ (k a f : Nat) (l : List Rcd) (h : List Hm), l.length ≤ (rsGo B k a f l h).1.length
  | 0, a, f, l, h => Nat.le_refl _
  | k + 1, a, f, l, h => by
    rw [rsGo]
    split
    · split
      · have := rsGo_ge k (rdOne B a).2.1.toNat (rdOne B a).2.1.toNat (l ++ [(rdOne B a).1]) (harmL h f a) (B := B)
        simp only [List.length_append, List.length_singleton] at this
        omega
      · exact rsGo_ge k (a + 1) f l h
    · exact Nat.le_refl _
theorem harmL_le (h : List Hm) (a b : Int) : (harmL h a b).length ≤ h.length + 1 := by
  unfold harmL; split <;> simp
def ckRescued : Ck
  | [.sl n f] => some (isBy n f ∧ n ≤ 140737488355328, .tup [.sl (rescL (bytesOf n f)).1.length (lsF cRec (rescL (bytesOf n f)).1), .sl (rescL (bytesOf n f)).2.1.length (lsF cHm (rescL (bytesOf n f)).2.1), .int .i64 (rescL (bytesOf n f)).2.2])
  | _ => none
attribute [push_cast] ckRescued

/- the closure: what is harmed lies in block 12, its cell is block 7 -/
def ckHarmK : List V → List Blk → Option (Prop × V × List Blk)
  | [.int .i64 a, .int .i64 b, .ptr 7 0], [.cells [.vec 12 n], .vec 2 k g] => some (k = n ∧ isLs cHm n g ∧ n ≤ 100000000, .tup [], [.cells [.vec 12 (harmL (lsOf cHm n g) a b).length], .vec 2 (harmL (lsOf cHm n g) a b).length (lsF cHm (harmL (lsOf cHm n g) a b))])
  | _, _ => none
def ckHarm : Cf := ⟨fun | [_, _, .ptr 7 _] => [7, 12] | _ => [], ckHarmK⟩
theorem conHarm : FCon pg 81 ckHarm := by
  have hct := ctN_ok pg
  intro args bs q r bs' h hq
  replace h : ckHarmK args bs = some (q, r, bs') := h
  unfold ckHarmK at h
  split at h
  · cases h
    rename_i a b n k g
    refine ⟨rfl, Nat.le_refl _, ?_⟩
    obtain ⟨rfl, hg, hk⟩ := hq
    show FCall pg 81 [.int .i64 a, .int .i64 b, .ptr 9007 0] [(9007, .cells [.vec 9012 k]), (9012, .vec 2 k fun i => V.shift (g i))] (.tup []) [(9007, .cells [.vec 9012 (harmL (lsOf cHm k g) a b).length]), (9012, .vec 2 (harmL (lsOf cHm k g) a b).length (lsF cHm (harmL (lsOf cHm k g) a b)))]
    refine fcall_blk (hm := [(9007, .cells [.vec 9012 k]), (9012, .vec 2 k (lsF cHm (lsOf cHm k g)))]) ⟨rfl, ⟨⟨rfl, rfl⟩, trivial⟩, rfl, ⟨rfl, rfl, fun j hj => by show V.shift (g j) = _; rw [hg.2 j hj]; rfl⟩, trivial⟩ ?_
    have hl := lsOf_len (c := cHm) k g
    generalize lsOf cHm k g = l at hl ⊢
    subst hl
    refine fw81 (fun _ => false) [] rfl hct rfl (by simp) (by simp [hlIn, idsIn, Blk.menIn, V.menInL, V.menIn, V.flat, byF, lsF, cHm]) (by simp [V.menIn, V.menInL, idsIn]) ?_
    push_cast (config := { maxSteps := 10000000 })
    unfold harmL
    refine ⟨fun h => ?_, fun h => ?_⟩
    · rw [if_pos h]
      have app := LsI.app (c := cHm) (f := lsF cHm l) (g := litF [cHm.enc ⟨a, b⟩]) (LsI.ls l) (LsI.one (c := cHm) (a := (⟨a, b⟩ : Hm)) rfl) rfl
      exact ⟨⟨by omega, by omega⟩, by simp, by simp, app.2⟩
    · rw [if_neg h]
      exact ⟨rfl, rfl, fun _ _ => rfl⟩
  · cases h
@[push_cast] theorem harm_ids (x y : V) (o : Nat) : ckHarm.ids [x, y, .ptr 7 o] = [7, 12] := rfl
@[push_cast] theorem harm_k (a b : Int) (n k : Nat) (g : Nat → V) : ckHarm.k [.int .i64 a, .int .i64 b, .ptr 7 0] [.cells [.vec 12 n], .vec 2 k g] = some (k = n ∧ isLs cHm n g ∧ n ≤ 100000000, .tup [], [.cells [.vec 12 (harmL (lsOf cHm n g) a b).length], .vec 2 (harmL (lsOf cHm n g) a b).length (lsF cHm (harmL (lsOf cHm n g) a b))]) := rfl
theorem conRescued : Con pg 42 ckRescued := by
  have hct := (ctA_ok conReadOne0 (ctF_ok conHarm (ctN_ok _)))
  intro args q r h hq
  unfold ckRescued at h
  split at h
  · cases h
    rename_i n f
    refine pcall_args (args' := [.sl (bytesOf n f).length (byF (bytesOf n f))]) ⟨isBy.vle hq.1, trivial⟩ ?_
    obtain ⟨-, hn⟩ := hq
    have hl := bytesOf_len n f
    rw [← hl] at hn
    generalize bytesOf n f = B at hn ⊢
    clear hl
    refine w42 (fun _ => false) [.frz 8000, .frz 12] rfl hct rfl rfl ?_
    push_cast (config := { maxSteps := 10000000 })
    generalize hR : rescL B = R
    unfold rescL at hR
    refine ⟨fun h => ?_, fun h => ?_⟩
    · rw [if_pos (by omega)] at hR
      rw [← hR]
      exact ⟨rfl, rfl, rfl⟩
    rw [if_neg (by omega)] at hR
    have hB : B.length ≤ 500000 := by omega
    generalize hS : rsGo B (B.length + 1) 0 0 [] [] = S at hR
    refine LoopW.adj ⟨hct, fol⟩ (by kernel_rfl) [.nv 6 8000 7 (lsF cRec []), .nvc 7 0 12 2 (lsF cHm [])] (fun t : Nat × Nat × List Rcd × List Hm => [(0, .sl B.length (byF B)), (5, .map 17), (6, .vec 8000 t.2.2.1.length), (7, .ptr 7 0), (8, .fn (.func 81) [] [.ptr 7 0]), (9, .int .i64 t.2.1), (10, .int .i64 t.1)]) (fun t => [(17, .mp .str (seenM (t.2.2.1.map Rcd.id))), (8000, .vec 7 t.2.2.1.length (lsF cRec t.2.2.1)), (7, .cells [.vec 12 t.2.2.2.length]), (12, .vec 2 t.2.2.2.length (lsF cHm t.2.2.2))]) (fun t => t.1 ≤ B.length ∧ t.2.1 ≤ t.1 ∧ recsOk t.2.2.1 ∧ t.2.2.1.length ≤ 1000 ∧ t.2.2.2.length ≤ t.2.2.1.length ∧ ∃ k, B.length < t.1 + k ∧ rsGo B k t.1 t.2.1 t.2.2.1 t.2.2.2 = S) (fun t => B.length - t.1) (0, 0, [], []) ?_ fun t ht => ?_
    · push_cast (config := { maxSteps := 10000000 })
      exact ⟨⟨Nat.zero_le _, fun r hr => (by cases hr), B.length + 1, by omega, hS⟩, seen_nil⟩
    · obtain ⟨i, fr, l, h⟩ := t
      obtain ⟨i1, i2, i3, i4, i5, k, i6, i7⟩ : i ≤ B.length ∧ fr ≤ i ∧ recsOk l ∧ l.length ≤ 1000 ∧ h.length ≤ l.length ∧ ∃ k, B.length < i + k ∧ rsGo B k i fr l h = S := ht
      obtain ⟨k, rfl⟩ : ∃ k', k = k' + 1 := ⟨k - 1, by omega⟩
      rw [rsGo] at i7
      push_cast (config := { maxSteps := 10000000 })
      have e1 : (lsOf cHm h.length fun i => V.agg [V.int IntKind.i64 (h.getD i noHm).fr, V.int IntKind.i64 (h.getD i noHm).en]) = h := (LsI.ls (c := cHm) h).of
      have e2 : isLs cHm h.length (fun i => V.agg [V.int IntKind.i64 (h.getD i noHm).fr, V.int IntKind.i64 (h.getD i noHm).en]) := by
        show LsI cHm h.length (lsF cHm h) (lsOf cHm h.length (lsF cHm h))
        rw [(LsI.ls (c := cHm) h).of]
        exact LsI.ls h
      simp only [e1]
      refine ⟨fun hi => ⟨⟨hB, i1⟩, fun g => ?_, fun g => ⟨fun g2 => ?_, fun g2 => ?_⟩⟩, fun hi => ?_⟩
      · rw [if_pos hi, if_neg (by rintro ⟨x, y⟩; rcases g with g | g; exact g x; rw [y] at g; cases g)] at i7
        exact ⟨⟨by omega, by omega⟩, ((i + 1, fr, l, h) : Nat × Nat × List Rcd × List Hm), ⟨by show i + 1 ≤ _; omega, by show fr ≤ i + 1; omega, i3, i4, i5, k, by show B.length < i + 1 + k; omega, i7⟩, by show B.length - (i + 1) < B.length - i; omega, ⟨rfl, rfl, by show (i : Int) + 1 = ((i + 1 : Nat) : Int); omega⟩, fun _ => rfl, ⟨rfl, fun _ _ => rfl⟩, rfl, rfl, fun _ _ => rfl⟩
      · rw [if_pos hi, if_pos g] at i7
        have := rsGo_ge (B := B) k (rdOne B i).snd.fst.toNat (rdOne B i).snd.fst.toNat (l ++ [(rdOne B i).fst]) (harmL h ↑fr ↑i)
        rw [i7, List.length_append, List.length_singleton] at this
        rw [if_pos (by omega)] at hR
        rw [← hR]
        exact ⟨rfl, rfl, rfl⟩
      · rw [if_pos hi, if_pos g] at i7
        obtain ⟨o1, o2⟩ := rdOne_fit hB i1
        obtain ⟨o3, o4, o5⟩ := o2 g.1
        have app1 := LsI.app (c := cRec) (f := lsF cRec l) (g := litF [cRec.enc (rdOne B i).1]) (LsI.ls l) (LsI.one (c := cRec) (a := (rdOne B i).1) rfl) rfl
        have hh := harmL_le h fr i
        generalize rdOne B i = X at *
        refine ⟨⟨e2, by omega⟩, ⟨by omega, by omega⟩, ((X.2.1.toNat, X.2.1.toNat, l ++ [X.1], harmL h fr i) : Nat × Nat × List Rcd × List Hm), ⟨?_, Nat.le_refl _, fun r hr => ?_, ?_, ?_, k, ?_, i7⟩, ?_, ⟨by simp, ?_, ?_⟩, fun q => ?_, ⟨by simp, app1.2⟩, rfl, rfl, fun _ _ => rfl⟩
        · show X.2.1.toNat ≤ _; omega
        · rcases List.mem_append.1 hr with hr | hr
          · exact i3 r hr
          · rw [List.mem_singleton] at hr; subst hr; exact o1
        · show (l ++ [_]).length ≤ 1000; simp; omega
        · show (harmL h fr i).length ≤ (l ++ [_]).length; simp; omega
        · show B.length < X.2.1.toNat + k; omega
        · show B.length - X.2.1.toNat < B.length - i; omega
        · show X.2.1 = ((X.2.1.toNat : Nat) : Int); omega
        · show X.2.1 = ((X.2.1.toNat : Nat) : Int); omega
        · rw [putM_seen, List.map_append]; rfl
      · rw [if_neg hi] at i7
        have hi' : i = B.length := by omega
        rw [← i7, if_neg (by show ¬ 1000 < l.length; omega)] at hR
        rw [← hR, ← hi']
        exact ⟨by omega, ⟨rfl, fun _ _ => rfl⟩, ⟨rfl, fun _ _ => rfl⟩, rfl⟩
  · cases h
attribute [push_cast] ckRescued

theorem conRescued2 : Con pg 43 ckRescued := by
  have hct := (ctA_ok conReadOne02 (ctA_ok conFind (ctN_ok _)))
  intro args q r h hq
  unfold ckRescued at h
  split at h
  · cases h
    rename_i n f
    refine pcall_args (args' := [.sl (bytesOf n f).length (byF (bytesOf n f))]) ⟨isBy.vle hq.1, trivial⟩ ?_
    obtain ⟨-, hn⟩ := hq
    have hl := bytesOf_len n f
    rw [← hl] at hn
    generalize bytesOf n f = B at hn ⊢
    clear hl
    refine w43 (fun _ => false) [.frz 8000, .frz 8001] rfl hct rfl rfl ?_
    push_cast (config := { maxSteps := 10000000 })
    generalize hR : rescL B = R
    unfold rescL at hR
    refine ⟨fun h => ?_, fun h => ?_⟩
    · rw [if_pos (by omega)] at hR
      rw [← hR]
      exact ⟨rfl, rfl, rfl⟩
    rw [if_neg (by omega)] at hR
    have hB : B.length ≤ 500000 := by omega
    generalize hS : rsGo B (B.length + 1) 0 0 [] [] = S at hR
    refine LoopW.adj ⟨hct, fol⟩ (by kernel_rfl) [.nv 5 8000 7 (lsF cRec []), .nv 6 8001 2 (lsF cHm [])] (fun t : Nat × Nat × List Rcd × List Hm => [(0, .sl B.length (byF B)), (5, .vec 8000 t.2.2.1.length), (6, .vec 8001 t.2.2.2.length), (8, .int .i64 t.2.1), (7, .int .i64 t.1)]) (fun t => [(8000, .vec 7 t.2.2.1.length (lsF cRec t.2.2.1)), (8001, .vec 2 t.2.2.2.length (lsF cHm t.2.2.2))]) (fun t => t.1 ≤ B.length ∧ t.2.1 ≤ t.1 ∧ recsOk t.2.2.1 ∧ t.2.2.1.length ≤ t.1 ∧ t.2.2.2.length ≤ t.2.2.1.length ∧ ∃ k, B.length < t.1 + k ∧ rsGo B k t.1 t.2.1 t.2.2.1 t.2.2.2 = S) (fun t => B.length - t.1) (0, 0, [], []) ?_ fun t ht => ?_
    · push_cast (config := { maxSteps := 10000000 })
      exact ⟨Nat.zero_le _, fun r hr => (by cases hr), B.length + 1, by omega, hS⟩
    · obtain ⟨i, fr, l, h⟩ := t
      obtain ⟨i1, i2, i3, i4, i5, k, i6, i7⟩ : i ≤ B.length ∧ fr ≤ i ∧ recsOk l ∧ l.length ≤ i ∧ h.length ≤ l.length ∧ ∃ k, B.length < i + k ∧ rsGo B k i fr l h = S := ht
      obtain ⟨k, rfl⟩ : ∃ k', k = k' + 1 := ⟨k - 1, by omega⟩
      rw [rsGo] at i7
      push_cast (config := { maxSteps := 10000000 })
      have e1 : (lsOf cRec l.length fun i => V.agg [V.int IntKind.i64 (l.getD i noRec).ki, V.str (l.getD i noRec).id, V.str (l.getD i noRec).ow, V.int IntKind.i64 (l.getD i noRec).ti, V.str (l.getD i noRec).ke, V.sl (l.getD i noRec).hd.length (lsF cHd (l.getD i noRec).hd), V.sl (l.getD i noRec).bd.length (byF (l.getD i noRec).bd)]) = l := lsOf_ls (c := cRec) l
      have e2 := isLs_ls (c := cRec) l
      have ef := fndL_in l (rdOne B i).fst.id
      rw [e1]
      refine ⟨fun hi => ⟨⟨hB, i1⟩, fun g => ⟨g, e2, by omega⟩, fun g => ?_, fun g => ?_⟩, fun hi => ?_⟩
      · rw [if_pos hi, if_neg (by rintro ⟨x, y⟩; rcases g with g | g; exact g x; rw [ef.1 g] at y; cases y)] at i7
        exact ⟨⟨by omega, by omega⟩, ((i + 1, fr, l, h) : Nat × Nat × List Rcd × List Hm), ⟨by show i + 1 ≤ _; omega, by show fr ≤ i + 1; omega, i3, by show l.length ≤ i + 1; omega, i5, k, by show B.length < i + 1 + k; omega, i7⟩, by show B.length - (i + 1) < B.length - i; omega, ⟨rfl, rfl, rfl, by show (i : Int) + 1 = ((i + 1 : Nat) : Int); omega⟩, ⟨rfl, fun _ _ => rfl⟩, rfl, fun _ _ => rfl⟩
      · rw [if_pos hi, if_pos ⟨g.1, by cases hc : (List.map Rcd.id l).contains (rdOne B i).fst.id with | false => rfl | true => exact (g.2 (ef.2 hc)).elim⟩] at i7
        obtain ⟨o1, o2⟩ := rdOne_fit hB i1
        obtain ⟨o3, o4, o5⟩ := o2 g.1
        have app1 := LsI.app (c := cRec) (f := lsF cRec l) (g := litF [cRec.enc (rdOne B i).1]) (LsI.ls l) (LsI.one (c := cRec) (a := (rdOne B i).1) rfl) rfl
        have app2 := LsI.app (c := cHm) (f := lsF cHm h) (g := litF [cHm.enc ⟨fr, i⟩]) (LsI.ls h) (LsI.one (c := cHm) (a := (⟨fr, i⟩ : Hm)) rfl) rfl
        have hh := harmL_le h fr i
        clear g e1 e2 ef
        generalize rdOne B i = X at *
        have inv : X.2.1.toNat ≤ B.length ∧ X.2.1.toNat ≤ X.2.1.toNat ∧ recsOk (l ++ [X.1]) ∧ (l ++ [X.1]).length ≤ X.2.1.toNat ∧ (harmL h fr i).length ≤ (l ++ [X.1]).length ∧ ∃ k, B.length < X.2.1.toNat + k ∧ rsGo B k X.2.1.toNat X.2.1.toNat (l ++ [X.1]) (harmL h fr i) = S := by
          refine ⟨by omega, Nat.le_refl _, fun r hr => ?_, by simp; omega, by simp; omega, k, by omega, i7⟩
          rcases List.mem_append.1 hr with hr | hr
          · exact i3 r hr
          · rw [List.mem_singleton] at hr; subst hr; exact o1
        have dec : B.length - X.2.1.toNat < B.length - i := by omega
        have ex : X.2.1 = ((X.2.1.toNat : Nat) : Int) := by omega
        refine ⟨fun hlt => ?_, fun hlt => ?_⟩
        · have eh : harmL h fr i = h ++ [Hm.mk fr i] := by unfold harmL; rw [if_pos (by omega)]
          rw [eh] at inv
          exact ⟨⟨by omega, by omega⟩, ⟨by omega, by omega⟩, ((X.2.1.toNat, X.2.1.toNat, l ++ [X.1], h ++ [Hm.mk fr i]) : Nat × Nat × List Rcd × List Hm), inv, dec, ⟨by simp, by simp, ex, ex⟩, ⟨by simp, app1.2⟩, by simp, app2.2⟩
        · have eh : harmL h fr i = h := by unfold harmL; rw [if_neg (by omega)]
          rw [eh] at inv
          exact ⟨⟨by omega, by omega⟩, ((X.2.1.toNat, X.2.1.toNat, l ++ [X.1], h) : Nat × Nat × List Rcd × List Hm), inv, dec, ⟨by simp, rfl, ex, ex⟩, ⟨by simp, app1.2⟩, rfl, fun _ _ => rfl⟩
      · rw [if_neg hi] at i7
        have hi' : i = B.length := by omega
        rw [← i7] at hR
        dsimp only at hR
        have app2 := LsI.app (c := cHm) (f := lsF cHm h) (g := litF [cHm.enc ⟨fr, i⟩]) (LsI.ls h) (LsI.one (c := cHm) (a := (⟨fr, i⟩ : Hm)) rfl) rfl
        have fz : ∀ j, j < h.length + 1 → frzV 8000 7 l.length (lsF cRec l) (appF h.length (lsF cHm h) (litF [V.agg [V.int IntKind.i64 (fr : Nat), V.int IntKind.i64 (i : Nat)]]) j) = lsF cHm (h ++ [Hm.mk fr i]) j := fun j hj => by
          have e : appF h.length (lsF cHm h) (litF [V.agg [V.int IntKind.i64 (fr : Nat), V.int IntKind.i64 (i : Nat)]]) j = lsF cHm (h ++ [Hm.mk fr i]) j := app2.2 j hj
          rw [e]; rfl
        have fp : ∀ j, j < h.length + 1 → (frzV 8000 7 l.length (lsF cRec l) (appF h.length (lsF cHm h) (litF [V.agg [V.int IntKind.i64 (fr : Nat), V.int IntKind.i64 (i : Nat)]]) j)).isPure = true := fun j hj => by rw [fz j hj]; rfl
        refine ⟨fun hlt => ⟨⟨by omega, by omega⟩, fun g => ?_, fun g => ?_⟩, fun hlt => ⟨fun g => ?_, fun g => ?_⟩⟩
        · rw [if_pos (by omega)] at hR
          rw [← hR]
          exact ⟨fp, rfl, rfl, rfl⟩
        · rw [if_neg (by omega)] at hR
          rw [← hR]
          have eh : harmL h fr i = h ++ [Hm.mk fr i] := by unfold harmL; rw [if_pos (by omega)]
          rw [eh]
          exact ⟨fp, ⟨rfl, fun _ _ => rfl⟩, ⟨by simp, fz⟩, rfl⟩
        · rw [if_pos (by omega)] at hR
          rw [← hR]
          exact ⟨rfl, rfl, rfl⟩
        · rw [if_neg (by omega)] at hR
          rw [← hR]
          have eh : harmL h fr i = h := by unfold harmL; rw [if_neg (by omega)]
          rw [eh]
          exact ⟨⟨rfl, fun _ _ => rfl⟩, ⟨rfl, fun _ _ => rfl⟩, rfl⟩
  · cases h
attribute [push_cast] ckRescued

@[push_cast] theorem eqHmT : EqOk Tryz.prog 75 = True := eq_true (eqOk2_of (by kernel_rfl))
def ckEqHm : Ck
  | [.sl n f, .sl m g] => some (isLs cHm n f ∧ isLs cHm m g ∧ n ≤ 4611686018427387904, .bool (decide (lsOf cHm n f = lsOf cHm m g)))
  | _ => none
theorem conEqHm : Con pg 44 ckEqHm := by
  have hct := ctN_ok pg
  intro args q r h hq
  unfold ckEqHm at h
  split at h
  · cases h
    rename_i n f m g
    refine pcall_args (args' := [.sl (lsOf cHm n f).length (lsF cHm (lsOf cHm n f)), .sl (lsOf cHm m g).length (lsF cHm (lsOf cHm m g))]) ⟨isLs.vle hq.1, isLs.vle hq.2.1, trivial⟩ ?_
    have hn : (lsOf cHm n f).length ≤ 4611686018427387904 := by rw [lsOf_len]; exact hq.2.2
    generalize lsOf cHm n f = a at hn ⊢
    generalize lsOf cHm m g = b
    refine w44 (fun _ => false) [] rfl hct rfl rfl ?_
    push_cast (config := { maxSteps := 10000000 })
    refine ⟨fun h => ?_, fun h => ?_⟩
    · exact (decide_eq_false fun e => h (by rw [e])).symm
    refine LoopW.adj ⟨hct, fol⟩ (by kernel_rfl) [] (fun i : Nat => [(0, .sl a.length (lsF cHm a)), (1, .sl b.length (lsF cHm b)), (12, .int .i64 a.length), (13, .int .i64 i)]) (fun _ => []) (fun i => i ≤ a.length ∧ ∀ j, j < i → a.getD j noHm = b.getD j noHm) (fun i => a.length - i) 0 ?_ fun i hi => ?_
    · push_cast (config := { maxSteps := 10000000 })
      exact Nat.zero_le _
    · push_cast (config := { maxSteps := 10000000 })
      obtain ⟨h1, h2⟩ := hi
      refine ⟨fun hlt => ⟨hlt, by omega, fun hne => ?_, fun he => ⟨⟨by omega, by omega⟩, i + 1, ⟨by omega, fun j hj => ?_⟩, by omega, by omega⟩⟩, fun hge => ?_⟩
      · exact (decide_eq_false (ne_at (d := noHm) (i := i) fun e => hne (by rw [e]) (by rw [e]))).symm
      · by_cases e : j = i
        · subst e
          have e1 : ∀ x y : Hm, x.fr = y.fr → x.en = y.en → x = y := fun x y h' h'' => by cases x; cases y; simp_all
          exact e1 _ _ he.1 he.2
        · exact h2 j (by omega)
      · exact (decide_eq_true (eq_take (d := noHm) (by omega) fun j hj => h2 j (by omega))).symm
  · cases h
attribute [push_cast] ckEqHm

theorem rsGo_ok {B : List UInt8} (hB : B.length ≤ 500000) : ∀ (k a f : Nat) (l : List Rcd) (h : List Hm), a ≤ B.length → recsOk l → h.length ≤ l.length → recsOk (rsGo B k a f l h).1 ∧ (rsGo B k a f l h).2.length ≤ (rsGo B k a f l h).1.length + 1
  | 0, a, f, l, h, _, hl, hh => ⟨hl, by rw [rsGo]; show h.length ≤ l.length + 1; omega⟩
  | k + 1, a, f, l, h, ha, hl, hh => by
    rw [rsGo]
    have e := harmL_le h f a
    split
    · split
      · rename_i g
        obtain ⟨o1, o2⟩ := rdOne_fit hB ha
        obtain ⟨o3, o4, o5⟩ := o2 g.1
        refine rsGo_ok hB k _ _ _ _ (by omega) (fun r hr => ?_) (by simp only [List.length_append, List.length_singleton]; omega)
        rcases List.mem_append.1 hr with hr | hr
        · exact hl r hr
        · rw [List.mem_singleton] at hr; subst hr; exact o1
      · exact rsGo_ok hB k _ _ _ _ (by omega) hl hh
    · exact ⟨hl, by show (harmL h f a).length ≤ l.length + 1; omega⟩
theorem resc_ok (B : List UInt8) : recsOk (rescL B).1 ∧ (rescL B).1.length ≤ 1000 ∧ (rescL B).2.1.length ≤ 1001 := by
  have no : recsOk [] := fun r hr => (by cases hr)
  unfold rescL
  split
  · exact ⟨no, Nat.zero_le _, Nat.zero_le _⟩
  · split
    · exact ⟨no, Nat.zero_le _, Nat.zero_le _⟩
    · obtain ⟨a, b⟩ := rsGo_ok (B := B) (by omega) (B.length + 1) 0 0 [] [] (Nat.zero_le _) no (Nat.zero_le _)
      exact ⟨a, by dsimp only; omega, by dsimp only; omega⟩
def ckLawRM : Ck
  | [.sl n f] => some (isBy n f ∧ n ≤ 140737488355328, .bool true)
  | _ => none
theorem conLawRM : Con pg 12 ckLawRM := by
  have hct := (ctA_ok conRescued (ctA_ok conRescued2 (ctA_ok conSameAll (ctA_ok conEqHm (ctA_ok conAwake6 (ctN_ok _))))))
  intro args q r h hq
  unfold ckLawRM at h
  split at h
  · cases h
    rename_i n f
    refine pcall_args (args' := [.sl (bytesOf n f).length (byF (bytesOf n f))]) ⟨isBy.vle hq.1, trivial⟩ ?_
    obtain ⟨-, hn⟩ := hq
    have hl := bytesOf_len n f
    rw [← hl] at hn
    generalize bytesOf n f = B at hn ⊢
    clear hl
    refine w12 (fun _ => false) [] rfl hct rfl rfl ?_
    push_cast (config := { maxSteps := 10000000 })
    obtain ⟨h1, h2, h3⟩ := resc_ok B
    have h4 : ∀ r ∈ (rescL B).1, r.hd.length ≤ 4611686018427387904 := fun r hr => by have := (h1 r hr).2.2.2.2.1; omega
    exact ⟨hn, hn, ⟨by omega, h4⟩, by omega⟩
  · cases h
attribute [push_cast] ckLawRM
theorem allLawRM {H : Type} (ds : List (DataW H)) (hh : hasD [.list (.int .u8)] ds) : PCall pg 12 (ds.map toV) (.bool true) := by
  obtain ⟨d1, rfl, a⟩ := hasD1 hh
  obtain ⟨n, f, e1, i1, b1⟩ := shBytes a
  have := reach_le
  simp only [List.map_cons, List.map_nil, e1]
  exact conLawRM _ _ _ rfl ⟨i1, by omega⟩

def ckWriteHeadsK : List V → List Blk → Option (Prop × V × List Blk)
  | [.vec i n, .sl m f], [.vec 1 k g] => some (k = n ∧ isBy n g ∧ isLs cHd m f ∧ n ≤ 1000000 ∧ m ≤ 1000000 ∧ (headsB (lsOf cHd m f)).length ≤ 100000000000, .vec i (n + (headsB (lsOf cHd m f)).length + 2), [.vec 1 (n + (headsB (lsOf cHd m f)).length + 2) (byF (bytesOf n g ++ headsB (lsOf cHd m f) ++ [13, 10]))])
  | _, _ => none
def ckWriteHeads : Cf := ⟨fun | [.vec i _, _] => [i] | _ => [], ckWriteHeadsK⟩
@[push_cast] theorem wh_ids (i n : Nat) (x : V) : ckWriteHeads.ids [.vec i n, x] = [i] := rfl
@[push_cast] theorem wh_k (i n : Nat) (m : Nat) (f : Nat → V) (k : Nat) (g : Nat → V) : ckWriteHeads.k [.vec i n, .sl m f] [.vec 1 k g] = some (k = n ∧ isBy n g ∧ isLs cHd m f ∧ n ≤ 1000000 ∧ m ≤ 1000000 ∧ (headsB (lsOf cHd m f)).length ≤ 100000000000, .vec i (n + (headsB (lsOf cHd m f)).length + 2), [.vec 1 (n + (headsB (lsOf cHd m f)).length + 2) (byF (bytesOf n g ++ headsB (lsOf cHd m f) ++ [13, 10]))]) := rfl

def reqP (a : Inq) : List UInt8 := a.me ++ [32] ++ a.tg ++ [32, 87, 69, 66, 47, 49, 13, 10]
def reqB (a : Inq) : List UInt8 := reqP a ++ headsB a.hd ++ [13, 10] ++ a.bd
def reqA (a : Inq) : List UInt8 := if checkInqL a = 0 then reqB a else []
theorem inq_ok {a : Inq} (h : checkInqL a = 0) : a.me.length ≤ 40 ∧ a.tg.length ≤ 2000 ∧ a.hd.length ≤ 100 ∧ (headsB a.hd).length ≤ 104400 ∧ a.bd.length ≤ 200000 := by
  unfold checkInqL at h
  split at h
  · rename_i h1
    split at h
    · rename_i h2
      split at h
      · rename_i h3
        split at h
        · simp only [tokL, targetL, Bool.and_eq_true, decide_eq_true_eq] at h1 h2
          exact ⟨by omega, by omega, heads_100 h3, heads_le h3, by omega⟩
        · omega
      · omega
    · omega
  · omega
def ckReq : Ck
  | [x] => some (isC cInq x ∧ inqOk (cInq.dec x), .tup [.sl (reqA (cInq.dec x)).length (byF (reqA (cInq.dec x))), .int .i64 (checkInqL (cInq.dec x))])
  | _ => none
attribute [push_cast] ckReq
/- a request is read as it was written -/
theorem lineS_app : ∀ (s r : List UInt8), bareL s = true → lineS (s ++ [13, 10] ++ r) = some s
  | [], r, _ => by
    show lineS (13 :: 10 :: r) = some []
    rw [lineS, if_pos rfl, if_pos ⟨rfl, by simp⟩]
  | c :: t, r, h => by
    unfold bareL at h
    rw [List.all_cons, Bool.and_eq_true, Bool.and_eq_true, decide_eq_true_eq, decide_eq_true_eq] at h
    have ih := lineS_app t r h.2
    show lineS (c :: (t ++ [13, 10] ++ r)) = _
    rw [lineS, if_neg h.1.1, if_neg h.1.2, ih]; rfl
theorem lineS_inv : ∀ {l s : List UInt8}, lineS l = some s → l = s ++ [13, 10] ++ l.drop (s.length + 2)
  | [], s, h => by cases h
  | c :: t, s, h => by
    rw [lineS] at h
    split at h
    · split at h
      · rename_i h1 h2
        cases h
        subst h1
        match t, h2 with
        | d :: u, h2 =>
          have e : d = 10 := by simpa using h2.1
          subst e; rfl
      · cases h
    · split at h
      · cases h
      · cases ht : lineS t with
        | none => rw [ht] at h; cases h
        | some z =>
          rw [ht] at h; cases h
          have ih := lineS_inv ht
          simp only [List.length_cons, List.cons_append]
          rw [show z.length + 1 + 2 = (z.length + 2) + 1 by omega, List.drop_succ_cons]
          congr 1
theorem ln_app {p s r : List UInt8} (h : bareL s = true) : lnB (p ++ (s ++ [13, 10] ++ r)) p.length = true ∧ lnS (p ++ (s ++ [13, 10] ++ r)) p.length = s ∧ lnN (p ++ (s ++ [13, 10] ++ r)) p.length = (p ++ (s ++ [13, 10])).length := by
  have e : lineS ((p ++ (s ++ [13, 10] ++ r)).drop p.length) = some s := by rw [List.drop_left]; exact lineS_app s r h
  unfold lnB lnS lnN
  rw [e]
  refine ⟨rfl, rfl, ?_⟩
  simp; omega
theorem bare_app (a b : List UInt8) : bareL (a ++ b) = (bareL a && bareL b) := by unfold bareL; rw [List.all_append]
theorem all_imp {s : List UInt8} {p q : UInt8 → Bool} (h : s.all p = true) (hi : ∀ c, p c = true → q c = true) : s.all q = true := by
  rw [List.all_eq_true] at h ⊢
  exact fun x hx => hi x (h x hx)
theorem u8_all {P : UInt8 → Prop} (h : ∀ n, n < 256 → P (UInt8.ofNat n)) (c : UInt8) : P c := by
  have := h c.toNat (UInt8.toNat_lt c)
  simpa using this
theorem tok_plain (c : UInt8) : tokB c = true → c ≠ 13 ∧ c ≠ 10 ∧ c ≠ 32 ∧ c ≠ 58 := by
  refine u8_all (P := fun c => tokB c = true → c ≠ 13 ∧ c ≠ 10 ∧ c ≠ 32 ∧ c ≠ 58) ?_ c
  decide +kernel
theorem val_plain (c : UInt8) : valB c = true → c ≠ 13 ∧ c ≠ 10 := by
  refine u8_all (P := fun c => valB c = true → c ≠ 13 ∧ c ≠ 10) ?_ c
  decide +kernel
theorem tg_plain (c : UInt8) : tgB c = true → c ≠ 13 ∧ c ≠ 10 ∧ c ≠ 32 := by
  refine u8_all (P := fun c => tgB c = true → c ≠ 13 ∧ c ≠ 10 ∧ c ≠ 32) ?_ c
  decide +kernel
theorem spl_no (c : UInt8) : ∀ s : List UInt8, (∀ x ∈ s, x ≠ c) → spl c s = [s]
  | [], _ => rfl
  | x :: t, h => by
    rw [spl, if_neg (h x (by simp)), spl_no c t fun y hy => h y (by simp [hy])]; rfl
theorem spl_cut (c : UInt8) : ∀ (s r : List UInt8), (∀ x ∈ s, x ≠ c) → spl c (s ++ c :: r) = s :: spl c r
  | [], r, _ => by show spl c (c :: r) = _; rw [spl, if_pos rfl]
  | x :: t, r, h => by
    show spl c (x :: (t ++ c :: r)) = _
    rw [spl, if_neg (h x (by simp)), spl_cut c t r fun y hy => h y (by simp [hy])]; rfl
theorem idx_colon : ∀ (n v : List UInt8), (∀ x ∈ n, x ≠ 58) → Lib.index (n ++ 58 :: 32 :: v) [58, 32] = n.length
  | [], v, _ => by
    show Lib.index (58 :: 32 :: v) [58, 32] = 0
    rw [Lib.index, if_pos (by simp [List.isPrefixOf])]
  | x :: t, v, h => by
    have ih := idx_colon t v fun y hy => h y (by simp [hy])
    have hx := h x (by simp)
    show Lib.index (x :: (t ++ 58 :: 32 :: v)) [58, 32] = _
    have hp : ([58, 32] : List UInt8).isPrefixOf (x :: (t ++ 58 :: 32 :: v)) = false := by simp [List.isPrefixOf, Ne.symm hx]
    rw [Lib.index, hp, ih]
    have h2 : ((t.length : Int) == -1) = false := by rw [beq_eq_false_iff_ne]; omega
    rw [h2]
    simp
theorem no_colon {n : List UInt8} (h : ∀ x ∈ n, x ≠ 58) : Lib.contains n [58] = false := by
  unfold Lib.contains
  rw [decide_eq_false]
  intro h0
  rcases Lib.index_spec n [58] with ⟨h1, _⟩ | ⟨i, h1, h2, h3, _⟩
  · omega
  · unfold Lib.occAt at h3
    cases hd : n.drop i with
    | nil => rw [hd] at h3; simp [List.isPrefixOf] at h3
    | cons y t =>
      rw [hd] at h3
      have e : (58 : UInt8) = y := by simpa [List.isPrefixOf] using h3
      exact h y (List.mem_of_mem_drop (by rw [hd]; simp)) e.symm
theorem hd_app {h : Hd} (hn : ∀ x ∈ h.name, x ≠ 58) (hne : h.name ≠ []) : hdB (h.name ++ [58, 32] ++ h.value) = true ∧ hdV (h.name ++ [58, 32] ++ h.value) = h := by
  have e : hdCut (h.name ++ [58, 32] ++ h.value) = (h.name, h.value, true) := by
    unfold hdCut Lib.cut
    rw [show h.name ++ [58, 32] ++ h.value = h.name ++ 58 :: 32 :: h.value by simp, idx_colon _ _ hn, if_pos (by omega)]
    simp
  have hB : hdB (h.name ++ [58, 32] ++ h.value) = true := by
    unfold hdB
    rw [e]
    simp only
    rw [no_colon hn, bne_iff_ne.2 hne]; rfl
  refine ⟨hB, ?_⟩
  unfold hdV
  rw [if_pos hB, e]
theorem hd_inv {s : List UInt8} (h : hdB s = true) : s = (hdV s).name ++ [58, 32] ++ (hdV s).value := by
  unfold hdV
  rw [if_pos h]
  unfold hdB at h
  simp only [Bool.and_eq_true] at h
  have h1 := h.1.1
  unfold hdCut Lib.cut at h1 ⊢
  rcases Lib.index_spec s [58, 32] with ⟨h2, _⟩ | ⟨i, h2, h3, h4, _⟩
  · rw [h2, if_neg (by omega)] at h1; cases h1
  · rw [h2, if_pos (by omega)]
    unfold Lib.occAt at h4
    obtain ⟨t, ht⟩ := List.isPrefixOf_iff_prefix.1 h4
    simp only [Int.toNat_natCast]
    have e : s = s.take i ++ s.drop i := (List.take_append_drop i s).symm
    have e2 : s.drop (i + ([58, 32] : List UInt8).length) = t := by
      rw [← List.drop_drop, ← ht]; rfl
    show s = s.take i ++ [58, 32] ++ s.drop (i + ([58, 32] : List UInt8).length)
    rw [e2, List.append_assoc, ht]; exact e
theorem rh_app : ∀ (hd : List Hd) (p : List UInt8) (out : List Hd) (k : Nat) (r : List UInt8), hd.length < k → (∀ h ∈ hd, tokL h.name = true ∧ valueL h.value = true) → rhL (p ++ (headsB hd ++ [13, 10] ++ r)) k p.length out = (out ++ hd, (p ++ (headsB hd ++ [13, 10])).length, true)
  | [], p, out, k + 1, r, _, _ => by
    have h := ln_app (p := p) (s := []) (r := r) rfl
    simp only [List.nil_append] at h
    show rhL (p ++ ([13, 10] ++ r)) (k + 1) p.length out = _
    rw [rhL, if_neg (by simp), h.1, if_neg (by simp), h.2.1, if_pos rfl, h.2.2]
    simp [headsB]
  | x :: t, p, out, k + 1, r, hk, hok => by
    have hx := hok x (by simp)
    have ht := hx.1
    have hv := hx.2
    simp only [tokL, valueL, Bool.and_eq_true, decide_eq_true_eq] at ht hv
    have hbare : bareL (x.name ++ [58, 32] ++ x.value) = true := by
      rw [bare_app, bare_app]
      have b1 : bareL x.name = true := all_imp ht.2 fun c hc => by have := tok_plain c hc; simp [this.1, this.2.1]
      have b2 : bareL x.value = true := all_imp hv.2 fun c hc => by have := val_plain c hc; simp [this.1, this.2]
      rw [b1, b2]; rfl
    have hn : ∀ y ∈ x.name, y ≠ 58 := fun y hy => (tok_plain y (List.all_eq_true.1 ht.2 y hy)).2.2.2
    have hne : x.name ≠ [] := fun e => by rw [e] at ht; simp at ht
    have e : p ++ (headsB (x :: t) ++ [13, 10] ++ r) = p ++ ((x.name ++ [58, 32] ++ x.value) ++ [13, 10] ++ (headsB t ++ [13, 10] ++ r)) := by simp [headsB, headB]
    have h := ln_app (p := p) (s := x.name ++ [58, 32] ++ x.value) (r := headsB t ++ [13, 10] ++ r) hbare
    have hh := hd_app hn hne
    rw [e, rhL, if_neg (by simp; omega), h.1, if_neg (by simp), h.2.1, if_neg (by simp), hh.1, if_neg (by simp), hh.2, h.2.2]
    have ih := rh_app t (p ++ ((x.name ++ [58, 32] ++ x.value) ++ [13, 10])) (out ++ [x]) k r (by simp at hk; omega) fun y hy => hok y (by simp [hy])
    rw [show p ++ ((x.name ++ [58, 32] ++ x.value) ++ [13, 10] ++ (headsB t ++ [13, 10] ++ r)) = p ++ ((x.name ++ [58, 32] ++ x.value) ++ [13, 10]) ++ (headsB t ++ [13, 10] ++ r) by simp, ih]
    simp [headsB, headB]
theorem headsB_ge : ∀ l : List Hd, l.length ≤ (headsB l).length
  | [] => Nat.zero_le _
  | x :: t => by have := headsB_ge t; simp [headsB, headB]; omega
theorem inq_parts {a : Inq} (h : checkInqL a = 0) : tokL a.me = true ∧ targetL a.tg = true ∧ checkHeadsL a.hd = 0 := by
  unfold checkInqL at h
  split at h
  · rename_i h1
    split at h
    · rename_i h2
      split at h
      · rename_i h3; exact ⟨h1, h2, h3⟩
      · rename_i h3; exact absurd h h3
    · omega
  · omega
theorem heads_mem {l : List Hd} (e : checkHeadsL l = 0) : ∀ h ∈ l, tokL h.name = true ∧ valueL h.value = true := by
  unfold checkHeadsL at e
  split at e
  · omega
  · have key : ∀ {l : List Hd}, headsGo l = 0 → ∀ h ∈ l, tokL h.name = true ∧ valueL h.value = true := by
      intro l
      induction l with
      | nil => intro _ h hh; cases hh
      | cons x t ih =>
        intro e h hh
        simp only [headsGo] at e
        split at e
        · rename_i h1
          split at e
          · rename_i h2
            rcases List.mem_cons.1 hh with rfl | hh
            · exact ⟨h1, h2⟩
            · exact ih e h hh
          · omega
        · omega
    exact key e
/-- a request that was written is read -/
theorem req_back {a : Inq} (h : checkInqL a = 0) (hl : (reqB a).length ≤ 400000) : rqL (reqB a) = (a, 0, 0) := by
  obtain ⟨p1, p2, p3⟩ := inq_parts h
  simp only [tokL, targetL, Bool.and_eq_true, decide_eq_true_eq] at p1 p2
  have m1 : ∀ x ∈ a.me, x ≠ 32 := fun x hx => (tok_plain x (List.all_eq_true.1 p1.2 x hx)).2.2.1
  have m2 : ∀ x ∈ a.tg, x ≠ 32 := fun x hx => (tg_plain x (List.all_eq_true.1 p2.2 x hx)).2.2
  have hb : bareL (a.me ++ 32 :: (a.tg ++ 32 :: wWeb)) = true := by
    rw [bare_app, show 32 :: (a.tg ++ 32 :: wWeb) = [32] ++ (a.tg ++ ([32] ++ wWeb)) from rfl, bare_app, bare_app]
    have b1 : bareL a.me = true := all_imp p1.2 fun c hc => by have := tok_plain c hc; simp [this.1, this.2.1]
    have b2 : bareL a.tg = true := all_imp p2.2 fun c hc => by have := tg_plain c hc; simp [this.1, this.2.1]
    rw [b1, b2]; rfl
  have e : reqB a = [] ++ ((a.me ++ 32 :: (a.tg ++ 32 :: wWeb)) ++ [13, 10] ++ (headsB a.hd ++ [13, 10] ++ a.bd)) := by simp [reqB, reqP, wWeb]
  have hln := ln_app (p := []) (r := headsB a.hd ++ [13, 10] ++ a.bd) hb
  rw [← e] at hln
  simp only [List.length_nil] at hln
  have hw : rqW (reqB a) = [a.me, a.tg, wWeb] := by
    unfold rqW
    rw [hln.2.1, splitL_eq, spl_cut 32 _ _ m1, spl_cut 32 _ _ m2, spl_no 32 wWeb (by decide)]
  have hk : rqOk (reqB a) = true := by
    unfold rqOk
    rw [hw, hln.1]
    have n1 : a.me ≠ [] := fun e => by rw [e] at p1; simp at p1
    have n2 : a.tg ≠ [] := fun e => by rw [e] at p2; simp at p2
    simp [n1, n2]
  have hh : rqH (reqB a) = (a.hd, ((a.me ++ 32 :: (a.tg ++ 32 :: wWeb)) ++ [13, 10] ++ (headsB a.hd ++ [13, 10])).length, true) := by
    have hr := rh_app a.hd ((a.me ++ 32 :: (a.tg ++ 32 :: wWeb)) ++ [13, 10]) [] ((reqB a).length + 1) a.bd (by have := heads_100 p3; have : a.hd.length ≤ (headsB a.hd).length := headsB_ge a.hd; have : (headsB a.hd).length ≤ (reqB a).length := (by simp only [reqB, List.length_append]; omega); omega) (heads_mem p3)
    unfold rqH
    rw [hln.2.2]
    have e2 : reqB a = ((a.me ++ 32 :: (a.tg ++ 32 :: wWeb)) ++ [13, 10]) ++ (headsB a.hd ++ [13, 10] ++ a.bd) := by rw [e]; simp
    rw [← e2] at hr
    simpa using hr
  have hI : rqI (reqB a) = a := by
    unfold rqI
    rw [hw, hh]
    have e3 : (reqB a).drop ((a.me ++ 32 :: (a.tg ++ 32 :: wWeb)) ++ [13, 10] ++ (headsB a.hd ++ [13, 10])).length = a.bd := by
      rw [e]
      have : [] ++ ((a.me ++ 32 :: (a.tg ++ 32 :: wWeb)) ++ [13, 10] ++ (headsB a.hd ++ [13, 10] ++ a.bd)) = ((a.me ++ 32 :: (a.tg ++ 32 :: wWeb)) ++ [13, 10] ++ (headsB a.hd ++ [13, 10])) ++ a.bd := by simp
      rw [this, List.drop_left]
    rw [e3]; rfl
  unfold rqL
  rw [if_neg (by omega), if_pos hk, hh, if_pos rfl, hI, if_pos h]

end Go.Abs
