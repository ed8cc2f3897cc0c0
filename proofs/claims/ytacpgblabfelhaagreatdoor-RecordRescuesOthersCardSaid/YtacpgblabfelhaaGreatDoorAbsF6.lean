/- what functions of this program compute: contracts, each a function's own -/
import Derived.Test.YtacpgblabfelhaaGreatDoorAbsK2
import Derived.Test.YtacpgblabfelhaaGreatDoorAbsFacts
import Derived.Test.YtacpgblabfelhaaGreatDoorAbsF5
import Derived.Test.YtacpgblabfelhaaGreatDoorAbsShelf
import Derived.Lib.SlTrimSet
import Derived.Lib.Atoi
import Derived.Lib.Itoa
import Derived.Lib.ItoaNum
import Derived.Lib.AtoiErrMem
import Derived.Lib.ItoaLen
import Derived.Lib.SplitLaws
import Derived.Lib.Index
import Derived.Lib.IndexBytes
import Derived.Shelf.Bytes.SlIndexWhole
namespace Go.Abs
open Go Go.Proofs
set_option maxHeartbeats 4000000
set_option maxRecDepth 100000
set_option linter.unusedVariables false
set_option linter.unusedSimpArgs false
def ckCheckFile : Ck
  | [.sl n f] => some (isLs cRec n f ∧ recsOk (lsOf cRec n f), .int .i64 (checkFileL (lsOf cRec n f)))
  | _ => none
theorem conCheckFile : Con pg 23 ckCheckFile := by
  have hct := (ctA_ok conCheckRec (ctA_ok conWrite (ctN_ok _)))
  intro args q r h hq
  unfold ckCheckFile at h
  split at h
  · cases h
    rename_i n f
    refine pcall_args (args' := [.sl (lsOf cRec n f).length (lsF cRec (lsOf cRec n f))]) ⟨isLs.vle hq.1, trivial⟩ ?_
    obtain ⟨-, hl⟩ := hq
    generalize lsOf cRec n f = l at hl ⊢
    refine w23 (fun _ => false) [] rfl hct rfl rfl ?_
    push_cast (config := { maxSteps := 10000000 })
    refine ⟨fun h => by unfold checkFileL; rw [if_pos (by omega)], fun h => ?_⟩
    have e0 : checkFileL l = cfGo [] 0 l := by unfold checkFileL; rw [if_neg (by omega)]
    rw [e0]
    refine LoopW.adj ⟨hct, fol⟩ (by kernel_rfl) [] (fun t : Nat × Int => [(3, .map 11), (4, .int .i64 t.2), (12, .sl l.length (lsF cRec l)), (13, .int .i64 l.length), (14, .int .i64 t.1)]) (fun t => [(11, .mp .str (seenM ((l.take t.1).map Rcd.id)))]) (fun t => t.1 ≤ l.length ∧ 0 ≤ t.2 ∧ t.2 ≤ t.1 * 400000 ∧ cfGo ((l.take t.1).map Rcd.id) t.2 (l.drop t.1) = cfGo [] 0 l) (fun t => l.length - t.1) (0, 0) ?_ fun t ht => ?_
    · push_cast (config := { maxSteps := 10000000 })
      exact ⟨Nat.zero_le _, seen_nil⟩
    · obtain ⟨i, m⟩ := t
      obtain ⟨h1, h2, h3, h4⟩ : i ≤ l.length ∧ 0 ≤ m ∧ m ≤ i * 400000 ∧ cfGo ((l.take i).map Rcd.id) m (l.drop i) = cfGo [] 0 l := ht
      push_cast (config := { maxSteps := 10000000 })
      refine ⟨fun hi => ?_, fun hi => ?_⟩
      · rw [dropG (d := noRec) hi, cfGo] at h4
        have ea := cf_app hi
        have ok := recsOk_at hl hi
        generalize l.getD i noRec = r at *
        refine ⟨hi, ok, fun g => ?_, fun g => ⟨fun g2 => ?_, fun g2 => ⟨⟨ok, g⟩, ?_⟩⟩⟩
        · rw [if_pos g] at h4; exact h4
        · rw [if_neg (fun x => x g), if_pos g2] at h4; exact h4
        · rw [if_neg (fun x => x g), if_neg (by rw [g2]; simp)] at h4
          have hb := recB_le g
          exact ⟨⟨by omega, by omega⟩, ⟨by omega, by omega⟩, ((i + 1, m + (recB r).length) : Nat × Int), ⟨by show i + 1 ≤ _; omega, by show 0 ≤ m + _; omega, by show m + _ ≤ ((i + 1 : Nat) : Int) * 400000; omega, by rw [ea]; exact h4⟩, by show l.length - (i + 1) < l.length - i; omega, ⟨rfl, by show (i : Int) + 1 = ((i + 1 : Nat) : Int); omega⟩, fun k => by rw [putM_seen, ← ea]⟩
      · rw [List.drop_eq_nil_of_le (by omega), cfGo] at h4
        exact ⟨fun g => by rw [if_pos g] at h4; exact h4, fun g => by rw [if_neg g] at h4; exact h4⟩
  · cases h
attribute [push_cast] ckCheckFile
def fileR (l : List Rcd) : List UInt8 := if checkFileL l = 0 then fileB l else []
def ckFileBytes : Ck
  | [.sl n f] => some (isLs cRec n f ∧ recsOk (lsOf cRec n f), .tup [.sl (fileR (lsOf cRec n f)).length (byF (fileR (lsOf cRec n f))), .int .i64 (checkFileL (lsOf cRec n f))])
  | _ => none
theorem conFileBytes : Con pg 38 ckFileBytes := by
  have hct := (ctA_ok conCheckFile (ctF_ok conWriteV (ctN_ok _)))
  intro args q r h hq
  unfold ckFileBytes at h
  split at h
  · cases h
    rename_i n f
    refine pcall_args (args' := [.sl (lsOf cRec n f).length (lsF cRec (lsOf cRec n f))]) ⟨isLs.vle hq.1, trivial⟩ ?_
    obtain ⟨-, hl⟩ := hq
    generalize lsOf cRec n f = l at hl ⊢
    refine w38 (fun _ => false) [.frz 12] rfl hct rfl rfl ?_
    push_cast (config := { maxSteps := 10000000 })
    refine ⟨hl, fun h => by unfold fileR; rw [if_neg h]; rfl, fun h => ?_⟩
    have e0 : fileR l = fileB l := by unfold fileR; rw [if_pos h]
    rw [e0]
    obtain ⟨c1, c2, c3⟩ := file_ok h
    refine LoopW.adj ⟨hct, fol⟩ (by kernel_rfl) [.nv 5 12 1 (byF [])] (fun t : Nat × List UInt8 => [(5, .vec 12 t.2.length), (13, .sl l.length (lsF cRec l)), (14, .int .i64 l.length), (15, .int .i64 t.1)]) (fun t => [(12, .vec 1 t.2.length (byF t.2))]) (fun t => t.1 ≤ l.length ∧ t.2 ++ fileB (l.drop t.1) = fileB l) (fun t => l.length - t.1) (0, []) ?_ fun t ht => ?_
    · push_cast (config := { maxSteps := 10000000 })
      exact Nat.zero_le _
    · obtain ⟨i, o⟩ := t
      obtain ⟨h1, h2⟩ : i ≤ l.length ∧ o ++ fileB (l.drop i) = fileB l := ht
      have hlen := congrArg List.length h2
      simp only [List.length_append] at hlen
      push_cast (config := { maxSteps := 10000000 })
      refine ⟨fun hi => ?_, fun hi => ?_⟩
      · rw [dropG (d := noRec) hi, fileB] at h2
        have ok := recsOk_at hl hi
        have cr : checkRecL (l.getD i noRec) = 0 := by
          refine c1 _ ?_
          rw [List.getD_eq_getElem?_getD, List.getElem?_eq_getElem hi]; exact List.getElem_mem hi
        generalize l.getD i noRec = r at *
        exact ⟨hi, ⟨by omega, ok, cr⟩, ⟨by omega, by omega⟩, ((i + 1, o ++ recB r) : Nat × List UInt8), ⟨by show i + 1 ≤ _; omega, by show o ++ recB r ++ _ = _; rw [List.append_assoc]; exact h2⟩, by show l.length - (i + 1) < l.length - i; omega, ⟨by simp, by show (i : Int) + 1 = ((i + 1 : Nat) : Int); omega⟩, by simp, fun _ _ => rfl⟩
      · rw [List.drop_eq_nil_of_le (by omega), fileB, List.append_nil] at h2
        subst h2
        exact ⟨⟨rfl, fun _ _ => rfl⟩, h.symm⟩
  · cases h
attribute [push_cast] ckFileBytes

/- the closure: what is harmed lies in block 12, its cell is block 7 -/
def ckHarmK : List V → List Blk → Option (Prop × V × List Blk)
  | [.int .i64 a, .int .i64 b, .ptr 7 0], [.cells [.vec 12 n], .vec 2 k g] => some (k = n ∧ isLs cHm n g ∧ n ≤ 100000000, .tup [], [.cells [.vec 12 (harmL (lsOf cHm n g) a b).length], .vec 2 (harmL (lsOf cHm n g) a b).length (lsF cHm (harmL (lsOf cHm n g) a b))])
  | _, _ => none
def ckHarm : Cf := ⟨fun | [_, _, .ptr 7 _] => [7, 12] | _ => [], ckHarmK⟩
theorem conHarm : FCon pg 81 ckHarm := by
  have hct := ctN_ok pg
  intro args bs q r bs' h hq
  replace h : ckHarmK args bs = some (q, r, bs') := h
  unfold ckHarmK at h
  split at h
  · cases h
    rename_i a b n k g
    refine ⟨rfl, Nat.le_refl _, ?_⟩
    obtain ⟨rfl, hg, hk⟩ := hq
    show FCall pg 81 [.int .i64 a, .int .i64 b, .ptr 9007 0] [(9007, .cells [.vec 9012 k]), (9012, .vec 2 k fun i => V.shift (g i))] (.tup []) [(9007, .cells [.vec 9012 (harmL (lsOf cHm k g) a b).length]), (9012, .vec 2 (harmL (lsOf cHm k g) a b).length (lsF cHm (harmL (lsOf cHm k g) a b)))]
    refine fcall_blk (hm := [(9007, .cells [.vec 9012 k]), (9012, .vec 2 k (lsF cHm (lsOf cHm k g)))]) ⟨rfl, ⟨⟨rfl, rfl⟩, trivial⟩, rfl, ⟨rfl, rfl, fun j hj => by show V.shift (g j) = _; rw [hg.2 j hj]; rfl⟩, trivial⟩ ?_
    have hl := lsOf_len (c := cHm) k g
    generalize lsOf cHm k g = l at hl ⊢
    subst hl
    refine fw81 (fun _ => false) [] rfl hct rfl (by simp) (by simp [hlIn, idsIn, Blk.menIn, V.menInL, V.menIn, V.flat, byF, lsF, cHm]) (by simp [V.menIn, V.menInL, idsIn]) ?_
    push_cast (config := { maxSteps := 10000000 })
    unfold harmL
    refine ⟨fun h => ?_, fun h => ?_⟩
    · rw [if_pos h]
      have app := LsI.app (c := cHm) (f := lsF cHm l) (g := litF [cHm.enc ⟨a, b⟩]) (LsI.ls l) (LsI.one (c := cHm) (a := (⟨a, b⟩ : Hm)) rfl) rfl
      exact ⟨⟨by omega, by omega⟩, by simp, by simp, app.2⟩
    · rw [if_neg h]
      exact ⟨rfl, rfl, fun _ _ => rfl⟩
  · cases h
@[push_cast] theorem harm_ids (x y : V) (o : Nat) : ckHarm.ids [x, y, .ptr 7 o] = [7, 12] := rfl
@[push_cast] theorem harm_k (a b : Int) (n k : Nat) (g : Nat → V) : ckHarm.k [.int .i64 a, .int .i64 b, .ptr 7 0] [.cells [.vec 12 n], .vec 2 k g] = some (k = n ∧ isLs cHm n g ∧ n ≤ 100000000, .tup [], [.cells [.vec 12 (harmL (lsOf cHm n g) a b).length], .vec 2 (harmL (lsOf cHm n g) a b).length (lsF cHm (harmL (lsOf cHm n g) a b))]) := rfl
theorem conRescued : Con pg 42 ckRescued := by
  have hct := (ctA_ok conReadOne0 (ctF_ok conHarm (ctN_ok _)))
  intro args q r h hq
  unfold ckRescued at h
  split at h
  · cases h
    rename_i n f
    refine pcall_args (args' := [.sl (bytesOf n f).length (byF (bytesOf n f))]) ⟨isBy.vle hq.1, trivial⟩ ?_
    obtain ⟨-, hn⟩ := hq
    have hl := bytesOf_len n f
    rw [← hl] at hn
    generalize bytesOf n f = B at hn ⊢
    clear hl
    refine w42 (fun _ => false) [.frz 8000, .frz 12] rfl hct rfl rfl ?_
    push_cast (config := { maxSteps := 10000000 })
    generalize hR : rescL B = R
    unfold rescL at hR
    refine ⟨fun h => ?_, fun h => ?_⟩
    · rw [if_pos (by omega)] at hR
      rw [← hR]
      exact ⟨rfl, rfl, rfl⟩
    rw [if_neg (by omega)] at hR
    have hB : B.length ≤ 500000 := by omega
    generalize hS : rsGo B (B.length + 1) 0 0 [] [] = S at hR
    refine LoopW.adj ⟨hct, fol⟩ (by kernel_rfl) [.nv 6 8000 7 (lsF cRec []), .nvc 7 0 12 2 (lsF cHm [])] (fun t : Nat × Nat × List Rcd × List Hm => [(0, .sl B.length (byF B)), (5, .map 17), (6, .vec 8000 t.2.2.1.length), (7, .ptr 7 0), (8, .fn (.func 81) [] [.ptr 7 0]), (9, .int .i64 t.2.1), (10, .int .i64 t.1)]) (fun t => [(17, .mp .str (seenM (t.2.2.1.map Rcd.id))), (8000, .vec 7 t.2.2.1.length (lsF cRec t.2.2.1)), (7, .cells [.vec 12 t.2.2.2.length]), (12, .vec 2 t.2.2.2.length (lsF cHm t.2.2.2))]) (fun t => t.1 ≤ B.length ∧ t.2.1 ≤ t.1 ∧ recsOk t.2.2.1 ∧ t.2.2.1.length ≤ 1000 ∧ t.2.2.2.length ≤ t.2.2.1.length ∧ ∃ k, B.length < t.1 + k ∧ rsGo B k t.1 t.2.1 t.2.2.1 t.2.2.2 = S) (fun t => B.length - t.1) (0, 0, [], []) ?_ fun t ht => ?_
    · push_cast (config := { maxSteps := 10000000 })
      exact ⟨⟨Nat.zero_le _, fun r hr => (by cases hr), B.length + 1, by omega, hS⟩, seen_nil⟩
    · obtain ⟨i, fr, l, h⟩ := t
      obtain ⟨i1, i2, i3, i4, i5, k, i6, i7⟩ : i ≤ B.length ∧ fr ≤ i ∧ recsOk l ∧ l.length ≤ 1000 ∧ h.length ≤ l.length ∧ ∃ k, B.length < i + k ∧ rsGo B k i fr l h = S := ht
      obtain ⟨k, rfl⟩ : ∃ k', k = k' + 1 := ⟨k - 1, by omega⟩
      rw [rsGo] at i7
      push_cast (config := { maxSteps := 10000000 })
      have e1 : (lsOf cHm h.length fun i => V.agg [V.int IntKind.i64 (h.getD i noHm).fr, V.int IntKind.i64 (h.getD i noHm).en]) = h := (LsI.ls (c := cHm) h).of
      have e2 : isLs cHm h.length (fun i => V.agg [V.int IntKind.i64 (h.getD i noHm).fr, V.int IntKind.i64 (h.getD i noHm).en]) := by
        show LsI cHm h.length (lsF cHm h) (lsOf cHm h.length (lsF cHm h))
        rw [(LsI.ls (c := cHm) h).of]
        exact LsI.ls h
      simp only [e1]
      refine ⟨fun hi => ⟨⟨hB, i1⟩, fun g => ?_, fun g => ⟨fun g2 => ?_, fun g2 => ?_⟩⟩, fun hi => ?_⟩
      · rw [if_pos hi, if_neg (by rintro ⟨x, y⟩; rcases g with g | g; exact g x; rw [y] at g; cases g)] at i7
        exact ⟨⟨by omega, by omega⟩, ((i + 1, fr, l, h) : Nat × Nat × List Rcd × List Hm), ⟨by show i + 1 ≤ _; omega, by show fr ≤ i + 1; omega, i3, i4, i5, k, by show B.length < i + 1 + k; omega, i7⟩, by show B.length - (i + 1) < B.length - i; omega, ⟨rfl, rfl, by show (i : Int) + 1 = ((i + 1 : Nat) : Int); omega⟩, fun _ => rfl, ⟨rfl, fun _ _ => rfl⟩, rfl, rfl, fun _ _ => rfl⟩
      · rw [if_pos hi, if_pos g] at i7
        have := rsGo_ge (B := B) k (rdOne B i).snd.fst.toNat (rdOne B i).snd.fst.toNat (l ++ [(rdOne B i).fst]) (harmL h ↑fr ↑i)
        rw [i7, List.length_append, List.length_singleton] at this
        rw [if_pos (by omega)] at hR
        rw [← hR]
        exact ⟨rfl, rfl, rfl⟩
      · rw [if_pos hi, if_pos g] at i7
        obtain ⟨o1, o2⟩ := rdOne_fit hB i1
        obtain ⟨o3, o4, o5⟩ := o2 g.1
        have app1 := LsI.app (c := cRec) (f := lsF cRec l) (g := litF [cRec.enc (rdOne B i).1]) (LsI.ls l) (LsI.one (c := cRec) (a := (rdOne B i).1) rfl) rfl
        have hh := harmL_le h fr i
        generalize rdOne B i = X at *
        refine ⟨⟨e2, by omega⟩, ⟨by omega, by omega⟩, ((X.2.1.toNat, X.2.1.toNat, l ++ [X.1], harmL h fr i) : Nat × Nat × List Rcd × List Hm), ⟨?_, Nat.le_refl _, fun r hr => ?_, ?_, ?_, k, ?_, i7⟩, ?_, ⟨by simp, ?_, ?_⟩, fun q => ?_, ⟨by simp, app1.2⟩, rfl, rfl, fun _ _ => rfl⟩
        · show X.2.1.toNat ≤ _; omega
        · rcases List.mem_append.1 hr with hr | hr
          · exact i3 r hr
          · rw [List.mem_singleton] at hr; subst hr; exact o1
        · show (l ++ [_]).length ≤ 1000; simp; omega
        · show (harmL h fr i).length ≤ (l ++ [_]).length; simp; omega
        · show B.length < X.2.1.toNat + k; omega
        · show B.length - X.2.1.toNat < B.length - i; omega
        · show X.2.1 = ((X.2.1.toNat : Nat) : Int); omega
        · show X.2.1 = ((X.2.1.toNat : Nat) : Int); omega
        · rw [putM_seen, List.map_append]; rfl
      · rw [if_neg hi] at i7
        have hi' : i = B.length := by omega
        rw [← i7, if_neg (by show ¬ 1000 < l.length; omega)] at hR
        rw [← hR, ← hi']
        exact ⟨by omega, ⟨rfl, fun _ _ => rfl⟩, ⟨rfl, fun _ _ => rfl⟩, rfl⟩
  · cases h
attribute [push_cast] ckRescued

theorem conReadFile0 : Con pg 79 ckReadFile0 := by
  have hct := (ctA_ok conReadOne0 (ctA_ok conCheckFile (ctN_ok _)))
  intro args q r h hq
  unfold ckReadFile0 at h
  split at h
  · cases h
    rename_i n f
    refine pcall_args (args' := [.sl (bytesOf n f).length (byF (bytesOf n f))]) ⟨isBy.vle hq.1, trivial⟩ ?_
    obtain ⟨-, hn⟩ := hq
    have hl := bytesOf_len n f
    rw [← hl] at hn
    generalize bytesOf n f = B at hn ⊢
    clear hl
    refine w79 (fun _ => false) [.frz 8000, .frz 8001] rfl hct rfl rfl ?_
    push_cast (config := { maxSteps := 10000000 })
    generalize hR : readFileL B = R
    unfold readFileL at hR
    refine ⟨fun h => ?_, fun h => ?_⟩
    · rw [if_pos (by omega)] at hR
      rw [← hR]
      exact ⟨rfl, rfl, rfl, rfl⟩
    rw [if_neg (by omega)] at hR
    have hB : B.length ≤ 500000 := by omega
    refine LoopW.adj ⟨hct, fol⟩ (by kernel_rfl) [.nv 6 8000 7 (lsF cRec []), .nv 7 8001 3 (lsF cMk [])] (fun t : Nat × List Rcd × List Mk => [(0, .sl B.length (byF B)), (6, .vec 8000 t.2.1.length), (7, .vec 8001 t.2.2.length), (8, .int .i64 t.1)]) (fun t => [(8000, .vec 7 t.2.1.length (lsF cRec t.2.1)), (8001, .vec 3 t.2.2.length (lsF cMk t.2.2))]) (fun t => t.1 ≤ B.length ∧ recsOk t.2.1 ∧ t.2.1.length ≤ t.1 ∧ t.2.2.length ≤ t.1 ∧ ∃ k, B.length < t.1 + k ∧ rfGo B k t.1 t.2.1 t.2.2 = R) (fun t => B.length - t.1) (0, [], []) ?_ fun t ht => ?_
    · push_cast (config := { maxSteps := 10000000 })
      exact ⟨Nat.zero_le _, fun r hr => (by cases hr), B.length + 1, by omega, hR⟩
    · obtain ⟨i, l, m⟩ := t
      obtain ⟨i1, i2, i3, i4, k, i5, i6⟩ : i ≤ B.length ∧ recsOk l ∧ l.length ≤ i ∧ m.length ≤ i ∧ ∃ k, B.length < i + k ∧ rfGo B k i l m = R := ht
      obtain ⟨k, rfl⟩ : ∃ k', k = k' + 1 := ⟨k - 1, by omega⟩
      rw [rfGo] at i6
      push_cast (config := { maxSteps := 10000000 })
      refine ⟨fun hi => ⟨⟨hB, i1⟩, fun g => ?_, fun g => ?_⟩, fun hi => ⟨i2, fun g => ?_, fun g => ?_⟩⟩
      · rw [if_pos hi, if_neg g] at i6
        rw [← i6]
        exact ⟨rfl, rfl, rfl, rfl⟩
      · rw [if_pos hi, if_pos g] at i6
        obtain ⟨o1, o2⟩ := rdOne_fit hB i1
        obtain ⟨o3, o4, o5⟩ := o2 g
        have app1 := LsI.app (c := cRec) (f := lsF cRec l) (g := litF [cRec.enc (rdOne B i).1]) (LsI.ls l) (LsI.one (c := cRec) (a := (rdOne B i).1) rfl) rfl
        have app2 := LsI.app (c := cMk) (f := lsF cMk m) (g := litF [cMk.enc (Mk.mk (rdOne B i).1.id i (rdOne B i).2.1)]) (LsI.ls m) (LsI.one (c := cMk) (a := Mk.mk (rdOne B i).1.id i (rdOne B i).2.1) rfl) rfl
        generalize rdOne B i = X at *
        refine ⟨⟨by omega, by omega⟩, ⟨by omega, by omega⟩, ((X.2.1.toNat, l ++ [X.1], m ++ [Mk.mk X.1.id i X.2.1]) : Nat × List Rcd × List Mk), ⟨?_, fun r hr => ?_, ?_, ?_, k, ?_, i6⟩, ?_, ⟨by simp, by simp, ?_⟩, ⟨by simp, app1.2⟩, by simp, app2.2⟩
        · show X.2.1.toNat ≤ _; omega
        · rcases List.mem_append.1 hr with hr | hr
          · exact i2 r hr
          · rw [List.mem_singleton] at hr; subst hr; exact o1
        · show (l ++ [_]).length ≤ X.2.1.toNat; simp; omega
        · show (m ++ [_]).length ≤ X.2.1.toNat; simp; omega
        · show B.length < X.2.1.toNat + k; omega
        · show B.length - X.2.1.toNat < B.length - i; omega
        · show X.2.1 = ((X.2.1.toNat : Nat) : Int); omega
      · rw [if_neg hi, if_neg g] at i6
        rw [← i6]
        exact ⟨rfl, rfl, rfl, rfl⟩
      · rw [if_neg hi, if_pos g] at i6
        rw [← i6]
        exact ⟨⟨rfl, fun _ _ => rfl⟩, ⟨rfl, fun _ _ => rfl⟩, rfl, rfl⟩
  · cases h
theorem conReadFile : Con pg 39 ckReadFile := by
  have hct := (ctA_ok conReadFile0 (ctN_ok _))
  intro args q r h hq
  unfold ckReadFile at h
  split at h
  · cases h
    rename_i n f
    refine w39 (fun _ => false) [] rfl hct rfl rfl ?_
    push_cast (config := { maxSteps := 10000000 })
    exact hq
  · cases h
theorem conMarks : Con pg 40 ckMarks := by
  have hct := (ctA_ok conReadFile0 (ctN_ok _))
  intro args q r h hq
  unfold ckMarks at h
  split at h
  · cases h
    rename_i n f
    refine w40 (fun _ => false) [] rfl hct rfl rfl ?_
    push_cast (config := { maxSteps := 10000000 })
    exact hq
  · cases h

theorem eq_take {α : Type} [DecidableEq α] {d : α} {a b : List α} (h : a.length = b.length) (hh : ∀ j, j < a.length → a.getD j d = b.getD j d) : a = b := by
  apply List.ext_getElem h
  intro i h1 h2
  have := hh i h1
  rwa [List.getD_eq_getElem?_getD, List.getD_eq_getElem?_getD, List.getElem?_eq_getElem h1, List.getElem?_eq_getElem h2] at this
theorem ne_at {α : Type} {d : α} {a b : List α} {i : Nat} (h : a.getD i d ≠ b.getD i d) : a ≠ b := fun e => h (by rw [e])
def ckEqHd : Ck
  | [.sl n f, .sl m g] => some (isLs cHd n f ∧ isLs cHd m g ∧ n ≤ 4611686018427387904, .bool (decide (lsOf cHd n f = lsOf cHd m g)))
  | _ => none
theorem conEqHd : Con pg 76 ckEqHd := by
  have hct := ctN_ok pg
  intro args q r h hq
  unfold ckEqHd at h
  split at h
  · cases h
    rename_i n f m g
    refine pcall_args (args' := [.sl (lsOf cHd n f).length (lsF cHd (lsOf cHd n f)), .sl (lsOf cHd m g).length (lsF cHd (lsOf cHd m g))]) ⟨isLs.vle hq.1, isLs.vle hq.2.1, trivial⟩ ?_
    have hn : (lsOf cHd n f).length ≤ 4611686018427387904 := by rw [lsOf_len]; exact hq.2.2
    generalize lsOf cHd n f = a at hn ⊢
    generalize lsOf cHd m g = b
    refine w76 (fun _ => false) [] rfl hct rfl rfl ?_
    push_cast (config := { maxSteps := 10000000 })
    refine ⟨fun h => ?_, fun h => ?_⟩
    · exact (decide_eq_false fun e => h (by rw [e])).symm
    refine LoopW.adj ⟨hct, fol⟩ (by kernel_rfl) [] (fun i : Nat => [(0, .sl a.length (lsF cHd a)), (1, .sl b.length (lsF cHd b)), (12, .int .i64 a.length), (13, .int .i64 i)]) (fun _ => []) (fun i => i ≤ a.length ∧ ∀ j, j < i → a.getD j ⟨[], []⟩ = b.getD j ⟨[], []⟩) (fun i => a.length - i) 0 ?_ fun i hi => ?_
    · push_cast (config := { maxSteps := 10000000 })
      exact Nat.zero_le _
    · push_cast (config := { maxSteps := 10000000 })
      obtain ⟨h1, h2⟩ := hi
      refine ⟨fun hlt => ⟨hlt, by omega, fun hne => ?_, fun he => ⟨by omega, i + 1, ⟨by omega, fun j hj => ?_⟩, by omega, by omega⟩⟩, fun hge => ?_⟩
      · exact (decide_eq_false (ne_at (d := ⟨[], []⟩) (i := i) fun e => hne (by rw [e]) (by rw [e]))).symm
      · by_cases e : j = i
        · subst e
          have e1 : ∀ x y : Hd, x.name = y.name → x.value = y.value → x = y := fun x y h h' => by cases x; cases y; simp_all
          exact e1 _ _ he.1 he.2
        · exact h2 j (by omega)
      · exact (decide_eq_true (eq_take (d := ⟨[], []⟩) (by omega) fun j hj => h2 j (by omega))).symm
  · cases h
attribute [push_cast] ckEqHd

def ckSame6 : Ck
  | [.agg [.int .i64 k1, .str i1, .str o1, .int .i64 t1, .str e1, .sl n f, .sl m g], .agg [.int .i64 k2, .str i2, .str o2, .int .i64 t2, .str e2, .sl n' f', .sl m' g']] => some (isLs cHd n f ∧ isLs cHd n' f' ∧ n ≤ 4611686018427387904 ∧ isBy m g ∧ isBy m' g', .bool (decide ((⟨k1, i1, o1, t1, e1, lsOf cHd n f, bytesOf m g⟩ : Rcd) = ⟨k2, i2, o2, t2, e2, lsOf cHd n' f', bytesOf m' g'⟩)))
  | _ => none
theorem conSame6 : Con pg 33 ckSame6 := by
  have hct := (ctA_ok conEqHd (ctA_ok conBEqual (ctN_ok _)))
  intro args q r h hq
  unfold ckSame6 at h
  split at h
  · cases h
    rename_i k1 i1 o1 t1 e1 n f m g k2 i2 o2 t2 e2 n' f' m' g'
    refine w33 (fun _ => false) [] rfl hct rfl rfl ?_
    push_cast (config := { maxSteps := 10000000 })
    obtain ⟨h1, h2, h3, h4, h5⟩ := hq
    refine ⟨fun h => ⟨h, h1, h2, h3⟩, fun h => ⟨h, h4, h5⟩, ?_⟩
    rw [Bool.eq_iff_iff]
    simp only [Bool.and_eq_true, beq_iff_eq, decide_eq_true_eq, Rcd.mk.injEq, and_assoc]
  · cases h
attribute [push_cast] ckSame6
def ckSameAll : Ck
  | [.sl n f, .sl m g] => some (isLs cRec n f ∧ isLs cRec m g ∧ n ≤ 1000000 ∧ (∀ r ∈ lsOf cRec n f, r.hd.length ≤ 4611686018427387904), .bool (decide (lsOf cRec n f = lsOf cRec m g)))
  | _ => none
theorem conSameAll : Con pg 20 ckSameAll := by
  have hct := (ctA_ok conSame6 (ctN_ok _))
  intro args q r h hq
  unfold ckSameAll at h
  split at h
  · cases h
    rename_i n f m g
    refine pcall_args (args' := [.sl (lsOf cRec n f).length (lsF cRec (lsOf cRec n f)), .sl (lsOf cRec m g).length (lsF cRec (lsOf cRec m g))]) ⟨isLs.vle hq.1, isLs.vle hq.2.1, trivial⟩ ?_
    obtain ⟨-, -, hn, hh⟩ := hq
    have hn : (lsOf cRec n f).length ≤ 1000000 := by rw [lsOf_len]; exact hn
    generalize lsOf cRec n f = a at hn hh ⊢
    generalize lsOf cRec m g = b
    refine w20 (fun _ => false) [] rfl hct rfl rfl ?_
    push_cast (config := { maxSteps := 10000000 })
    refine ⟨fun h => ?_, fun h => ?_⟩
    · exact (decide_eq_false fun e => h (by rw [e])).symm
    refine LoopW.adj ⟨hct, fol⟩ (by kernel_rfl) [] (fun i : Nat => [(0, .sl a.length (lsF cRec a)), (1, .sl b.length (lsF cRec b)), (5, .int .i64 i)]) (fun _ => []) (fun i => i ≤ a.length ∧ ∀ j, j < i → a.getD j noRec = b.getD j noRec) (fun i => a.length - i) 0 ?_ fun i hi => ?_
    · push_cast (config := { maxSteps := 10000000 })
      exact Nat.zero_le _
    · push_cast (config := { maxSteps := 10000000 })
      obtain ⟨h1, h2⟩ := hi
      refine ⟨fun hlt => ⟨hlt, by omega, ?_, fun hne => ?_, fun he => ⟨⟨by omega, by omega⟩, i + 1, ⟨by omega, fun j hj => ?_⟩, by omega, by omega⟩⟩, fun hge => ?_⟩
      · exact hh _ (by rw [List.getD_eq_getElem?_getD, List.getElem?_eq_getElem hlt]; exact List.getElem_mem hlt)
      · exact (decide_eq_false (ne_at (d := noRec) (i := i) fun e => hne e)).symm
      · by_cases e : j = i
        · subst e; exact he
        · exact h2 j (by omega)
      · exact (decide_eq_true (eq_take (d := noRec) (by omega) fun j hj => h2 j (by omega))).symm
  · cases h
attribute [push_cast] ckSameAll

def ckWritten : Ck
  | [x] => some (isC cRec x ∧ recOk (cRec.dec x) ∧ checkRecL (cRec.dec x) = 0, .sl (recB (cRec.dec x)).length (byF (recB (cRec.dec x))))
  | _ => none
theorem conWritten : Con pg 88 ckWritten := by
  have hct := (ctA_ok conKindW (ctA_ok conDateOf2 (ctA_ok conItoa (ctA_ok conDigest2 (ctN_ok _)))))
  intro args q r h hq
  unfold ckWritten at h
  split at h
  · cases h
    rename_i x
    refine pcall_args (args' := [cRec.enc (cRec.dec x)]) ⟨hq.1, trivial⟩ ?_
    obtain ⟨-, ha, hc⟩ := hq
    generalize cRec.dec x = r at ha hc ⊢
    refine w88 (fun _ => false) [.frz 73] rfl hct rfl rfl ?_
    push_cast (config := { maxSteps := 10000000 })
    obtain ⟨z1, z2, z3, z4, z5, z6, z7⟩ := rec_sz hc
    obtain ⟨y1, y2, y3, y4, y5, y6, y7, y8, y9, y10⟩ := rec_ok hc
    have zk := kindW_le (r.ki - 1).toNat
    have zp := recP_le hc
    refine ⟨by omega, by omega, fun how => ?_, fun how => ?_⟩
    · (repeat (refine ⟨by omega, ?_⟩))
      refine LoopW.adj ⟨hct, fol⟩ (by kernel_rfl) [] (fun t : Nat × List UInt8 => [(1, .ptr 1 0), (3, .str t.2), (4, .int .i64 t.1)]) (fun t => [(1, .cells [.int .i64 r.ki, .str r.id, .str r.ow, .int .i64 r.ti, .str r.ke, .sl r.hd.length (lsF cHd r.hd), .sl r.bd.length (byF r.bd)])]) (fun t => t.1 ≤ r.hd.length ∧ t.2 ++ headsB (r.hd.drop t.1) = recP r ++ headsB r.hd) (fun t => r.hd.length - t.1) (0, recP r) ?_ fun t ht => ?_
      · push_cast (config := { maxSteps := 10000000 })
        refine ⟨Nat.zero_le _, ?_⟩
        unfold recP; rw [if_neg how]; simp [lnB2, wKept]
      · obtain ⟨i, o⟩ := t
        obtain ⟨i1, i2⟩ : i ≤ r.hd.length ∧ o ++ headsB (r.hd.drop i) = recP r ++ headsB r.hd := ht
        have hl := congrArg List.length i2
        simp only [List.length_append] at hl
        push_cast (config := { maxSteps := 10000000 })
        refine ⟨fun h => ?_, fun h => ?_⟩
        · have e := dropG (d := ⟨[], []⟩) h
          rw [e, headsB] at i2 hl
          have hx : (headB (r.hd.getD i ⟨[], []⟩)).length = (r.hd.getD i ⟨[], []⟩).name.length + 2 + (r.hd.getD i ⟨[], []⟩).value.length + 2 := by simp [headB]; omega
          simp only [List.length_append] at hl
          generalize r.hd.getD i ⟨[], []⟩ = y at *
          (repeat (refine ⟨by omega, ?_⟩))
          exact ⟨((i + 1, o ++ (y.name ++ [58, 32] ++ y.value ++ [13, 10])) : Nat × List UInt8), ⟨by show i + 1 ≤ _; omega, by rw [← i2]; simp [headB]⟩, by show r.hd.length - (i + 1) < r.hd.length - i; omega, rfl, by show (i : Int) + 1 = ((i + 1 : Nat) : Int); omega⟩
        · rw [List.drop_eq_nil_of_le (by omega)] at i2 hl
          simp only [headsB, List.append_nil, List.length_nil, Nat.add_zero] at i2 hl
          have hi6 := itoa_len (n := r.bd.length) (by omega)
          have hdg : (digestL r.bd).length = 16 := hex16_len _
          (repeat (refine ⟨by omega, ?_⟩))
          have eq : (o ++ 108 :: 101 :: 110 :: 103 :: 116 :: 104 :: 58 :: 32 :: (Lib.itoa r.bd.length ++ [13, 10, 100, 105, 103, 101, 115, 116, 58, 32] ++ digestL r.bd ++ [13, 10, 13, 10])) ++ r.bd ++ [13, 10, 13, 10] = recB r := by
            rw [i2]; simp [recB, recQ, lnB2]
          have hQ : (o ++ 108 :: 101 :: 110 :: 103 :: 116 :: 104 :: 58 :: 32 :: (Lib.itoa r.bd.length ++ [13, 10, 100, 105, 103, 101, 115, 116, 58, 32] ++ digestL r.bd ++ [13, 10, 13, 10])).length = o.length + ((Lib.itoa r.bd.length).length + 10 + (digestL r.bd).length + 4 + 1 + 1 + 1 + 1 + 1 + 1 + 1 + 1) := by simp; omega
          have app := (ByI.app (ByI.app (ByI.by (o ++ 108 :: 101 :: 110 :: 103 :: 116 :: 104 :: 58 :: 32 :: (Lib.itoa r.bd.length ++ [13, 10, 100, 105, 103, 101, 115, 116, 58, 32] ++ digestL r.bd ++ [13, 10, 13, 10]))) (ByI.by r.bd) rfl) (ByI.by [13, 10, 13, 10]) rfl).eq eq
          rw [hQ] at app
          exact ⟨app.pure, app.1, app.2⟩
    · (repeat (refine ⟨by omega, ?_⟩))
      refine LoopW.adj ⟨hct, fol⟩ (by kernel_rfl) [] (fun t : Nat × List UInt8 => [(1, .ptr 1 0), (3, .str t.2), (4, .int .i64 t.1)]) (fun t => [(1, .cells [.int .i64 r.ki, .str r.id, .str r.ow, .int .i64 r.ti, .str r.ke, .sl r.hd.length (lsF cHd r.hd), .sl r.bd.length (byF r.bd)])]) (fun t => t.1 ≤ r.hd.length ∧ t.2 ++ headsB (r.hd.drop t.1) = recP r ++ headsB r.hd) (fun t => r.hd.length - t.1) (0, recP r) ?_ fun t ht => ?_
      · push_cast (config := { maxSteps := 10000000 })
        refine ⟨Nat.zero_le _, ?_⟩
        unfold recP; rw [if_pos how]; simp [lnB2, wKept]
      · obtain ⟨i, o⟩ := t
        obtain ⟨i1, i2⟩ : i ≤ r.hd.length ∧ o ++ headsB (r.hd.drop i) = recP r ++ headsB r.hd := ht
        have hl := congrArg List.length i2
        simp only [List.length_append] at hl
        push_cast (config := { maxSteps := 10000000 })
        refine ⟨fun h => ?_, fun h => ?_⟩
        · have e := dropG (d := ⟨[], []⟩) h
          rw [e, headsB] at i2 hl
          have hx : (headB (r.hd.getD i ⟨[], []⟩)).length = (r.hd.getD i ⟨[], []⟩).name.length + 2 + (r.hd.getD i ⟨[], []⟩).value.length + 2 := by simp [headB]; omega
          simp only [List.length_append] at hl
          generalize r.hd.getD i ⟨[], []⟩ = y at *
          (repeat (refine ⟨by omega, ?_⟩))
          exact ⟨((i + 1, o ++ (y.name ++ [58, 32] ++ y.value ++ [13, 10])) : Nat × List UInt8), ⟨by show i + 1 ≤ _; omega, by rw [← i2]; simp [headB]⟩, by show r.hd.length - (i + 1) < r.hd.length - i; omega, rfl, by show (i : Int) + 1 = ((i + 1 : Nat) : Int); omega⟩
        · rw [List.drop_eq_nil_of_le (by omega)] at i2 hl
          simp only [headsB, List.append_nil, List.length_nil, Nat.add_zero] at i2 hl
          have hi6 := itoa_len (n := r.bd.length) (by omega)
          have hdg : (digestL r.bd).length = 16 := hex16_len _
          (repeat (refine ⟨by omega, ?_⟩))
          have eq : (o ++ 108 :: 101 :: 110 :: 103 :: 116 :: 104 :: 58 :: 32 :: (Lib.itoa r.bd.length ++ [13, 10, 100, 105, 103, 101, 115, 116, 58, 32] ++ digestL r.bd ++ [13, 10, 13, 10])) ++ r.bd ++ [13, 10, 13, 10] = recB r := by
            rw [i2]; simp [recB, recQ, lnB2]
          have hQ : (o ++ 108 :: 101 :: 110 :: 103 :: 116 :: 104 :: 58 :: 32 :: (Lib.itoa r.bd.length ++ [13, 10, 100, 105, 103, 101, 115, 116, 58, 32] ++ digestL r.bd ++ [13, 10, 13, 10])).length = o.length + ((Lib.itoa r.bd.length).length + 10 + (digestL r.bd).length + 4 + 1 + 1 + 1 + 1 + 1 + 1 + 1 + 1) := by simp; omega
          have app := (ByI.app (ByI.app (ByI.by (o ++ 108 :: 101 :: 110 :: 103 :: 116 :: 104 :: 58 :: 32 :: (Lib.itoa r.bd.length ++ [13, 10, 100, 105, 103, 101, 115, 116, 58, 32] ++ digestL r.bd ++ [13, 10, 13, 10]))) (ByI.by r.bd) rfl) (ByI.by [13, 10, 13, 10]) rfl).eq eq
          rw [hQ] at app
          exact ⟨app.pure, app.1, app.2⟩
  · cases h
attribute [push_cast] ckWritten

def recR (r : Rcd) : List UInt8 := if checkRecL r = 0 then recB r else []
def digR (r : Rcd) : List UInt8 := if checkRecL r = 0 then digestL r.bd else []
def ckRecBytes : Ck
  | [x] => some (isC cRec x ∧ recOk (cRec.dec x), .tup [.sl (recR (cRec.dec x)).length (byF (recR (cRec.dec x))), .int .i64 (checkRecL (cRec.dec x))])
  | _ => none
theorem conRecBytes : Con pg 35 ckRecBytes := by
  have hct := (ctA_ok conCheckRec (ctA_ok conWrite (ctN_ok _)))
  intro args q r h hq
  unfold ckRecBytes at h
  split at h
  · cases h
    rename_i x
    refine pcall_args (args' := [cRec.enc (cRec.dec x)]) ⟨hq.1, trivial⟩ ?_
    obtain ⟨-, ha⟩ := hq
    generalize cRec.dec x = r at ha ⊢
    refine w35 (fun _ => false) [] rfl hct rfl rfl ?_
    push_cast (config := { maxSteps := 10000000 })
    have e : checkRecL r = 0 → recR r = recB r := fun h => by unfold recR; rw [if_pos h]
    refine ⟨ha, fun h => by unfold recR; rw [if_neg h]; rfl, fun h => ⟨⟨ha, h⟩, ?_, h.symm⟩⟩
    rw [e h]
    exact ⟨rfl, fun _ _ => rfl⟩
  · cases h
attribute [push_cast] ckRecBytes
def ckDigestOf : Ck
  | [x] => some (isC cRec x ∧ recOk (cRec.dec x), .tup [.str (digR (cRec.dec x)), .int .i64 (checkRecL (cRec.dec x))])
  | _ => none
theorem conDigestOf : Con pg 62 ckDigestOf := by
  have hct := (ctA_ok conCheckRec (ctA_ok conDigest (ctN_ok _)))
  intro args q r h hq
  unfold ckDigestOf at h
  split at h
  · cases h
    rename_i x
    refine pcall_args (args' := [cRec.enc (cRec.dec x)]) ⟨hq.1, trivial⟩ ?_
    obtain ⟨-, ha⟩ := hq
    generalize cRec.dec x = r at ha ⊢
    refine w62 (fun _ => false) [] rfl hct rfl rfl ?_
    push_cast (config := { maxSteps := 10000000 })
    exact ⟨ha, fun h => by unfold digR; rw [if_neg h], fun h => ⟨by have := (rec_ok h).2.2.2.2.2.2.2.2.2; omega, by unfold digR; rw [if_pos h], h.symm⟩⟩
  · cases h
attribute [push_cast] ckDigestOf
def recA : Rcd := ⟨1, [97], [], 0, [107], [], []⟩
def ckDigNil : Ck
  | [.agg [.int .i64 1, .str [97], .str [], .int .i64 0, .str [107], .nilsl, .nilsl]] => some (True, .tup [.str (digR recA), .int .i64 (checkRecL recA)])
  | _ => none
theorem conDigNil : Con pg 62 ckDigNil := by
  intro args q r h hq
  unfold ckDigNil at h
  split at h
  · cases h
    have hz : ∀ f, VLe .nilsl (.sl 0 f) := fun f => vle1_ok (show vle1 .nilsl (.sl 0 f) from rfl)
    refine pcall_args (args' := [cRec.enc recA]) ⟨VLe.agg ⟨VLe.refl _, VLe.refl _, VLe.refl _, VLe.refl _, VLe.refl _, hz _, hz _, trivial⟩, trivial⟩ ?_
    have := conDigestOf [cRec.enc recA] _ _ rfl ⟨isC_enc cRec recA, ?_⟩
    · rw [cRec.ok] at this
      exact this
    · rw [cRec.ok]
      exact ⟨fun x hx => (by cases hx), by decide, by decide, by decide, by decide, by decide, by decide, by decide, by decide, by decide⟩
  · cases h
attribute [push_cast] ckDigNil
def ckAwake6 : Ck
  | [] => some (True, .bool true)
  | _ => none
theorem conAwake6 : Con pg 21 ckAwake6 := by
  have hct := (ctA_ok conDigNil (ctN_ok _))
  intro args q r h hq
  unfold ckAwake6 at h
  split at h
  · cases h
    refine w21 (fun _ => false) [] rfl hct rfl rfl ?_
    push_cast (config := { maxSteps := 10000000 })
    exact ⟨by decide +kernel, by decide +kernel⟩
  · cases h
attribute [push_cast] ckAwake6

/- lists of records as arguments -/
theorem VLe.slV {n : Nat} {f g : Nat → V} (h : ∀ i, i < n → (g i).flat.length = (f i).flat.length ∧ ∀ j, j < (f i).flat.length → VLe ((f i).flat.getD j .any) ((g i).flat.getD j .any) ∧ ((g i).flat.getD j .any).isPure = true) : VLe (.sl n f) (.sl n g) := by
  intro γ imm w v hr
  cases inv_sl (S := ⟨γ, imm, fun _ => none, w⟩) hr with
  | sl0 _ a c => exact .pure (.sl0 _ a c)
  | sl _ _ b off c sz u hb hnc hs hf hc ho hp =>
    refine .pure (.sl n g b off c sz u hb hnc hs (fun i hi => (h i hi).1.trans (hf i hi)) hc ho (fun i j hi hj => ?_))
    have hj' : j < (f i).flat.length := by rw [hf i hi]; exact hj
    obtain ⟨h1, h2⟩ := (h i hi).2 j hj'
    exact isPure_rep (S := ⟨γ, imm, fun _ => none, w⟩) (h1 _ _ _ _ (.pure (hp i j hi hj))) h2
def isLv {α : Type} (c : Cod α) (n : Nat) (f : Nat → V) : Prop := VLe (.sl n f) (.sl (lsOf c n f).length (lsF c (lsOf c n f)))
theorem shRecX {m : Nat} {v : V} (h : Sh.has (.tup [.int .i64, .str, .str, .int .i64, .str, .list (.tup [.str, .str]), .list (.int .u8)]) m v) : ∃ ki id ow ti ke n f k g, v = .agg [.int .i64 ki, .str id, .str ow, .int .i64 ti, .str ke, .sl n f, .sl k g] ∧ isLs cHd n f ∧ isBy k g := by
  obtain ⟨l, ms, rfl, -, hl⟩ := h
  obtain ⟨m1, v1, ms, l, rfl, h1, hl⟩ := hasL_cons hl
  obtain ⟨m2, v2, ms, l, rfl, h2, hl⟩ := hasL_cons hl
  obtain ⟨m3, v3, ms, l, rfl, h3, hl⟩ := hasL_cons hl
  obtain ⟨m4, v4, ms, l, rfl, h4, hl⟩ := hasL_cons hl
  obtain ⟨m5, v5, ms, l, rfl, h5, hl⟩ := hasL_cons hl
  obtain ⟨m6, v6, ms, l, rfl, h6, hl⟩ := hasL_cons hl
  obtain ⟨m7, v7, ms, l, rfl, h7, hl⟩ := hasL_cons hl
  obtain rfl := hasL_nil hl
  obtain ⟨ki, rfl, c1⟩ := shInt h1
  obtain ⟨id, rfl, b2⟩ := shStr h2
  obtain ⟨ow, rfl, b3⟩ := shStr h3
  obtain ⟨ti, rfl, c4⟩ := shInt h4
  obtain ⟨ke, rfl, b5⟩ := shStr h5
  obtain ⟨n, f, rfl, i6, b6, k6⟩ := shList (c := cHd) (fun m v h => shHead h) h6
  obtain ⟨k, g, rfl, i7, b7⟩ := shBytes h7
  exact ⟨ki, id, ow, ti, ke, n, f, k, g, rfl, i6, i7⟩
theorem shRecs {m : Nat} {v : V} (h : Sh.has (.list (.tup [.int .i64, .str, .str, .int .i64, .str, .list (.tup [.str, .str]), .list (.int .u8)])) m v) : ∃ (n : Nat) (f : Nat → V), v = .sl n f ∧ isLv cRec n f ∧ n ≤ 140737488355328 ∧ recsOk (lsOf cRec n f) := by
  obtain ⟨l, ms, rfl, h1, h2, h3, h4⟩ := h
  have := reach_le
  refine ⟨_, _, rfl, ?_, by omega, fun a ha => ?_⟩
  · unfold isLv
    rw [lsOf_len]
    refine VLe.slV fun i hi => ?_
    obtain ⟨ki, id, ow, ti, ke, n, f, k, g, e, i6, i7⟩ := shRecX (h4 i hi)
    have e : litF l i = _ := e
    have e2 : lsF cRec (lsOf cRec l.length (litF l)) i = cRec.enc (cRec.dec (litF l i)) := by
      unfold lsF lsOf
      rw [List.getD_eq_getElem?_getD, List.getElem?_map, List.getElem?_range hi]; rfl
    rw [e2, e]
    refine ⟨rfl, fun j hj => ?_⟩
    match j, hj with
    | 0, _ => exact ⟨VLe.refl _, rfl⟩
    | 1, _ => exact ⟨VLe.refl _, rfl⟩
    | 2, _ => exact ⟨VLe.refl _, rfl⟩
    | 3, _ => exact ⟨VLe.refl _, rfl⟩
    | 4, _ => exact ⟨VLe.refl _, rfl⟩
    | 5, _ => exact ⟨isLs.vle i6, rfl⟩
    | 6, _ => exact ⟨isBy.vle i7, rfl⟩
  · simp only [lsOf, List.mem_map, List.mem_range] at ha
    obtain ⟨i, hi, rfl⟩ := ha
    exact (shRec (h4 i hi)).2

def ckWriteHeadsK : List V → List Blk → Option (Prop × V × List Blk)
  | [.vec i n, .sl m f], [.vec 1 k g] => some (k = n ∧ isBy n g ∧ isLs cHd m f ∧ n ≤ 1000000 ∧ m ≤ 1000000 ∧ (headsB (lsOf cHd m f)).length ≤ 100000000000, .vec i (n + (headsB (lsOf cHd m f)).length + 2), [.vec 1 (n + (headsB (lsOf cHd m f)).length + 2) (byF (bytesOf n g ++ headsB (lsOf cHd m f) ++ [13, 10]))])
  | _, _ => none
def ckWriteHeads : Cf := ⟨fun | [.vec i _, _] => [i] | _ => [], ckWriteHeadsK⟩
@[push_cast] theorem wh_ids (i n : Nat) (x : V) : ckWriteHeads.ids [.vec i n, x] = [i] := rfl
@[push_cast] theorem wh_k (i n : Nat) (m : Nat) (f : Nat → V) (k : Nat) (g : Nat → V) : ckWriteHeads.k [.vec i n, .sl m f] [.vec 1 k g] = some (k = n ∧ isBy n g ∧ isLs cHd m f ∧ n ≤ 1000000 ∧ m ≤ 1000000 ∧ (headsB (lsOf cHd m f)).length ≤ 100000000000, .vec i (n + (headsB (lsOf cHd m f)).length + 2), [.vec 1 (n + (headsB (lsOf cHd m f)).length + 2) (byF (bytesOf n g ++ headsB (lsOf cHd m f) ++ [13, 10]))]) := rfl

def reqP (a : Inq) : List UInt8 := a.me ++ [32] ++ a.tg ++ [32, 87, 69, 66, 47, 49, 13, 10]
def reqB (a : Inq) : List UInt8 := reqP a ++ headsB a.hd ++ [13, 10] ++ a.bd
def reqA (a : Inq) : List UInt8 := if checkInqL a = 0 then reqB a else []
theorem inq_ok {a : Inq} (h : checkInqL a = 0) : a.me.length ≤ 40 ∧ a.tg.length ≤ 2000 ∧ a.hd.length ≤ 100 ∧ (headsB a.hd).length ≤ 104400 ∧ a.bd.length ≤ 200000 := by
  unfold checkInqL at h
  split at h
  · rename_i h1
    split at h
    · rename_i h2
      split at h
      · rename_i h3
        split at h
        · simp only [tokL, targetL, Bool.and_eq_true, decide_eq_true_eq] at h1 h2
          exact ⟨by omega, by omega, heads_100 h3, heads_le h3, by omega⟩
        · omega
      · omega
    · omega
  · omega
def ckReq : Ck
  | [x] => some (isC cInq x ∧ inqOk (cInq.dec x), .tup [.sl (reqA (cInq.dec x)).length (byF (reqA (cInq.dec x))), .int .i64 (checkInqL (cInq.dec x))])
  | _ => none
attribute [push_cast] ckReq
def bareL (s : List UInt8) : Bool := s.all fun c => decide (c ≠ 13) && decide (c ≠ 10)
theorem crlf_pre (c : UInt8) (t : List UInt8) : crlf.isPrefixOf (c :: t) = true ↔ c = 13 ∧ t.getD 0 0 = 10 ∧ 0 < t.length := by
  cases t with
  | nil => simp [crlf, List.isPrefixOf]
  | cons d t => simp [crlf, List.isPrefixOf]; exact ⟨fun h => ⟨h.1.symm, h.2.symm⟩, fun h => ⟨h.1.symm, h.2.symm⟩⟩
theorem lineS_idx : ∀ r : List UInt8, lineS r = if 0 ≤ Lib.index r crlf ∧ bareL (r.take (Lib.index r crlf).toNat) = true then some (r.take (Lib.index r crlf).toNat) else none
  | [] => by
    have e : Lib.index [] crlf = -1 := by rw [Lib.index]; rfl
    rw [e, if_neg (by omega)]; rfl
  | c :: t => by
    have ih := lineS_idx t
    have hp := crlf_pre c t
    have hge := Lib.index_ge t crlf
    rw [lineS, Lib.index]
    by_cases h : crlf.isPrefixOf (c :: t) = true
    · obtain ⟨h1, h2, h3⟩ := hp.1 h
      rw [if_pos h, if_pos h1, if_pos ⟨h2, h3⟩, if_pos ⟨by omega, rfl⟩]
      rfl
    · rw [if_neg h]
      by_cases hm : (Lib.index t crlf == -1) = true
      · rw [if_pos hm]
        rw [show (if 0 ≤ (-1 : Int) ∧ bareL ((c :: t).take (-1 : Int).toNat) = true then some ((c :: t).take (-1 : Int).toNat) else none) = none from if_neg (fun x => by have := x.1; omega)]
        rw [beq_iff_eq] at hm
        rw [if_neg (fun x => by have := x.1; omega)] at ih
        by_cases h1 : c = 13
        · rw [if_pos h1, if_neg (fun x => h (hp.2 ⟨h1, x.1, x.2⟩))]
        rw [if_neg h1, ih]
        by_cases h2 : c = 10
        · rw [if_pos h2]
        · rw [if_neg h2]; rfl
      · rw [if_neg hm]
        have hn : Lib.index t crlf ≠ -1 := fun e => hm (beq_iff_eq.2 e)
        rw [show (Lib.index t crlf + 1).toNat = (Lib.index t crlf).toNat + 1 by omega, List.take_succ_cons]
        by_cases h1 : c = 13
        · rw [if_pos h1, if_neg (fun x => h (hp.2 ⟨h1, x.1, x.2⟩)), if_neg]
          rintro ⟨_, x⟩
          unfold bareL at x
          rw [List.all_cons, Bool.and_eq_true] at x
          subst h1
          exact absurd x.1 (by decide)
        rw [if_neg h1]
        by_cases h2 : c = 10
        · rw [if_pos h2, if_neg]
          rintro ⟨_, x⟩
          unfold bareL at x
          rw [List.all_cons, Bool.and_eq_true] at x
          subst h2
          exact absurd x.1 (by decide)
        rw [if_neg h2, ih]
        have eb : bareL (c :: t.take (Lib.index t crlf).toNat) = bareL (t.take (Lib.index t crlf).toNat) := by
          unfold bareL
          rw [List.all_cons, decide_eq_true h1, decide_eq_true h2]; rfl
        rw [eb]
        by_cases hb : bareL (t.take (Lib.index t crlf).toNat) = true
        · rw [if_pos ⟨by omega, hb⟩, if_pos ⟨by omega, hb⟩]; rfl
        · rw [if_neg (fun x => hb x.2), if_neg (fun x => hb x.2)]; rfl

/- a request is read as it was written -/
theorem lineS_app : ∀ (s r : List UInt8), bareL s = true → lineS (s ++ [13, 10] ++ r) = some s
  | [], r, _ => by
    show lineS (13 :: 10 :: r) = some []
    rw [lineS, if_pos rfl, if_pos ⟨rfl, by simp⟩]
  | c :: t, r, h => by
    unfold bareL at h
    rw [List.all_cons, Bool.and_eq_true, Bool.and_eq_true, decide_eq_true_eq, decide_eq_true_eq] at h
    have ih := lineS_app t r h.2
    show lineS (c :: (t ++ [13, 10] ++ r)) = _
    rw [lineS, if_neg h.1.1, if_neg h.1.2, ih]; rfl
theorem lineS_inv : ∀ {l s : List UInt8}, lineS l = some s → l = s ++ [13, 10] ++ l.drop (s.length + 2)
  | [], s, h => by cases h
  | c :: t, s, h => by
    rw [lineS] at h
    split at h
    · split at h
      · rename_i h1 h2
        cases h
        subst h1
        match t, h2 with
        | d :: u, h2 =>
          have e : d = 10 := by simpa using h2.1
          subst e; rfl
      · cases h
    · split at h
      · cases h
      · cases ht : lineS t with
        | none => rw [ht] at h; cases h
        | some z =>
          rw [ht] at h; cases h
          have ih := lineS_inv ht
          simp only [List.length_cons, List.cons_append]
          rw [show z.length + 1 + 2 = (z.length + 2) + 1 by omega, List.drop_succ_cons]
          congr 1
theorem ln_app {p s r : List UInt8} (h : bareL s = true) : lnB (p ++ (s ++ [13, 10] ++ r)) p.length = true ∧ lnS (p ++ (s ++ [13, 10] ++ r)) p.length = s ∧ lnN (p ++ (s ++ [13, 10] ++ r)) p.length = (p ++ (s ++ [13, 10])).length := by
  have e : lineS ((p ++ (s ++ [13, 10] ++ r)).drop p.length) = some s := by rw [List.drop_left]; exact lineS_app s r h
  unfold lnB lnS lnN
  rw [e]
  refine ⟨rfl, rfl, ?_⟩
  simp; omega
theorem bare_app (a b : List UInt8) : bareL (a ++ b) = (bareL a && bareL b) := by unfold bareL; rw [List.all_append]
theorem all_imp {s : List UInt8} {p q : UInt8 → Bool} (h : s.all p = true) (hi : ∀ c, p c = true → q c = true) : s.all q = true := by
  rw [List.all_eq_true] at h ⊢
  exact fun x hx => hi x (h x hx)
theorem u8_all {P : UInt8 → Prop} (h : ∀ n, n < 256 → P (UInt8.ofNat n)) (c : UInt8) : P c := by
  have := h c.toNat (UInt8.toNat_lt c)
  simpa using this
theorem tok_plain (c : UInt8) : tokB c = true → c ≠ 13 ∧ c ≠ 10 ∧ c ≠ 32 ∧ c ≠ 58 := by
  refine u8_all (P := fun c => tokB c = true → c ≠ 13 ∧ c ≠ 10 ∧ c ≠ 32 ∧ c ≠ 58) ?_ c
  decide +kernel
theorem val_plain (c : UInt8) : valB c = true → c ≠ 13 ∧ c ≠ 10 := by
  refine u8_all (P := fun c => valB c = true → c ≠ 13 ∧ c ≠ 10) ?_ c
  decide +kernel
theorem tg_plain (c : UInt8) : tgB c = true → c ≠ 13 ∧ c ≠ 10 ∧ c ≠ 32 := by
  refine u8_all (P := fun c => tgB c = true → c ≠ 13 ∧ c ≠ 10 ∧ c ≠ 32) ?_ c
  decide +kernel
theorem spl_no (c : UInt8) : ∀ s : List UInt8, (∀ x ∈ s, x ≠ c) → spl c s = [s]
  | [], _ => rfl
  | x :: t, h => by
    rw [spl, if_neg (h x (by simp)), spl_no c t fun y hy => h y (by simp [hy])]; rfl
theorem spl_cut (c : UInt8) : ∀ (s r : List UInt8), (∀ x ∈ s, x ≠ c) → spl c (s ++ c :: r) = s :: spl c r
  | [], r, _ => by show spl c (c :: r) = _; rw [spl, if_pos rfl]
  | x :: t, r, h => by
    show spl c (x :: (t ++ c :: r)) = _
    rw [spl, if_neg (h x (by simp)), spl_cut c t r fun y hy => h y (by simp [hy])]; rfl
theorem idx_colon : ∀ (n v : List UInt8), (∀ x ∈ n, x ≠ 58) → Lib.index (n ++ 58 :: 32 :: v) [58, 32] = n.length
  | [], v, _ => by
    show Lib.index (58 :: 32 :: v) [58, 32] = 0
    rw [Lib.index, if_pos (by simp [List.isPrefixOf])]
  | x :: t, v, h => by
    have ih := idx_colon t v fun y hy => h y (by simp [hy])
    have hx := h x (by simp)
    show Lib.index (x :: (t ++ 58 :: 32 :: v)) [58, 32] = _
    have hp : ([58, 32] : List UInt8).isPrefixOf (x :: (t ++ 58 :: 32 :: v)) = false := by simp [List.isPrefixOf, Ne.symm hx]
    rw [Lib.index, hp, ih]
    have h2 : ((t.length : Int) == -1) = false := by rw [beq_eq_false_iff_ne]; omega
    rw [h2]
    simp
theorem no_colon {n : List UInt8} (h : ∀ x ∈ n, x ≠ 58) : Lib.contains n [58] = false := by
  unfold Lib.contains
  rw [decide_eq_false]
  intro h0
  rcases Lib.index_spec n [58] with ⟨h1, _⟩ | ⟨i, h1, h2, h3, _⟩
  · omega
  · unfold Lib.occAt at h3
    cases hd : n.drop i with
    | nil => rw [hd] at h3; simp [List.isPrefixOf] at h3
    | cons y t =>
      rw [hd] at h3
      have e : (58 : UInt8) = y := by simpa [List.isPrefixOf] using h3
      exact h y (List.mem_of_mem_drop (by rw [hd]; simp)) e.symm
theorem hd_app {h : Hd} (hn : ∀ x ∈ h.name, x ≠ 58) (hne : h.name ≠ []) : hdB (h.name ++ [58, 32] ++ h.value) = true ∧ hdV (h.name ++ [58, 32] ++ h.value) = h := by
  have e : hdCut (h.name ++ [58, 32] ++ h.value) = (h.name, h.value, true) := by
    unfold hdCut Lib.cut
    rw [show h.name ++ [58, 32] ++ h.value = h.name ++ 58 :: 32 :: h.value by simp, idx_colon _ _ hn, if_pos (by omega)]
    simp
  have hB : hdB (h.name ++ [58, 32] ++ h.value) = true := by
    unfold hdB
    rw [e]
    simp only
    rw [no_colon hn, bne_iff_ne.2 hne]; rfl
  refine ⟨hB, ?_⟩
  unfold hdV
  rw [if_pos hB, e]
theorem hd_inv {s : List UInt8} (h : hdB s = true) : s = (hdV s).name ++ [58, 32] ++ (hdV s).value := by
  unfold hdV
  rw [if_pos h]
  unfold hdB at h
  simp only [Bool.and_eq_true] at h
  have h1 := h.1.1
  unfold hdCut Lib.cut at h1 ⊢
  rcases Lib.index_spec s [58, 32] with ⟨h2, _⟩ | ⟨i, h2, h3, h4, _⟩
  · rw [h2, if_neg (by omega)] at h1; cases h1
  · rw [h2, if_pos (by omega)]
    unfold Lib.occAt at h4
    obtain ⟨t, ht⟩ := List.isPrefixOf_iff_prefix.1 h4
    simp only [Int.toNat_natCast]
    have e : s = s.take i ++ s.drop i := (List.take_append_drop i s).symm
    have e2 : s.drop (i + ([58, 32] : List UInt8).length) = t := by
      rw [← List.drop_drop, ← ht]; rfl
    show s = s.take i ++ [58, 32] ++ s.drop (i + ([58, 32] : List UInt8).length)
    rw [e2, List.append_assoc, ht]; exact e
theorem rh_app : ∀ (hd : List Hd) (p : List UInt8) (out : List Hd) (k : Nat) (r : List UInt8), hd.length < k → (∀ h ∈ hd, tokL h.name = true ∧ valueL h.value = true) → rhL (p ++ (headsB hd ++ [13, 10] ++ r)) k p.length out = (out ++ hd, (p ++ (headsB hd ++ [13, 10])).length, true)
  | [], p, out, k + 1, r, _, _ => by
    have h := ln_app (p := p) (s := []) (r := r) rfl
    simp only [List.nil_append] at h
    show rhL (p ++ ([13, 10] ++ r)) (k + 1) p.length out = _
    rw [rhL, if_neg (by simp), h.1, if_neg (by simp), h.2.1, if_pos rfl, h.2.2]
    simp [headsB]
  | x :: t, p, out, k + 1, r, hk, hok => by
    have hx := hok x (by simp)
    have ht := hx.1
    have hv := hx.2
    simp only [tokL, valueL, Bool.and_eq_true, decide_eq_true_eq] at ht hv
    have hbare : bareL (x.name ++ [58, 32] ++ x.value) = true := by
      rw [bare_app, bare_app]
      have b1 : bareL x.name = true := all_imp ht.2 fun c hc => by have := tok_plain c hc; simp [this.1, this.2.1]
      have b2 : bareL x.value = true := all_imp hv.2 fun c hc => by have := val_plain c hc; simp [this.1, this.2]
      rw [b1, b2]; rfl
    have hn : ∀ y ∈ x.name, y ≠ 58 := fun y hy => (tok_plain y (List.all_eq_true.1 ht.2 y hy)).2.2.2
    have hne : x.name ≠ [] := fun e => by rw [e] at ht; simp at ht
    have e : p ++ (headsB (x :: t) ++ [13, 10] ++ r) = p ++ ((x.name ++ [58, 32] ++ x.value) ++ [13, 10] ++ (headsB t ++ [13, 10] ++ r)) := by simp [headsB, headB]
    have h := ln_app (p := p) (s := x.name ++ [58, 32] ++ x.value) (r := headsB t ++ [13, 10] ++ r) hbare
    have hh := hd_app hn hne
    rw [e, rhL, if_neg (by simp; omega), h.1, if_neg (by simp), h.2.1, if_neg (by simp), hh.1, if_neg (by simp), hh.2, h.2.2]
    have ih := rh_app t (p ++ ((x.name ++ [58, 32] ++ x.value) ++ [13, 10])) (out ++ [x]) k r (by simp at hk; omega) fun y hy => hok y (by simp [hy])
    rw [show p ++ ((x.name ++ [58, 32] ++ x.value) ++ [13, 10] ++ (headsB t ++ [13, 10] ++ r)) = p ++ ((x.name ++ [58, 32] ++ x.value) ++ [13, 10]) ++ (headsB t ++ [13, 10] ++ r) by simp, ih]
    simp [headsB, headB]
theorem headsB_ge : ∀ l : List Hd, l.length ≤ (headsB l).length
  | [] => Nat.zero_le _
  | x :: t => by have := headsB_ge t; simp [headsB, headB]; omega
theorem inq_parts {a : Inq} (h : checkInqL a = 0) : tokL a.me = true ∧ targetL a.tg = true ∧ checkHeadsL a.hd = 0 := by
  unfold checkInqL at h
  split at h
  · rename_i h1
    split at h
    · rename_i h2
      split at h
      · rename_i h3; exact ⟨h1, h2, h3⟩
      · rename_i h3; exact absurd h h3
    · omega
  · omega
theorem heads_mem {l : List Hd} (e : checkHeadsL l = 0) : ∀ h ∈ l, tokL h.name = true ∧ valueL h.value = true := by
  unfold checkHeadsL at e
  split at e
  · omega
  · have key : ∀ {l : List Hd}, headsGo l = 0 → ∀ h ∈ l, tokL h.name = true ∧ valueL h.value = true := by
      intro l
      induction l with
      | nil => intro _ h hh; cases hh
      | cons x t ih =>
        intro e h hh
        simp only [headsGo] at e
        split at e
        · rename_i h1
          split at e
          · rename_i h2
            rcases List.mem_cons.1 hh with rfl | hh
            · exact ⟨h1, h2⟩
            · exact ih e h hh
          · omega
        · omega
    exact key e
/-- a request that was written is read -/
theorem req_back {a : Inq} (h : checkInqL a = 0) (hl : (reqB a).length ≤ 400000) : rqL (reqB a) = (a, 0, 0) := by
  obtain ⟨p1, p2, p3⟩ := inq_parts h
  simp only [tokL, targetL, Bool.and_eq_true, decide_eq_true_eq] at p1 p2
  have m1 : ∀ x ∈ a.me, x ≠ 32 := fun x hx => (tok_plain x (List.all_eq_true.1 p1.2 x hx)).2.2.1
  have m2 : ∀ x ∈ a.tg, x ≠ 32 := fun x hx => (tg_plain x (List.all_eq_true.1 p2.2 x hx)).2.2
  have hb : bareL (a.me ++ 32 :: (a.tg ++ 32 :: wWeb)) = true := by
    rw [bare_app, show 32 :: (a.tg ++ 32 :: wWeb) = [32] ++ (a.tg ++ ([32] ++ wWeb)) from rfl, bare_app, bare_app]
    have b1 : bareL a.me = true := all_imp p1.2 fun c hc => by have := tok_plain c hc; simp [this.1, this.2.1]
    have b2 : bareL a.tg = true := all_imp p2.2 fun c hc => by have := tg_plain c hc; simp [this.1, this.2.1]
    rw [b1, b2]; rfl
  have e : reqB a = [] ++ ((a.me ++ 32 :: (a.tg ++ 32 :: wWeb)) ++ [13, 10] ++ (headsB a.hd ++ [13, 10] ++ a.bd)) := by simp [reqB, reqP, wWeb]
  have hln := ln_app (p := []) (r := headsB a.hd ++ [13, 10] ++ a.bd) hb
  rw [← e] at hln
  simp only [List.length_nil] at hln
  have hw : rqW (reqB a) = [a.me, a.tg, wWeb] := by
    unfold rqW
    rw [hln.2.1, splitL_eq, spl_cut 32 _ _ m1, spl_cut 32 _ _ m2, spl_no 32 wWeb (by decide)]
  have hk : rqOk (reqB a) = true := by
    unfold rqOk
    rw [hw, hln.1]
    have n1 : a.me ≠ [] := fun e => by rw [e] at p1; simp at p1
    have n2 : a.tg ≠ [] := fun e => by rw [e] at p2; simp at p2
    simp [n1, n2]
  have hh : rqH (reqB a) = (a.hd, ((a.me ++ 32 :: (a.tg ++ 32 :: wWeb)) ++ [13, 10] ++ (headsB a.hd ++ [13, 10])).length, true) := by
    have hr := rh_app a.hd ((a.me ++ 32 :: (a.tg ++ 32 :: wWeb)) ++ [13, 10]) [] ((reqB a).length + 1) a.bd (by have := heads_100 p3; have : a.hd.length ≤ (headsB a.hd).length := headsB_ge a.hd; have : (headsB a.hd).length ≤ (reqB a).length := (by simp only [reqB, List.length_append]; omega); omega) (heads_mem p3)
    unfold rqH
    rw [hln.2.2]
    have e2 : reqB a = ((a.me ++ 32 :: (a.tg ++ 32 :: wWeb)) ++ [13, 10]) ++ (headsB a.hd ++ [13, 10] ++ a.bd) := by rw [e]; simp
    rw [← e2] at hr
    simpa using hr
  have hI : rqI (reqB a) = a := by
    unfold rqI
    rw [hw, hh]
    have e3 : (reqB a).drop ((a.me ++ 32 :: (a.tg ++ 32 :: wWeb)) ++ [13, 10] ++ (headsB a.hd ++ [13, 10])).length = a.bd := by
      rw [e]
      have : [] ++ ((a.me ++ 32 :: (a.tg ++ 32 :: wWeb)) ++ [13, 10] ++ (headsB a.hd ++ [13, 10] ++ a.bd)) = ((a.me ++ 32 :: (a.tg ++ 32 :: wWeb)) ++ [13, 10] ++ (headsB a.hd ++ [13, 10])) ++ a.bd := by simp
      rw [this, List.drop_left]
    rw [e3]; rfl
  unfold rqL
  rw [if_neg (by omega), if_pos hk, hh, if_pos rfl, hI, if_pos h]

end Go.Abs
