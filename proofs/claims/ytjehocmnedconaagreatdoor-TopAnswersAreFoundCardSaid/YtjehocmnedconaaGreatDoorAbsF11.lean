/- what functions of this program compute: contracts, each a function's own -/
import Derived.Test.YtjehocmnedconaaGreatDoorAbsK3
import Derived.Test.YtjehocmnedconaaGreatDoorAbsFacts
import Derived.Test.YtjehocmnedconaaGreatDoorAbsF10
import Derived.Test.YtjehocmnedconaaGreatDoorAbsShelf
import Derived.Lib.SlTrimSet
import Derived.Lib.Atoi
import Derived.Lib.Itoa
import Derived.Lib.ItoaNum
import Derived.Lib.AtoiErrMem
import Derived.Lib.Repeat
import Derived.Lib.ItoaLen
import Derived.Lib.SplitLaws
import Derived.Lib.Join
import Derived.Lib.Index
import Derived.Lib.IndexBytes
import Derived.Lib.Fold
import Derived.Lib.Walk
import Derived.WalkKit
import Derived.ScopeJumps
import Derived.Deep.LoopGhost
import Derived.Laws.RangeAny
import Derived.Lib.BitFns
import Derived.Lib.TrailingZeros
import Derived.Sort.Walk0
namespace Go.Abs
open Go Go.Proofs
set_option maxHeartbeats 4000000
set_option maxRecDepth 100000
set_option linter.unusedVariables false
set_option linter.unusedSimpArgs false
attribute [push_cast] fmpOf isII
@[push_cast] theorem mn_lookupY (t : TypeId) (x y : Operand) (b : Bool) : mayNew (.lookup t x y b) = false := rfl
@[push_cast] theorem mn_mapUpdY (t : TypeId) (x y z : Operand) : mayNew (.mapUpdate t x y z) = false := rfl
@[push_cast] theorem vle1_map (i : Nat) : vle1 (.map i) (.map i) = True := eq_true rfl
def ckSame0 : Ck
  | [.nilsl] => some (True, .int .i64 0)
  | _ => none
theorem conSame0 : Con pg 68 ckSame0 := by
  have hct := ctN_ok pg
  intro args q r h hq
  unfold ckSame0 at h
  split at h
  · cases h
    refine w68 (fun _ => false) [] rfl hct rfl rfl ?_
    push_cast (config := { maxSteps := 10000000 })
    refine LoopW.adj ⟨hct, fol⟩ (by kernel_rfl) [] (fun _ : Unit => [(0, .nilsl), (9, .nilsl), (10, .int .i64 0), (11, .int .i64 0)]) (fun _ => []) (fun _ => True) (fun _ => 0) () ?_ fun _ _ => ?_
    · push_cast (config := { maxSteps := 10000000 })
      done
    · push_cast (config := { maxSteps := 10000000 })
      done
  · cases h
attribute [push_cast] ckSame0
def ckOpen : Ck
  | [.agg [.sl 1 fe, .sl 1 ff, .nilsl]] => some ((isLs cInd 1 fe ∧ isLs cSto 1 ff) ∧ stoOk (cInd.dec (fe 0)) (cSto.dec (ff 0)), .tup [stoV (cInd.dec (fe 0)) (cSto.dec (ff 0)), .int .i64 0])
  | _ => none
theorem conOpen : Con pg 33 ckOpen := by
  have hct := (ctA_ok conSame0 (ctA_ok conIsName (ctA_ok conReadFile (ctA_ok conMarks (ctA_ok conIndsE (ctA_ok conAt (ctN_ok _)))))))
  intro args q r h hq
  unfold ckOpen at h
  split at h
  · cases h
    rename_i fe ff
    refine pcall_args (args' := [.agg [.sl (lsOf cInd 1 fe).length (lsF cInd (lsOf cInd 1 fe)), .sl (lsOf cSto 1 ff).length (lsF cSto (lsOf cSto 1 ff)), .nilsl]]) ⟨VLe.agg ⟨isLs.vle hq.1.1, isLs.vle hq.1.2, VLe.refl _, trivial⟩, trivial⟩ ?_
    obtain ⟨-, hs⟩ := hq
    have hl1 : lsOf cInd 1 fe = [cInd.dec (fe 0)] := rfl
    have hl2 : lsOf cSto 1 ff = [cSto.dec (ff 0)] := rfl
    rw [hl1, hl2]
    generalize cInd.dec (fe 0) = e at hs ⊢
    generalize cSto.dec (ff 0) = s at hs ⊢
    obtain ⟨nm, B⟩ := s
    obtain ⟨ky, ti, st, ty, dg, fi, fr, to', sm⟩ := e
    obtain ⟨⟨hR, hone, hB⟩, hnm, hie, hE, e1, e2, e3, e4, e5⟩ := hs
    dsimp only at hR hone hB hnm e1 e2 e3 e4 e5
    have hii := iiC
    unfold stoV filV
    dsimp only
    generalize rOne B = r at *
    subst ky ti fi fr to'
    obtain ⟨e, hee⟩ : ∃ e : Ind, (⟨r.ke, r.ti, st, ty, dg, nm, 0, B.length, sm⟩ : Ind) = e := ⟨_, rfl⟩
    rw [hee] at hie hE
    refine w33 (fun d => decide (d = 20024)) [.frm 34, .frc 36] rfl hct rfl rfl ?_
    push_cast (config := { maxSteps := 10000000 })
    refine LoopW.adj ⟨hct, fol⟩ (by kernel_rfl) [] (fun k : Nat => [(1, .ptr 1 0), (5, .ptr 36 0), (38, .sl 1 (lsF cSto [⟨nm, B⟩])), (39, .int .i64 1), (40, .int .i64 k)]) (fun k => [(1, .cells [.sl 1 (lsF cInd [⟨r.ke, r.ti, st, ty, dg, nm, 0, B.length, sm⟩]), .sl 1 (lsF cSto [⟨nm, B⟩]), .nilsl]), (36, .cells [.sl 1 (lsF cInd [⟨r.ke, r.ti, st, ty, dg, nm, 0, B.length, sm⟩]), .sl 1 (lsF cSto [⟨nm, B⟩]), .nilsl, .map 34]), (34, .mp .str (if k = 0 then fun _ => none else filM nm (.agg [.sl 1 (lsF cRec [r]), .fmp .ii (fun l => (idsM r.id B.length l).isSome) (fun l => (idsM r.id B.length l).getD .any)])))]) (fun k => k = 0 ∨ k = 1) (fun k => 1 - k) 0 ?_ fun k hk => ?_
    · push_cast (config := { maxSteps := 10000000 })
      done
    · rcases hk with rfl | rfl
      · push_cast (config := { maxSteps := 10000000 })
        have hnl : nm.length ≤ 1000 := name_len hnm
        rw [hR]
        dsimp only
        refine ⟨by omega, fun h => absurd (hnm.symm.trans h) (by decide), fun _ => ⟨by omega, fun h => absurd rfl h, fun _ => ⟨by omega, ?_⟩⟩⟩
        refine SeqW.cut ⟨hct, fol⟩ (by kernel_rfl) (by kernel_rfl) [.frm 80] (fun _ : Unit => [(1, .ptr 1 0), (5, .ptr 36 0), (7, .ptr 7 0), (13, .ptr 13 0), (38, .sl 1 (lsF cSto [⟨nm, B⟩])), (39, .int .i64 1), (40, .int .i64 0)]) (fun _ => [(1, .cells [.sl 1 (lsF cInd [⟨r.ke, r.ti, st, ty, dg, nm, 0, B.length, sm⟩]), .sl 1 (lsF cSto [⟨nm, B⟩]), .nilsl]), (36, .cells [.sl 1 (lsF cInd [⟨r.ke, r.ti, st, ty, dg, nm, 0, B.length, sm⟩]), .sl 1 (lsF cSto [⟨nm, B⟩]), .nilsl, .map 34]), (34, .mp .str (fun _ => none)), (7, .cells [.str nm, .sl B.length (byF B)]), (13, .cells [.sl 1 (lsF cRec [r]), .fmp .ii (fun l => (idsM r.id B.length l).isSome) (fun l => (idsM r.id B.length l).getD .any)])]) (fun _ => True) ?_ fun _ _ => ?_
        · push_cast (config := { maxSteps := 10000000 })
          refine LoopW.adj ⟨hct, fol⟩ (by kernel_rfl) [] (fun j : Nat => [(1, .ptr 1 0), (5, .ptr 36 0), (7, .ptr 7 0), (13, .ptr 13 0), (38, .sl 1 (lsF cSto [⟨nm, B⟩])), (39, .int .i64 1), (40, .int .i64 0), (82, .sl 1 (lsF cMk [⟨r.id, 0, B.length⟩])), (83, .int .i64 1), (84, .int .i64 j)]) (fun j => [(1, .cells [.sl 1 (lsF cInd [⟨r.ke, r.ti, st, ty, dg, nm, 0, B.length, sm⟩]), .sl 1 (lsF cSto [⟨nm, B⟩]), .nilsl]), (36, .cells [.sl 1 (lsF cInd [⟨r.ke, r.ti, st, ty, dg, nm, 0, B.length, sm⟩]), .sl 1 (lsF cSto [⟨nm, B⟩]), .nilsl, .map 34]), (34, .mp .str (fun _ => none)), (7, .cells [.str nm, .sl B.length (byF B)]), (13, .cells [.sl 1 (lsF cRec [r]), .map 80]), (80, .mp .ii (if j = 0 then fun _ => none else idsM r.id B.length))]) (fun j => j = 0 ∨ j = 1) (fun j => 1 - j) 0 ?_ fun j hj => ?_
          · push_cast (config := { maxSteps := 10000000 })
            done
          · rcases hj with rfl | rfl
            · push_cast (config := { maxSteps := 10000000 })
              exact ⟨⟨hii, by omega, by omega⟩, 1, .inr rfl, by omega, rfl, fun l => putM_ids _ _ l⟩
            · push_cast (config := { maxSteps := 10000000 })
              exact ⟨(), trivial⟩
        · push_cast (config := { maxSteps := 10000000 })
          exact ⟨1, .inr rfl, by omega, rfl, fun l => putM_fil _ _ l⟩
      · push_cast (config := { maxSteps := 10000000 })
        have hd : cInd.dec (V.agg [V.str r.ke, V.int IntKind.i64 r.ti, V.int IntKind.i64 st, V.str ty, V.str dg, V.str nm, V.int IntKind.i64 0, V.int IntKind.i64 B.length, V.bool sm]) = e := hee
        rw [hd]
        refine ⟨⟨isLs_ls [_], fun x hx => ?_⟩, fun h => absurd hE h, fun _ => ?_⟩
        · have hx : x ∈ lsOf cInd ([(⟨r.ke, r.ti, st, ty, dg, nm, 0, B.length, sm⟩ : Ind)]).length (lsF cInd [⟨r.ke, r.ti, st, ty, dg, nm, 0, B.length, sm⟩]) := hx
          rw [lsOf_ls, List.mem_singleton] at hx
          rw [hx, hee]; exact hie
        refine LoopW.adj ⟨hct, fol⟩ (by kernel_rfl) [] (fun k : Nat => [(5, .ptr 36 0), (110, .sl 1 (lsF cInd [⟨r.ke, r.ti, st, ty, dg, nm, 0, B.length, sm⟩])), (111, .int .i64 1), (112, .int .i64 k)]) (fun k => [(36, .cells [.sl 1 (lsF cInd [⟨r.ke, r.ti, st, ty, dg, nm, 0, B.length, sm⟩]), .sl 1 (lsF cSto [⟨nm, B⟩]), .nilsl, .map 34]), (34, .mp .str (filM nm (.agg [.sl 1 (lsF cRec [r]), .fmp .ii (fun l => (idsM r.id B.length l).isSome) (fun l => (idsM r.id B.length l).getD .any)])))]) (fun k => k = 0 ∨ k = 1) (fun k => 1 - k) 0 ?_ fun k hk => ?_
        · push_cast (config := { maxSteps := 10000000 })
          done
        · rcases hk with rfl | rfl
          · push_cast (config := { maxSteps := 10000000 })
            exact ⟨⟨isLs_ls [r], by omega⟩, 1, .inr rfl, by omega, rfl⟩
          · push_cast (config := { maxSteps := 10000000 })
            exact rfl
  · cases h
attribute [push_cast] ckOpen
def ckDrift : Ck
  | [.int .i64 n] => some (True, .bool (decide (0 ≤ n) && decide (n ≤ 1000000000000)))
  | _ => none
theorem conDrift : Con pg 65 ckDrift := by
  have hct := ctN_ok pg
  intro args q r h hq
  unfold ckDrift at h
  split at h
  · cases h
    rename_i n
    refine w65 (fun _ => false) [] rfl hct rfl rfl ?_
    push_cast (config := { maxSteps := 10000000 })
    done
  · cases h
attribute [push_cast] ckDrift
def ckAway : Ck
  | [.agg [.str ky, .int .i64 ti, .int .i64 st, .str ty, .str dg, .str fi, .int .i64 fr, .int .i64 t2, .bool sm], .int .i64 n] => some ((0 ≤ ti ∧ ti ≤ 253402300799) ∧ 0 ≤ n ∧ n ≤ 253402300799, .int .i64 (max (ti - n) (n - ti)))
  | _ => none
theorem conAway : Con pg 67 ckAway := by
  have hct := ctN_ok pg
  intro args q r h hq
  unfold ckAway at h
  split at h
  · cases h
    rename_i ky ti st ty dg fi fr t2 sm n
    refine w67 (fun _ => false) [] rfl hct rfl rfl ?_
    push_cast (config := { maxSteps := 10000000 })
    omega
  · cases h
attribute [push_cast] ckAway
@[push_cast] theorem vle_fnI (f : Fn) (a b : List V) : vle (.fn f a b) (.fn f a b) = True := eq_true rfl
def ckKeyI : Ck
  | [.sl 1 f, .str k] => some (isLs cInd 1 f ∧ indOk (cInd.dec (f 0)) ∧ k = (cInd.dec (f 0)).ky, .int .i64 (indE (cInd.dec (f 0))))
  | _ => none
theorem conKeyI : Con pg 157 ckKeyI := by
  have hct := (ctA_ok conIndsE (ctA_ok conIsKey (ctN_ok _)))
  intro args q r h hq
  unfold ckKeyI at h
  split at h
  · cases h
    rename_i f k
    refine pcall_args (args' := [.sl (lsOf cInd 1 f).length (lsF cInd (lsOf cInd 1 f)), .str k]) ⟨isLs.vle hq.1, VLe.refl _, trivial⟩ ?_
    obtain ⟨-, ok, rfl⟩ := hq
    have hl : lsOf cInd 1 f = [cInd.dec (f 0)] := rfl
    rw [hl]
    generalize cInd.dec (f 0) = e at ok ⊢
    refine w157 (fun _ => false) [] rfl hct rfl rfl ?_
    push_cast (config := { maxSteps := 10000000 })
    have hd : cInd.dec (V.agg [V.str e.ky, V.int IntKind.i64 e.ti, V.int IntKind.i64 e.st, V.str e.ty, V.str e.dg, V.str e.fi, V.int IntKind.i64 e.fr, V.int IntKind.i64 e.to', V.bool e.sm]) = e := rfl
    rw [hd]
    have k1 : e.ky.length ≤ 140737488355328 := ok.1
    refine ⟨⟨isLs_ls [e], fun x hx => by rw [show lsOf cInd 1 (lsF cInd [e]) = [e] from rfl] at hx; rw [List.mem_singleton.1 hx]; exact ok⟩, fun _ => rfl, fun h => ⟨by omega, fun g => ?_, fun _ => h.symm⟩⟩
    unfold indE
    rw [if_pos g]
  · cases h
attribute [push_cast] ckKeyI
def ckOf1 : Ck
  | [.agg [.str ky, .int .i64 ti, .int .i64 st, .str ty, .str dg, .str fi, .int .i64 fr, .int .i64 t2, .bool sm], .str k] => some (ky.length ≤ 140737488355328 ∧ k = ky, .int .i64 0)
  | _ => none
theorem conOf1 : Con pg 202 ckOf1 := by
  have hct := (ctA_ok conCmpS (ctN_ok _))
  intro args q r h hq
  unfold ckOf1 at h
  split at h
  · cases h
    rename_i ky ti st ty dg fi fr t2 sm k
    refine w202 (fun _ => false) [] rfl hct rfl rfl ?_
    push_cast (config := { maxSteps := 10000000 })
    obtain ⟨-, rfl⟩ := hq
    induction k with
    | nil => rfl
    | cons c s ih => simpa [Lib.compareBytes] using ih
  · cases h
attribute [push_cast] ckOf1
def ckBsI : Ck
  | [.sl 1 f, .str k, .fn (.func 202) [] []] => some (isLs cInd 1 f ∧ (cInd.dec (f 0)).ky.length ≤ 140737488355328 ∧ k = (cInd.dec (f 0)).ky, .tup [.int .i64 0, .bool true])
  | _ => none
theorem conBsI : Con pg 201 ckBsI := by
  have hct := (ctA_ok conOf1 (ctN_ok _))
  intro args q r h hq
  unfold ckBsI at h
  split at h
  · cases h
    rename_i f k
    refine pcall_args (args' := [.sl (lsOf cInd 1 f).length (lsF cInd (lsOf cInd 1 f)), .str k, .fn (.func 202) [] []]) ⟨isLs.vle hq.1, VLe.refl _, VLe.refl _, trivial⟩ ?_
    obtain ⟨-, ok, rfl⟩ := hq
    have hl : lsOf cInd 1 f = [cInd.dec (f 0)] := rfl
    rw [hl]
    generalize cInd.dec (f 0) = e at ok ⊢
    refine w201 (fun _ => false) [] rfl hct rfl rfl ?_
    push_cast (config := { maxSteps := 10000000 })
    refine LoopW.adj ⟨hct, fol⟩ (by kernel_rfl) [] (fun k : Nat => [(0, .sl 1 (lsF cInd [e])), (1, .str e.ky), (2, .fn (.func 202) [] []), (8, .int .i64 1), (9, .int .i64 0), (10, .int .i64 (1 - k : Int))]) (fun _ => []) (fun k => k = 0 ∨ k = 1) (fun k => 1 - k) 0 ?_ fun k hk => ?_
    · push_cast (config := { maxSteps := 10000000 })
      done
    · rcases hk with rfl | rfl
      · push_cast (config := { maxSteps := 10000000 })
        have h0 : Int.fdiv 1 (2 ^ min 1 IntKind.u64.bits) = 0 := by decide
        rw [h0]
        exact ⟨by omega, by omega, ⟨ok, rfl⟩, 1, .inr rfl, by omega, by omega⟩
      · push_cast (config := { maxSteps := 10000000 })
        exact ok
  · cases h
attribute [push_cast] ckBsI
def ckOfI : Ck
  | [.sl 1 f, .str k] => some (isLs cInd 1 f ∧ (cInd.dec (f 0)).ky.length ≤ 140737488355328 ∧ k = (cInd.dec (f 0)).ky, .sl 1 (lsF cInd [cInd.dec (f 0)]))
  | _ => none
theorem conOfI : Con pg 159 ckOfI := by
  have hct := (ctA_ok conBsI (ctN_ok _))
  intro args q r h hq
  unfold ckOfI at h
  split at h
  · cases h
    rename_i f k
    refine pcall_args (args' := [.sl (lsOf cInd 1 f).length (lsF cInd (lsOf cInd 1 f)), .str k]) ⟨isLs.vle hq.1, VLe.refl _, trivial⟩ ?_
    obtain ⟨-, ok, rfl⟩ := hq
    have hl : lsOf cInd 1 f = [cInd.dec (f 0)] := rfl
    rw [hl]
    generalize cInd.dec (f 0) = e at ok ⊢
    refine w159 (fun _ => false) [] rfl hct rfl rfl ?_
    push_cast (config := { maxSteps := 10000000 })
    refine ⟨⟨isLs_ls [e], ok, rfl⟩, ?_⟩
    refine LoopW.adj ⟨hct, fol⟩ (by kernel_rfl) [] (fun k : Nat => [(0, .sl 1 (lsF cInd [e])), (1, .str e.ky), (5, .int .i64 0), (7, .int .i64 k)]) (fun _ => []) (fun k => k = 0 ∨ k = 1) (fun k => 1 - k) 0 ?_ fun k hk => ?_
    · push_cast (config := { maxSteps := 10000000 })
      done
    · rcases hk with rfl | rfl
      · push_cast (config := { maxSteps := 10000000 })
        exact ⟨1, .inr rfl, by omega, rfl⟩
      · push_cast (config := { maxSteps := 10000000 })
        intro i _
        unfold shF
        rw [Nat.add_zero]
        rfl
  · cases h
attribute [push_cast] ckOfI
def ckNearI : Ck
  | [.sl 1 f, .int .i64 t, .int .i64 1] => some (isLs cInd 1 f ∧ t = (cInd.dec (f 0)).ti ∧ 0 ≤ t ∧ t ≤ 253402300799, .tup [cInd.enc (cInd.dec (f 0)), .bool true])
  | _ => none
theorem conNearI : Con pg 158 ckNearI := by
  have hct := (ctA_ok conDrift (ctN_ok _))
  intro args q r h hq
  unfold ckNearI at h
  split at h
  · cases h
    rename_i f t
    refine pcall_args (args' := [.sl (lsOf cInd 1 f).length (lsF cInd (lsOf cInd 1 f)), .int .i64 t, .int .i64 1]) ⟨isLs.vle hq.1, VLe.refl _, VLe.refl _, trivial⟩ ?_
    obtain ⟨-, rfl, ok⟩ := hq
    have hl : lsOf cInd 1 f = [cInd.dec (f 0)] := rfl
    rw [hl]
    generalize cInd.dec (f 0) = e at ok ⊢
    refine w158 (fun _ => false) [] rfl hct rfl rfl ?_
    push_cast (config := { maxSteps := 10000000 })
    refine LoopW.adj ⟨hct, fol⟩ (by kernel_rfl) [] (fun k : Nat => [(0, .sl 1 (lsF cInd [e])), (1, .int .i64 e.ti), (2, .int .i64 1), (6, .ptr 6 0), (8, .int .i64 ((k : Int) - 1)), (9, .int .i64 ((k : Int) - 1)), (13, .sl 1 (lsF cInd [e])), (14, .int .i64 1), (15, .int .i64 k)]) (fun k => [(6, .cells [.str [], .int .i64 0, .int .i64 0, .str [], .str [], .str [], .int .i64 0, .int .i64 0, .bool false])]) (fun k => k = 0 ∨ k = 1) (fun k => 1 - k) 0 ?_ fun k hk => ?_
    · push_cast (config := { maxSteps := 10000000 })
      done
    · rcases hk with rfl | rfl
      · push_cast (config := { maxSteps := 10000000 })
        exact ⟨fun _ => ⟨fun _ => ⟨1, .inr rfl, by omega, rfl, rfl, rfl⟩, fun h => absurd (Int.le_refl _) h⟩, fun h => absurd (Int.le_refl _) h⟩
      · push_cast (config := { maxSteps := 10000000 })
        omega
  · cases h
attribute [push_cast] ckNearI
def ckNearP : Ck
  | [.sl 1 f, .str k, .int .i64 t, .int .i64 1] => some (isLs cInd 1 f ∧ indOk (cInd.dec (f 0)) ∧ indE (cInd.dec (f 0)) = 0 ∧ k = (cInd.dec (f 0)).ky ∧ t = (cInd.dec (f 0)).ti ∧ 0 ≤ t ∧ t ≤ 253402300799, .tup [cInd.enc (cInd.dec (f 0)), .bool true, .int .i64 0])
  | _ => none
theorem conNearP : Con pg 124 ckNearP := by
  have hct := (ctA_ok conKeyI (ctA_ok conWithinX (ctA_ok conIsMoment (ctA_ok conOfI (ctA_ok conNearI (ctN_ok _))))))
  intro args q r h hq
  unfold ckNearP at h
  split at h
  · cases h
    rename_i f k t
    refine pcall_args (args' := [.sl (lsOf cInd 1 f).length (lsF cInd (lsOf cInd 1 f)), .str k, .int .i64 t, .int .i64 1]) ⟨isLs.vle hq.1, VLe.refl _, VLe.refl _, VLe.refl _, trivial⟩ ?_
    obtain ⟨-, ok, hE, rfl, rfl, ht⟩ := hq
    have hl : lsOf cInd 1 f = [cInd.dec (f 0)] := rfl
    rw [hl]
    generalize cInd.dec (f 0) = e at ok hE ht ⊢
    refine w124 (fun _ => false) [] rfl hct rfl rfl ?_
    push_cast (config := { maxSteps := 10000000 })
    have hd : cInd.dec (V.agg [V.str e.ky, V.int IntKind.i64 e.ti, V.int IntKind.i64 e.st, V.str e.ty, V.str e.dg, V.str e.fi, V.int IntKind.i64 e.fr, V.int IntKind.i64 e.to', V.bool e.sm]) = e := rfl
    simp only [hd]
    simp [ok, hE, ht, ok.1]
    exact isLs_ls [e]
  · cases h
attribute [push_cast] ckNearP
attribute [push_cast] stoV
def nearOk (e : Ind) (k : List UInt8) (t : Int) : Prop := indOk e ∧ indE e = 0 ∧ k = e.ky ∧ t = e.ti ∧ 0 ≤ t ∧ t ≤ 253402300799
theorem indE_ky {e : Ind} (h : indE e = 0) : targetL e.ky = true := by
  unfold indE at h
  by_cases hk : targetL e.ky = false
  · rw [if_pos hk] at h; omega
  · simpa using hk
def ckNearS : Ck
  | [.iptr [.sl 1 fe, _, _, _], .str k, .int .i64 t, .int .i64 1] => some (isLs cInd 1 fe ∧ nearOk (cInd.dec (fe 0)) k t, .tup [cInd.enc (cInd.dec (fe 0)), .bool true])
  | _ => none
theorem conNearS : Con pg 66 ckNearS := by
  have hct := (ctA_ok conNearP (ctN_ok _))
  intro args q r h hq
  unfold ckNearS at h
  split at h
  · cases h
    rename_i fe x2 x3 x4 k t
    refine pcall_args (args' := [.iptr [.sl 1 fe, x2, x3, x4], .str k, .int .i64 t, .int .i64 1]) ⟨VLe.refl _, VLe.refl _, VLe.refl _, VLe.refl _, trivial⟩ ?_
    obtain ⟨hf, h1, h2, h3, h4, h5, h6⟩ := hq
    refine w66 (fun _ => false) [] rfl hct rfl rfl ?_
    push_cast (config := { maxSteps := 10000000 })
    exact ⟨hf, h1, h2, h3, h4, h5, h6⟩
  · cases h
attribute [push_cast] ckNearS
def ckNearestS : Ck
  | [.iptr [.sl 1 fe, _, _, _], .str k, .int .i64 t, .int .i64 0] => some (isLs cInd 1 fe ∧ nearOk (cInd.dec (fe 0)) k t, .tup [cInd.enc (cInd.dec (fe 0)), .bool true])
  | _ => none
theorem conNearestS : Con pg 30 ckNearestS := by
  have hct := (ctA_ok conNearS (ctA_ok conAway (ctN_ok _)))
  intro args q r h hq
  unfold ckNearestS at h
  split at h
  · cases h
    rename_i fe x2 x3 x4 k t
    refine pcall_args (args' := [.iptr [.sl 1 fe, x2, x3, x4], .str k, .int .i64 t, .int .i64 0]) ⟨VLe.refl _, VLe.refl _, VLe.refl _, VLe.refl _, trivial⟩ ?_
    obtain ⟨hf, h1, h2, h3, h4, h5, h6⟩ := hq
    refine w30 (fun _ => false) [] rfl hct rfl rfl ?_
    push_cast (config := { maxSteps := 10000000 })
    exact ⟨⟨hf, h1, h2, h3, h4, h5, h6⟩, ⟨⟨by omega, by omega⟩, h5, h6⟩, fun h => by omega⟩
  · cases h
attribute [push_cast] ckNearestS
def ckAsk : Ck
  | [.agg [.sl 1 fe, .sl 1 ff, .nilsl], .str k, .int .i64 t, .int .i64 0] => some ((isLs cInd 1 fe ∧ isLs cSto 1 ff) ∧ stoOk (cInd.dec (fe 0)) (cSto.dec (ff 0)) ∧ nearOk (cInd.dec (fe 0)) k t, .tup [stoV (cInd.dec (fe 0)) (cSto.dec (ff 0)), .int .i64 0])
  | _ => none
theorem conAsk : Con pg 29 ckAsk := by
  have hct := (ctA_ok conOpen (ctA_ok conIsKey (ctA_ok conIsMoment (ctA_ok conDrift (ctN_ok _)))))
  intro args q r h hq
  unfold ckAsk at h
  split at h
  · cases h
    rename_i fe ff k t
    refine pcall_args (args' := [.agg [.sl 1 fe, .sl 1 ff, .nilsl], .str k, .int .i64 t, .int .i64 0]) ⟨VLe.refl _, VLe.refl _, VLe.refl _, VLe.refl _, trivial⟩ ?_
    obtain ⟨hf, hs, h1, h2, h3, h4, h5, h6⟩ := hq
    refine w29 (fun _ => false) [] rfl hct rfl rfl ?_
    push_cast (config := { maxSteps := 10000000 })
    have hk := indE_ky h2
    rw [← h3] at hk
    have hkl : k.length ≤ 140737488355328 := by rw [h3]; exact h1.1
    exact ⟨⟨hf, hs⟩, by omega, fun h => absurd (hk.symm.trans h) (by decide), fun _ => ⟨fun h => h h5 h6, fun _ => rfl⟩⟩
  · cases h
attribute [push_cast] ckAsk
def ckNearestX : Ck
  | [.agg [.sl 1 fe, .sl 1 ff, .nilsl], .str k, .int .i64 t, .int .i64 0] => some ((isLs cInd 1 fe ∧ isLs cSto 1 ff) ∧ stoOk (cInd.dec (fe 0)) (cSto.dec (ff 0)) ∧ nearOk (cInd.dec (fe 0)) k t, .tup [cInd.enc (cInd.dec (fe 0)), .bool true, .int .i64 0])
  | _ => none
theorem conNearestX : Con pg 9 ckNearestX := by
  have hct := (ctA_ok conAsk (ctA_ok conNearestS (ctN_ok _)))
  intro args q r h hq
  unfold ckNearestX at h
  split at h
  · cases h
    rename_i fe ff k t
    refine pcall_args (args' := [.agg [.sl 1 fe, .sl 1 ff, .nilsl], .str k, .int .i64 t, .int .i64 0]) ⟨VLe.refl _, VLe.refl _, VLe.refl _, VLe.refl _, trivial⟩ ?_
    refine w9 (fun _ => false) [] rfl hct rfl rfl ?_
    push_cast (config := { maxSteps := 10000000 })
    exact ⟨hq, ⟨isLs_ls [_], hq.2.2⟩, rfl, rfl, rfl, rfl, rfl, rfl, rfl, rfl, rfl⟩
  · cases h
attribute [push_cast] ckNearestX
section
variable {P : Program}
theorem eqStructN (m : Nat) {t : TypeId} {fields : Array Field} {z cs ds : List V} (h : P.underlying t = some (.struct fields)) (hs : P.stoodInHeld t = false) (hc : chkF P 0 fields.toList z = true) (h1 : eqP z cs) (h2 : eqP cs ds) (xs ys : Array Value)
    (hx : ∀ i, i < cs.length → xs[0 + i]? = some (exV (cs.getD i .any))) (hy : ∀ i, i < ds.length → ys[0 + i]? = some (exV (ds.getD i .any))) (w : World) : (Op.equalIn (m + 1 + 1) t (.agg xs) (.agg ys)).run P w = .ok (eqB cs ds) w := by
  have hl := eqLoop (P := P) m xs ys w fields.toList 0 z cs ds hc h1 h2 hx hy
  rw [Op.equalIn]
  simp only [Sem.run_bind, run_und h, Result.andThen_ok]
  have hp : (Sem.run P program w) = .ok P w := rfl
  rw [hp]
  simp only [Result.andThen_ok, hs, Bool.false_eq_true, if_false]
  rw [← Array.forIn_toList]
  have hl' := hl
  unfold eqBody at hl'
  simp only [Sem.run_bind]
  erw [hl']
  simp only [Result.andThen_ok]
  cases eqB cs ds <;> rfl
def chkF2 (P : Program) : Nat → List Field → List V → Bool
  | _, [], [] => true
  | off, f :: fs, z => f.name != "_" && f.offset == off && (match P.underlying f.type with
    | some (.struct gs) => !P.stoodInHeld f.type && ((P.info? f.type).map (·.size) == some gs.size) && decide (gs.size ≤ z.length) && chkF P 0 gs.toList (z.take gs.size) && chkF2 P (off + gs.size) fs (z.drop gs.size)
    | _ => chkF P off [f] (z.take 1) && chkF2 P (off + 1) fs (z.drop 1))
  | _, _, _ => false
theorem eqP_len : ∀ {z c : List V}, eqP z c → z.length = c.length
  | [], [], _ => rfl
  | [], _ :: _, h => by simp [eqP] at h
  | x :: _, [], h => by cases x <;> simp [eqP] at h
  | x :: z, y :: c, h => by
    have := eqP_len (eqP_cons h).2
    simp [this]
theorem eqP_take : ∀ {z c : List V} (k : Nat), eqP z c → eqP (z.take k) (c.take k)
  | [], [], k, _ => by simp [eqP]
  | [], _ :: _, _, h => by simp [eqP] at h
  | x :: _, [], _, h => by cases x <;> simp [eqP] at h
  | x :: z, y :: c, 0, h => by simp [eqP]
  | x :: z, y :: c, k + 1, h => by
    obtain ⟨a, b⟩ := eqP_cons h
    have := eqP_take k b
    simp only [List.take_succ_cons]
    cases x <;> cases y <;> simp only [eqP] at a ⊢ <;> first | exact ⟨a.1, this⟩ | exact this | exact a.elim
theorem eqP_drop : ∀ {z c : List V} (k : Nat), eqP z c → eqP (z.drop k) (c.drop k)
  | z, c, 0, h => by simpa using h
  | [], [], k + 1, _ => by simp [eqP]
  | [], _ :: _, _, h => by simp [eqP] at h
  | x :: _, [], _, h => by cases x <;> simp [eqP] at h
  | x :: z, y :: c, k + 1, h => by
    simp only [List.drop_succ_cons]
    exact eqP_drop k (eqP_cons h).2
theorem eqB_split : ∀ {c d : List V} (k : Nat), eqP c d → eqB c d = (eqB (c.take k) (d.take k) && eqB (c.drop k) (d.drop k))
  | [], [], k, _ => by simp [eqB]
  | [], _ :: _, _, h => by simp [eqP] at h
  | x :: _, [], _, h => by cases x <;> simp [eqP] at h
  | x :: z, y :: c, 0, h => by simp [eqB]
  | x :: z, y :: c, k + 1, h => by
    obtain ⟨a, b⟩ := eqP_cons h
    simp only [List.take_succ_cons, List.drop_succ_cons]
    rw [eqB_cons a, eqB_cons (cs := z.take k) (ds := c.take k) a, eqB_split k b, Bool.and_assoc]
theorem getD_takeQ {l : List V} {k i : Nat} (h : i < (l.take k).length) : (l.take k).getD i .any = l.getD i .any := by
  rw [List.length_take] at h
  rw [List.getD_eq_getElem?_getD, List.getD_eq_getElem?_getD, List.getElem?_take_of_lt (by omega)]
theorem getD_drop {l : List V} {k i : Nat} : (l.drop k).getD i .any = l.getD (k + i) .any := by
  rw [List.getD_eq_getElem?_getD, List.getD_eq_getElem?_getD, List.getElem?_drop]
theorem part_agg {t : TypeId} {gs : Array Field} {sz : Nat} (h : P.underlying t = some (.struct gs)) (hi : (P.info? t).map (·.size) = some sz) (cs : Array Value) (off : Nat) (w : World) : (part t cs off).run P w = .ok (.agg (cs.extract off (off + sz))) w := by
  have ha : (isAgg t).run P w = .ok true w := by
    unfold isAgg
    simp only [Sem.run_bind, run_und h, Result.andThen_ok]
    rfl
  obtain ⟨i, h1, h2⟩ := Option.map_eq_some_iff.1 hi
  simp only [part, Sem.run_bind, ha, Result.andThen_ok, if_true, run_size h1, h2, Sem.run_pure]
theorem eqLoop2 (n : Nat) (xs ys : Array Value) (w : World) : ∀ (fs : List Field) (off : Nat) (z cs ds : List V), chkF2 P off fs z = true → eqP z cs → eqP cs ds → (∀ i, i < cs.length → xs[off + i]? = some (exV (cs.getD i .any))) → (∀ i, i < ds.length → ys[off + i]? = some (exV (ds.getD i .any))) →
    (forIn fs ((none, ()) : Option Bool × Unit) (eqBody (n + 1 + 1) xs ys)).run P w = .ok (if eqB cs ds then (none, ()) else (some false, ())) w
  | [], off, [], cs, ds, _, h1, h2, _, _ => by
    cases cs with
    | cons c cs => simp [eqP] at h1
    | nil => cases ds with
      | cons d ds => simp [eqP] at h2
      | nil => rfl
  | [], _, _ :: _, _, _, h, _, _, _, _ => by simp [chkF2] at h
  | f :: fs, off, z, cs, ds, h, h1, h2, hx, hy => by
    rw [chkF2] at h
    simp only [Bool.and_eq_true] at h
    obtain ⟨⟨hn, ho⟩, hk⟩ := h
    have ho := eq_of_beq ho
    have hname : f.name ≠ "_" := by simpa using hn
    have step : ∀ k, (∀ zz, zz = z.drop k → chkF2 P (off + k) fs zz = true) → (∃ a b : Value, (part f.type xs f.offset).run P w = .ok a w ∧ (part f.type ys f.offset).run P w = .ok b w ∧ (Op.equalIn (n + 1 + 1) f.type a b).run P w = .ok (eqB (cs.take k) (ds.take k)) w) →
        (forIn (f :: fs) ((none, ()) : Option Bool × Unit) (eqBody (n + 1 + 1) xs ys)).run P w = .ok (if eqB cs ds then (none, ()) else (some false, ())) w := by
      intro k hr ⟨a, b, px, py, he⟩
      have ih := eqLoop2 n xs ys w fs (off + k) (z.drop k) (cs.drop k) (ds.drop k) (hr _ rfl) (eqP_drop k h1) (eqP_drop k h2)
        (fun i hi => by rw [List.length_drop] at hi; rw [getD_drop, Nat.add_assoc]; exact hx _ (by omega)) (fun i hi => by rw [List.length_drop] at hi; rw [getD_drop, Nat.add_assoc]; exact hy _ (by omega))
      rw [List.forIn_cons, eqB_split k h2]
      have hb : (eqBody (n + 1 + 1) xs ys f (none, ())).run P w = .ok (if (!eqB (cs.take k) (ds.take k)) = true then ForInStep.done (some false, ()) else ForInStep.yield (none, ())) w := by
        unfold eqBody
        rw [if_pos hname]
        simp only [Sem.run_bind, px, py, he, Result.andThen_ok]
        cases eqB (cs.take k) (ds.take k) <;> rfl
      simp only [Sem.run_bind, hb, Result.andThen_ok]
      cases hq : eqB (cs.take k) (ds.take k) with
      | false => rfl
      | true => simpa using ih
    split at hk
    · rename_i gs hu
      simp only [Bool.and_eq_true, Bool.not_eq_true', decide_eq_true_eq] at hk
      obtain ⟨⟨⟨⟨k1, k2⟩, k3⟩, k4⟩, k5⟩ := hk
      have k2 := eq_of_beq k2
      have e1 := eqP_len h1
      have e2 := eqP_len h2
      refine step gs.size (fun zz e => by rw [e]; exact k5) ⟨_, _, part_agg hu k2 xs f.offset w, part_agg hu k2 ys f.offset w, ?_⟩
      refine eqStructN n hu k1 k4 (eqP_take _ h1) (eqP_take _ h2) _ _ (fun i hi => ?_) (fun i hi => ?_) w
      · rw [getD_takeQ hi]
        rw [List.length_take] at hi
        have := hx i (by omega)
        rw [ho, Nat.zero_add, Array.getElem?_extract, if_pos]
        · exact this
        · have := (Array.getElem?_eq_some_iff.1 this).1
          omega
      · rw [getD_takeQ hi]
        rw [List.length_take] at hi
        have := hy i (by omega)
        rw [ho, Nat.zero_add, Array.getElem?_extract, if_pos]
        · exact this
        · have := (Array.getElem?_eq_some_iff.1 this).1
          omega
    · simp only [Bool.and_eq_true] at hk
      cases z with
      | nil => simp [chkF] at hk
      | cons v z =>
      cases cs with
      | nil => cases v <;> simp [eqP] at h1
      | cons c cs =>
      cases ds with
      | nil => cases c <;> simp [eqP] at h2
      | cons d ds =>
      have hk1 := hk.1
      simp only [List.take_succ_cons, List.take_zero, chkF, Bool.and_eq_true] at hk1
      obtain ⟨a1, _⟩ := eqP_cons h1
      obtain ⟨b1, _⟩ := eqP_cons h2
      obtain ⟨⟨dsc, u1, u2⟩, he⟩ := eqLeaf (n := n + 1) hk1.1.2 a1 b1 w
      have px := part_run u1 u2 (cs := xs) (off := f.offset) (v := exV c) (by rw [ho]; simpa using hx 0 (by simp)) w
      have py := part_run u1 u2 (cs := ys) (off := f.offset) (v := exV d) (by rw [ho]; simpa using hy 0 (by simp)) w
      exact step 1 (fun zz e => by rw [e]; exact hk.2) ⟨_, _, px, py, by simpa using he⟩
theorem eqOk_struct2 {t : TypeId} {fields : Array Field} {z : V} (h : P.underlying t = some (.struct fields)) (hg : P.eqGuardType P.depth t = false) (hs : P.stoodInHeld t = false) (hz : (ti P t).zero = some z) (hc : chkF2 P 0 fields.toList z.flat = true) : EqOk P t := by
  refine ⟨hg, fun cs ds w h1 h2 => ?_⟩
  unfold zP at h1
  rw [hz] at h1
  have at' : ∀ (l : List V) (i : Nat), i < l.length → ((l.map exV).toArray)[0 + i]? = some (exV (l.getD i .any)) := fun l i hi => by simp [hi]
  have aux : ∀ m, m = 9997 → (Op.equalIn (m + 1 + 1 + 1) t (.agg (cs.map exV).toArray) (.agg (ds.map exV).toArray)).run P w = .ok (eqB cs ds) w := by
    intro m hm
    have hl := eqLoop2 (P := P) m ((cs.map exV).toArray) ((ds.map exV).toArray) w fields.toList 0 z.flat cs ds hc h1 h2 (at' cs) (at' ds)
    clear hm
    rw [Op.equalIn]
    simp only [Sem.run_bind, run_und h, Result.andThen_ok]
    have hp : (Sem.run P program w) = .ok P w := rfl
    rw [hp]
    simp only [Result.andThen_ok, hs, Bool.false_eq_true, if_false]
    rw [← Array.forIn_toList]
    have hl' := hl
    unfold eqBody at hl'
    simp only [Sem.run_bind]
    erw [hl']
    simp only [Result.andThen_ok]
    cases eqB cs ds <;> rfl
  exact aux 9997 rfl
def eqChk2 (P : Program) (t : TypeId) : Bool := match P.underlying t, (ti P t).zero with
  | some (.struct fs), some z => !P.eqGuardType P.depth t && !P.stoodInHeld t && chkF2 P 0 fs.toList z.flat
  | _, _ => false
theorem eqOk2_of {t : TypeId} (h : eqChk2 P t = true) : EqOk P t := by
  unfold eqChk2 at h
  split at h
  · rename_i fs z hu hz
    simp only [Bool.and_eq_true, Bool.not_eq_true'] at h
    exact eqOk_struct2 hu h.1.1 h.1.2 hz h.2
  · cases h
end
@[push_cast] theorem eqIndT : EqOk Tryz.prog 47 = True := eq_true (eqOk2_of (by kernel_rfl))
def ckIdxE : Ck
  | [.sl 1 f, .agg [.str ky, .int .i64 ti, .int .i64 st, .str ty, .str dg, .str fi, .int .i64 fr, .int .i64 t2, .bool sm]] => some (isLs cInd 1 f ∧ (⟨ky, ti, st, ty, dg, fi, fr, t2, sm⟩ : Ind) = cInd.dec (f 0), .int .i64 0)
  | _ => none
theorem conIdxE : Con pg 71 ckIdxE := by
  have hct := ctN_ok pg
  intro args q r h hq
  unfold ckIdxE at h
  split at h
  · cases h
    rename_i f ky ti st ty dg fi fr t2 sm
    refine pcall_args (args' := [.sl (lsOf cInd 1 f).length (lsF cInd (lsOf cInd 1 f)), .agg [.str ky, .int .i64 ti, .int .i64 st, .str ty, .str dg, .str fi, .int .i64 fr, .int .i64 t2, .bool sm]]) ⟨isLs.vle hq.1, VLe.refl _, trivial⟩ ?_
    have hl : lsOf cInd 1 f = [⟨ky, ti, st, ty, dg, fi, fr, t2, sm⟩] := by rw [hq.2]; rfl
    rw [hl]
    clear hq hl
    refine w71 (fun _ => false) [] rfl hct rfl rfl ?_
    push_cast (config := { maxSteps := 10000000 })
    refine LoopW.adj ⟨hct, fol⟩ (by kernel_rfl) [] (fun i : Nat => [(0, .sl 1 (lsF cInd [⟨ky, ti, st, ty, dg, fi, fr, t2, sm⟩])), (3, .ptr 3 0), (7, .int .i64 1), (8, .int .i64 i)]) (fun _ => [(3, .cells [.str ky, .int .i64 ti, .int .i64 st, .str ty, .str dg, .str fi, .int .i64 fr, .int .i64 t2, .bool sm])]) (fun i => i = 0) (fun i => 1 - i) 0 ?_ fun i hi => ?_
    · push_cast (config := { maxSteps := 10000000 })
      done
    · subst hi
      push_cast (config := { maxSteps := 10000000 })
      done
  · cases h
attribute [push_cast] ckIdxE
def ckCtnE : Ck
  | [.sl 1 f, .agg [.str ky, .int .i64 ti, .int .i64 st, .str ty, .str dg, .str fi, .int .i64 fr, .int .i64 t2, .bool sm]] => some (isLs cInd 1 f ∧ (⟨ky, ti, st, ty, dg, fi, fr, t2, sm⟩ : Ind) = cInd.dec (f 0), .bool true)
  | _ => none
theorem conCtnE : Con pg 34 ckCtnE := by
  have hct := (ctA_ok conIdxE (ctN_ok _))
  intro args q r h hq
  unfold ckCtnE at h
  split at h
  · cases h
    rename_i f ky ti st ty dg fi fr t2 sm
    refine w34 (fun _ => false) [] rfl hct rfl rfl ?_
    push_cast (config := { maxSteps := 10000000 })
    exact hq
  · cases h
attribute [push_cast] ckCtnE
def ckKeptS : Ck
  | [.iptr [.sl 1 _, .sl 1 ff, .nilsl, .fmp .str dom g], .agg [.str _, .int .i64 _, .int .i64 _, .str _, .str _, .str fi, .int .i64 fr, .int .i64 t2, .bool _]] => some ((fi = (cSto.dec (ff 0)).nm ∧ fr = 0 ∧ t2 = (cSto.dec (ff 0)).by'.length ∧ oneB (cSto.dec (ff 0)).by' ∧ (raL (rOne (cSto.dec (ff 0)).by').bd).2.2.2 = 0 ∧ dom = (fun l => (filM (cSto.dec (ff 0)).nm (filV (rOne (cSto.dec (ff 0)).by') (cSto.dec (ff 0)).by'.length) l).isSome) ∧ g = (fun l => (filM (cSto.dec (ff 0)).nm (filV (rOne (cSto.dec (ff 0)).by') (cSto.dec (ff 0)).by'.length) l).getD .any)), .tup [cAns.enc (raL (rOne (cSto.dec (ff 0)).by').bd).1, .int .i64 0])
  | _ => none
theorem conKeptS : Con pg 35 ckKeptS := by
  have hct := (ctA_ok conShown1 (ctA_ok conReadAns (ctN_ok _)))
  intro args q r h hq
  unfold ckKeptS at h
  split at h
  · cases h
    rename_i fe ff dom g ky ti st ty dg fi fr t2 sm
    obtain ⟨rfl, rfl, rfl, ⟨hR, hone, hB⟩, ha, rfl, rfl⟩ := hq
    have hii := iiC
    obtain ⟨z1, z2, z3, z4, z5, z6, z7⟩ := rec_sz ((file_ok hone.2.1).1 _ List.mem_cons_self)
    unfold filV
    generalize (cSto.dec (ff 0)).by' = B at *
    generalize (cSto.dec (ff 0)).nm = nm at *
    generalize rOne B = r at *
    refine w35 (fun _ => false) [] rfl hct rfl rfl ?_
    push_cast (config := { maxSteps := 10000000 })
    exact ⟨⟨hii, by omega, by omega⟩, ⟨isLs_ls [r], hone⟩, by omega, fun h => ⟨h, fun g => ⟨h, g⟩⟩, fun _ => ha⟩
  · cases h
attribute [push_cast] ckKeptS
def ckKeptX : Ck
  | [.agg [.sl 1 fe, .sl 1 ff, .nilsl], .agg [.str ky, .int .i64 ti, .int .i64 st, .str ty, .str dg, .str fi, .int .i64 fr, .int .i64 t2, .bool sm]] => some ((isLs cInd 1 fe ∧ isLs cSto 1 ff) ∧ stoOk (cInd.dec (fe 0)) (cSto.dec (ff 0)) ∧ (⟨ky, ti, st, ty, dg, fi, fr, t2, sm⟩ : Ind) = cInd.dec (fe 0) ∧ (raL (rOne (cSto.dec (ff 0)).by').bd).2.2.2 = 0, .tup [cAns.enc (raL (rOne (cSto.dec (ff 0)).by').bd).1, .int .i64 0])
  | _ => none
theorem conKeptX : Con pg 11 ckKeptX := by
  have hct := (ctA_ok conOpen (ctA_ok conCtnE (ctA_ok conKeptS (ctN_ok _))))
  intro args q r h hq
  unfold ckKeptX at h
  split at h
  · cases h
    rename_i fe ff ky ti st ty dg fi fr t2 sm
    refine pcall_args (args' := [.agg [.sl 1 fe, .sl 1 ff, .nilsl], .agg [.str ky, .int .i64 ti, .int .i64 st, .str ty, .str dg, .str fi, .int .i64 fr, .int .i64 t2, .bool sm]]) ⟨VLe.refl _, VLe.refl _, trivial⟩ ?_
    obtain ⟨hf, hs, he, ha⟩ := hq
    refine w11 (fun _ => false) [] rfl hct rfl rfl ?_
    push_cast (config := { maxSteps := 10000000 })
    have hd : cSto.dec (V.agg [V.str (cSto.dec (ff 0)).nm, V.sl (cSto.dec (ff 0)).by'.length (byF (cSto.dec (ff 0)).by')]) = cSto.dec (ff 0) := cSto.ok (cSto.dec (ff 0))
    rw [hd]
    obtain ⟨hB, hnm, hie, hE, e1, e2, e3, e4, e5⟩ := id hs
    rw [← he] at e3 e4 e5
    refine ⟨⟨hf, hs⟩, ⟨hf.1, he⟩, ⟨e3, e4, e5, hB, ha, rfl, rfl⟩, ?_⟩
    exact ⟨rfl, rfl, ⟨rfl, fun _ _ => rfl⟩, rfl, fun _ _ => rfl⟩
  · cases h
attribute [push_cast] ckKeptX
theorem eq_take {α : Type} [DecidableEq α] {d : α} {a b : List α} (h : a.length = b.length) (hh : ∀ j, j < a.length → a.getD j d = b.getD j d) : a = b := by
  apply List.ext_getElem h
  intro i h1 h2
  have := hh i h1
  rwa [List.getD_eq_getElem?_getD, List.getD_eq_getElem?_getD, List.getElem?_eq_getElem h1, List.getElem?_eq_getElem h2] at this
theorem ne_at {α : Type} {d : α} {a b : List α} {i : Nat} (h : a.getD i d ≠ b.getD i d) : a ≠ b := fun e => h (by rw [e])
def ckEqHd : Ck
  | [.sl n f, .sl m g] => some (isLs cHd n f ∧ isLs cHd m g ∧ n ≤ 4611686018427387904, .bool (decide (lsOf cHd n f = lsOf cHd m g)))
  | _ => none
theorem conEqHd : Con pg 36 ckEqHd := by
  have hct := ctN_ok pg
  intro args q r h hq
  unfold ckEqHd at h
  split at h
  · cases h
    rename_i n f m g
    refine pcall_args (args' := [.sl (lsOf cHd n f).length (lsF cHd (lsOf cHd n f)), .sl (lsOf cHd m g).length (lsF cHd (lsOf cHd m g))]) ⟨isLs.vle hq.1, isLs.vle hq.2.1, trivial⟩ ?_
    have hn : (lsOf cHd n f).length ≤ 4611686018427387904 := by rw [lsOf_len]; exact hq.2.2
    generalize lsOf cHd n f = a at hn ⊢
    generalize lsOf cHd m g = b
    refine w36 (fun _ => false) [] rfl hct rfl rfl ?_
    push_cast (config := { maxSteps := 10000000 })
    refine ⟨fun h => ?_, fun h => ?_⟩
    · exact (decide_eq_false fun e => h (by rw [e])).symm
    refine LoopW.adj ⟨hct, fol⟩ (by kernel_rfl) [] (fun i : Nat => [(0, .sl a.length (lsF cHd a)), (1, .sl b.length (lsF cHd b)), (12, .int .i64 a.length), (13, .int .i64 i)]) (fun _ => []) (fun i => i ≤ a.length ∧ ∀ j, j < i → a.getD j ⟨[], []⟩ = b.getD j ⟨[], []⟩) (fun i => a.length - i) 0 ?_ fun i hi => ?_
    · push_cast (config := { maxSteps := 10000000 })
      exact Nat.zero_le _
    · push_cast (config := { maxSteps := 10000000 })
      obtain ⟨h1, h2⟩ := hi
      refine ⟨fun hlt => ⟨hlt, by omega, fun hne => ?_, fun he => ⟨by omega, i + 1, ⟨by omega, fun j hj => ?_⟩, by omega, by omega⟩⟩, fun hge => ?_⟩
      · exact (decide_eq_false (ne_at (d := ⟨[], []⟩) (i := i) fun e => hne (by rw [e]) (by rw [e]))).symm
      · by_cases e : j = i
        · subst e
          have e1 : ∀ x y : Hd, x.name = y.name → x.value = y.value → x = y := fun x y h h' => by cases x; cases y; simp_all
          exact e1 _ _ he.1 he.2
        · exact h2 j (by omega)
      · exact (decide_eq_true (eq_take (d := ⟨[], []⟩) (by omega) fun j hj => h2 j (by omega))).symm
  · cases h
attribute [push_cast] ckEqHd
def ckEqByE : Ck
  | [.sl n f, .sl m g] => some (isBy n f ∧ isBy m g ∧ n ≤ 4611686018427387904 ∧ bytesOf n f = bytesOf m g, .bool true)
  | _ => none
theorem conEqByE : Con pg 37 ckEqByE := by
  have hct := ctN_ok pg
  intro args q r h hq
  unfold ckEqByE at h
  split at h
  · cases h
    rename_i n f m g
    refine pcall_args (args' := [.sl (bytesOf n f).length (byF (bytesOf n f)), .sl (bytesOf m g).length (byF (bytesOf m g))]) ⟨isBy.vle hq.1, isBy.vle hq.2.1, trivial⟩ ?_
    obtain ⟨-, -, hn, he⟩ := hq
    rw [← he]
    have hn : (bytesOf n f).length ≤ 4611686018427387904 := by rw [bytesOf_len]; exact hn
    generalize bytesOf n f = a at hn
    clear he
    refine w37 (fun _ => false) [] rfl hct rfl rfl ?_
    push_cast (config := { maxSteps := 10000000 })
    refine LoopW.adj ⟨hct, fol⟩ (by kernel_rfl) [] (fun i : Nat => [(0, .sl a.length (byF a)), (1, .sl a.length (byF a)), (12, .int .i64 a.length), (13, .int .i64 i)]) (fun _ => []) (fun i => i ≤ a.length) (fun i => a.length - i) 0 ?_ fun i hi => ?_
    · push_cast (config := { maxSteps := 10000000 })
      exact Nat.zero_le _
    · push_cast (config := { maxSteps := 10000000 })
      exact fun hlt => ⟨hlt, hlt, by omega, i + 1, by omega, by omega, by omega⟩
  · cases h
attribute [push_cast] ckEqByE
def ckSameE : Ck
  | [.agg [.int .i64 s1, .str r1, .sl n f, .sl m g], .agg [.int .i64 s2, .str r2, .sl n' f', .sl m' g']] => some ((isLs cHd n f ∧ isLs cHd n' f' ∧ n ≤ 4611686018427387904 ∧ isBy m g ∧ isBy m' g' ∧ m ≤ 4611686018427387904) ∧ (⟨s1, r1, lsOf cHd n f, bytesOf m g⟩ : Ans) = ⟨s2, r2, lsOf cHd n' f', bytesOf m' g'⟩, .bool true)
  | _ => none
theorem conSameE : Con pg 12 ckSameE := by
  have hct := (ctA_ok conEqHd (ctA_ok conEqByE (ctN_ok _)))
  intro args q r h hq
  unfold ckSameE at h
  split at h
  · cases h
    rename_i s1 r1 n f m g s2 r2 n' f' m' g'
    refine w12 (fun _ => false) [] rfl hct rfl rfl ?_
    push_cast (config := { maxSteps := 10000000 })
    obtain ⟨⟨h1, h2, h3, h4, h5, h6⟩, he⟩ := hq
    simp only [Ans.mk.injEq] at he
    obtain ⟨e1, e2, e3, e4⟩ := he
    exact ⟨fun h => ⟨h, h1, h2, h3⟩, fun h => ⟨h, h4, h5, h6, e4⟩, ⟨e1, e2⟩, e3⟩
  · cases h
attribute [push_cast] ckSameE
def ckAlive : Ck
  | [] => some (True, .bool true)
  | _ => none
def ckDigN : Ck
  | [.nilsl] => some (True, .str (digestL []))
  | _ => none
theorem conDigN : Con pg 10 ckDigN := by
  intro args q r h hq
  unfold ckDigN at h
  split at h
  · cases h
    exact pcall_args (args' := [.sl 0 (byF [])]) ⟨VLe.nilsl _, trivial⟩ (conDigest _ _ _ rfl ⟨isBy_by [], by decide⟩)
  · cases h
attribute [push_cast] ckDigN
theorem conAlive : Con pg 5 ckAlive := by
  have hct := (ctA_ok conDateText (ctA_ok conHasPre (ctA_ok conDigN (ctN_ok _))))
  intro args q r h hq
  unfold ckAlive at h
  split at h
  · cases h
    refine w5 (fun _ => false) [] rfl hct rfl rfl ?_
    push_cast (config := { maxSteps := 10000000 })
    exact ⟨by decide +kernel, by decide +kernel, by decide +kernel⟩
  · cases h
attribute [push_cast] ckAlive
theorem shRecX {m : Nat} {v : V} (h : Sh.has (.tup [.int .i64, .str, .str, .int .i64, .str, .list (.tup [.str, .str]), .list (.int .u8)]) m v) : ∃ ki id ow ti ke n f k g, v = .agg [.int .i64 ki, .str id, .str ow, .int .i64 ti, .str ke, .sl n f, .sl k g] ∧ isLs cHd n f ∧ isBy k g := by
  obtain ⟨l, ms, rfl, -, hl⟩ := h
  obtain ⟨m1, v1, ms, l, rfl, h1, hl⟩ := hasL_cons hl
  obtain ⟨m2, v2, ms, l, rfl, h2, hl⟩ := hasL_cons hl
  obtain ⟨m3, v3, ms, l, rfl, h3, hl⟩ := hasL_cons hl
  obtain ⟨m4, v4, ms, l, rfl, h4, hl⟩ := hasL_cons hl
  obtain ⟨m5, v5, ms, l, rfl, h5, hl⟩ := hasL_cons hl
  obtain ⟨m6, v6, ms, l, rfl, h6, hl⟩ := hasL_cons hl
  obtain ⟨m7, v7, ms, l, rfl, h7, hl⟩ := hasL_cons hl
  obtain rfl := hasL_nil hl
  obtain ⟨ki, rfl, c1⟩ := shInt h1
  obtain ⟨id, rfl, b2⟩ := shStr h2
  obtain ⟨ow, rfl, b3⟩ := shStr h3
  obtain ⟨ti, rfl, c4⟩ := shInt h4
  obtain ⟨ke, rfl, b5⟩ := shStr h5
  obtain ⟨n, f, rfl, i6, b6, k6⟩ := shList (c := cHd) (fun m v h => shHead h) h6
  obtain ⟨k, g, rfl, i7, b7⟩ := shBytes h7
  exact ⟨ki, id, ow, ti, ke, n, f, k, g, rfl, i6, i7⟩
def ckLawAF : Ck
  | [x, .int .i64 fr, .int .i64 ch, .agg [.int .i64 ki, .str id, .str ow, .int .i64 ti, .str ke, .sl n f, .sl m g]] => some ((isC cAns x ∧ ansOk (cAns.dec x)) ∧ isLs cHd n f ∧ isBy m g ∧ n ≤ 140737488355328 ∧ recOk ⟨ki, id, ow, ti, ke, lsOf cHd n f, bytesOf m g⟩, .bool true)
  | _ => none
theorem conLawAF : Con pg 3 ckLawAF := by
  have hct := (ctA_ok conAnsB (ctA_ok conAlive (ctA_ok conHasPieG (ctA_ok conFileBytes (ctA_ok conOfFile (ctA_ok conDigest (ctA_ok conNearestX (ctA_ok conKeptX (ctA_ok conSameE (ctN_ok _))))))))))
  intro args q r h hq
  unfold ckLawAF at h
  split at h
  · cases h
    rename_i x fr ch ki id ow ti ke n f m g
    refine pcall_args (args' := [cAns.enc (cAns.dec x), .int .i64 fr, .int .i64 ch, .agg [.int .i64 ki, .str id, .str ow, .int .i64 ti, .str ke, .sl (lsOf cHd n f).length (lsF cHd (lsOf cHd n f)), .sl (bytesOf m g).length (byF (bytesOf m g))]]) ⟨hq.1.1, VLe.refl _, VLe.refl _, VLe.agg ⟨VLe.refl _, VLe.refl _, VLe.refl _, VLe.refl _, VLe.refl _, isLs.vle hq.2.1, isBy.vle hq.2.2.1, trivial⟩, trivial⟩ ?_
    obtain ⟨⟨-, ha⟩, -, -, hn, hr⟩ := hq
    have hn : (lsOf cHd n f).length ≤ 140737488355328 := by rw [lsOf_len]; exact hn
    generalize cAns.dec x = a at ha ⊢
    generalize lsOf cHd n f = hd at hn hr ⊢
    generalize bytesOf m g = old at hr ⊢
    refine w3 (fun _ => false) [] rfl hct rfl rfl ?_
    push_cast (config := { maxSteps := 10000000 })
    have L1 := LsI.one (c := cRec) (f := litF [V.agg [V.int IntKind.i64 3, V.str id, V.str [], V.int IntKind.i64 ti, V.str ke, V.sl hd.length (lsF cHd hd), V.sl (ansR a fr ch).length (byF (ansR a fr ch))]]) (a := ⟨3, id, [], ti, ke, hd, ansR a fr ch⟩) rfl
    rw [L1.of]
    refine ⟨ha, fun h => by unfold ansR; rw [if_neg h]; rfl, fun hA => ⟨hn, fun hP => ?_⟩⟩
    have eR : ansR a fr ch = ansB a fr ch := by unfold ansR; rw [if_pos hA]
    obtain ⟨b1, b2, b3, b4, b5, b6, b7, b8⟩ := ans_ok hA
    have hlen : (ansR a fr ch).length ≤ 3000000 := by
      have hb := body_le hA
      rw [eR]
      simp only [ansB, ansP, List.length_append, List.length_cons, List.length_nil]
      omega
    have okR : recOk ⟨3, id, [], ti, ke, hd, ansR a fr ch⟩ := by
      obtain ⟨r1, r2, r3, r4, r5, r6, r7, r8, r9, r10⟩ := hr
      refine ⟨r1, r2, Nat.zero_le _, r4, r5, ?_, r7, r8, (by decide : (-9223372036854775808 : Int) ≤ 3), (by decide : (3 : Int) ≤ 9223372036854775807)⟩
      show (ansR a fr ch).length ≤ _
      omega
    refine ⟨⟨L1.is, fun x hx => by rw [List.mem_singleton.1 hx]; exact okR⟩, fun h => by unfold fileR; rw [if_neg h]; rfl, fun hC => ?_⟩
    have hF : fileR [⟨3, id, [], ti, ke, hd, ansR a fr ch⟩] = fileB [⟨3, id, [], ti, ke, hd, ansR a fr ch⟩] := by unfold fileR; rw [if_pos hC]
    rw [hF]
    clear hF
    have hc := (file_ok hC).1 _ List.mem_cons_self
    have hp : fstH hd wPieces < 0 := noPie (recs_a (file_ok hC).1 _ List.mem_cons_self).1 hP
    obtain ⟨o1, o2⟩ := one_file hC okR rfl hp
    obtain ⟨-, -, -, -, t0, t1, -, -, -, hbd⟩ := rec_ok hc
    have t0 : 0 ≤ ti := t0
    have t1 : ti ≤ 253402300799 := t1
    have hbd : (ansR a fr ch).length ≤ 200000 := hbd
    have hra : raL (ansR a fr ch) = (a, fr, 0, 0) := by
      rw [eR] at hbd ⊢
      exact ans_back hA (by omega)
    generalize fileB [⟨3, id, [], ti, ke, hd, ansR a fr ch⟩] = B at o1 o2 ⊢
    have hraB : raL (rOne B).bd = (a, fr, 0, 0) := by rw [o1]; exact hra
    have hn1 : nameL [102] = true := by decide
    obtain ⟨i1, i2⟩ := ent_ok (nm := [102]) (B := B) (by rw [o1]; exact hc) hn1 o2.2.2 hraB ⟨b2, b3⟩
    have hD : cInd.dec (V.agg [V.str (entOf [102] B).ky, V.int IntKind.i64 (entOf [102] B).ti, V.int IntKind.i64 (entOf [102] B).st, V.str (entOf [102] B).ty, V.str (entOf [102] B).dg, V.str (entOf [102] B).fi, V.int IntKind.i64 (entOf [102] B).fr, V.int IntKind.i64 (entOf [102] B).to', V.bool (entOf [102] B).sm]) = entOf [102] B := rfl
    have hS : cSto.dec (V.agg [V.str [102], V.sl B.length (byF B)]) = ⟨[102], B⟩ := cSto.ok ⟨[102], B⟩
    have hL : isLs cSto 1 (litF [V.agg [V.str [102], V.sl B.length (byF B)]]) := (LsI.one (c := cSto) (a := ⟨[102], B⟩) rfl).is
    rw [hD, hS, hraB]
    have hst : stoOk (entOf [102] B) ⟨[102], B⟩ := ⟨o2, hn1, i1, i2, rfl, rfl, rfl, rfl, rfl⟩
    have hI := isLs_ls (c := cInd) [entOf [102] B]
    refine ⟨⟨hn1, o2, fun _ => by rw [hraB]; exact ⟨ha.1, by show a.hd.length ≤ _; omega, Nat.le_trans (medT_len a.hd) (by omega)⟩⟩, ⟨⟨hI, hL⟩, hst, i1, i2, by show ke = (rOne B).ke; rw [o1], by show ti = (rOne B).ti; rw [o1], t0, t1⟩, by omega, fun h => h (by show digestL (rOne B).bd = _; rw [o1]), fun _ => ⟨⟨⟨hI, hL⟩, hst, rfl⟩, ⟨⟨by show a.hd.length ≤ _; omega, by show a.bd.length ≤ _; omega⟩, rfl⟩, by show (iTold (rOne B).bd).1 = a.st; rw [told_at hraB]⟩⟩
  · cases h
attribute [push_cast] ckLawAF
theorem allLawAF {H : Type} (ds : List (DataW H)) (hh : hasD [.tup [.int .i64, .str, .list (.tup [.str, .str]), .list (.int .u8)], .int .i64, .int .i64, .tup [.int .i64, .str, .str, .int .i64, .str, .list (.tup [.str, .str]), .list (.int .u8)]] ds) : PCall pg 3 (ds.map toV) (.bool true) := by
  obtain ⟨d1, d2, d3, d4, rfl, a, b, c, d⟩ := hasD4 hh
  obtain ⟨fr, e2, _⟩ := shInt b
  obtain ⟨ch, e3, _⟩ := shInt c
  obtain ⟨ki, id, ow, ti, ke, n, f, k, g, e4, i6, i7⟩ := shRecX d
  obtain ⟨r1, r2⟩ := shRec d
  simp only [List.map_cons, List.map_nil, e2, e3, e4]
  rw [e4] at r2
  refine conLawAF _ _ _ rfl ⟨shAns a, i6, i7, ?_, r2⟩
  have := r2.2.2.2.2.1
  have hl : (lsOf cHd n f).length ≤ 140737488355328 := this
  rwa [lsOf_len] at hl
end Go.Abs
