/- what functions of this program compute: contracts, each a function's own -/
import Derived.Test.YtkpecjbbmadlcaaGreatDoorAbsK3
import Derived.Test.YtkpecjbbmadlcaaGreatDoorAbsFacts
import Derived.Test.YtkpecjbbmadlcaaGreatDoorAbsF7
import Derived.Test.YtkpecjbbmadlcaaGreatDoorAbsShelf
import Derived.Lib.SplitLaws
import Derived.Lib.SlTrimSet
import Derived.Lib.Atoi
import Derived.Lib.Itoa
import Derived.Lib.ItoaNum
import Derived.Lib.ItoaLen
import Derived.Lib.Replace
import Derived.Lib.ReplaceLaws
import Derived.Lib.AtoiErrMem
import Derived.Lib.Overlaps
import Derived.Deep.AppendSrc
import Derived.Laws.NewBlocks
import Derived.WalkKit
import Derived.Lib.Walk
import Derived.Lib.AppendStr
import Derived.Lib.AppendZeros
import Derived.Lib.UnsafeStr
import Derived.Lib.Builder
import Derived.Laws.Externs
import Derived.Lib.Repeat
import Derived.Lib.Join
namespace Go.Abs
open Go Go.Proofs
set_option maxHeartbeats 4000000
set_option maxRecDepth 100000
set_option linter.unusedVariables false
set_option linter.unusedSimpArgs false
theorem cut_sz3 (s c : List UInt8) : (Lib.cut s c).1.length ≤ s.length ∧ (Lib.cut s c).2.1.length ≤ s.length := by
  unfold Lib.cut
  split
  · exact ⟨by show (s.take _).length ≤ _; rw [List.length_take]; omega, by show (s.drop _).length ≤ _; rw [List.length_drop]; omega⟩
  · exact ⟨Nat.le_refl _, by simp⟩
theorem trimL_sz (s c : List UInt8) : (Lib.trimLeftS s c).length ≤ s.length := (List.dropWhile_sublist _).length_le
theorem trimR_sz (s c : List UInt8) : (Lib.trimRightS s c).length ≤ s.length := by
  unfold Lib.trimRightS
  rw [List.length_reverse]
  have := (List.dropWhile_sublist (fun x => c.contains x) (l := s.reverse)).length_le
  rw [List.length_reverse] at this
  exact this
theorem trimS_sz (s c : List UInt8) : (Lib.trimS s c).length ≤ s.length := Nat.le_trans (trimL_sz _ _) (trimR_sz _ _)
theorem mLine {x : RdS} {s : List UInt8} (hx : RdOk x 1000000) (hs : s.length ≤ 1000000) : MCall pg 22 [.ptr 16004 0, .str s] (rdH x 16000 16001 16002 16003 16004) (.tup []) (rdH (rdLine s x) 8990 8991 16002 16003 16004) := by
  have hct : CtOk pg _ := ctA_ok conCut (ctA_ok conTrim (ctA_ok conTrimRight (ctA_ok conSmallA (ctA_ok conTrimLeft (ctA_ok conReadA (ctF_ok (conRule x) (ctN_ok pg)))))))
  refine mw22 (fun _ => false) [.ren 16000 8990, .ren 16001 8991] rfl hct rfl (by simp [rdH]) (rdH_hl (by simp [idsIn, rdH, nwB]) (by simp [idsIn, rdH, nwB]) (by simp [idsIn, rdH, nwB]) (by simp [idsIn, rdH, nwB]) (by simp [idsIn, rdH, nwB])) rfl ?_
  have hL : rdLine s x = if lnB s = false then x
    else if lnW s = uaW then rdAgent (lnV s) x
    else if lnW s = allowW ∨ lnW s = disW ∨ lnW s = crawlW then rdRule (lnW s) (lnV s) x
    else if lnW s = siteW ∧ (readA (lnV s)).2.2 = 0 then { x with ma := x.ma ++ [lnV s] } else x := rfl
  generalize rdLine s x = z at hL ⊢
  have hc1 := cut_sz3 s [35]
  have ht1 := trimS_sz (Lib.cut s [35]).1 [32, 9]
  have hc2 := cut_sz3 (Lib.trimS (Lib.cut s [35]).1 [32, 9]) [58]
  have ht2 := trimR_sz (Lib.cut (Lib.trimS (Lib.cut s [35]).1 [32, 9]) [58]).1 [32, 9]
  have hvl : (lnV s).length ≤ 1000000 := by
    have := trimL_sz (Lib.cut (Lib.trimS (Lib.cut s [35]).1 [32, 9]) [58]).2.1 [32, 9]
    unfold lnV
    omega
  have eW : lowL (Lib.trimRightS (Lib.cut (Lib.trimS (Lib.cut s [35]).1 [32, 9]) [58]).1 [32, 9]) = lnW s := rfl
  have eV : Lib.trimLeftS (Lib.cut (Lib.trimS (Lib.cut s [35]).1 [32, 9]) [58]).2.1 [32, 9] = lnV s := rfl
  have eB : (Lib.cut (Lib.trimS (Lib.cut s [35]).1 [32, 9]) [58]).2.2 = lnB s := rfl
  have w1 : ([117, 115, 101, 114, 45, 97, 103, 101, 110, 116] : List UInt8) = uaW := rfl
  have w2 : ([97, 108, 108, 111, 119] : List UInt8) = allowW := rfl
  have w3 : ([100, 105, 115, 97, 108, 108, 111, 119] : List UInt8) = disW := rfl
  have w4 : ([99, 114, 97, 119, 108, 45, 100, 101, 108, 97, 121] : List UInt8) = crawlW := rfl
  have w5 : ([115, 105, 116, 101, 109, 97, 112] : List UInt8) = siteW := rfl
  unfold rdH
  push_cast (config := { maxSteps := 10000000 })
  simp only [eW, eV, eB, w1, w3, w4, w5]
  simp only [w2]
  clear eW eV eB
  have leaf : ∀ y : RdS, z = y → (gN y = gN z ∧ y.ma.length = z.ma.length ∧ y.op = z.op ∧ y.la = z.la) ∧ (gN y = gN z ∧ ∀ (i : Nat), i < gN y → V.ren 16001 8991 (V.kill 8991 (V.ren 16000 8990 (V.kill 8990 (gF 16000 16001 y i)))) = gF 8990 8991 z i) ∧ (y.ma.length = z.ma.length ∧ ∀ (i : Nat), i < y.ma.length → V.str (y.ma.getD i []) = V.str (z.ma.getD i [])) ∧ (y.ag.length = z.ag.length ∧ ∀ (i : Nat), i < y.ag.length → V.str (y.ag.getD i []) = V.str (z.ag.getD i [])) ∧ y.ru.length = z.ru.length ∧ ∀ (i : Nat), i < y.ru.length → V.agg [V.bool (y.ru.getD i noRul).al, V.str (y.ru.getD i noRul).pa] = V.agg [V.bool (z.ru.getD i noRul).al, V.str (z.ru.getD i noRul).pa] := fun y e => by
    subst e
    exact ⟨⟨rfl, rfl, rfl, rfl⟩, ⟨rfl, fun i _ => gF_ren6 _ i⟩, ⟨rfl, fun _ _ => rfl⟩, ⟨rfl, fun _ _ => rfl⟩, rfl, fun _ _ => rfl⟩
  have k7 : ∀ i, V.kill 7 (gF 16000 16001 x i) = gF 16000 16001 x i := gF_kl x (by decide) (by decide)
  simp only [k7]
  have hma := hx.ma
  have hru : ∀ W, (W = allowW ∨ W = disW ∨ W = crawlW) → lnW s = W → ¬ lnB s = false → ¬ lnW s = uaW → z = rdRule (lnW s) (lnV s) x := fun W h1 h2 h3 h4 => by
    rw [hL, if_neg h3, if_neg h4, if_pos (by rw [h2]; exact h1)]
  have hsite : lnW s = siteW → ¬ (lnW s = allowW ∨ lnW s = disW ∨ lnW s = crawlW) := fun h => by rw [h]; decide
  refine ⟨by omega, by omega, by omega, fun h => leaf x (by rw [hL, if_pos h]), fun h => ⟨by omega, by omega, fun h2 => ?_, fun h2 => ?_⟩⟩
  · refine callM (rdH x 16000 16001 16002 16003 16004) (.tup []) (rdH (rdAgent (lnV s) x) 8990 8991 16002 16003 16004) ?_ ?_ ?_ ?_
    · rw [rdH_sh, rdH_shm]
      exact mAgent hx hvl
    · have := rdH_k6 x
      unfold rdH at this
      rw [this]
      exact subH_self x (by decide)
    · refine ⟨?_, ?_, ?_, ?_, ?_, trivial⟩ <;> rfl
    · have := rdH_k6 x
      unfold rdH at this
      rw [this]
      unfold rdH
      have hz : z = rdAgent (lnV s) x := by rw [hL, if_neg (by rw [h]; simp), if_pos h2]
      subst hz
      push_cast (config := { maxSteps := 10000000 })
  · have hb : ¬ lnB s = false := by rw [h]; simp
    refine ⟨fun a => ⟨fun _ => ⟨⟨hx, hvl⟩, leaf _ (hru allowW (.inl rfl) a hb h2)⟩, fun a' => absurd a a'⟩, fun a => ⟨fun d => ⟨fun _ => ⟨⟨hx, hvl⟩, leaf _ (hru disW (.inr (.inl rfl)) d hb h2)⟩, fun d' => absurd d d'⟩, fun d => ⟨fun c => ⟨⟨hx, hvl⟩, leaf _ (hru crawlW (.inr (.inr rfl)) c hb h2)⟩, fun c => ⟨fun st => ⟨fun rd => ⟨⟨by omega, by omega⟩, ?_⟩, fun rd => leaf x ?_⟩, fun st => leaf x ?_⟩⟩⟩⟩
    · have hz : z = { x with ma := x.ma ++ [lnV s] } := by
        rw [hL, if_neg hb, if_neg h2, if_neg (hsite st), if_pos ⟨st, rd⟩]
      subst hz
      refine ⟨⟨rfl, by simp, rfl, rfl⟩, ⟨rfl, fun i _ => (gF_ren6 x i).trans rfl⟩, ⟨by simp, fun j hj => ?_⟩, ⟨rfl, fun _ _ => rfl⟩, rfl, fun _ _ => rfl⟩
      rw [show appF x.ma.length (fun i => V.str (x.ma.getD i [])) (litF [V.str (lnV s)]) j = _ from app_str hj]
      rfl
    · rw [hL, if_neg hb, if_neg h2, if_neg (hsite st), if_neg fun g => rd g.2]
    · rw [hL, if_neg hb, if_neg h2, if_neg fun g => g.elim a fun g => g.elim d c, if_neg fun g => st g.1]

@[push_cast] theorem vle_fnG (f : Fn) (a b : List V) : vle (.fn f a b) (.fn f a b) = True := eq_true rfl
def ckRd1 : Ck
  | [.agg [.sl n f, .sl m g, .int .i64 d]] => some (True, .bool (decide (n = 0)))
  | _ => none
theorem conRd1 : Con pg 24 ckRd1 := by
  have hct := ctN_ok pg
  intro args q r h hq
  unfold ckRd1 at h
  split at h
  · cases h
    rename_i n f m g d
    refine w24 (fun _ => false) [] rfl hct rfl rfl ?_
    push_cast (config := { maxSteps := 10000000 })
    rw [Bool.eq_iff_iff, beq_iff_eq, decide_eq_true_eq]; omega
  · cases h
attribute [push_cast] ckRd1
def ckIxG : Ck
  | [.sl n f, .fn (.func 24) [] []] => some (isLs cGrp n f ∧ n ≤ 1000000, .int .i64 (fstA goneG (lsOf cGrp n f)))
  | _ => none
theorem conIxG : Con pg 47 ckIxG := by
  have hct := (ctA_ok conRd1 (ctN_ok _))
  intro args q r h hq
  unfold ckIxG at h
  split at h
  · cases h
    rename_i n f
    refine pcall_args (args' := [.sl (lsOf cGrp n f).length (lsF cGrp (lsOf cGrp n f)), .fn (.func 24) [] []]) ⟨isLs.vle hq.1, VLe.refl _, trivial⟩ ?_
    have hn : (lsOf cGrp n f).length ≤ 1000000 := by rw [lsOf_len]; exact hq.2
    generalize lsOf cGrp n f = l at hn ⊢
    refine w47 (fun _ => false) [] rfl hct rfl rfl ?_
    push_cast (config := { maxSteps := 10000000 })
    refine LoopW.adj ⟨hct, fol⟩ (by kernel_rfl) [] (fun k : Nat => [(0, .sl l.length (lsF cGrp l)), (1, .fn (.func 24) [] []), (7, .int .i64 l.length), (8, .int .i64 k)]) (fun _ => []) (fun k => k ≤ l.length ∧ ∀ j, j < k → goneG (l.getD j noGrp) = false) (fun k => l.length - k) 0 ?_ fun k hk => ?_
    · push_cast (config := { maxSteps := 10000000 })
      exact Nat.zero_le _
    · push_cast (config := { maxSteps := 10000000 })
      obtain ⟨h1, h2⟩ := hk
      refine ⟨fun h3 => ⟨h3, fun h4 => (fstA_at (d := noGrp) h3 (decide_eq_true h4) h2).symm, fun h4 => ⟨⟨by omega, by omega⟩, k + 1, ⟨by omega, fun j hj => ?_⟩, by omega, by omega⟩⟩, fun h3 => (fstA_no (d := noGrp) fun j hj => h2 j (by omega)).symm⟩
      by_cases e : j = k
      · subst e; exact decide_eq_false h4
      · exact h2 j (by omega)
  · cases h
attribute [push_cast] ckIxG
def ckDelGK : List V → List Blk → Option (Prop × V × List Blk)
  | [.vec 7002 n, .fn (.func 24) [] []], [.vec 3 k f] => some (k = n ∧ isLs cGrp n f ∧ n ≤ 1000000, .sl (keepA goneG (lsOf cGrp n f)).length (lsF cGrp (keepA goneG (lsOf cGrp n f))), [])
  | _, _ => none
def ckDelG : Cf := ⟨fun | [.vec 7002 _, .fn _ _ _] => [7002] | _ => [], ckDelGK⟩
theorem conDelG : FCon pg 23 ckDelG := by
  have hct := (ctA_ok conIxG (ctA_ok conRd1 (ctN_ok _)))
  intro args bs q r bs' h hq
  replace h : ckDelGK args bs = some (q, r, bs') := h
  unfold ckDelGK at h
  split at h
  · cases h
    rename_i n k f
    refine ⟨rfl, by first | exact Nat.le_refl _ | exact Nat.zero_le _, ?_⟩
    obtain ⟨rfl, hf, hn⟩ := hq
    have hk := lsOf_len (c := cGrp) k f
    show FCall pg 23 [.vec 16002 k, .fn (.func 24) [] []] [(16002, .vec 3 k fun j => V.shift (f j))] (.sl (keepA goneG (lsOf cGrp k f)).length (lsF cGrp (keepA goneG (lsOf cGrp k f)))) []
    refine fcall_blk (hm := [(16002, .vec 3 (lsOf cGrp k f).length (lsF cGrp (lsOf cGrp k f)))]) ⟨rfl, ⟨rfl, hk.symm, fun j hj => by show V.shift (f j) = _; rw [hf.2 j hj]; rfl⟩, trivial⟩ ?_
    generalize lsOf cGrp k f = l at hk ⊢
    subst hk
    refine fw23 (fun _ => false) [.frz 16002] rfl hct rfl (by simp) trivial rfl ?_
    push_cast (config := { maxSteps := 10000000 })
    refine ⟨hn, fun h1 => ?_, fun h1 => ?_⟩
    · rcases fstA_b l noGrp with ⟨_, e⟩ | ⟨k, e, _⟩
      · rw [keepA_none e]; exact ⟨rfl, fun _ _ => rfl⟩
      · omega
    rcases fstA_b l noGrp with ⟨e, _⟩ | ⟨k, e, hk, hg, hg1⟩
    · exact absurd e h1
    rw [e]
    obtain ⟨b1, b2⟩ := delA_begin (gone := goneG) (by omega : k ≤ l.length) hg
    refine ⟨⟨by omega, by omega⟩, ?_⟩
    refine LoopW.adj ⟨hct, fol⟩ (by kernel_rfl) [] (fun j : Nat => [(0, .vec 16002 l.length), (1, .fn (.func 24) [] []), (5, .int .i64 (keepA goneG (l.take j)).length), (6, .int .i64 j)]) (fun j => [(16002, .vec 3 l.length (lsF cGrp (delA goneG l j)))]) (fun j => j ≤ l.length) (fun j => l.length - j) (k + 1) ?_ fun j hj => ?_
    · push_cast (config := { maxSteps := 10000000 })
      have e1 : delA goneG l (k + 1) = l := (delA_gone (d := noGrp) hk hg1).trans b1
      rw [e1, keepA_succ (d := noGrp) hk, if_pos hg1]
      exact ⟨by omega, b2.symm, fun _ _ => rfl⟩
    · have hj : j ≤ l.length := hj
      push_cast (config := { maxSteps := 10000000 })
      have hkl := keepA_le (gone := goneG) l j hj
      refine ⟨fun hlt => ⟨hlt, hlt, fun hc => ?_, fun hc => ?_⟩, fun hge => ?_⟩
      · rw [delA_at hlt] at hc
        have hg : ¬ goneG (l.getD j noGrp) = true := by unfold goneG; rw [decide_eq_false hc]; simp
        refine ⟨by omega, by omega, ⟨by omega, by omega⟩, ⟨by omega, by omega⟩, j + 1, by omega, by omega, ⟨?_, by omega⟩, fun i hi => ?_⟩
        · rw [keepA_succ (d := noGrp) hlt, if_neg hg]; simp
        · refine Eq.trans ?_ (delA_put (c := cGrp) hlt hg i)
          rw [delA_at hlt]; rfl
      · rw [delA_at hlt] at hc
        have hg : goneG (l.getD j noGrp) = true := decide_eq_true hc
        refine ⟨⟨by omega, by omega⟩, j + 1, by omega, by omega, ⟨?_, by omega⟩, fun i hi => ?_⟩
        · rw [keepA_succ (d := noGrp) hlt, if_pos hg]
        · rw [delA_gone (d := noGrp) hlt hg]
      · obtain rfl : j = l.length := by omega
        rw [List.take_length] at hkl ⊢
        refine ⟨hkl, hkl, fun i hi => ?_, rfl, fun i hi => ?_⟩
        · unfold insF
          cases decide ((keepA goneG l).length ≤ i ∧ i < (keepA goneG l).length + (l.length - (keepA goneG l).length)) <;> rfl
        · unfold shF insF
          rw [decide_eq_false (by omega)]
          exact delA_end (c := cGrp) i hi
  · cases h
attribute [push_cast] ckDelGK
@[push_cast] theorem delG_ids (n : Nat) (f : Fn) (a b : List V) : ckDelG.ids [.vec 7002 n, .fn f a b] = [7002] := rfl
@[push_cast] theorem delG_k {n k : Nat} {f : Nat → V} : ckDelG.k [.vec 7002 n, .fn (.func 24) [] []] [.vec 3 k f] = some (k = n ∧ isLs cGrp n f ∧ n ≤ 1000000, .sl (keepA goneG (lsOf cGrp n f)).length (lsF cGrp (keepA goneG (lsOf cGrp n f))), []) := rfl

theorem subH_self2 (x : RdS) {A R G M i k : Nat} {b : Blk} (h : [i, G, M, A, R].Nodup) (hk : k ∉ [i, G, M, A, R]) : subH (hOf ((k, b) :: rdH x A R G M i)) (rdH x A R G M i) := by
  have h0 := subH_self x h
  simp only [List.mem_cons, List.mem_nil_iff, or_false, not_or] at hk
  obtain ⟨k1, k2, k3, k4, k5⟩ := hk
  unfold rdH at h0 ⊢
  simp only [subH] at h0 ⊢
  obtain ⟨a1, a2, a3, a4, a5, -⟩ := h0
  refine ⟨?_, ?_, ?_, ?_, ?_, trivial⟩
  · rw [← a1]; exact upd_ne _ _ (Ne.symm k1)
  · rw [← a2]; exact upd_ne _ _ (Ne.symm k2)
  · rw [← a3]; exact upd_ne _ _ (Ne.symm k3)
  · rw [← a4]; exact upd_ne _ _ (Ne.symm k4)
  · rw [← a5]; exact upd_ne _ _ (Ne.symm k5)
theorem rdH_k72 (x : RdS) : killHL 8990 (killHL 8991 ((2, .cells [.nilsl, .nilsl]) :: rdH x 7000 7001 7002 7003 7004)) = (2, .cells [.nilsl, .nilsl]) :: rdH x 7000 7001 7002 7003 7004 := by
  have e : (fun j => V.kill 8990 (V.kill 8991 (gF 7000 7001 x j))) = gF 7000 7001 x := by
    funext j
    rw [gF_kl x (by decide) (by decide), gF_kl x (by decide) (by decide)]
  unfold rdH
  show [_, _, (7002, Blk.vec 3 (gN x) fun j => V.kill 8990 (V.kill 8991 (gF 7000 7001 x j))), _, _, _] = _
  rw [e]
  rfl
theorem gF_ren7 (x : RdS) (i : Nat) : V.ren 8991 7001 (V.kill 7001 (V.ren 8990 7000 (V.kill 7000 (gF 8990 8991 x i)))) = gF 7000 7001 x i := by
  by_cases h : i < x.cl.length
  · rw [gF_lo h, gF_lo h]; rfl
  · rw [gF_hi h, gF_hi h]; rfl
theorem rdG_lo {x : RdS} {i : Nat} (h : i < x.cl.length) : (rdG x).getD i noGrp = x.cl.getD i noGrp := by
  unfold rdG
  split
  · rw [List.getD_eq_getElem?_getD, List.getElem?_append_left h, List.getD_eq_getElem?_getD]
  · rfl
theorem rdG_hi {x : RdS} {i : Nat} (h : i < gN x) (h1 : ¬ i < x.cl.length) : (rdG x).getD i noGrp = ⟨x.ag, x.ru, x.de⟩ := by
  cases hop : x.op with
  | false =>
    unfold gN at h
    rw [hop] at h
    simp at h
    omega
  | true =>
    rw [gN_op hop] at h
    obtain rfl : i = x.cl.length := by omega
    unfold rdG
    rw [if_pos hop, List.getD_eq_getElem?_getD, List.getElem?_append_right (Nat.le_refl _), Nat.sub_self]; rfl
theorem fz_7 (x : RdS) {i : Nat} (h : i < gN x) : frzV 7003 1 x.ma.length (fun i => V.str (x.ma.getD i [])) (frzV 7001 2 x.ru.length (fun i => V.agg [V.bool (x.ru.getD i noRul).al, V.str (x.ru.getD i noRul).pa]) (frzV 7000 1 x.ag.length (lsF cStr x.ag) (gF 7000 7001 x i))) = cGrp.enc ((rdG x).getD i noGrp) := by
  by_cases h1 : i < x.cl.length
  · rw [gF_lo h1, rdG_lo h1]; rfl
  · rw [gF_hi h1, rdG_hi h h1]
    unfold opG
    push_cast (config := { maxSteps := 10000000 })
    rfl
theorem dec_or2 (a b c d : Prop) [Decidable a] [Decidable b] [Decidable c] [Decidable d] (h1 : a ↔ c) (h2 : b ↔ d) : (decide a || decide b) = decide (c ∨ d) := by
  by_cases x : c
  · simp [x, h1.2 x]
  · by_cases y : d
    · simp [y, h2.2 y]
    · have := fun e => x (h1.1 e)
      have := fun e => y (h2.1 e)
      simp [*]
theorem conReadR : Con pg 9 ckRobRead := by
  have hct := (ctA_ok conSplit (ctF_ok conDelG (ctA_ok conRd1 (ctN_ok _))))
  intro args q r h hq
  unfold ckRobRead at h
  split at h
  · cases h
    rename_i t
    refine w9 (fun d => decide (d = 20013 ∨ d = 20004)) [] rfl hct rfl rfl ?_
    push_cast (config := { maxSteps := 10000000 })
    generalize hR : robRead t = R
    unfold robRead at hR
    refine ⟨fun h => ?_, fun h => ?_⟩
    · rw [if_pos (by omega)] at hR
      subst hR
      exact ⟨⟨rfl, rfl⟩, rfl⟩
    rw [if_neg (by omega)] at hR
    have hS := rdAt_end (t := t)
    have hok := fun i j (h : i < (splitL t 10).length) => rdAt_ok (j := j) h (by omega : t.length ≤ 100000)
    have hpl : ∀ i, ((splitL t 10).getD i []).length ≤ 100000 := fun i => by
      by_cases hi : i < (splitL t 10).length
      · rw [List.getD_eq_getElem?_getD, List.getElem?_eq_getElem hi]
        have := spl_len 10 t _ (by rw [← splitL_eq]; exact List.getElem_mem hi)
        show ((splitL t 10)[i]).length ≤ _
        omega
      · rw [List.getD_eq_getElem?_getD, List.getElem?_eq_none (by omega)]; exact Nat.zero_le _
    have hPl := splitL_le t 10
    generalize hP : splitL t 10 = P at *
    generalize hX : rdF (rdLs t) = X at *
    refine SeqW.cut ⟨hct, fol⟩ (by kernel_rfl) (by kernel_rfl) [.ren 4 7004, .nvc 7004 0 7002 3 (lsF cGrp []), .nvc 7004 1 7003 1 (lsF cStr []), .ph 7000 1 (lsF cStr []), .ph 7001 2 (lsF cRul [])] (fun _ : Unit => [(0, .str t), (2, .ptr 2 0), (4, .ptr 7004 0)]) (fun _ => (2, .cells [.nilsl, .nilsl]) :: rdH rd0 7000 7001 7002 7003 7004) (fun _ => True) ?_ fun _ _ => ?_
    · unfold rdH
      push_cast (config := { maxSteps := 10000000 })
      exact ⟨(), ⟨rfl, rfl, rfl, rfl⟩, rfl, rfl, rfl, rfl⟩
    have e0 : rdAt P 0 [] 0 = rd0 := rfl
    rw [← e0]
    unfold rdH
    push_cast (config := { maxSteps := 10000000 })
    refine SeqW.cut ⟨hct, fol⟩ (by kernel_rfl) (by kernel_rfl) [.frz 7000, .frz 7001, .frz 7003] (fun _ : Unit => [(2, .ptr 2 0), (4, .ptr 7004 0)]) (fun _ => [(2, .cells [.nilsl, .nilsl]), (7004, .cells [.vec 7002 (gN X), .sl X.ma.length (lsF cStr X.ma), .bool X.op, .bool X.la]), (7002, .vec 3 (gN X) (lsF cGrp (rdG X)))]) (fun _ => True) ?_ fun _ _ => ?_
    · push_cast (config := { maxSteps := 10000000 })
      rw [hP]
      refine ⟨by omega, ?_⟩
      refine LoopW.adj ⟨hct, fol⟩ (by kernel_rfl) [] (fun i : Nat => [(2, .ptr 2 0), (4, .ptr 7004 0), (17, .sl P.length (lsF cStr P)), (18, .int .i64 P.length), (19, .int .i64 i)]) (fun i => (2, .cells [.nilsl, .nilsl]) :: rdH (rdAt P i [] 0) 7000 7001 7002 7003 7004) (fun i => i ≤ P.length) (fun i => P.length - i) 0 ?_ fun i hi => ?_
      · unfold rdH
        push_cast (config := { maxSteps := 10000000 })
        exact Nat.zero_le _
      · have hi : i ≤ P.length := hi
        have hend : ¬ i < P.length → rdAt P i [] 0 = X := fun h => by
          obtain rfl : i = P.length := by omega
          exact hS
        obtain ⟨x, hx⟩ : ∃ x, x = rdAt P i [] 0 := ⟨_, rfl⟩
        rw [← hx] at hend ⊢
        unfold rdH
        push_cast (config := { maxSteps := 10000000 })
        refine ⟨fun hlt => ⟨hlt, by have := hpl i; omega, ?_⟩, fun hge => ?_⟩
        · obtain ⟨Q, hQ⟩ : ∃ Q, Q = splitL (P.getD i []) 13 := ⟨_, rfl⟩
          have hok := fun j => hok i j hlt
          have hnx := rdAt_next hlt
          have hQl := splitL_le (P.getD i []) 13
          have hQs : ∀ j, (Q.getD j []).length ≤ 100000 := fun j => by
            by_cases hj : j < Q.length
            · rw [List.getD_eq_getElem?_getD, List.getElem?_eq_getElem hj]
              have := spl_len 13 (P.getD i []) Q[j] (by rw [← splitL_eq, ← hQ]; exact List.getElem_mem hj)
              have := hpl i
              show (Q[j]).length ≤ _
              omega
            · rw [List.getD_eq_getElem?_getD, List.getElem?_eq_none (by omega)]; exact Nat.zero_le _
          have := hpl i
          rw [← hQ] at hok hnx hQl ⊢
          refine LoopW.adj ⟨hct, fol⟩ (by kernel_rfl) [.ren 8990 7000, .ren 8991 7001] (fun j : Nat => [(2, .ptr 2 0), (4, .ptr 7004 0), (17, .sl P.length (lsF cStr P)), (18, .int .i64 P.length), (19, .int .i64 i), (24, .sl Q.length (lsF cStr Q)), (25, .int .i64 Q.length), (26, .int .i64 j)]) (fun j => (2, .cells [.nilsl, .nilsl]) :: rdH (rdAt P i Q j) 7000 7001 7002 7003 7004) (fun j => j ≤ Q.length) (fun j => Q.length - j) 0 ?_ fun j hj => ?_
          · rw [rdAt_zero, ← hx]
            unfold rdH
            push_cast (config := { maxSteps := 10000000 })
            exact Nat.zero_le _
          · have hj : j ≤ Q.length := hj
            have hy1 := hok j
            have hy2 := rdAt_succ (P := P) (Q := Q) (i := i) (j := j)
            generalize hy : rdAt P i Q j = y at *
            unfold rdH
            push_cast (config := { maxSteps := 10000000 })
            refine ⟨fun hjl => ⟨hjl, ?_⟩, fun hge => ?_⟩
            · refine callM (rdH y 7000 7001 7002 7003 7004) (.tup []) (rdH (rdLine (Q.getD j []) y) 8990 8991 7002 7003 7004) ?_ ?_ ?_ ?_
              · rw [rdH_sh, rdH_shm7]
                exact mLine hy1 (by have := hQs j; omega)
              · have := rdH_k72 y
                unfold rdH at this
                rw [this]
                exact subH_self2 y (by decide) (by decide)
              · refine ⟨?_, ?_, ?_, ?_, ?_, trivial⟩ <;> rfl
              · have := rdH_k72 y
                unfold rdH at this
                rw [this]
                unfold rdH
                rw [← hy2 hjl]
                generalize hz : rdAt P i Q (j + 1) = z
                push_cast (config := { maxSteps := 10000000 })
                refine ⟨⟨by omega, by omega⟩, j + 1, by omega, by omega, by omega, ?_⟩
                rw [hz]
                exact ⟨⟨rfl, rfl, rfl, rfl⟩, ⟨rfl, fun k _ => gF_ren7 z k⟩, ⟨rfl, fun _ _ => rfl⟩, ⟨rfl, fun _ _ => rfl⟩, rfl, fun _ _ => rfl⟩
            · obtain rfl : j = Q.length := by omega
              rw [hy] at hnx
              refine ⟨⟨by omega, by omega⟩, i + 1, by omega, by omega, by omega, ?_⟩
              rw [← hnx]
              exact ⟨⟨rfl, rfl, rfl, rfl⟩, ⟨rfl, fun _ _ => rfl⟩, ⟨rfl, fun _ _ => rfl⟩, ⟨rfl, fun _ _ => rfl⟩, rfl, fun _ _ => rfl⟩
        · have e := hend hge
          subst e
          refine ⟨(), ⟨rfl, ⟨rfl, fun _ _ => rfl⟩, rfl, rfl⟩, rfl, fun k hk => fz_7 x hk⟩
    have hX1 : RdOk X 200002 := by
      rw [← hX]
      exact (rdF_ok _).up (by have := rdLs_len t; omega)
    have hX2 : (rdG X).length ≤ 200003 := by
      rw [rdG_len]
      have := hX1.cl
      unfold gN
      cases X.op <;> simp <;> omega
    have hX3 := hX1.ma
    unfold robOf at hR
    rw [← rdG_len]
    have hG2 : (keepA goneG (rdG X)).length ≤ 200003 := Nat.le_trans (List.length_filter_le _ _) hX2
    push_cast (config := { maxSteps := 10000000 })
    refine ⟨by omega, ?_⟩
    generalize keepA goneG (rdG X) = G at *
    generalize X.ma = M at *
    refine LoopW.adj ⟨hct, fol⟩ (by kernel_rfl) [] (fun i : Nat => [(2, .ptr 2 0), (4, .ptr 7004 0), (9, .bool (decide (100 < G.length ∨ 100 < M.length) || (G.take i).any fullG)), (54, .sl G.length (lsF cGrp G)), (55, .int .i64 G.length), (56, .int .i64 i)]) (fun i => [(2, .cells [.nilsl, .nilsl]), (7004, .cells [.sl G.length (lsF cGrp G), .sl M.length (lsF cStr M), .bool X.op, .bool X.la])]) (fun i => i ≤ G.length) (fun i => G.length - i) 0 ?_ fun i hi => ?_
    · push_cast (config := { maxSteps := 10000000 })
      exact ⟨Nat.zero_le _, dec_or2 _ _ _ _ (by omega) (by omega)⟩
    · have hi : i ≤ G.length := hi
      generalize hb : (decide (100 < G.length ∨ 100 < M.length) || (G.take i).any fullG) = b
      push_cast (config := { maxSteps := 10000000 })
      refine ⟨fun hlt => ⟨hlt, ⟨by omega, by omega⟩, i + 1, by omega, by omega, ?_, by omega⟩, fun hge => ?_⟩
      · rw [takeG (d := noGrp) hlt, List.any_append, ← Bool.or_assoc, hb, List.any_cons, List.any_nil, Bool.or_false, Bool.or_assoc]
        unfold fullG
        rw [dec_or2 (50 < ((G.getD i noGrp).ag.length : Int)) (200 < ((G.getD i noGrp).ru.length : Int)) (50 < (G.getD i noGrp).ag.length) (200 < (G.getD i noGrp).ru.length) (by omega) (by omega)]
      · obtain rfl : i = G.length := by omega
        rw [List.take_length] at hb
        have hb : fullR G M = b := hb
        rw [hb] at hR
        subst hR
        refine ⟨fun h => ?_, fun h => ?_⟩
        · rw [if_pos h]; exact ⟨⟨rfl, rfl⟩, rfl⟩
        · rw [if_neg (by rw [h]; simp)]; exact ⟨⟨⟨rfl, fun _ _ => rfl⟩, rfl, fun _ _ => rfl⟩, rfl⟩
  · cases h
attribute [push_cast] ckRobRead

/- without what is needless -/
def ndStep (ru o : List Rul) (y : Rul) : List Rul := if y ∈ o ∨ (y.al = false ∧ (⟨true, y.pa⟩ : Rul) ∈ ru) then o else o ++ [y]
def ndR (ru : List Rul) : List Rul := ru.foldl (ndStep ru) []
def ndG (g : Grp) : Grp := ⟨g.ag, ndR g.ru, g.de⟩
def needL (r : Rob) : Rob := ⟨r.gr.map ndG, r.ma⟩
theorem ndR_s (ru : List Rul) {i : Nat} (h : i < ru.length) : (ru.take (i + 1)).foldl (ndStep ru) [] = ndStep ru ((ru.take i).foldl (ndStep ru) []) (ru.getD i noRul) := by
  rw [take_s ru noRul h, List.foldl_append]; rfl
theorem nd_fold (ru : List Rul) : ∀ (l o : List Rul), (l.foldl (ndStep ru) o).length ≤ o.length + l.length ∧ (∀ y ∈ l.foldl (ndStep ru) o, y ∈ o ∨ y ∈ l) ∧ (∀ y ∈ o, y ∈ l.foldl (ndStep ru) o) ∧ ∀ y ∈ l, y ∈ l.foldl (ndStep ru) o ∨ (y.al = false ∧ (⟨true, y.pa⟩ : Rul) ∈ ru)
  | [], o => ⟨by simp, fun y hy => .inl hy, fun y hy => hy, fun y hy => by cases hy⟩
  | x :: t, o => by
    obtain ⟨h1, h2, h3, h4⟩ := nd_fold ru t (ndStep ru o x)
    have e : (x :: t).foldl (ndStep ru) o = t.foldl (ndStep ru) (ndStep ru o x) := rfl
    rw [e]
    have s1 : (ndStep ru o x).length ≤ o.length + 1 := by unfold ndStep; split <;> simp
    have s2 : ∀ y ∈ ndStep ru o x, y ∈ o ∨ y = x := fun y hy => by
      unfold ndStep at hy
      split at hy
      · exact .inl hy
      · rcases List.mem_append.1 hy with hy | hy
        · exact .inl hy
        · exact .inr (List.mem_singleton.1 hy)
    have s3 : ∀ y ∈ o, y ∈ ndStep ru o x := fun y hy => by
      unfold ndStep
      split
      · exact hy
      · exact List.mem_append_left _ hy
    have s4 : x ∈ ndStep ru o x ∨ (x.al = false ∧ (⟨true, x.pa⟩ : Rul) ∈ ru) := by
      unfold ndStep
      split
      · rename_i h
        exact h.imp id id
      · exact .inl (by simp)
    refine ⟨by simp only [List.length_cons]; omega, fun y hy => ?_, fun y hy => h3 y (s3 y hy), fun y hy => ?_⟩
    · rcases h2 y hy with hy | hy
      · rcases s2 y hy with hy | hy
        · exact .inl hy
        · exact .inr (by rw [hy]; simp)
      · exact .inr (List.mem_cons_of_mem _ hy)
    · rcases List.mem_cons.1 hy with rfl | hy
      · exact s4.imp (h3 y) id
      · exact h4 y hy
theorem ndR_ok (ru : List Rul) : (ndR ru).length ≤ ru.length ∧ (∀ y ∈ ndR ru, y ∈ ru) ∧ ∀ y ∈ ru, y ∈ ndR ru ∨ (y.al = false ∧ (⟨true, y.pa⟩ : Rul) ∈ ru) := by
  obtain ⟨h1, h2, -, h4⟩ := nd_fold ru ru []
  exact ⟨by rw [List.length_nil, Nat.zero_add] at h1; exact h1, fun y hy => (h2 y hy).elim (fun h => by cases h) id, h4⟩
/- allowed rules stay -/
theorem ndR_al (ru : List Rul) {y : Rul} (h : y ∈ ru) (ha : y.al = true) : y ∈ ndR ru := ((ndR_ok ru).2.2 y h).elim id fun x => by rw [ha] at x; cases x.1
theorem chk_nd {g : Grp} (h : checkGrpL g = 0) : checkGrpL (ndG g) = 0 := by
  obtain ⟨h1, h2, h3, h4, h5, h6, h7⟩ := grp_ok h
  obtain ⟨n1, n2, -⟩ := ndR_ok g.ru
  unfold checkGrpL
  rw [show (ndG g).ag = g.ag from rfl, show (ndG g).de = g.de from rfl, show (ndG g).ru = ndR g.ru from rfl]
  rw [if_neg (show ¬ g.ag.length = 0 by omega), if_neg (show ¬ 50 < g.ag.length by omega), if_neg (show ¬ g.ag.all agentL = false by rw [List.all_eq_true.2 h3]; simp), if_neg (show ¬ 200 < (ndR g.ru).length by omega)]
  have e : ((ndR g.ru).all fun r => patOk r.pa) = true := List.all_eq_true.2 fun y hy => h5 y (n2 y hy)
  rw [if_neg (by rw [e]; simp), if_neg (show ¬ (g.de < -1 ∨ 99999 < g.de) by omega)]
theorem grpsE_nd : ∀ {G : List Grp}, grpsE G = 0 → grpsE (G.map ndG) = 0
  | [], _ => rfl
  | g :: t, h => by
    have h1 := grpsE_ok h g (by simp)
    rw [grpsE, if_pos h1] at h
    rw [List.map_cons, grpsE, if_pos (chk_nd h1)]
    exact grpsE_nd h
theorem chk_need {r : Rob} (h : checkRobL r = 0) : checkRobL (needL r) = 0 := by
  unfold checkRobL at h
  by_cases h1 : 100 < r.gr.length
  · rw [if_pos h1] at h; cases h
  rw [if_neg h1] at h
  by_cases h2 : grpsE r.gr = 0
  · rw [if_pos h2] at h
    unfold checkRobL needL
    rw [if_neg (by simpa using h1), if_pos (grpsE_nd h2)]
    exact h
  · rw [if_neg h2] at h; exact absurd h h2
theorem agent_len {s : List UInt8} (h : agentL s = true) : s.length ≤ 40 := by
  unfold agentL at h
  simp only [Bool.or_eq_true, Bool.and_eq_true, beq_iff_eq, decide_eq_true_eq] at h
  rcases h with h | h
  · rw [h]; decide
  · omega
theorem need_ok {r : Rob} (ok : robOk r) (h : checkRobL r = 0) : robOk (needL r) := by
  obtain ⟨c1, c2, c3, c4⟩ := rob_ok h
  obtain ⟨o1, o2, o3, o4⟩ := ok
  refine ⟨by unfold needL; simpa using o1, fun g hg => ?_, o3, o4⟩
  obtain ⟨g0, hg0, rfl⟩ := List.mem_map.1 (show g ∈ r.gr.map ndG from hg)
  obtain ⟨k1, k2, k3, k4, k5, k6⟩ := o2 g0 hg0
  obtain ⟨n1, n2, -⟩ := ndR_ok g0.ru
  exact ⟨k1, k2, by show (ndR g0.ru).length ≤ _; omega, fun y hy => k4 y (n2 y hy), k5, k6⟩
/- what the deciding rule is -/
theorem decG_best (l : List Rul) (p : List UInt8) : ∀ n, n ≤ l.length → (decG l p n < 0 → ∀ j, j < n → matchesB (l.getD j noRul).pa p = false) ∧ (0 ≤ decG l p n → matchesB (l.getD (decG l p n).toNat noRul).pa p = true ∧ ∀ j, j < n → matchesB (l.getD j noRul).pa p = true → (l.getD j noRul).pa.length ≤ (l.getD (decG l p n).toNat noRul).pa.length ∧ ((l.getD j noRul).pa.length = (l.getD (decG l p n).toNat noRul).pa.length → (l.getD j noRul).al = true → (l.getD (decG l p n).toNat noRul).al = true))
  | 0, _ => ⟨fun _ j hj => absurd hj (by omega), fun h => by have h : (0 : Int) ≤ -1 := h; omega⟩
  | n + 1, hn => by
    obtain ⟨i1, i2⟩ := decG_best l p n (by omega)
    have db := decG_b l p n
    rw [decG]
    by_cases h : matchesB (l.getD n noRul).pa p = true ∧ betB l (decG l p n) n = true
    · rw [if_pos h]
      refine ⟨fun x => by omega, fun _ => ?_⟩
      rw [Int.toNat_natCast]
      refine ⟨h.1, fun j hj hm => ?_⟩
      by_cases e : j = n
      · subst e; exact ⟨Nat.le_refl _, fun _ x => x⟩
      · have hb := h.2
        unfold betB at hb
        simp only [Bool.or_eq_true, Bool.and_eq_true, decide_eq_true_eq, Bool.not_eq_true'] at hb
        by_cases hd : decG l p n < 0
        · have := i1 hd j (by omega)
          rw [this] at hm; cases hm
        · have := (i2 (by omega)).2 j (by omega) hm
          rcases hb with (hb | hb) | hb
          · exact absurd hb hd
          · exact ⟨by omega, fun x => by omega⟩
          · exact ⟨by omega, fun _ _ => hb.1.2⟩
    · rw [if_neg h]
      refine ⟨fun x j hj => ?_, fun x => ?_⟩
      · by_cases e : j = n
        · subst e
          refine Classical.byContradiction fun hm => h ⟨by simpa using hm, ?_⟩
          unfold betB
          simp [x]
        · exact i1 x j (by omega)
      · obtain ⟨k1, k2⟩ := i2 x
        refine ⟨k1, fun j hj hm => ?_⟩
        by_cases e : j = n
        · subst e
          have hb : ¬ betB l (decG l p j) j = true := fun y => h ⟨hm, y⟩
          unfold betB at hb
          simp only [Bool.or_eq_true, Bool.and_eq_true, decide_eq_true_eq, Bool.not_eq_true', not_or, not_and] at hb
          obtain ⟨⟨_, b2⟩, b3⟩ := hb
          refine ⟨by omega, fun q w => ?_⟩
          have := b3 ⟨q, w⟩
          simpa using this
        · exact k2 j (by omega) hm
/-- what is permitted by rules, said of the rules alone -/
theorem core_iff (l : List Rul) (p : List UInt8) : (decide (decL l p < 0) || (l.getD (decL l p).toNat noRul).al) = true ↔ ∀ y ∈ l, matchesB y.pa p = true → ∃ z ∈ l, matchesB z.pa p = true ∧ z.al = true ∧ ∀ u ∈ l, matchesB u.pa p = true → u.pa.length ≤ z.pa.length := by
  obtain ⟨h1, h2⟩ := decG_best l p l.length (Nat.le_refl _)
  have db := decG_b l p l.length
  have e : decL l p = decG l p l.length := rfl
  rw [e]
  have at' : ∀ y ∈ l, ∃ j, j < l.length ∧ l.getD j noRul = y := fun y hy => by
    obtain ⟨j, hj, rfl⟩ := List.getElem_of_mem hy
    exact ⟨j, hj, by rw [List.getD_eq_getElem?_getD, List.getElem?_eq_getElem hj]; rfl⟩
  rw [Bool.or_eq_true, decide_eq_true_eq]
  constructor
  · rintro (h | h) y hy hm
    · obtain ⟨j, hj, rfl⟩ := at' y hy
      have := h1 h j hj
      rw [this] at hm; cases hm
    · by_cases hd : decG l p l.length < 0
      · obtain ⟨j, hj, rfl⟩ := at' y hy
        have := h1 hd j hj
        rw [this] at hm; cases hm
      · obtain ⟨k1, k2⟩ := h2 (by omega)
        refine ⟨_, mem_at (d := noRul) (show (decG l p l.length).toNat < l.length by omega), k1, h, fun u hu hm' => ?_⟩
        obtain ⟨j, hj, rfl⟩ := at' u hu
        exact (k2 j hj hm').1
  · intro h
    by_cases hd : decG l p l.length < 0
    · exact .inl hd
    · right
      obtain ⟨k1, k2⟩ := h2 (by omega)
      have hm := mem_at (d := noRul) (show (decG l p l.length).toNat < l.length by omega)
      obtain ⟨z, hz, z1, z2, z3⟩ := h _ hm k1
      obtain ⟨j, hj, rfl⟩ := at' z hz
      have a1 := z3 _ hm k1
      have a2 := k2 j hj z1
      exact a2.2 (by omega) z2
theorem rulG_nd (G : List Grp) (a : List UInt8) : (∀ y ∈ rulG (G.map ndG) a, y ∈ rulG G a) ∧ ∀ y ∈ rulG G a, y ∈ rulG (G.map ndG) a ∨ (y.al = false ∧ (⟨true, y.pa⟩ : Rul) ∈ rulG (G.map ndG) a) := by
  have mem : ∀ (H : List Grp) (y : Rul), y ∈ rulG H a ↔ ∃ g ∈ H, g.ag.contains a = true ∧ y ∈ g.ru := fun H y => by
    unfold rulG
    rw [List.mem_flatMap]
    constructor
    · rintro ⟨g, hg, hy⟩
      exact ⟨g, (List.mem_filter.1 hg).1, (List.mem_filter.1 hg).2, hy⟩
    · rintro ⟨g, hg, hc, hy⟩
      exact ⟨g, List.mem_filter.2 ⟨hg, hc⟩, hy⟩
  refine ⟨fun y hy => ?_, fun y hy => ?_⟩
  · obtain ⟨g, hg, hc, hy⟩ := (mem _ y).1 hy
    obtain ⟨g0, hg0, rfl⟩ := List.mem_map.1 hg
    exact (mem _ y).2 ⟨g0, hg0, hc, (ndR_ok g0.ru).2.1 y hy⟩
  · obtain ⟨g, hg, hc, hy⟩ := (mem _ y).1 hy
    have put : ∀ z ∈ ndR g.ru, z ∈ rulG (G.map ndG) a := fun z hz => (mem _ z).2 ⟨ndG g, List.mem_map.2 ⟨g, hg, rfl⟩, hc, hz⟩
    rcases (ndR_ok g.ru).2.2 y hy with h | ⟨h1, h2⟩
    · exact .inl (put y h)
    · exact .inr ⟨h1, put _ (ndR_al g.ru h2 rfl)⟩
theorem core_nd (G : List Grp) (a p : List UInt8) : (decide (decL (rulG (G.map ndG) a) p < 0) || ((rulG (G.map ndG) a).getD (decL (rulG (G.map ndG) a) p).toNat noRul).al) = (decide (decL (rulG G a) p < 0) || ((rulG G a).getD (decL (rulG G a) p).toNat noRul).al) := by
  obtain ⟨h1, h2⟩ := rulG_nd G a
  generalize rulG (G.map ndG) a = l' at *
  generalize rulG G a = l at *
  rw [Bool.eq_iff_iff, core_iff, core_iff]
  have big : ∀ u ∈ l, matchesB u.pa p = true → ∃ u' ∈ l', matchesB u'.pa p = true ∧ u'.pa = u.pa := fun u hu hm => by
    rcases h2 u hu with h | ⟨_, h⟩
    · exact ⟨u, h, hm, rfl⟩
    · exact ⟨_, h, hm, rfl⟩
  constructor
  · intro h y hy hm
    obtain ⟨y', hy', hm', _⟩ := big y hy hm
    obtain ⟨z, hz, z1, z2, z3⟩ := h y' hy' hm'
    refine ⟨z, h1 z hz, z1, z2, fun u hu hmu => ?_⟩
    obtain ⟨u', hu', hmu', e⟩ := big u hu hmu
    rw [← e]; exact z3 u' hu' hmu'
  · intro h y hy hm
    obtain ⟨z, hz, z1, z2, z3⟩ := h y (h1 y hy) hm
    refine ⟨z, ?_, z1, z2, fun u hu hmu => z3 u (h1 u hu) hmu⟩
    rcases h2 z hz with h | ⟨h, _⟩
    · exact h
    · rw [z2] at h; cases h
theorem per_need (r : Rob) (a p : List UInt8) : perL (needL r) a p = perL r a p := by
  have e : namG (r.gr.map ndG) a = namG r.gr a := by unfold namG; rw [List.any_map]; rfl
  have c1 := core_nd r.gr a p
  have c2 := core_nd r.gr [42] p
  unfold perL rulesL needL
  simp only [e]
  by_cases hn : namG r.gr a = true
  · simp only [if_pos hn]; rw [c1]
  · simp only [if_neg hn]; rw [c2]

def ckCloneStr : Ck
  | [.sl n f] => some (isLs cStr n f ∧ n ≤ 1000000000000, .sl n f)
  | _ => none
attribute [push_cast] ckCloneStr

def idxR (l : List Rul) (w : Rul) : Int := match l.findIdx? (fun x => decide (w = x)) with
  | some k => k
  | none => -1
theorem idxR_at {l : List Rul} {w : Rul} {i : Nat} (hi : i < l.length) (h : w = l.getD i noRul) (hn : ∀ j, j < i → ¬ w = l.getD j noRul) : idxR l w = i := by
  unfold idxR
  have : l.findIdx? (fun x => decide (w = x)) = some i := by
    rw [List.findIdx?_eq_some_iff_getElem]
    refine ⟨hi, ?_, fun j hj => ?_⟩
    · rw [List.getD_eq_getElem?_getD, List.getElem?_eq_getElem hi] at h; simpa using h
    · have h1 := hn j hj
      rw [List.getD_eq_getElem?_getD, List.getElem?_eq_getElem (by omega)] at h1
      simpa using h1
  rw [this]
theorem idxR_no {l : List Rul} {w : Rul} (hn : ∀ j, j < l.length → ¬ w = l.getD j noRul) : idxR l w = -1 := by
  unfold idxR
  have : l.findIdx? (fun x => decide (w = x)) = none := by
    rw [List.findIdx?_eq_none_iff]
    intro x hx
    obtain ⟨j, hj, rfl⟩ := List.getElem_of_mem hx
    have h1 := hn j hj
    rw [List.getD_eq_getElem?_getD, List.getElem?_eq_getElem hj] at h1
    simpa using h1
  rw [this]
theorem idxR_has (l : List Rul) (w : Rul) : decide (0 ≤ idxR l w) = decide (w ∈ l) := by
  unfold idxR
  cases h : l.findIdx? (fun x => decide (w = x)) with
  | none =>
    rw [List.findIdx?_eq_none_iff] at h
    rw [decide_eq_false (by omega : ¬ (0 : Int) ≤ -1), decide_eq_false]
    intro hc
    have := h w hc
    simp at this
  | some k =>
    rw [List.findIdx?_eq_some_iff_getElem] at h
    obtain ⟨hk, h1, _⟩ := h
    have e : w = l[k] := by simpa using h1
    have hm : w ∈ l := by rw [e]; exact List.getElem_mem hk
    rw [decide_eq_true hm]
    exact decide_eq_true (Int.natCast_nonneg k)
def ckIdxR : Ck
  | [.sl n f, .agg [.bool a, .str p]] => some (isLs cRul n f ∧ n ≤ 4611686018427387904, .int .i64 (idxR (lsOf cRul n f) ⟨a, p⟩))
  | _ => none
attribute [push_cast] ckIdxR
def ckCtnR : Ck
  | [.sl n f, .agg [.bool a, .str p]] => some (isLs cRul n f ∧ n ≤ 4611686018427387904, .bool (decide ((⟨a, p⟩ : Rul) ∈ lsOf cRul n f)))
  | _ => none
attribute [push_cast] ckCtnR
def ckNeed : Ck
  | [x] => some (isC cRob x ∧ robOk (cRob.dec x), .tup [cRob.enc (if checkRobL (cRob.dec x) = 0 then needL (cRob.dec x) else noRob), .int .i64 (checkRobL (cRob.dec x))])
  | _ => none
attribute [push_cast] ckNeed
theorem eqS_take {a b : List (List UInt8)} (h : a.length = b.length) (hh : ∀ j, j < a.length → a.getD j [] = b.getD j []) : a = b := by
  apply List.ext_getElem h
  intro i h1 h2
  have := hh i h1
  rwa [List.getD_eq_getElem?_getD, List.getD_eq_getElem?_getD, List.getElem?_eq_getElem h1, List.getElem?_eq_getElem h2] at this
def ckEqStr : Ck
  | [.sl n f, .sl m g] => some (isLs cStr n f ∧ isLs cStr m g ∧ n ≤ 4611686018427387904, .bool (decide (lsOf cStr n f = lsOf cStr m g)))
  | _ => none
theorem conEqStr : Con pg 26 ckEqStr := by
  have hct := ctN_ok pg
  intro args q r h hq
  unfold ckEqStr at h
  split at h
  · cases h
    rename_i n f m g
    refine pcall_args (args' := [.sl (lsOf cStr n f).length (lsF cStr (lsOf cStr n f)), .sl (lsOf cStr m g).length (lsF cStr (lsOf cStr m g))]) ⟨isLs.vle hq.1, isLs.vle hq.2.1, trivial⟩ ?_
    have hn : (lsOf cStr n f).length ≤ 4611686018427387904 := by rw [lsOf_len]; exact hq.2.2
    generalize lsOf cStr n f = a at hn ⊢
    generalize lsOf cStr m g = b
    refine w26 (fun _ => false) [] rfl hct rfl rfl ?_
    push_cast (config := { maxSteps := 10000000 })
    refine ⟨fun h => ?_, fun h => ?_⟩
    · exact (decide_eq_false fun e => h (by rw [e])).symm
    refine LoopW.adj ⟨hct, fol⟩ (by kernel_rfl) [] (fun i : Nat => [(0, .sl a.length (lsF cStr a)), (1, .sl b.length (lsF cStr b)), (12, .int .i64 a.length), (13, .int .i64 i)]) (fun _ => []) (fun i => i ≤ a.length ∧ ∀ j, j < i → a.getD j [] = b.getD j []) (fun i => a.length - i) 0 ?_ fun i hi => ?_
    · push_cast (config := { maxSteps := 10000000 })
      exact Nat.zero_le _
    · push_cast (config := { maxSteps := 10000000 })
      obtain ⟨h1, h2⟩ := hi
      refine ⟨fun hlt => ⟨hlt, by omega, fun hne => ?_, fun he => ⟨by omega, i + 1, ⟨by omega, fun j hj => ?_⟩, by omega, by omega⟩⟩, fun hge => ?_⟩
      · exact (decide_eq_false fun e => hne (by rw [e])).symm
      · by_cases e : j = i
        · subst e; exact he
        · exact h2 j (by omega)
      · exact (decide_eq_true (eqS_take (by omega) fun j hj => h2 j (by omega))).symm
  · cases h
attribute [push_cast] ckEqStr

theorem eqR_take {α : Type} {d : α} {a b : List α} (h : a.length = b.length) (hh : ∀ j, j < a.length → a.getD j d = b.getD j d) : a = b := by
  apply List.ext_getElem h
  intro i h1 h2
  have := hh i h1
  rwa [List.getD_eq_getElem?_getD, List.getD_eq_getElem?_getD, List.getElem?_eq_getElem h1, List.getElem?_eq_getElem h2] at this
theorem neR_at {α : Type} {d : α} {a b : List α} {i : Nat} (h : a.getD i d ≠ b.getD i d) : a ≠ b := fun e => h (by rw [e])
def ckEqRul : Ck
  | [.sl n f, .sl m g] => some (isLs cRul n f ∧ isLs cRul m g ∧ n ≤ 4611686018427387904, .bool (decide (lsOf cRul n f = lsOf cRul m g)))
  | _ => none
theorem conEqRul : Con pg 48 ckEqRul := by
  have hct := ctN_ok pg
  intro args q r h hq
  unfold ckEqRul at h
  split at h
  · cases h
    rename_i n f m g
    refine pcall_args (args' := [.sl (lsOf cRul n f).length (lsF cRul (lsOf cRul n f)), .sl (lsOf cRul m g).length (lsF cRul (lsOf cRul m g))]) ⟨isLs.vle hq.1, isLs.vle hq.2.1, trivial⟩ ?_
    have hn : (lsOf cRul n f).length ≤ 4611686018427387904 := by rw [lsOf_len]; exact hq.2.2
    generalize lsOf cRul n f = a at hn ⊢
    generalize lsOf cRul m g = b
    refine w48 (fun _ => false) [] rfl hct rfl rfl ?_
    push_cast (config := { maxSteps := 10000000 })
    refine ⟨fun h => ?_, fun h => ?_⟩
    · exact (decide_eq_false fun e => h (by rw [e])).symm
    refine LoopW.adj ⟨hct, fol⟩ (by kernel_rfl) [] (fun i : Nat => [(0, .sl a.length (lsF cRul a)), (1, .sl b.length (lsF cRul b)), (12, .int .i64 a.length), (13, .int .i64 i)]) (fun _ => []) (fun i => i ≤ a.length ∧ ∀ j, j < i → a.getD j noRul = b.getD j noRul) (fun i => a.length - i) 0 ?_ fun i hi => ?_
    · push_cast (config := { maxSteps := 10000000 })
      exact Nat.zero_le _
    · push_cast (config := { maxSteps := 10000000 })
      obtain ⟨h1, h2⟩ := hi
      refine ⟨fun hlt => ⟨hlt, by omega, fun hne => ?_, fun he => ⟨by omega, i + 1, ⟨by omega, fun j hj => ?_⟩, by omega, by omega⟩⟩, fun hge => ?_⟩
      · exact (decide_eq_false (neR_at (d := noRul) (i := i) fun e => hne (by rw [e]) (by rw [e]))).symm
      · by_cases e : j = i
        · subst e
          have e1 : ∀ x y : Rul, x.al = y.al → x.pa = y.pa → x = y := fun x y h h' => by cases x; cases y; simp_all
          exact e1 _ _ he.1 he.2
        · exact h2 j (by omega)
      · exact (decide_eq_true (eqR_take (d := noRul) (by omega) fun j hj => h2 j (by omega))).symm
  · cases h
attribute [push_cast] ckEqRul

attribute [push_cast] ckNeed
def ckSameG : Ck
  | [.sl n f, .sl m g] => some (isLs cGrp n f ∧ isLs cGrp m g ∧ n ≤ 140737488355328 ∧ (∀ x ∈ lsOf cGrp n f, grpOk x) ∧ (∀ x ∈ lsOf cGrp m g, grpOk x), .bool (decide (lsOf cGrp n f = lsOf cGrp m g)))
  | _ => none
theorem conSameG : Con pg 25 ckSameG := by
  have hct := (ctA_ok conEqStr (ctA_ok conEqRul (ctN_ok _)))
  intro args q r h hq
  unfold ckSameG at h
  split at h
  · cases h
    rename_i n f m g
    refine pcall_args (args' := [.sl (lsOf cGrp n f).length (lsF cGrp (lsOf cGrp n f)), .sl (lsOf cGrp m g).length (lsF cGrp (lsOf cGrp m g))]) ⟨isLs.vle hq.1, isLs.vle hq.2.1, trivial⟩ ?_
    obtain ⟨-, -, hn, h1, h2⟩ := hq
    have hlen : (lsOf cGrp n f).length = n := lsOf_len n f
    rw [← hlen] at hn
    generalize lsOf cGrp n f = a at hn h1 ⊢
    generalize lsOf cGrp m g = b at h2 ⊢
    refine w25 (fun _ => false) [] rfl hct rfl rfl ?_
    push_cast (config := { maxSteps := 10000000 })
    refine ⟨fun h => ?_, fun h => ?_⟩
    · exact (decide_eq_false fun e => h (by rw [e])).symm
    refine LoopW.adj ⟨hct, fol⟩ (by kernel_rfl) [] (fun i : Nat => [(0, .sl a.length (lsF cGrp a)), (1, .sl b.length (lsF cGrp b)), (12, .int .i64 a.length), (13, .int .i64 i)]) (fun _ => []) (fun i => i ≤ a.length ∧ ∀ j, j < i → a.getD j noGrp = b.getD j noGrp) (fun i => a.length - i) 0 ?_ fun i hi => ?_
    · push_cast (config := { maxSteps := 10000000 })
      exact Nat.zero_le _
    · push_cast (config := { maxSteps := 10000000 })
      obtain ⟨i1, i2⟩ := hi
      have eg : ∀ x y : Grp, x.de = y.de → x.ag = y.ag → x.ru = y.ru → x = y := fun x y h h' h'' => by cases x; cases y; simp_all
      refine ⟨fun hlt => ?_, fun hge => ?_⟩
      · have g1 := h1 _ (mem_at (d := noGrp) hlt)
        have g1a := g1.1
        have g1b := g1.2.2.1
        refine ⟨hlt, by omega, fun h => ⟨h, hlt⟩, fun h => ⟨h, by omega⟩, fun h => ⟨h, by omega⟩, fun h => ⟨h, hlt⟩, fun h => ⟨h, by omega⟩, fun h => ⟨h, by omega⟩, fun h => ?_, fun h => ⟨by omega, i + 1, ⟨by omega, fun j hj => ?_⟩, by omega, by omega⟩⟩
        · refine (decide_eq_false fun e => ?_).symm
          subst e
          rcases h with (h | h) | h <;> exact h rfl
        · by_cases e : j = i
          · subst e; exact eg _ _ h.1.1 h.1.2 h.2
          · exact i2 j (by omega)
      · exact (decide_eq_true (eqR_take (d := noGrp) (by omega) fun j hj => i2 j (by omega))).symm
  · cases h
attribute [push_cast] ckSameG
def ckSame : Ck
  | [x, y] => some (isC cRob x ∧ isC cRob y ∧ robOk (cRob.dec x) ∧ robOk (cRob.dec y), .bool (decide (cRob.dec x = cRob.dec y)))
  | _ => none
theorem conSame : Con pg 10 ckSame := by
  have hct := (ctA_ok conSameG (ctA_ok conEqStr (ctN_ok _)))
  intro args q r h hq
  unfold ckSame at h
  split at h
  · cases h
    rename_i x y
    refine pcall_args (args' := [cRob.enc (cRob.dec x), cRob.enc (cRob.dec y)]) ⟨hq.1, hq.2.1, trivial⟩ ?_
    obtain ⟨-, -, o1, o2⟩ := hq
    generalize cRob.dec x = r at o1 ⊢
    generalize cRob.dec y = s at o2 ⊢
    refine w10 (fun _ => false) [] rfl hct rfl rfl ?_
    push_cast (config := { maxSteps := 10000000 })
    refine ⟨⟨o1.1, o1.2.1, o2.2.1⟩, fun h => ⟨h, by have := o1.2.2.1; omega⟩, ?_⟩
    have e : r = s ↔ r.gr = s.gr ∧ r.ma = s.ma := by
      cases r; cases s; simp
    rw [Bool.eq_iff_iff, Bool.and_eq_true, decide_eq_true_eq, decide_eq_true_eq, decide_eq_true_eq, e]
  · cases h
attribute [push_cast] ckSame

def ckLawRI : Ck
  | [.str t] => some (t.length ≤ 140737488355328, .bool true)
  | _ => none
theorem conLawRI : Con pg 4 ckLawRI := by
  have hct := (ctA_ok conReadR (ctA_ok conAwake4 (ctA_ok conCheckRob (ctA_ok conText (ctA_ok conSame (ctN_ok _))))))
  intro args q r h hq
  unfold ckLawRI at h
  split at h
  · cases h
    rename_i t
    refine w4 (fun _ => false) [] rfl hct rfl rfl ?_
    push_cast (config := { maxSteps := 10000000 })
    have hc := read_chk t
    have hk := chkRd_ok hc
    have hs := read_shp t
    have he := read_err t
    have hx := text_read hc hs
    refine ⟨hq, fun h => by rw [he h]; rfl, fun _ => ⟨hk, fun h => absurd hc h, fun _ => ⟨hk, fun h => hx.resolve_left h, fun h => ?_⟩⟩⟩
    obtain ⟨b1, b2⟩ := text_back h
    rw [b1]
    exact ⟨by omega, fun _ => ⟨rfl, hk, hk⟩, rfl, rfl⟩
  · cases h
attribute [push_cast] ckLawRI
theorem allLawRI {H : Type} (ds : List (DataW H)) (hh : hasD [.str] ds) : PCall pg 4 (ds.map toV) (.bool true) := by
  obtain ⟨d1, rfl, x⟩ := hasD1 hh
  obtain ⟨s, e1, b1⟩ := shStr x
  simp only [List.map_cons, List.map_nil, e1]
  exact conLawRI _ _ _ rfl b1

end Go.Abs
