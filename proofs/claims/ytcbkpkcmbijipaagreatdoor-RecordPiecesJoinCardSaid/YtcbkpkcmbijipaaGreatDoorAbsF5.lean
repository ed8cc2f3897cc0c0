/- what functions of this program compute: contracts, each a function's own -/
import Derived.Test.YtcbkpkcmbijipaaGreatDoorAbsK3
import Derived.Test.YtcbkpkcmbijipaaGreatDoorAbsFacts
import Derived.Test.YtcbkpkcmbijipaaGreatDoorAbsF4
import Derived.Test.YtcbkpkcmbijipaaGreatDoorAbsShelf
import Derived.Lib.SlTrimSet
import Derived.Lib.Atoi
import Derived.Lib.Itoa
import Derived.Lib.ItoaNum
import Derived.Lib.AtoiErrMem
import Derived.Lib.Repeat
import Derived.Lib.ItoaLen
import Derived.Lib.Walk
import Derived.WalkKit
import Derived.OwnWalkIn
import Derived.TacticsInMore
import Derived.RegionIn
import Derived.LoopNIn
import Derived.LoopIn
import Derived.Shelf.Abstract
namespace Go.Abs
open Go Go.Proofs
set_option maxHeartbeats 4000000
set_option maxRecDepth 100000
set_option linter.unusedVariables false
set_option linter.unusedSimpArgs false
/- a record's pieces, as an own row -/
def ckPiecesN : List V → Option (Prop × V × Blk)
  | [x, .int .i64 k] => some (isC cRec x ∧ recOk (cRec.dec x) ∧ pcE (cRec.dec x) k = 0, .tup [.vec 8999 (pcP (cRec.dec x) k).length, .int .i64 0], .vec 7 (pcP (cRec.dec x) k).length (lsF cRec (pcP (cRec.dec x) k)))
  | _ => none
theorem pcE_ok {r : Rcd} {k : Int} (h : pcE r k = 0) : checkRecL r = 0 ∧ (1 ≤ k ∧ k ≤ 100000) ∧ ¬ 1000 < pcN r k.toNat ∧ ¬ (r.ki = 5 ∨ 0 ≤ fstH r.hd wPieces) ∧ (pcN r k.toNat ≠ 1 → bad1 (pcL r k.toNat (pcN r k.toNat)) = 0) := by
  unfold pcE at h
  by_cases h1 : checkRecL r = 0
  · rw [if_neg (fun x => x h1)] at h
    by_cases h2 : 1 ≤ k ∧ k ≤ 100000
    · rw [if_neg (fun x => x h2)] at h
      by_cases h3 : 1000 < pcN r k.toNat
      · rw [if_pos h3] at h; cases h
      · rw [if_neg h3] at h
        by_cases h4 : r.ki = 5 ∨ 0 ≤ fstH r.hd wPieces
        · rw [if_pos h4] at h; cases h
        · rw [if_neg h4] at h
          refine ⟨h1, h2, h3, h4, fun h5 => ?_⟩
          rw [if_neg h5] at h; exact h
    · rw [if_pos h2] at h; cases h
  · rw [if_pos h1] at h; exact absurd h h1
theorem conPiecesN : NCon pg 16 ckPiecesN := by
  have hct := (ctA_ok conCheckRec (ctA_ok conRhead (ctW_ok conCloneHdN (ctA_ok conCloneBy (ctA_ok conBChunk (ctA_ok conItoa (ctN_ok _)))))))
  intro args q r nb h hq
  unfold ckPiecesN at h
  split at h
  · cases h
    rename_i x k
    obtain ⟨h0, ok, hE⟩ := hq
    refine ncall_argsC (args' := [cRec.enc (cRec.dec x), .int .i64 k]) ⟨h0, VLe.refl _, trivial⟩ ?_
    generalize cRec.dec x = r at *
    obtain ⟨hc, ⟨h1, h2⟩, h3, h5, hbad⟩ := pcE_ok hE
    have eP : pcP r k = if pcN r k.toNat = 1 then [r] else pcL r k.toNat (pcN r k.toNat) := by unfold pcP; rw [if_neg (fun x => x hE)]
    obtain ⟨k, rfl⟩ : ∃ j : Nat, k = j := ⟨k.toNat, by omega⟩
    rw [Int.toNat_natCast] at *
    obtain ⟨z1, z2, z3, z4, z5, z6, z7⟩ := rec_sz hc
    have e0 : ((r.bd.length : Int) + k - 1) / k = (((r.bd.length + k - 1) / k : Nat) : Int) := by
      rw [Int.natCast_ediv, show ((r.bd.length + k - 1 : Nat) : Int) = (r.bd.length : Int) + k - 1 by omega]
    have hN : max 1 (((r.bd.length : Int) + k - 1) / k) = ((pcN r k : Nat) : Int) := by
      rw [e0]
      unfold pcN
      generalize (r.bd.length + k - 1) / k = q
      omega
    have hcn : (r.bd.length + k - 1) / k ≤ pcN r k ∧ (pcN r k ≠ 1 → (r.bd.length + k - 1) / k = pcN r k) := by
      unfold pcN
      generalize (r.bd.length + k - 1) / k = q
      omega
    have hlt := fun i => @pcN_iff r k i (by omega)
    have hm1 : 1 ≤ pcN r k := by unfold pcN; omega
    by_cases hm : pcN r k = 1
    · rw [if_pos hm] at eP
      rw [eP]
      refine nw16 (fun d => decide (d = 56 ∨ d = 20024)) [.frz 47, .ren 56 8999] rfl hct rfl rfl ?_ ?_
      · intro i hi; rfl
      push_cast (config := { maxSteps := 10000000 })
      rw [hN]
      generalize pcN r k = m at *
      refine ⟨ok, fun x => x hc, fun _ => ⟨fun x => by omega, fun _ => ⟨⟨by omega, by omega⟩, ⟨by omega, by omega⟩, ⟨by omega, by omega, by omega, by omega⟩, fun x => by omega, fun _ => ⟨fun h => ⟨h, fun x hx => (ok.1 x hx).1, by omega⟩, h5, fun h => ⟨by omega, by omega, fun h4 => ?_, fun h4 => ?_⟩⟩⟩⟩⟩
      · intro i hi
        obtain rfl : i = 0 := by omega
        show V.ren 56 8999 (V.kill 8999 (frzV 47 2 r.hd.length _ (.agg [_, _, _, _, _, _, _]))) = _
        push_cast (config := { maxSteps := 10000000 })
        rfl
      · exact absurd hm (by omega)
    rw [if_neg hm] at eP
    rw [eP]
    refine ncall_inD (G := pg) (ow := fun d => decide (d = 56 ∨ d = 20024)) (n := 112) (an := (anL [(11, [0, 1, 3, 0, 8, 31, 31, 127, 255, 511]), (19, [0, 1, 3, 0, 8, 31, 0, 64, 0, 256, 0, 1024, 0, 4120, 12312, 28696, 65535, 0, 262143]), (22, [0, 1, 0, 4, 12, 28, 63, 127, 255])])) (rs := [.tmp 4, .tmp 5]) [.ren 8000 8999] hct fol 16 n16 rfl rfl e16 rfl (bodyOk_at o16 rfl rfl) rfl rfl ?_ ?_
    · intro i hi; rfl
    push_cast (config := { maxSteps := 10000000 })
    rw [hN]
    have hbd := hbad hm
    generalize pcN r k = m at *
    refine ⟨ok, fun x => x hc, fun _ => ⟨fun x => by omega, fun _ => ⟨⟨by omega, by omega⟩, ⟨by omega, by omega⟩, ⟨by omega, by omega, by omega, by omega⟩, fun x => by omega, fun _ => ⟨fun h => ⟨h, fun x hx => (ok.1 x hx).1, by omega⟩, h5, fun h => ⟨by omega, by omega, fun h4 => ?_, fun h4 => ?_⟩⟩⟩⟩⟩
    · exact absurd hm (by omega)
    refine ⟨h1, ?_⟩
    have eE : bad1 (pcL r k m) = 0 := hbd
    have hb := fun i (h : i < (pcL r k m).length) h0 => @bad1_take (pcL r k m) i h h0
    have hbs := fun i h => @bad1_stop (pcL r k m) i h
    have hL := pcL_len r k m
    have hA := fun i (h : i < m) => pcL_at r k h
    have hX := fun i (h : i < m) => pcX_ok (k := k) (m := m) (i := i) ok hc (by omega) h
    have hcm := hcn.2 (by omega)
    refine RngW.adj ⟨hct, fol⟩ (by kernel_rfl) [.nvc 8 0 8000 7 (lsF cRec (pcL r k m))] [] [(2, .ptr 2 0), (7, .ptr 7 0), (8, .ptr 8 0), (9, .ptr 9 0), (60, .fn (.func 63) [] [.iptr [.sl r.bd.length (byF r.bd)], .iptr [.int .i64 (k : Int)]])] (plL r m k) (plR r m k) (plL_sh r m k) (fun j t => t = j) 0 ⟨rfl, ?_⟩ (bchunksV r.bd.length (byF r.bd) k) rfl (bchunkIter (fun i hi => rfl) (by omega) (by omega) (by omega)) (fun j t L hj hlt => ?_) (fun t ht => ?_)
    · rw [plL_0]
      push_cast (config := { maxSteps := 10000000 })
      done
    · subst hj
      rw [bchunksV_at _ _ _ _ hlt]
      rw [bchunksV_len, hcm] at hlt
      cases t with
      | zero =>
        have hit := itoa_len6 (i := 1) (by omega) (by omega)
        rw [plR_0]
        push_cast (config := { maxSteps := 10000000 })
        refine ⟨by omega, by omega, ⟨by omega, by omega⟩, ⟨by omega, by omega⟩, ?_⟩
        refine SeqW.cut ⟨hct, fol⟩ (by kernel_rfl) (by kernel_rfl) [.frz 9047] (fun _ : Unit => [(8, .ptr 9008 0), (11, .ptr 11 0)]) (fun _ => [(9002, .cells [.int .i64 r.ki, .str r.id, .str r.ow, .int .i64 r.ti, .str r.ke, .any, .sl r.bd.length (byF r.bd)]), (9007, .cells [.int .i64 m]), (9008, .cells [.vec 17000 0]), (9009, .cells [.int .i64 1]), (17000, .vec 7 0 (lsF cRec (pcL r k m))), (11, .cells (cRec.enc (pcX r k m 0)).flat)]) (fun _ => True) ?_ fun t _ => ?_
        · push_cast (config := { maxSteps := 10000000 })
          have hH : LsI cHd (r.hd.length + 1) (appF r.hd.length (fun i => V.agg [V.str (r.hd.getD i ⟨[], []⟩).name, V.str (r.hd.getD i ⟨[], []⟩).value]) (litF [V.agg [V.str [112, 105, 101, 99, 101, 115], V.str (Lib.itoa (m : Int))]])) (r.hd ++ [⟨wPieces, Lib.itoa m⟩]) := LsI.app (LsI.ls r.hd) (LsI.one rfl) rfl
          have hB := cutBl r.bd k (0 * k)
          have e0 : pcX r k m 0 = ⟨r.ki, r.id, r.ow, r.ti, r.ke, r.hd ++ [⟨wPieces, Lib.itoa m⟩], (r.bd.drop (0 * k)).take k⟩ := if_pos rfl
          rw [e0]
          exact ⟨⟨hB.is, by omega⟩, (), fun j hj => hH.pure (fun _ => rfl) j hj, rfl, rfl, rfl, rfl, rfl, ⟨hH.1, fun j hj => hH.2 j hj⟩, hB.1, fun j hj => hB.2 j hj⟩
        · push_cast (config := { maxSteps := 10000000 })
          refine ⟨1, rfl, ?_⟩
          rw [plR_s]
          push_cast (config := { maxSteps := 10000000 })
          intro j hj
          obtain rfl : j = 0 := by omega
          rw [hA 0 hlt]; rfl
      | succ t =>
        have hit := itoa_len6 (i := (t : Int) + 1 + 1) (by omega) (by omega)
        rw [plR_s]
        push_cast (config := { maxSteps := 10000000 })
        refine ⟨⟨by omega, by omega⟩, by omega, ⟨by omega, by omega⟩, by omega, ⟨by omega, by omega⟩, fun x => by omega, fun _ => ?_⟩
        refine SeqW.cut ⟨hct, fol⟩ (by kernel_rfl) (by kernel_rfl) [.frz 9047] (fun _ : Unit => [(8, .ptr 9008 0), (11, .ptr 11 0)]) (fun _ => [(9002, .cells [.int .i64 r.ki, .str r.id, .str r.ow, .int .i64 r.ti, .str r.ke, .any, .sl r.bd.length (byF r.bd)]), (9007, .cells [.int .i64 m]), (9008, .cells [.vec 17000 (t + 1)]), (9009, .cells [.int .i64 ((t : Int) + 1 + 1)]), (17000, .vec 7 (t + 1) (lsF cRec (pcL r k m))), (11, .cells (cRec.enc (pcX r k m (t + 1))).flat)]) (fun _ => True) ?_ fun t' _ => ?_
        · push_cast (config := { maxSteps := 10000000 })
          have hB := cutBl r.bd k ((t + 1) * k)
          rw [pcX_s r k m (Nat.succ_ne_zero t)]
          refine ⟨⟨hB.is, by omega⟩, (), rfl, rfl, rfl, rfl, rfl, ⟨rfl, fun j hj => ?_⟩, hB.1, fun j hj => hB.2 j hj⟩
          obtain rfl : j = 0 := by omega
          rfl
        · push_cast (config := { maxSteps := 10000000 })
          refine ⟨⟨by omega, by omega⟩, t + 1 + 1, rfl, ?_⟩
          rw [plR_s]
          push_cast (config := { maxSteps := 10000000 })
          intro j hj
          unfold appF
          by_cases e : j < t + 1
          · rw [decide_eq_true e, cond_true]; rfl
          · obtain rfl : j = t + 1 := by omega
            rw [decide_eq_false e, cond_false, Nat.sub_self, hA (t + 1) hlt]; rfl
    · rw [bchunksV_len, hcm] at ht
      subst ht
      obtain ⟨j, rfl⟩ : ∃ j, t = j + 1 := ⟨t - 1, by omega⟩
      rw [plL_s]
      push_cast (config := { maxSteps := 10000000 })
      refine LoopW.adj ⟨hct, fol⟩ (by kernel_rfl) [] (fun i : Nat => [(8, .ptr 8 0), (99, .vec 8000 (j + 1)), (100, .int .i64 ((j : Int) + 1)), (101, .int .i64 i)]) (fun _ => [(8, .cells [.vec 8000 (j + 1)]), (8000, .vec 7 (j + 1) (lsF cRec (pcL r k (j + 1))))]) (fun i => i ≤ j + 1 ∧ bad1 ((pcL r k (j + 1)).take i) = 0) (fun i => j + 1 - i) 0 ?_ fun i hi => ?_
      · push_cast (config := { maxSteps := 10000000 })
        rfl
      · obtain ⟨i1, i2⟩ := hi
        have hbi := hb i
        have hXi : i < j + 1 → recOk ((pcL r k (j + 1)).getD i noRec) := fun h => by rw [hA i h]; exact hX i h
        push_cast (config := { maxSteps := 10000000 })
        refine ⟨fun hi => ?_, fun hi => ?_⟩
        · have hi' : i < j + 1 := by omega
          have hbi := hbi (by omega) i2
          refine ⟨hi, hi', hXi hi', fun hne => ?_, fun he => ⟨⟨by omega, by omega⟩, i + 1, ⟨by omega, by rw [hbi]; exact he⟩, by omega, by omega⟩⟩
          have e : bad1 (pcL r k (j + 1)) = checkRecL ((pcL r k (j + 1)).getD i noRec) := by rw [hbs (i + 1) (by rw [hbi]; exact hne), hbi]
          exact absurd (by rw [← e]; exact eE) hne
        · obtain rfl : i = j + 1 := by omega
          omega
  · cases h
attribute [push_cast] ckPiecesN
attribute [push_cast] ckPiecesN

/-- i steps of turning a row about -/
def revIR (D : List Rcd) : Nat → List Rcd
  | 0 => D
  | i + 1 => ((revIR D i).set i ((revIR D i).getD (D.length - 1 - i) noRec)).set (D.length - 1 - i) ((revIR D i).getD i noRec)
theorem revIR_len (D : List Rcd) : ∀ i, (revIR D i).length = D.length
  | 0 => rfl
  | i + 1 => by rw [revIR, List.length_set, List.length_set, revIR_len D i]
theorem getD_setR {α : Type} (l : List α) (i : Nat) (x d : α) (k : Nat) : (l.set i x).getD k d = if k = i ∧ i < l.length then x else l.getD k d := by
  rw [List.getD_eq_getElem?_getD, List.getElem?_set]
  by_cases h : i = k
  · subst h
    by_cases h2 : i < l.length
    · simp [h2]
    · simp [h2, List.getD_eq_getElem?_getD]
  · rw [if_neg h, if_neg (fun e => h e.1.symm), List.getD_eq_getElem?_getD]
theorem revIR_at (D : List Rcd) : ∀ {i : Nat}, 2 * i ≤ D.length → ∀ k, k < D.length → (revIR D i).getD k noRec = if k < i ∨ D.length - 1 - k < i then D.getD (D.length - 1 - k) noRec else D.getD k noRec
  | 0, _, k, hk => by rw [if_neg (by omega)]; rfl
  | i + 1, h, k, hk => by
    have hl := revIR_len D i
    have ih := revIR_at D (i := i) (by omega)
    have e1 := ih i (by omega)
    rw [if_neg (by omega)] at e1
    have e2 := ih (D.length - 1 - i) (by omega)
    rw [if_neg (by omega)] at e2
    rw [revIR, getD_setR, List.length_set, getD_setR, e1, e2, ih k hk]
    by_cases c1 : k = D.length - 1 - i
    · rw [if_pos ⟨c1, by omega⟩, if_pos (by omega), c1, show D.length - 1 - (D.length - 1 - i) = i by omega]
    · rw [if_neg (fun x => c1 x.1)]
      by_cases c2 : k = i
      · rw [if_pos ⟨c2, by omega⟩, if_pos (by omega), c2]
      · rw [if_neg (fun x => c2 x.1)]
        by_cases c3 : k < i ∨ D.length - 1 - k < i
        · rw [if_pos c3, if_pos (by omega)]
        · rw [if_neg c3, if_neg (by omega)]
theorem revIR_end {D : List Rcd} {i : Nat} (h : 2 * i ≤ D.length) (h2 : D.length ≤ 2 * i + 1) : revIR D i = D.reverse := by
  apply List.ext_getElem
  · rw [revIR_len, List.length_reverse]
  · intro k h3 h4
    rw [revIR_len] at h3
    have := revIR_at D h k h3
    rw [List.getD_eq_getElem?_getD, List.getElem?_eq_getElem (by rw [revIR_len]; exact h3), Option.getD_some] at this
    rw [this, List.getElem_reverse]
    by_cases c : k < i ∨ D.length - 1 - k < i
    · rw [if_pos c, List.getD_eq_getElem?_getD, List.getElem?_eq_getElem (by omega)]; rfl
    · rw [if_neg c]
      have e : D.length - 1 - k = k := by omega
      simp only [e]
      rw [List.getD_eq_getElem?_getD, List.getElem?_eq_getElem h3]; rfl
def ckRevRK : List V → List Blk → Option (Prop × V × List Blk)
  | [.vec _ n], [.vec 7 k g] => some (k = n ∧ isLs cRec n g ∧ n ≤ 1000000, .tup [], [.vec 7 n (lsF cRec (lsOf cRec n g).reverse)])
  | _, _ => none
def ckRevR : Cf := ⟨fun | .vec i _ :: _ => [i] | _ => [], ckRevRK⟩
theorem men_recR (ids : Nat → Bool) (D : List Rcd) (j : Nat) : V.menInL ids (lsF cRec D j).flat = true := rfl
theorem conRevR : FCon pg 21 ckRevR := by
  have hct := ctN_ok pg
  intro args bs q r bs' h hq
  replace h : ckRevRK args bs = some (q, r, bs') := h
  unfold ckRevRK at h
  split at h
  · cases h
    rename_i i n k g
    refine ⟨rfl, by first | exact Nat.le_refl _ | exact Nat.zero_le _, ?_⟩
    obtain ⟨rfl, hf, hn⟩ := hq
    have hk : k = (lsOf cRec k g).length := (lsOf_len k g).symm
    refine fcall_blk (hm := [(i + 9000, .vec 7 (lsOf cRec k g).length (lsF cRec (lsOf cRec k g)))]) ⟨rfl, ⟨rfl, hk, fun j hj => by show V.shift (g j) = _; rw [hf.2 j hj]; rfl⟩, trivial⟩ ?_
    have hlen : (lsOf cRec k g).length = k := lsOf_len k g
    generalize lsOf cRec k g = D at hlen ⊢
    subst hlen
    show FCall pg 21 [.vec (i + 9000) D.length] [(i + 9000, .vec 7 D.length (lsF cRec D))] (.tup []) [(i + 9000, .vec 7 D.length (lsF cRec D.reverse))]
    refine fw21 (fun _ => false) [] rfl hct rfl (by simp) ?_ rfl ?_
    · simp [hlIn, Blk.menIn, men_recR, idsIn]
    push_cast (config := { maxSteps := 10000000 })
    (repeat (refine ⟨by omega, ?_⟩))
    refine LoopW.adj ⟨hct, fol⟩ (by kernel_rfl) [] (fun t : Nat => [(0, .vec (i + 9000) D.length), (2, .int .i64 t), (3, .int .i64 ((D.length : Int) - 1 - t))]) (fun t => [(i + 9000, .vec 7 D.length (lsF cRec (revIR D t)))]) (fun t => 2 * t ≤ D.length) (fun t => D.length - t) 0 ?_ fun t ht => ?_
    · push_cast (config := { maxSteps := 10000000 })
      exact ⟨Nat.zero_le _, by omega, fun _ _ => rfl⟩
    · have ht : 2 * t ≤ D.length := ht
      push_cast (config := { maxSteps := 10000000 })
      rw [show ((D.length : Int) - 1 - t).toNat = D.length - 1 - t by omega]
      refine ⟨fun h => ?_, fun h => by rw [revIR_end ht (by omega)]; exact fun _ _ => rfl⟩
      have hs : ∀ (E : List Rcd) (a : Nat) (x : Rcd) (i : Nat), setF (lsF cRec E) a (cRec.enc x) i = cRec.enc (if i = a then x else E.getD i noRec) := fun E a x i => by
        unfold setF
        by_cases e : i = a
        · rw [decide_eq_true e, if_pos e]; rfl
        · rw [decide_eq_false e, if_neg e]; rfl
      refine ⟨⟨by omega, by omega⟩, by omega, by omega, by omega, by omega, by omega, ⟨by omega, by omega⟩, by omega, ⟨by omega, by omega⟩, ⟨by omega, by omega⟩, t + 1, by omega, by omega, ⟨by omega, by omega⟩, fun k hk => ?_⟩
      have hb : ∀ v, setF (lsF cRec (revIR D t)) t v (D.length - 1 - t) = lsF cRec (revIR D t) (D.length - 1 - t) := fun v => by
        unfold setF; rw [decide_eq_false (by omega)]; rfl
      rw [hb]
      show setF (setF (lsF cRec (revIR D t)) t (cRec.enc ((revIR D t).getD (D.length - 1 - t) noRec))) (D.length - 1 - t) (cRec.enc ((revIR D t).getD t noRec)) k = cRec.enc ((revIR D (t + 1)).getD k noRec)
      have hl := revIR_len D t
      rw [revIR, getD_setR, List.length_set, getD_setR]
      show setF _ (D.length - 1 - t) (cRec.enc _) k = _
      unfold setF
      by_cases e1 : k = D.length - 1 - t
      · rw [decide_eq_true e1, if_pos ⟨e1, by omega⟩]; rfl
      · rw [decide_eq_false e1, if_neg (fun x => e1 x.1), cond_false]
        by_cases e2 : k = t
        · rw [decide_eq_true e2, if_pos ⟨e2, by omega⟩]; rfl
        · rw [decide_eq_false e2, if_neg (fun x => e2 x.1)]; rfl
  · cases h
attribute [push_cast] ckRevRK
@[push_cast] theorem revR_ids (i n : Nat) (l : List V) : ckRevR.ids (.vec i n :: l) = [i] := rfl
@[push_cast] theorem revR_k (i n k : Nat) (g : Nat → V) : ckRevR.k [.vec i n] [.vec 7 k g] = some (k = n ∧ isLs cRec n g ∧ n ≤ 1000000, .tup [], [.vec 7 n (lsF cRec (lsOf cRec n g).reverse)]) := rfl

/- record.write behind bytes that are there already: their row is block 12 of the caller's, 9012 here -/
def ckLineKb : List V → List Blk → Option (Prop × V × List Blk)
  | [.str a, .str v, .ptr 2 0], [.cells [.vec 9012 n], .vec 1 k g] => some (k = n ∧ isBy n g ∧ n ≤ 100000000 ∧ a.length ≤ 100000000 ∧ v.length ≤ 100000000, .tup [], [.cells [.vec 9012 (catL (bytesOf n g) a v).length], .vec 1 (catL (bytesOf n g) a v).length (byF (catL (bytesOf n g) a v))])
  | _, _ => none
def ckLine6b : Cf := ⟨fun | [_, _, .ptr 2 _] => [2, 9012] | _ => [], ckLineKb⟩
theorem conLine6b : FCon pg 53 ckLine6b := by
  have hct := ctN_ok pg
  intro args bs q r bs' h hq
  replace h : ckLineKb args bs = some (q, r, bs') := h
  unfold ckLineKb at h
  split at h
  · cases h
    rename_i a v n k g
    refine ⟨rfl, Nat.le_refl _, ?_⟩
    obtain ⟨rfl, hg, hk, ha, hv⟩ := hq
    show FCall pg 53 [.str a, .str v, .ptr 9002 0] [(9002, .cells [.vec 18012 k]), (18012, .vec 1 k fun i => V.shift (g i))] (.tup []) [(9002, .cells [.vec 18012 (catL (bytesOf k g) a v).length]), (18012, .vec 1 (catL (bytesOf k g) a v).length (byF (catL (bytesOf k g) a v)))]
    refine fcall_blk (hm := [(9002, .cells [.vec 18012 k]), (18012, .vec 1 k (byF (bytesOf k g)))]) ⟨rfl, ⟨⟨rfl, rfl⟩, trivial⟩, rfl, ⟨rfl, rfl, fun j hj => by show V.shift (g j) = _; rw [hg.2 j hj]; rfl⟩, trivial⟩ ?_
    have hl := bytesOf_len k g
    generalize bytesOf k g = b at hl ⊢
    subst hl
    refine fw53 (fun _ => false) [] rfl hct rfl (by simp) (by simp [hlIn, idsIn, Blk.menIn, V.menInL, V.menIn, V.flat, byF, lsF]) (by simp [V.menIn, V.menInL, idsIn]) ?_
    push_cast (config := { maxSteps := 10000000 })
    have hll : (lnB2 a v).length = a.length + 2 + v.length + 2 := by simp [lnB2]; omega
    have hcl := catL_len b a v
    have app := ByI.app (ByI.by b) (ByI.by (lnB2 a v)) rfl
    rw [hll] at app
    exact ⟨by omega, by omega, by omega, ⟨by omega, by omega⟩, by omega, by omega, app.2⟩
  · cases h
@[push_cast] theorem line6_idsb (x y : V) (o : Nat) : ckLine6b.ids [x, y, .ptr 2 o] = [2, 9012] := rfl
@[push_cast] theorem line6_kb (a v : List UInt8) (n k : Nat) (g : Nat → V) : ckLine6b.k [.str a, .str v, .ptr 2 0] [.cells [.vec 9012 n], .vec 1 k g] = some (k = n ∧ isBy n g ∧ n ≤ 100000000 ∧ a.length ≤ 100000000 ∧ v.length ≤ 100000000, .tup [], [.cells [.vec 9012 (catL (bytesOf n g) a v).length], .vec 1 (catL (bytesOf n g) a v).length (byF (catL (bytesOf n g) a v))]) := rfl
@[push_cast] theorem keptB_by (B : List UInt8) : bytesOf (B.length + 8) (appF B.length (byF B) (byF [75, 69, 80, 84, 47, 49, 13, 10])) = B ++ [75, 69, 80, 84, 47, 49, 13, 10] := (ByI.app (ByI.by B) (ByI.by [75, 69, 80, 84, 47, 49, 13, 10]) rfl).bytes
@[push_cast] theorem keptB_is (B : List UInt8) : isBy (B.length + 8) (appF B.length (byF B) (byF [75, 69, 80, 84, 47, 49, 13, 10])) = True := eq_true (ByI.app (ByI.by B) (ByI.by [75, 69, 80, 84, 47, 49, 13, 10]) rfl).is
theorem catL_B (B L a v : List UInt8) : catL (B ++ L) a v = B ++ catL L a v := by simp [catL]
theorem recP_owB (B : List UInt8) {r : Rcd} (h : ¬ r.ow = []) : catL (catL (catL (catL (catL (B ++ [75, 69, 80, 84, 47, 49, 13, 10]) [105, 100] r.id) [111, 102] r.ow) [107, 105, 110, 100] (kindW.getD (r.ki - 1).toNat [])) [100, 97, 116, 101] (dateTextL r.ti)) [107, 101, 121] r.ke = B ++ recP r := by
  rw [← recP_ow h]; simp only [catL_B]
theorem recP_noB (B : List UInt8) {r : Rcd} (h : r.ow = []) : catL (catL (catL (catL (B ++ [75, 69, 80, 84, 47, 49, 13, 10]) [105, 100] r.id) [107, 105, 110, 100] (kindW.getD (r.ki - 1).toNat [])) [100, 97, 116, 101] (dateTextL r.ti)) [107, 101, 121] r.ke = B ++ recP r := by
  rw [← recP_no h]; simp only [catL_B]
def ckWriteVK : List V → List Blk → Option (Prop × V × List Blk)
  | [.vec 12 n, .agg [.int .i64 ki, .str id, .str ow, .int .i64 ti, .str ke, .sl hn hf, .sl bn bf]], [.vec 1 k g] => some (k = n ∧ isBy n g ∧ n ≤ 50000000 ∧ isLs cHd hn hf ∧ isBy bn bf ∧ recOk ⟨ki, id, ow, ti, ke, lsOf cHd hn hf, bytesOf bn bf⟩ ∧ checkRecL ⟨ki, id, ow, ti, ke, lsOf cHd hn hf, bytesOf bn bf⟩ = 0, .vec 12 (bytesOf n g ++ recB ⟨ki, id, ow, ti, ke, lsOf cHd hn hf, bytesOf bn bf⟩).length, [.vec 1 (bytesOf n g ++ recB ⟨ki, id, ow, ti, ke, lsOf cHd hn hf, bytesOf bn bf⟩).length (byF (bytesOf n g ++ recB ⟨ki, id, ow, ti, ke, lsOf cHd hn hf, bytesOf bn bf⟩))])
  | _, _ => none
def ckWriteV : Cf := ⟨fun | [.vec 12 _, _] => [12] | _ => [], ckWriteVK⟩
theorem conWriteV : FCon pg 26 ckWriteV := by
  have hct := (ctF_ok conLine6b (ctA_ok conKinds (ctA_ok conDateText (ctA_ok conItoa (ctA_ok conDigest (ctN_ok _))))))
  intro args bs q r bs' h hq
  replace h : ckWriteVK args bs = some (q, r, bs') := h
  unfold ckWriteVK at h
  split at h
  · cases h
    rename_i n ki id ow ti ke hn hf bn bf k g
    refine ⟨rfl, by first | exact Nat.le_refl _ | exact Nat.zero_le _, ?_⟩
    obtain ⟨rfl, hg, hk, h1, h2, ha, hc⟩ := hq
    show FCall pg 26 [.vec 9012 k, .agg [.int .i64 ki, .str id, .str ow, .int .i64 ti, .str ke, .sl hn hf, .sl bn bf]] [(9012, .vec 1 k fun i => V.shift (g i))] (.vec 9012 (bytesOf k g ++ recB ⟨ki, id, ow, ti, ke, lsOf cHd hn hf, bytesOf bn bf⟩).length) [(9012, .vec 1 (bytesOf k g ++ recB ⟨ki, id, ow, ti, ke, lsOf cHd hn hf, bytesOf bn bf⟩).length (byF (bytesOf k g ++ recB ⟨ki, id, ow, ti, ke, lsOf cHd hn hf, bytesOf bn bf⟩)))]
    refine fcall_blk (hm := [(9012, .vec 1 (bytesOf k g).length (byF (bytesOf k g)))]) ⟨rfl, ⟨rfl, (bytesOf_len k g).symm, fun j hj => by show V.shift (g j) = _; rw [hg.2 j hj]; rfl⟩, trivial⟩ ?_
    refine fcall_args (args' := [.vec 9012 (bytesOf k g).length, cRec.enc ⟨ki, id, ow, ti, ke, lsOf cHd hn hf, bytesOf bn bf⟩]) ⟨VLe.of_eq (by rw [bytesOf_len]), isC_rec h1 h2, trivial⟩ ?_
    have hB : (bytesOf k g).length ≤ 50000000 := by rw [bytesOf_len]; exact hk
    generalize bytesOf k g = B at hB ⊢
    generalize (⟨ki, id, ow, ti, ke, lsOf cHd hn hf, bytesOf bn bf⟩ : Rcd) = r at ha hc ⊢
    refine fw26 (fun d => decide (d = 10006)) [] rfl hct rfl (by simp) (by simp [hlIn, idsIn, Blk.menIn, V.menInL, V.menIn, V.flat, byF, lsF]) (by simp [V.menIn, V.menInL, idsIn]) ?_
    push_cast (config := { maxSteps := 10000000 })
    obtain ⟨z1, z2, z3, z4, z5, z6, z7⟩ := rec_sz hc
    obtain ⟨y1, y2, y3, y4, y5, y6, y7, y8, y9, y10⟩ := rec_ok hc
    have zk := kindW_le (r.ki - 1).toNat
    have zp := recP_le hc
    have c8 : ([75, 69, 80, 84, 47, 49, 13, 10] : List UInt8).length = 8 := rfl
    have c2 : ([105, 100] : List UInt8).length = 2 := rfl
    rw [if_pos ⟨y5, y6⟩]
    refine ⟨⟨by omega, by omega⟩, ⟨by omega, by omega⟩, fun how => ?_, fun how => ?_⟩
    · have hP := recP_owB B how
      refine ⟨⟨by simp only [catL_len, List.length_append, List.length_cons, List.length_nil]; omega, by omega⟩, ⟨by omega, by omega⟩, ⟨by omega, by omega⟩, ⟨by simp only [catL_len, List.length_append, List.length_cons, List.length_nil]; omega, by omega⟩, ⟨by omega, by omega⟩, ⟨by simp only [catL_len, List.length_append, List.length_cons, List.length_nil]; omega, by omega⟩, ⟨by simp only [catL_len, List.length_append, List.length_cons, List.length_nil]; omega, by omega⟩, ?_⟩
      generalize catL (catL (catL (catL (catL (B ++ [75, 69, 80, 84, 47, 49, 13, 10]) [105, 100] r.id) [111, 102] r.ow) [107, 105, 110, 100] (kindW.getD (r.ki - 1).toNat [])) [100, 97, 116, 101] (dateTextL r.ti)) [107, 101, 121] r.ke = P at hP ⊢
      refine LoopW.adj ⟨hct, fol⟩ (by kernel_rfl) [] (fun t : Nat × List UInt8 => [(2, .ptr 2 0), (3, .ptr 3 0), (5, .fn (.func 53) [] [.ptr 2 0]), (46, .sl r.hd.length (lsF cHd r.hd)), (47, .int .i64 r.hd.length), (48, .int .i64 t.1)]) (fun t => [(2, .cells [.vec 9012 t.2.length]), (9012, .vec 1 t.2.length (byF t.2)), (3, .cells [.int .i64 r.ki, .str r.id, .str r.ow, .int .i64 r.ti, .str r.ke, .sl r.hd.length (lsF cHd r.hd), .sl r.bd.length (byF r.bd)])]) (fun t => t.1 ≤ r.hd.length ∧ t.2 ++ headsB (r.hd.drop t.1) = (B ++ recP r) ++ headsB r.hd) (fun t => r.hd.length - t.1) (0, P) ?_ fun t ht => ?_
      · push_cast (config := { maxSteps := 10000000 })
        exact ⟨Nat.zero_le _, congrArg (· ++ headsB r.hd) hP⟩
      · obtain ⟨i, o⟩ := t
        obtain ⟨i1, i2⟩ : i ≤ r.hd.length ∧ o ++ headsB (r.hd.drop i) = (B ++ recP r) ++ headsB r.hd := ht
        have hl := congrArg List.length i2
        simp only [List.length_append] at hl
        push_cast (config := { maxSteps := 10000000 })
        refine ⟨fun h => ?_, fun h => ?_⟩
        · have e := dropG (d := ⟨[], []⟩) h
          rw [e, headsB] at i2 hl
          have hx : (headB (r.hd.getD i ⟨[], []⟩)).length = (r.hd.getD i ⟨[], []⟩).name.length + 2 + (r.hd.getD i ⟨[], []⟩).value.length + 2 := by simp [headB]; omega
          simp only [List.length_append] at hl
          exact ⟨h, ⟨by omega, by omega, by omega⟩, ⟨by omega, by omega⟩, (i + 1, catL o (r.hd.getD i ⟨[], []⟩).name (r.hd.getD i ⟨[], []⟩).value), ⟨by show i + 1 ≤ r.hd.length; omega, by rw [← i2]; simp [catL, lnB2, headB]⟩, by show r.hd.length - (i + 1) < r.hd.length - i; omega, by show (i : Int) + 1 = ((i + 1 : Nat) : Int); omega, rfl, rfl, fun _ _ => rfl⟩
        · rw [List.drop_eq_nil_of_le (by omega)] at i2 hl
          simp only [headsB, List.append_nil, List.length_nil, Nat.add_zero] at i2 hl
          have hi6 := itoa_len (n := r.bd.length) (by omega)
          have hdg : (digestL r.bd).length = 16 := hex16_len _
          have hq1 := catL_len o [108, 101, 110, 103, 116, 104] (Lib.itoa r.bd.length)
          have hq2 := catL_len (catL o [108, 101, 110, 103, 116, 104] (Lib.itoa r.bd.length)) [100, 105, 103, 101, 115, 116] (digestL r.bd)
          have cl1 : ([108, 101, 110, 103, 116, 104] : List UInt8).length = 6 := rfl
          have cl2 : ([100, 105, 103, 101, 115, 116] : List UInt8).length = 6 := rfl
          have eq : catL (catL o [108, 101, 110, 103, 116, 104] (Lib.itoa r.bd.length)) [100, 105, 103, 101, 115, 116] (digestL r.bd) ++ [13, 10] ++ r.bd ++ [13, 10, 13, 10] = B ++ recB r := by
            rw [i2]; simp [recB, recQ, catL]
          generalize catL (catL o [108, 101, 110, 103, 116, 104] (Lib.itoa r.bd.length)) [100, 105, 103, 101, 115, 116] (digestL r.bd) = Q at hq2 eq ⊢
          have app : ByI (Q.length + 2 + r.bd.length + 4) (appF (Q.length + 2 + r.bd.length) (appF (Q.length + 2) (appF Q.length (byF Q) (byF [13, 10])) (byF r.bd)) (byF [13, 10, 13, 10])) (B ++ recB r) := (ByI.app (ByI.app (ByI.app (ByI.by Q) (ByI.by [13, 10]) rfl) (ByI.by r.bd) rfl) (ByI.by [13, 10, 13, 10]) rfl).eq eq
          exact ⟨⟨by omega, by omega⟩, ⟨by omega, by omega⟩, by omega, ⟨by omega, by omega⟩, ⟨by omega, by omega⟩, ⟨by omega, by omega⟩, ⟨by omega, by omega⟩, app.1.trans List.length_append, app.1.trans List.length_append, app.2⟩
    · have hP := recP_noB B how
      refine ⟨⟨by omega, by omega⟩, ⟨by omega, by omega⟩, ⟨by simp only [catL_len, List.length_append, List.length_cons, List.length_nil]; omega, by omega⟩, ⟨by omega, by omega⟩, ⟨by simp only [catL_len, List.length_append, List.length_cons, List.length_nil]; omega, by omega⟩, ⟨by simp only [catL_len, List.length_append, List.length_cons, List.length_nil]; omega, by omega⟩, ?_⟩
      generalize catL (catL (catL (catL (B ++ [75, 69, 80, 84, 47, 49, 13, 10]) [105, 100] r.id) [107, 105, 110, 100] (kindW.getD (r.ki - 1).toNat [])) [100, 97, 116, 101] (dateTextL r.ti)) [107, 101, 121] r.ke = P at hP ⊢
      refine LoopW.adj ⟨hct, fol⟩ (by kernel_rfl) [] (fun t : Nat × List UInt8 => [(2, .ptr 2 0), (3, .ptr 3 0), (5, .fn (.func 53) [] [.ptr 2 0]), (46, .sl r.hd.length (lsF cHd r.hd)), (47, .int .i64 r.hd.length), (48, .int .i64 t.1)]) (fun t => [(2, .cells [.vec 9012 t.2.length]), (9012, .vec 1 t.2.length (byF t.2)), (3, .cells [.int .i64 r.ki, .str r.id, .str r.ow, .int .i64 r.ti, .str r.ke, .sl r.hd.length (lsF cHd r.hd), .sl r.bd.length (byF r.bd)])]) (fun t => t.1 ≤ r.hd.length ∧ t.2 ++ headsB (r.hd.drop t.1) = (B ++ recP r) ++ headsB r.hd) (fun t => r.hd.length - t.1) (0, P) ?_ fun t ht => ?_
      · push_cast (config := { maxSteps := 10000000 })
        exact ⟨Nat.zero_le _, congrArg (· ++ headsB r.hd) hP⟩
      · obtain ⟨i, o⟩ := t
        obtain ⟨i1, i2⟩ : i ≤ r.hd.length ∧ o ++ headsB (r.hd.drop i) = (B ++ recP r) ++ headsB r.hd := ht
        have hl := congrArg List.length i2
        simp only [List.length_append] at hl
        push_cast (config := { maxSteps := 10000000 })
        refine ⟨fun h => ?_, fun h => ?_⟩
        · have e := dropG (d := ⟨[], []⟩) h
          rw [e, headsB] at i2 hl
          have hx : (headB (r.hd.getD i ⟨[], []⟩)).length = (r.hd.getD i ⟨[], []⟩).name.length + 2 + (r.hd.getD i ⟨[], []⟩).value.length + 2 := by simp [headB]; omega
          simp only [List.length_append] at hl
          exact ⟨h, ⟨by omega, by omega, by omega⟩, ⟨by omega, by omega⟩, (i + 1, catL o (r.hd.getD i ⟨[], []⟩).name (r.hd.getD i ⟨[], []⟩).value), ⟨by show i + 1 ≤ r.hd.length; omega, by rw [← i2]; simp [catL, lnB2, headB]⟩, by show r.hd.length - (i + 1) < r.hd.length - i; omega, by show (i : Int) + 1 = ((i + 1 : Nat) : Int); omega, rfl, rfl, fun _ _ => rfl⟩
        · rw [List.drop_eq_nil_of_le (by omega)] at i2 hl
          simp only [headsB, List.append_nil, List.length_nil, Nat.add_zero] at i2 hl
          have hi6 := itoa_len (n := r.bd.length) (by omega)
          have hdg : (digestL r.bd).length = 16 := hex16_len _
          have hq1 := catL_len o [108, 101, 110, 103, 116, 104] (Lib.itoa r.bd.length)
          have hq2 := catL_len (catL o [108, 101, 110, 103, 116, 104] (Lib.itoa r.bd.length)) [100, 105, 103, 101, 115, 116] (digestL r.bd)
          have cl1 : ([108, 101, 110, 103, 116, 104] : List UInt8).length = 6 := rfl
          have cl2 : ([100, 105, 103, 101, 115, 116] : List UInt8).length = 6 := rfl
          have eq : catL (catL o [108, 101, 110, 103, 116, 104] (Lib.itoa r.bd.length)) [100, 105, 103, 101, 115, 116] (digestL r.bd) ++ [13, 10] ++ r.bd ++ [13, 10, 13, 10] = B ++ recB r := by
            rw [i2]; simp [recB, recQ, catL]
          generalize catL (catL o [108, 101, 110, 103, 116, 104] (Lib.itoa r.bd.length)) [100, 105, 103, 101, 115, 116] (digestL r.bd) = Q at hq2 eq ⊢
          have app : ByI (Q.length + 2 + r.bd.length + 4) (appF (Q.length + 2 + r.bd.length) (appF (Q.length + 2) (appF Q.length (byF Q) (byF [13, 10])) (byF r.bd)) (byF [13, 10, 13, 10])) (B ++ recB r) := (ByI.app (ByI.app (ByI.app (ByI.by Q) (ByI.by [13, 10]) rfl) (ByI.by r.bd) rfl) (ByI.by [13, 10, 13, 10]) rfl).eq eq
          exact ⟨⟨by omega, by omega⟩, ⟨by omega, by omega⟩, by omega, ⟨by omega, by omega⟩, ⟨by omega, by omega⟩, ⟨by omega, by omega⟩, ⟨by omega, by omega⟩, app.1.trans List.length_append, app.1.trans List.length_append, app.2⟩
  · cases h
attribute [push_cast] ckWriteVK
@[push_cast] theorem writeV_ids (n : Nat) (x : V) : ckWriteV.ids [.vec 12 n, x] = [12] := rfl
@[push_cast] theorem writeV_k (n k hn bn : Nat) (ki ti : Int) (id ow ke : List UInt8) (g hf bf : Nat → V) : ckWriteV.k [.vec 12 n, .agg [.int .i64 ki, .str id, .str ow, .int .i64 ti, .str ke, .sl hn hf, .sl bn bf]] [.vec 1 k g] = some (k = n ∧ isBy n g ∧ n ≤ 50000000 ∧ isLs cHd hn hf ∧ isBy bn bf ∧ recOk ⟨ki, id, ow, ti, ke, lsOf cHd hn hf, bytesOf bn bf⟩ ∧ checkRecL ⟨ki, id, ow, ti, ke, lsOf cHd hn hf, bytesOf bn bf⟩ = 0, .vec 12 (bytesOf n g ++ recB ⟨ki, id, ow, ti, ke, lsOf cHd hn hf, bytesOf bn bf⟩).length, [.vec 1 (bytesOf n g ++ recB ⟨ki, id, ow, ti, ke, lsOf cHd hn hf, bytesOf bn bf⟩).length (byF (bytesOf n g ++ recB ⟨ki, id, ow, ti, ke, lsOf cHd hn hf, bytesOf bn bf⟩))]) := rfl

def ckCheckFile : Ck
  | [.sl n f] => some (isLs cRec n f ∧ recsOk (lsOf cRec n f), .int .i64 (checkFileL (lsOf cRec n f)))
  | _ => none
theorem conCheckFile : Con pg 9 ckCheckFile := by
  have hct := (ctA_ok conCheckRec (ctA_ok conWrite (ctN_ok _)))
  intro args q r h hq
  unfold ckCheckFile at h
  split at h
  · cases h
    rename_i n f
    refine pcall_args (args' := [.sl (lsOf cRec n f).length (lsF cRec (lsOf cRec n f))]) ⟨isLs.vle hq.1, trivial⟩ ?_
    obtain ⟨-, hl⟩ := hq
    generalize lsOf cRec n f = l at hl ⊢
    refine w9 (fun _ => false) [] rfl hct rfl rfl ?_
    push_cast (config := { maxSteps := 10000000 })
    refine ⟨fun h => by unfold checkFileL; rw [if_pos (by omega)], fun h => ?_⟩
    have e0 : checkFileL l = cfGo [] 0 l := by unfold checkFileL; rw [if_neg (by omega)]
    rw [e0]
    refine LoopW.adj ⟨hct, fol⟩ (by kernel_rfl) [] (fun t : Nat × Int => [(3, .map 11), (4, .int .i64 t.2), (12, .sl l.length (lsF cRec l)), (13, .int .i64 l.length), (14, .int .i64 t.1)]) (fun t => [(11, .mp .str (seenM ((l.take t.1).map Rcd.id)))]) (fun t => t.1 ≤ l.length ∧ 0 ≤ t.2 ∧ t.2 ≤ t.1 * 400000 ∧ cfGo ((l.take t.1).map Rcd.id) t.2 (l.drop t.1) = cfGo [] 0 l) (fun t => l.length - t.1) (0, 0) ?_ fun t ht => ?_
    · push_cast (config := { maxSteps := 10000000 })
      exact ⟨Nat.zero_le _, seen_nil⟩
    · obtain ⟨i, m⟩ := t
      obtain ⟨h1, h2, h3, h4⟩ : i ≤ l.length ∧ 0 ≤ m ∧ m ≤ i * 400000 ∧ cfGo ((l.take i).map Rcd.id) m (l.drop i) = cfGo [] 0 l := ht
      push_cast (config := { maxSteps := 10000000 })
      refine ⟨fun hi => ?_, fun hi => ?_⟩
      · rw [dropG (d := noRec) hi, cfGo] at h4
        have ea := cf_app hi
        have ok := recsOk_at hl hi
        generalize l.getD i noRec = r at *
        refine ⟨hi, ok, fun g => ?_, fun g => ⟨fun g2 => ?_, fun g2 => ⟨⟨ok, g⟩, ?_⟩⟩⟩
        · rw [if_pos g] at h4; exact h4
        · rw [if_neg (fun x => x g), if_pos g2] at h4; exact h4
        · rw [if_neg (fun x => x g), if_neg (by rw [g2]; simp)] at h4
          have hb := recB_le g
          exact ⟨⟨by omega, by omega⟩, ⟨by omega, by omega⟩, ((i + 1, m + (recB r).length) : Nat × Int), ⟨by show i + 1 ≤ _; omega, by show 0 ≤ m + _; omega, by show m + _ ≤ ((i + 1 : Nat) : Int) * 400000; omega, by rw [ea]; exact h4⟩, by show l.length - (i + 1) < l.length - i; omega, ⟨rfl, by show (i : Int) + 1 = ((i + 1 : Nat) : Int); omega⟩, fun k => by rw [putM_seen, ← ea]⟩
      · rw [List.drop_eq_nil_of_le (by omega), cfGo] at h4
        exact ⟨fun g => by rw [if_pos g] at h4; exact h4, fun g => by rw [if_neg g] at h4; exact h4⟩
  · cases h
attribute [push_cast] ckCheckFile
def fileR (l : List Rcd) : List UInt8 := if checkFileL l = 0 then fileB l else []
def ckFileBytes : Ck
  | [.sl n f] => some (isLs cRec n f ∧ recsOk (lsOf cRec n f), .tup [.sl (fileR (lsOf cRec n f)).length (byF (fileR (lsOf cRec n f))), .int .i64 (checkFileL (lsOf cRec n f))])
  | _ => none
attribute [push_cast] ckFileBytes
/- what a record shows -/
def showG (l : List Rcd) : Nat → List (List UInt8) → List UInt8 → List UInt8 × Int
  | 0, _, _ => ([], 0)
  | f + 1, seen, id =>
    if ¬ 0 ≤ fndL l id then ([], 9)
    else if seen.contains id = true then ([], 17)
    else if ¬ (fndR l id).ki = 4 then ((joinL l id).1.bd, (joinL l id).2)
    else showG l f (seen ++ [id]) (fndR l id).ow
def showL (l : List Rcd) (id : List UInt8) : List UInt8 × Int := if ¬ checkFileL l = 0 then ([], checkFileL l) else showG l (l.length + 1) [] id
theorem nodup_len {α : Type} [DecidableEq α] : ∀ (l m : List α), l.Nodup → (∀ x ∈ l, x ∈ m) → l.length ≤ m.length
  | [], _, _, _ => Nat.zero_le _
  | x :: l, m, hn, hm => by
    obtain ⟨h1, h2⟩ := List.nodup_cons.1 hn
    have := nodup_len l (m.erase x) h2 fun y hy => by
      have hne : y ≠ x := fun e => h1 (e ▸ hy)
      exact (List.mem_erase_of_ne hne).2 (hm y (by simp [hy]))
    rw [List.length_erase_of_mem (hm x (by simp))] at this
    have h3 : 0 < m.length := List.length_pos_iff.2 (List.ne_nil_of_mem (hm x (by simp)))
    rw [List.length_cons]; omega
theorem fnd_mem {l : List Rcd} {s : List UInt8} (h : 0 ≤ fndL l s) : s ∈ l.map Rcd.id := by
  obtain ⟨h1, h2⟩ := fndL_ok h
  have := getD_memH (d := noRec) h1
  exact List.mem_map.2 ⟨_, this, h2.1⟩
/-- between the rounds -/
def shI (l : List Rcd) (R : List UInt8 × Int) (t : Nat × List (List UInt8) × List UInt8) : Prop := t.2.1.Nodup ∧ (∀ x ∈ t.2.1, x ∈ l.map Rcd.id) ∧ l.length + 1 ≤ t.1 + t.2.1.length ∧ R = showG l t.1 t.2.1 t.2.2
theorem shI_pos {l : List Rcd} {R : List UInt8 × Int} {t : Nat × List (List UInt8) × List UInt8} (h : shI l R t) : 1 ≤ t.1 ∧ t.2.1.length ≤ l.length := by
  have := nodup_len t.2.1 (l.map Rcd.id) h.1 h.2.1
  rw [List.length_map] at this
  have := h.2.2.1
  omega
theorem shI_s {l : List Rcd} {R : List UInt8 × Int} {f : Nat} {seen : List (List UInt8)} {id : List UInt8} (h : shI l R (f + 1, seen, id)) (h1 : 0 ≤ fndL l id) (h2 : ¬ seen.contains id = true) (h3 : (fndR l id).ki = 4) : shI l R (f, seen ++ [id], (fndR l id).ow) := by
  obtain ⟨a, b, c, d⟩ := h
  refine ⟨?_, fun x hx => ?_, ?_, ?_⟩
  · show (seen ++ [id]).Nodup
    rw [List.nodup_append]
    refine ⟨a, by simp, fun x hx y hy => ?_⟩
    simp only [List.mem_singleton] at hy
    subst hy
    exact fun e => h2 (by rw [List.contains_iff_mem]; exact e ▸ hx)
  · have hx : x ∈ seen ++ [id] := hx
    rcases List.mem_append.1 hx with hx | hx
    · exact b x hx
    · simp only [List.mem_singleton] at hx
      subst hx; exact fnd_mem h1
  · show l.length + 1 ≤ f + (seen ++ [id]).length
    have c : l.length + 1 ≤ f + 1 + seen.length := c
    rw [List.length_append, List.length_singleton]; omega
  · rw [d]
    show (if ¬ 0 ≤ fndL l id then _ else if _ then _ else if _ then _ else _) = _
    rw [if_neg (fun x => x h1), if_neg h2, if_neg (fun x => x h3)]
theorem shI_0 (l : List Rcd) (id : List UInt8) : shI l (showG l (l.length + 1) [] id) (l.length + 1, [], id) := ⟨List.nodup_nil, fun _ h => (by cases h), Nat.le_refl _, rfl⟩
theorem fnd_of_mem {l : List Rcd} {s : List UInt8} (h : s ∈ l.map Rcd.id) : 0 ≤ fndL l s := by
  obtain ⟨r, hr, rfl⟩ := List.mem_map.1 h
  unfold fndL
  cases hk : l.findIdx? (fun x => x.id == r.id) with
  | some k => simp only; omega
  | none =>
    rw [List.findIdx?_eq_none_iff] at hk
    have := hk r hr
    simp at this
theorem joinL_err {l : List Rcd} {s : List UInt8} (h : ¬ (joinL l s).2 = 0) : (joinL l s).1 = noRec := by
  unfold joinL at h ⊢
  split
  · rfl
  · rename_i h1
    rw [if_neg h1] at h
    unfold jnR at h ⊢
    split
    · rename_i h2; rw [if_pos h2] at h; exact absurd rfl h
    · rename_i h2
      rw [if_neg h2] at h
      split
      · rfl
      · rename_i h3
        rw [if_neg h3] at h
        cases hj : joinG (pcsL (fndR l s) s l) (numV (hdV (fndR l s) wPieces) - 1).toNat 2 (fndR l s).bd with
        | none => rfl
        | some b =>
          rw [hj] at h
          unfold jnE at h ⊢
          simp only at h ⊢
          split
          · rename_i h4; rw [if_pos h4] at h; exact absurd rfl h
          · rfl
def ckShown : Ck
  | [.sl n f, .str s] => some (isLs cRec n f ∧ recsOk (lsOf cRec n f), .tup [.sl (showL (lsOf cRec n f) s).1.length (byF (showL (lsOf cRec n f) s).1), .int .i64 (showL (lsOf cRec n f) s).2])
  | _ => none
def ckShown0 : Ck
  | [.sl n f, .str s] => some (isLs cRec n f ∧ recsOk (lsOf cRec n f) ∧ checkFileL (lsOf cRec n f) = 0, .tup [.sl (showL (lsOf cRec n f) s).1.length (byF (showL (lsOf cRec n f) s).1), .int .i64 (showL (lsOf cRec n f) s).2])
  | _ => none
def joinedL (l : List Rcd) (s : List UInt8) : Rcd × Int := if ¬ checkFileL l = 0 then (noRec, checkFileL l) else joinL l s
def ckJoinedX : Ck
  | [.sl n f, .str s] => some (isLs cRec n f ∧ recsOk (lsOf cRec n f), .tup [cRec.enc (joinedL (lsOf cRec n f) s).1, .int .i64 (joinedL (lsOf cRec n f) s).2])
  | _ => none

/- files of records -/
def decFile : V → List Rcd
  | .sl n f => lsOf cRec n f
  | _ => []
def cFile : Cod (List Rcd) := ⟨fun l => .sl l.length (lsF cRec l), decFile, [], fun l => lsOf_ls l⟩
@[push_cast] theorem enc_file (l : List Rcd) : cFile.enc l = .sl l.length (lsF cRec l) := rfl
@[push_cast] theorem dec_file (n : Nat) (f : Nat → V) : cFile.dec (.sl n f) = lsOf cRec n f := rfl
@[push_cast] theorem lsF_file (l : List (List Rcd)) (i : Nat) : lsF cFile l i = .sl (l.getD i []).length (lsF cRec (l.getD i [])) := rfl
/-- records divided: the closed files, the open one, and its length -/
def divGo (m : Int) : List (List Rcd) → List Rcd → Int → List Rcd → List (List Rcd)
  | g, c, _, [] => g ++ [c]
  | g, c, k, r :: t => if m < k + (recB r).length then divGo m (g ++ [c]) [r] (recB r).length t else divGo m g (c ++ [r]) (k + (recB r).length) t
def divOf (m : Int) : List Rcd → List (List Rcd)
  | [] => []
  | r :: t => divGo m [] [r] (recB r).length t
def divL (l : List Rcd) (m : Int) : List (List Rcd) := if checkFileL l = 0 ∧ 1 ≤ m ∧ m ≤ 500000 then divOf m l else []
def divE (l : List Rcd) (m : Int) : Int := if checkFileL l = 0 then (if 1 ≤ m ∧ m ≤ 500000 then 0 else 1) else checkFileL l
theorem fileB_len1 (r : Rcd) : (fileB [r]).length = (recB r).length := by simp [fileB]
theorem div_flat (m : Int) : ∀ (t : List Rcd) (g : List (List Rcd)) (c : List Rcd) (k : Int), (divGo m g c k t).flatten = g.flatten ++ c ++ t
  | [], g, c, k => by simp [divGo]
  | r :: t, g, c, k => by
    rw [divGo]
    split
    · rw [div_flat]; simp
    · rw [div_flat]; simp
theorem divOf_flat (m : Int) (l : List Rcd) : (divOf m l).flatten = l := by
  cases l with
  | nil => rfl
  | cons r t => show (divGo m [] [r] _ t).flatten = _; rw [div_flat]; simp
def fitF (m : Int) (c : List Rcd) : Prop := c ≠ [] ∧ (((fileB c).length : Int) ≤ m ∨ c.length ≤ 1)
theorem div_fit (m : Int) : ∀ (t : List Rcd) (g : List (List Rcd)) (c : List Rcd) (k : Int), (∀ x ∈ g, fitF m x) → fitF m c → k = ((fileB c).length : Int) → ∀ x ∈ divGo m g c k t, fitF m x
  | [], g, c, k, hg, hc, hk => by
    intro x hx
    rw [divGo, List.mem_append, List.mem_singleton] at hx
    rcases hx with h | rfl
    · exact hg x h
    · exact hc
  | r :: t, g, c, k, hg, hc, hk => by
    rw [divGo]
    split
    · refine div_fit m t _ _ _ (fun x hx => ?_) ⟨by simp, .inr (by simp)⟩ (by rw [fileB_len1])
      rcases List.mem_append.1 hx with h | h
      · exact hg x h
      · rw [List.mem_singleton.1 h]; exact hc
    · refine div_fit m t g _ _ hg ⟨by simp, .inl ?_⟩ ?_
      · rw [fileB_app, List.length_append, fileB_len1]; omega
      · rw [fileB_app, List.length_append, fileB_len1]; omega
theorem divOf_fit (m : Int) (l : List Rcd) : ∀ x ∈ divOf m l, fitF m x := by
  cases l with
  | nil => intro x hx; cases hx
  | cons r t => exact div_fit m t [] [r] _ (fun x hx => by cases hx) ⟨by simp, .inr (by simp)⟩ (by rw [fileB_len1])
/- a piece of a right file is right -/
theorem cfGo_len : ∀ {l : List Rcd} {s : List (List UInt8)} {m : Int}, cfGo s m l = 0 → ∀ {s' : List (List UInt8)} {m' : Int}, (∀ x ∈ s', x ∈ s) → m' ≤ m → cfGo s' m' l = 0
  | [], s, m, h, s', m', hs, hm => by
    rw [cfGo] at h ⊢
    split at h
    · omega
    · rw [if_neg (by omega)]
  | r :: t, s, m, h, s', m', hs, hm => by
    rw [cfGo] at h ⊢
    by_cases h1 : checkRecL r = 0
    · rw [if_neg (fun x => x h1)] at h ⊢
      by_cases h2 : s.contains r.id = true
      · rw [if_pos h2] at h; omega
      · rw [if_neg h2] at h
        rw [if_neg (fun x => h2 (by rw [List.contains_iff_mem] at x ⊢; exact hs _ x))]
        exact cfGo_len h (fun x hx => by
          rcases List.mem_append.1 hx with a | a
          · exact List.mem_append_left _ (hs x a)
          · exact List.mem_append_right _ a) (by omega)
    · rw [if_pos h1] at h; exact absurd h h1
theorem cfGo_l : ∀ {a b : List Rcd} {s : List (List UInt8)} {m : Int}, 0 ≤ m → cfGo s m (a ++ b) = 0 → cfGo s m a = 0
  | [], b, s, m, hm, h => by
    have := (cfGo_ok h).2
    rw [cfGo, if_neg (by omega)]
  | r :: t, b, s, m, hm, h => by
    rw [List.cons_append, cfGo] at h
    rw [cfGo]
    by_cases h1 : checkRecL r = 0
    · rw [if_neg (fun x => x h1)] at h ⊢
      by_cases h2 : s.contains r.id = true
      · rw [if_pos h2] at h; omega
      · rw [if_neg h2] at h ⊢
        exact cfGo_l (by omega) h
    · rw [if_pos h1] at h; exact absurd h h1
theorem cfGo_r : ∀ {a b : List Rcd} {s : List (List UInt8)} {m : Int}, 0 ≤ m → cfGo s m (a ++ b) = 0 → cfGo [] 0 b = 0
  | [], b, s, m, hm, h => cfGo_len h (fun x hx => by cases hx) hm
  | r :: t, b, s, m, hm, h => by
    rw [List.cons_append, cfGo] at h
    by_cases h1 : checkRecL r = 0
    · rw [if_neg (fun x => x h1)] at h
      by_cases h2 : s.contains r.id = true
      · rw [if_pos h2] at h; omega
      · rw [if_neg h2] at h
        exact cfGo_r (by omega) h
    · rw [if_pos h1] at h; exact absurd h h1
theorem file_piece {a b c : List Rcd} (h : checkFileL (a ++ b ++ c) = 0) : checkFileL b = 0 := by
  unfold checkFileL at h ⊢
  split at h
  · omega
  · rename_i hl
    simp only [List.length_append] at hl
    rw [if_neg (by omega)]
    rw [List.append_assoc] at h
    have h1 := cfGo_r (by omega) h
    exact cfGo_l (by omega) h1
theorem file_part {L : List (List Rcd)} (h : checkFileL L.flatten = 0) {x : List Rcd} (hx : x ∈ L) : checkFileL x = 0 := by
  obtain ⟨a, b, rfl⟩ := List.append_of_mem hx
  refine file_piece (a := a.flatten) (c := b.flatten) ?_
  simpa using h

/- the names of a right file are apart -/
theorem cf_nodup' : ∀ {l : List Rcd} {s : List (List UInt8)} {m : Int}, cfGo s m l = 0 → (∀ r ∈ l, s.contains r.id = false) ∧ (l.map Rcd.id).Nodup
  | [], s, m, h => ⟨fun r hr => (by cases hr), List.nodup_nil⟩
  | r :: t, s, m, h => by
    rw [cfGo] at h
    by_cases h1 : checkRecL r = 0
    · rw [if_neg (fun x => x h1)] at h
      by_cases h2 : s.contains r.id = true
      · rw [if_pos h2] at h; omega
      · rw [if_neg h2] at h
        obtain ⟨a, b⟩ := cf_nodup' h
        refine ⟨fun x hx => ?_, ?_⟩
        · rcases List.mem_cons.1 hx with rfl | hx
          · simpa using h2
          · have := a x hx
            simp only [Bool.eq_false_iff, ne_eq, List.contains_iff_mem, List.mem_append, not_or] at this ⊢
            exact this.1
        · rw [List.map_cons, List.nodup_cons]
          refine ⟨fun hm => ?_, b⟩
          obtain ⟨x, hx, e⟩ := List.mem_map.1 hm
          have := a x hx
          simp [e] at this
    · rw [if_pos h1] at h; exact absurd h h1
theorem file_apart {l : List Rcd} (h : checkFileL l = 0) {i j : Nat} (hi : i < l.length) (hj : j < l.length) (e : (l.getD i noRec).id = (l.getD j noRec).id) : i = j := by
  have hn : (l.map Rcd.id).Nodup := by
    unfold checkFileL at h
    split at h
    · omega
    · exact (cf_nodup' h).2
  rw [List.getD_eq_getElem?_getD, List.getD_eq_getElem?_getD, List.getElem?_eq_getElem hi, List.getElem?_eq_getElem hj] at e
  have := (List.getElem_inj (i := i) (j := j) (xs := l.map Rcd.id) (h₀ := by simpa using hi) (h₁ := by simpa using hj) hn).1
  exact this (by simpa using e)
/-- one record's step -/
def woS (s : List (List UInt8)) (r : Rcd) : List (List UInt8) := if s.contains r.id = false ∧ s.contains r.ow = true then s ++ [r.id] else s
/-- once over all records -/
def woP (s : List (List UInt8)) (l : List Rcd) : List (List UInt8) := l.foldl woS s
def woN (l : List Rcd) : Nat → List (List UInt8) → List (List UInt8)
  | 0, s => s
  | n + 1, s => woN l n (woP s l)
theorem woP_cons (s : List (List UInt8)) (r : Rcd) (t : List Rcd) : woP s (r :: t) = woP (woS s r) t := rfl
theorem woS_or (s : List (List UInt8)) (r : Rcd) : woS s r = s ∨ (s.contains r.id = false ∧ woS s r = s ++ [r.id]) := by
  unfold woS
  split
  · rename_i h; exact .inr ⟨h.1, rfl⟩
  · exact .inl rfl
theorem woS_sub (s : List (List UInt8)) (r : Rcd) {x : List UInt8} (h : s.contains x = true) : (woS s r).contains x = true := by
  rcases woS_or s r with e | ⟨_, e⟩ <;> rw [e]
  · exact h
  · rw [List.contains_iff_mem] at h ⊢; exact List.mem_append_left _ h
theorem woP_sub : ∀ (t : List Rcd) (s : List (List UInt8)) {x : List UInt8}, s.contains x = true → (woP s t).contains x = true
  | [], _, _, h => h
  | r :: t, s, _, h => woP_sub t _ (woS_sub s r h)
theorem woP_len : ∀ (t : List Rcd) (s : List (List UInt8)), s.length ≤ (woP s t).length
  | [], _ => Nat.le_refl _
  | r :: t, s => by
    rw [woP_cons]
    have := woP_len t (woS s r)
    rcases woS_or s r with e | ⟨_, e⟩ <;> rw [e] at this ⊢
    · exact this
    · simp at this; omega
theorem woP_same : ∀ (t : List Rcd) (s : List (List UInt8)), (woP s t).length = s.length → woP s t = s ∧ ∀ r ∈ t, woS s r = s
  | [], s, _ => ⟨rfl, fun r hr => by cases hr⟩
  | r :: t, s, h => by
    rw [woP_cons] at h ⊢
    have h2 := woP_len t (woS s r)
    rcases woS_or s r with e | ⟨_, e⟩
    · rw [e] at h h2 ⊢
      obtain ⟨a, b⟩ := woP_same t s h
      exact ⟨a, fun x hx => by rcases List.mem_cons.1 hx with rfl | hx; exact e; exact b x hx⟩
    · rw [e] at h h2; simp at h2; omega
/-- how many are not in -/
def woC (l : List Rcd) (s : List (List UInt8)) : Nat := (l.filter fun r => !s.contains r.id).length
theorem woC_le {l : List Rcd} {s s' : List (List UInt8)} (h : ∀ x, s.contains x = true → s'.contains x = true) : woC l s' ≤ woC l s := by
  unfold woC
  induction l with
  | nil => exact Nat.le_refl _
  | cons r t ih =>
    simp only [List.filter_cons]
    cases e : s.contains r.id with
    | true => rw [h _ e]; simpa using ih
    | false =>
      cases e' : s'.contains r.id
      · simp only [Bool.not_false, if_true, List.length_cons]; omega
      · simp only [Bool.not_false, Bool.not_true, if_true, List.length_cons, Bool.false_eq_true, if_false]; omega
theorem woC_lt {l : List Rcd} {s s' : List (List UInt8)} (h : ∀ x, s.contains x = true → s'.contains x = true) {r : Rcd} (hr : r ∈ l) (h1 : s.contains r.id = false) (h2 : s'.contains r.id = true) : woC l s' < woC l s := by
  obtain ⟨a, b, rfl⟩ := List.append_of_mem hr
  have ha := woC_le (l := a) h
  have hb := woC_le (l := b) h
  unfold woC at ha hb ⊢
  rw [List.filter_append, List.filter_append, List.length_append, List.length_append, List.filter_cons, List.filter_cons, h1, h2]
  simp only [Bool.not_true, Bool.not_false, if_true, List.length_cons]
  simp only [Bool.false_eq_true, if_false]
  omega
theorem woP_new : ∀ (t : List Rcd) (s : List (List UInt8)), (woP s t).length ≠ s.length → ∃ r ∈ t, s.contains r.id = false ∧ (woP s t).contains r.id = true
  | [], s, h => absurd rfl h
  | r :: t, s, h => by
    rw [woP_cons] at h ⊢
    rcases woS_or s r with e | ⟨e0, e⟩
    · rw [e] at h ⊢
      obtain ⟨x, hx, h1, h2⟩ := woP_new t s h
      exact ⟨x, List.mem_cons_of_mem _ hx, h1, h2⟩
    · exact ⟨r, by simp, e0, woP_sub t _ (by rw [e, List.contains_iff_mem]; simp)⟩
theorem woP_dec {l : List Rcd} {s : List (List UInt8)} (h : (woP s l).length ≠ s.length) : woC l (woP s l) < woC l s := by
  obtain ⟨r, hr, h1, h2⟩ := woP_new l s h
  exact woC_lt (fun x hx => woP_sub l s hx) hr h1 h2
theorem woN_fix {l : List Rcd} {s : List (List UInt8)} (h : woP s l = s) : ∀ n, woN l n s = s
  | 0 => rfl
  | n + 1 => by rw [woN, h]; exact woN_fix h n
theorem woN_end {l : List Rcd} : ∀ (n : Nat) (s : List (List UInt8)), woC l s ≤ n → woP (woN l n s) l = woN l n s
  | 0, s, h => by
    rw [woN]
    refine (woP_same l s ?_).1
    refine Classical.byContradiction fun hne => ?_
    have := woP_dec hne
    omega
  | n + 1, s, h => by
    rw [woN]
    by_cases e : (woP s l).length = s.length
    · rw [(woP_same l s e).1, woN_fix (woP_same l s e).1, (woP_same l s e).1]
    · exact woN_end n _ (by have := woP_dec e; omega)
theorem woN_comm (l : List Rcd) : ∀ (n : Nat) (s : List (List UInt8)), woN l (n + 1) s = woP (woN l n s) l
  | 0, s => rfl
  | n + 1, s => by rw [woN, woN_comm l n, ← woN]
theorem woC_len (l : List Rcd) (s : List (List UInt8)) : woC l s ≤ l.length := List.length_filter_le _ _
/-- all that is gone -/
def woA (l : List Rcd) (s : List (List UInt8)) : List (List UInt8) := woN l l.length s
theorem woA_step (l : List Rcd) (s : List (List UInt8)) : woA l (woP s l) = woA l s := by
  show woN l (l.length + 1) s = _
  rw [woN_comm]
  exact woN_end _ _ (woC_len l s)
theorem woA_fix (l : List Rcd) (s : List (List UInt8)) : woP (woA l s) l = woA l s := woN_end _ _ (woC_len l s)
theorem woN_sub {l : List Rcd} : ∀ (n : Nat) (s : List (List UInt8)) {x : List UInt8}, s.contains x = true → (woN l n s).contains x = true
  | 0, _, _, h => h
  | n + 1, s, _, h => woN_sub n _ (woP_sub l s h)
/-- the error of names, each of a record -/
def woE (l : List Rcd) : List (List UInt8) → Int
  | [] => 0
  | x :: t => if nameL x = true then (if 0 ≤ fndL l x then woE l t else 9) else 5
def woErr (l : List Rcd) (ids : List (List UInt8)) : Int := if checkFileL l = 0 then (if 1000 < ids.length then 2 else woE l ids) else checkFileL l
def woK (l : List Rcd) (s : List (List UInt8)) : List Rcd := l.filter fun r => !s.contains r.id
def woL (l : List Rcd) (ids : List (List UInt8)) : List Rcd := if woErr l ids = 0 then woK l (woA l ids) else []
theorem woE_ok : ∀ {l : List Rcd} {t : List (List UInt8)}, woE l t = 0 → ∀ x ∈ t, nameL x = true ∧ 0 ≤ fndL l x
  | l, [], _, x, hx => by cases hx
  | l, y :: t, h, x, hx => by
    rw [woE] at h
    split at h
    · split at h
      · rcases List.mem_cons.1 hx with rfl | hx
        · exact ⟨by assumption, by assumption⟩
        · exact woE_ok h x hx
      · cases h
    · cases h
/- marks by number -/
def WoR (l : List Rcd) (s : List (List UInt8)) (g : Nat → Bool) : Prop := (∀ i, i < l.length → g i = s.contains (l.getD i noRec).id) ∧ ∀ x ∈ s, 0 ≤ fndL l x
def setB (g : Nat → Bool) (i : Nat) : Nat → Bool := fun j => bif decide (j = i) then true else g j
theorem fndL_own {l : List Rcd} {i : Nat} (hi : i < l.length) : 0 ≤ fndL l (l.getD i noRec).id := by
  rw [fndL_in, List.contains_iff_mem, List.mem_map]
  exact ⟨l.getD i noRec, by rw [List.getD_eq_getElem?_getD, List.getElem?_eq_getElem hi]; exact List.getElem_mem hi, rfl⟩
theorem wor_put {l : List Rcd} (ha : ∀ i j, i < l.length → j < l.length → (l.getD i noRec).id = (l.getD j noRec).id → i = j) {s : List (List UInt8)} {g : Nat → Bool} (h : WoR l s g) {i : Nat} (hi : i < l.length) : WoR l (s ++ [(l.getD i noRec).id]) (setB g i) := by
  refine ⟨fun j hj => ?_, fun x hx => ?_⟩
  · unfold setB
    by_cases e : j = i
    · subst e
      rw [decide_eq_true rfl]
      exact (List.contains_iff_mem.2 (by simp)).symm
    · rw [decide_eq_false e, cond_false, h.1 j hj, Bool.eq_iff_iff, List.contains_iff_mem, List.contains_iff_mem, List.mem_append, List.mem_singleton]
      exact ⟨.inl, fun x => x.elim id fun q => absurd (ha j i hj hi q) e⟩
  · rcases List.mem_append.1 hx with hx | hx
    · exact h.2 x hx
    · rw [List.mem_singleton.1 hx]; exact fndL_own hi
theorem wor_same {l : List Rcd} {s : List (List UInt8)} {g : Nat → Bool} (h : WoR l s g) {i : Nat} (hi : i < l.length) (hc : s.contains (l.getD i noRec).id = true) : WoR l s (setB g i) := by
  refine ⟨fun j hj => ?_, h.2⟩
  unfold setB
  by_cases e : j = i
  · subst e; rw [decide_eq_true rfl, hc]; rfl
  · rw [decide_eq_false e]; exact h.1 j hj
theorem wor_ow {l : List Rcd} {s : List (List UInt8)} {g : Nat → Bool} (h : WoR l s g) (x : List UInt8) : s.contains x = true ↔ 0 ≤ fndL l x ∧ g (fndL l x).toNat = true := by
  constructor
  · intro hc
    have h0 := h.2 x (List.contains_iff_mem.1 hc)
    obtain ⟨a, b, _⟩ := fndL_ok h0
    exact ⟨h0, by rw [h.1 _ a, b]; exact hc⟩
  · rintro ⟨h0, hg⟩
    obtain ⟨a, b, _⟩ := fndL_ok h0
    rw [h.1 _ a, b] at hg
    exact hg
/-- the step of marks -/
theorem wor_step {l : List Rcd} (ha : ∀ i j, i < l.length → j < l.length → (l.getD i noRec).id = (l.getD j noRec).id → i = j) {s : List (List UInt8)} {g : Nat → Bool} (h : WoR l s g) {i : Nat} (hi : i < l.length) :
    (s.contains (l.getD i noRec).ow = true → WoR l (woS s (l.getD i noRec)) (setB g i)) ∧ (¬ s.contains (l.getD i noRec).ow = true → WoR l (woS s (l.getD i noRec)) g) := by
  refine ⟨fun hc => ?_, fun hc => ?_⟩
  · unfold woS
    by_cases e : s.contains (l.getD i noRec).id = true
    · rw [if_neg (by rw [e]; simp)]; exact wor_same h hi e
    · rw [if_pos ⟨by simpa using e, hc⟩]; exact wor_put ha h hi
  · unfold woS
    rw [if_neg (fun x => hc x.2)]; exact h
theorem woP_take {l : List Rcd} {s : List (List UInt8)} {i : Nat} (hi : i < l.length) : woP s (l.take (i + 1)) = woS (woP s (l.take i)) (l.getD i noRec) := by
  rw [takeG (d := noRec) hi]
  unfold woP
  rw [List.foldl_append]; rfl
/- what is kept, step by step -/
theorem woK_take {l : List Rcd} {s : List (List UInt8)} {i : Nat} (hi : i < l.length) : woK (l.take (i + 1)) s = if s.contains (l.getD i noRec).id = true then woK (l.take i) s else woK (l.take i) s ++ [l.getD i noRec] := by
  rw [takeG (d := noRec) hi]
  unfold woK
  rw [List.filter_append, List.filter_cons]
  cases s.contains (l.getD i noRec).id <;> simp
theorem woK_len (l : List Rcd) (s : List (List UInt8)) : (woK l s).length ≤ l.length := List.length_filter_le _ _
/- what the law says -/
theorem wo_none {l : List Rcd} {ids : List (List UInt8)} {x : Rcd} (hx : x ∈ woK l (woA l ids)) : ids.contains x.id = false := by
  unfold woK at hx
  rw [List.mem_filter] at hx
  cases e : ids.contains x.id with
  | false => rfl
  | true =>
    have := woN_sub (l := l) l.length ids e
    have h2 := hx.2
    unfold woA at h2
    rw [this] at h2; cases h2
theorem wo_of {l : List Rcd} {ids : List (List UInt8)} {x : Rcd} (hx : x ∈ woK l (woA l ids)) (h : 0 ≤ fndL l x.ow) : 0 ≤ fndL (woK l (woA l ids)) x.ow := by
  rw [fndL_in, List.contains_iff_mem, List.mem_map] at h ⊢
  obtain ⟨y, hy, e⟩ := h
  refine ⟨y, ?_, e⟩
  unfold woK at hx ⊢
  rw [List.mem_filter] at hx ⊢
  refine ⟨hy, ?_⟩
  cases hc : (woA l ids).contains y.id with
  | false => rfl
  | true =>
    have hf := (woP_same l (woA l ids) (by rw [woA_fix])).2 x hx.1
    have h1 : (woA l ids).contains x.id = false := by simpa using hx.2
    unfold woS at hf
    rw [if_pos ⟨h1, by rw [← e]; exact hc⟩] at hf
    have := congrArg List.length hf
    simp at this

end Go.Abs
