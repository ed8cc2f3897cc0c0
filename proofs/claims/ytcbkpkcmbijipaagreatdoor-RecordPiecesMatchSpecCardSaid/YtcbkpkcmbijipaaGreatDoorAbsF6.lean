/- what functions of this program compute: contracts, each a function's own -/
import Derived.Test.YtcbkpkcmbijipaaGreatDoorAbsK3
import Derived.Test.YtcbkpkcmbijipaaGreatDoorAbsFacts
import Derived.Test.YtcbkpkcmbijipaaGreatDoorAbsF5
import Derived.Test.YtcbkpkcmbijipaaGreatDoorAbsShelf
import Derived.Lib.SlTrimSet
import Derived.Lib.Atoi
import Derived.Lib.Itoa
import Derived.Lib.ItoaNum
import Derived.Lib.AtoiErrMem
import Derived.Lib.Repeat
import Derived.Lib.ItoaLen
import Derived.Lib.Walk
import Derived.WalkKit
import Derived.OwnWalkIn
import Derived.TacticsInMore
import Derived.RegionIn
import Derived.LoopNIn
import Derived.LoopIn
import Derived.Shelf.Abstract
namespace Go.Abs
open Go Go.Proofs
set_option maxHeartbeats 4000000
set_option maxRecDepth 100000
set_option linter.unusedVariables false
set_option linter.unusedSimpArgs false
theorem pcall_inG {ct : Ct} {ow : Nat → Bool} {n : Nat} {an : Nat → List Nat} (ad : List Adj) (hc : CtOk pg ct) (f : FuncId) {fn : Func} {code : Code} {rs : List ResultVar} (hf : pg.prog.funcs[f]? = some fn) (hb : fn.body = some code) (hrs : fn.results.toList = rs)
    (hent : entB pg.prog f = true) (hn : fn.ntmps = n) (hok : (codeOk an code && Nat.ble n 8999) = true) {args : List V} (ha : Nat.ble args.length n = true) {r : V} (hr : r.noId = true) (h : exec ⟨pg, ct, ow, n, an, false, none⟩ code ⟨argE args, hOf []⟩ (PostF pg.prog ad rs r [])) : PCall pg f args r := by
  simp only [Bool.and_eq_true] at hok
  exact pcall_of (c := ⟨pg, ct, ow, n, an, false, none⟩) ⟨hc, fol⟩ hf hb hent hn (Nat.le_of_ble_eq_true hok.2) hok.1 (Nat.le_of_ble_eq_true ha) hr (fun e s => PostF.post hrs) h
@[push_cast] theorem mn_lookup (t : TypeId) (x y : Operand) (b : Bool) : mayNew (.lookup t x y b) = false := rfl
@[push_cast] theorem mn_mapUpd (t : TypeId) (x y z : Operand) : mayNew (.mapUpdate t x y z) = false := rfl
section
variable {T : Type} (d : MD) (sz m : Nat) (l : T → List (Nat × V)) (hl : T → HL) (I : T → Prop) (μ : T → Nat) (rows : T → Rws) (e0 : Nat) (lX : List (Nat × V)) (hlX : HL) (rX : Rws) (key : T → MK) (t : T) (u : MK → Value) (s : St)
@[push_cast] theorem poolX_n : poolX d sz m l hl I μ rows e0 lX hlX rX key t u .normal s = ∃ t' o hot, I t' ∧ μ t' < μ t ∧ levE s (l t') ∧ levH s ((m, .mh d (conM (rows t) u) (key t) o) :: (hot ++ hl t')) ∧ hotOk sz m (hl t') (rows t' (key t)) o hot ∧ ∀ k', k' ≠ key t → rows t' k' = rows t k' := rfl
@[push_cast] theorem poolX_e (i : Nat) : poolX d sz m l hl I μ rows e0 lX hlX rX key t u (.exit i) s = (i = e0 ∧ ∃ o hot, levE s lX ∧ levH s ((m, .mh d (conM (rows t) u) (key t) o) :: (hot ++ hlX)) ∧ hotOk sz m hlX (rX (key t)) o hot ∧ ∀ k', k' ≠ key t → rX k' = rows t k') := rfl
end
theorem al_men {l : List (Nat × V)} {d : Nat} (h : l.all (fun p => !V.men d p.2) = true) (x : Nat) : V.men d (al l x) = false := by
  induction l with
  | nil => rfl
  | cons p r ih =>
    obtain ⟨k, v⟩ := p
    simp only [List.all_cons, Bool.and_eq_true, Bool.not_eq_true'] at h
    simp only [al]
    cases Nat.beq k x with
    | false => exact ih h.2
    | true => exact h.1
theorem hOf_all {P : Nat → Blk → Prop} : ∀ {hl : HL}, (∀ p ∈ hl, P p.1 p.2) → ∀ id b, hOf hl id = some b → P id b
  | [], _, id, b, h => by cases h
  | (k, c) :: r, hp, id, b, h => by
    simp only [hOf] at h
    by_cases e : id = k
    · subst e
      rw [upd_same] at h; cases h
      exact hp (id, c) (by simp)
    · rw [upd_ne _ _ e] at h
      exact hOf_all (fun p hq => hp p (by simp [hq])) id b h
theorem men_cells {d : Nat} {cs : List V} (h : V.menL d cs = false) : ¬ Blk.men d (.cells cs) := by
  rintro ⟨i, _, hi⟩
  rw [menL_getD d cs h i] at hi; cases hi
theorem men_by {d n : Nat} {s : List UInt8} : ¬ Blk.men d (.vec 1 n (byF s)) := by
  rintro ⟨i, j, _, hj⟩
  cases j with
  | zero => cases hj
  | succ j => cases hj
theorem conJoined : Con pg 29 ckJoined := by
  have hct := ctA_ok conFind6 (ctW_ok conCloneHdN (ctW_ok conCloneByN (ctA_ok conRhead (ctA_ok conNumber (ctF_ok conDelH (ctA_ok conCheckRec (ctN_ok _)))))))
  intro args q r h hq
  unfold ckJoined at h
  split at h
  · cases h
    rename_i n f s
    refine pcall_args (args' := [.sl (lsOf cRec n f).length (lsF cRec (lsOf cRec n f)), .str s]) ⟨isLs.vle hq.1, VLe.refl _, trivial⟩ ?_
    obtain ⟨-, hl, hck⟩ := hq
    generalize lsOf cRec n f = l at hl hck ⊢
    refine pcall_inG (ow := fun _ => false) (n := 145) (an := (anL [(4, [0, 1, 3, 0, 8, 31, 31, 127, 255, 511]), (18, [0, 0, 2, 0, 14, 30, 62, 126, 0, 0, 512, 0, 3584, 7680, 15872, 32510, 65534, 0, 131072, 524286, 1048575]), (25, [0, 1, 0, 0, 12, 28, 60, 124, 255, 511, 1023])])) (rs := [.cell 4 33, .tmp 5]) [.frz 35, .frz 32] hct 29 n29 rfl rfl e29 rfl (bodyOk_at o29 rfl rfl) rfl rfl ?_
    push_cast (config := { maxSteps := 10000000 })
    obtain ⟨hcl, hfl, hlen⟩ := file_ok hck
    rw [show ([112, 105, 101, 99, 101, 115] : List UInt8) = wPieces from rfl]
    refine ⟨by omega, fun h => ?_, fun h => ?_⟩
    · have e : joinL l s = (noRec, 9) := by unfold joinL; rw [if_pos h]
      rw [e]; exact ⟨⟨rfl, rfl, rfl, rfl, rfl, rfl, rfl⟩, rfl⟩
    have eJ : joinL l s = jnR l s (fndR l s) := by unfold joinL; rw [if_neg (fun x => x.elim (fun y => y h.1) h.2)]
    have hr : fndR l s ∈ l := by
      unfold fndR
      rw [if_pos h.1]
      have := (fndL_ok h.1).1
      exact getD_memH (d := noRec) (by omega)
    rw [eJ]
    generalize fndR l s = r at hr h eJ ⊢
    have rs := rec_sz (hcl r hr)
    obtain ⟨z1, z2, z3, z4, z5, z6, z7⟩ := rs
    have ok := hl r hr
    have hN : hdsN r.hd := fun x hx => (ok.1 x hx).1
    have fb : fstH r.hd wPieces < r.hd.length := by
      unfold fstH
      split
      · rename_i k hk
        have := (List.findIdx?_eq_some_iff_getElem.1 hk).1
        omega
      · omega
    refine ⟨by omega, by omega, ⟨hN, by omega⟩, fun g => ?_, fun g => ⟨⟨by omega, by omega⟩, by omega, ?_, fun g2 => ?_, fun g2 => ⟨⟨by omega, by omega⟩, ⟨by omega, by omega, by omega⟩, ?_⟩⟩⟩
    · have e : jnR l s r = (r, 0) := by unfold jnR; rw [if_pos g]
      rw [e]; exact ⟨⟨rfl, rfl, rfl, rfl, rfl, ⟨rfl, fun _ _ => rfl⟩, rfl, fun _ _ => rfl⟩, rfl⟩
    · have ht : (fstH r.hd wPieces).toNat < r.hd.length := by omega
      exact (ok.1 _ (getD_memH (d := ⟨[], []⟩) ht)).2
    · have g2 : numV (hdV r wPieces) < 2 := g2
      have e : jnR l s r = (noRec, 3) := by unfold jnR; rw [if_neg g, if_pos g2]
      rw [e]; exact ⟨⟨rfl, rfl, rfl, rfl, rfl, rfl, rfl⟩, rfl⟩
    have g2 : ¬ numV (hdV r wPieces) < 2 := g2
    have e : jnR l s r = jnE r (joinG (pcsL r s l) (numV (hdV r wPieces) - 1).toNat 2 r.bd) := by unfold jnR; rw [if_neg g, if_neg g2]
    rw [e]
    have eM : (r.hd.getD (fstH r.hd wPieces).toNat ⟨[], []⟩).value = hdV r wPieces := rfl
    have okX : ∀ b, b.length ≤ 140737488355328 → recOk (jnX r b) := fun b hb => jnX_ok ok hb
    have eX : ∀ b, jnX r b = ⟨r.ki, r.id, r.ow, r.ti, r.ke, r.hd.eraseIdx (fstH r.hd wPieces).toNat, b⟩ := fun b => rfl
    have le1 : (r.hd.eraseIdx (fstH r.hd wPieces).toNat).length = r.hd.length - 1 := by rw [List.length_eraseIdx, if_pos (by omega)]
    generalize r.hd.eraseIdx (fstH r.hd wPieces).toNat = H at le1 eX ⊢
    refine LoopW.poolX ⟨hct, fol⟩ rfl (by kernel_rfl) (.int .i64) 7 60 (fun i : Nat => [(1, .str s), (4, .ptr 4 0), (6, .ptr 6 0), (9, .int .i64 (numV (hdV r wPieces))), (10, .map 60), (61, .sl l.length (lsF cRec l)), (62, .int .i64 l.length), (63, .int .i64 i)])
      (fun i => [(4, .cells [.int .i64 0, .str [], .str [], .int .i64 0, .str [], .nilsl, .nilsl]), (6, .cells [.int .i64 r.ki, .str r.id, .str r.ow, .int .i64 r.ti, .str r.ke, .sl H.length (lsF cHd H), .vec 35 r.bd.length]), (35, .vec 1 r.bd.length (byF r.bd))])
      (fun i => i ≤ l.length) (fun i => l.length - i) (fun i => rowsR (pcsL r s (l.take i))) (fun i => .int .i64 (nbV (l.getD i noRec))) 0 0 [(4, .ptr 4 0), (6, .ptr 6 0), (9, .int .i64 (numV (hdV r wPieces))), (10, .map 60)]
      [(4, .cells [.int .i64 0, .str [], .str [], .int .i64 0, .str [], .nilsl, .nilsl]), (6, .cells [.int .i64 r.ki, .str r.id, .str r.ow, .int .i64 r.ti, .str r.ke, .sl H.length (lsF cHd H), .vec 35 r.bd.length]), (35, .vec 1 r.bd.length (byF r.bd))] (rowsR (pcsL r s l)) ?_ ?_ (by decide) ?_ ?_ (fun _ => rfl) rfl ?_ fun i hi u => ?_
    · push_cast (config := { maxSteps := 10000000 })
      exact ⟨Nat.zero_le _, rfl, le1.symm⟩
    · exact rowsR_no fun n => rfl
    · exact fun t => al_men rfl
    · refine fun t => hOf_all fun p hp => ?_
      simp only [List.mem_cons, List.not_mem_nil, or_false] at hp
      rcases hp with rfl | rfl | rfl
      · exact ⟨men_cells rfl, show 4 ≠ 7000 by decide, show 4 ≠ 60 by decide⟩
      · exact ⟨men_cells rfl, show 6 ≠ 7000 by decide, show 6 ≠ 60 by decide⟩
      · exact ⟨men_by, show 35 ≠ 7000 by decide, show 35 ≠ 60 by decide⟩
    · push_cast (config := { maxSteps := 10000000 })
      have m9 := numV_le (hdV r wPieces)
      generalize numV (hdV r wPieces) = M at *
      have hqm : ∀ n x, x ∈ pcsL r s l n → x ∈ l := fun n x h => pcsL_mem h
      generalize pcsL r s l = q at *
      refine LoopW.adj ⟨hct, fol⟩ (by kernel_rfl) [] (fun t : Nat × List UInt8 => [(4, .ptr 4 0), (6, .ptr 6 0), (9, .int .i64 M), (10, .map 60), (14, .int .i64 (2 + t.1))]) (fun t => [(60, .mp (.int .i64) (slM (rowsR q))), (4, .cells [.int .i64 0, .str [], .str [], .int .i64 0, .str [], .nilsl, .nilsl]), (6, .cells [.int .i64 r.ki, .str r.id, .str r.ow, .int .i64 r.ti, .str r.ke, .sl H.length (lsF cHd H), .vec 35 t.2.length]), (35, .vec 1 t.2.length (byF t.2))]) (fun t => (t.1 : Int) ≤ M - 1 ∧ t.2.length ≤ 200000 * (t.1 + 1) ∧ joinG q (M - 1).toNat 2 r.bd = joinG q ((M - 1).toNat - t.1) (2 + t.1) t.2) (fun t => 10000 - t.1) (0, r.bd) ?_ fun t ht => ?_
      · push_cast (config := { maxSteps := 10000000 })
        exact ⟨by omega, by omega⟩
      · obtain ⟨k, b⟩ := t
        obtain ⟨t1, t2, t3⟩ := ht
        have t1 : (k : Int) ≤ M - 1 := t1
        have t2 : b.length ≤ 200000 * (k + 1) := t2
        have t3 : joinG q (M - 1).toNat 2 r.bd = joinG q ((M - 1).toNat - k) (2 + k) b := t3
        by_cases h1 : (q (2 + k)).length = 1
        · obtain ⟨y, hy⟩ := List.length_eq_one_iff.1 h1
          have hF := asF_sl hy
          push_cast (config := { maxSteps := 10000000 }) [hF, hy]
          have hyl : y ∈ l := hqm (2 + k) y (by rw [hy]; simp)
          obtain ⟨y1, y2, y3, y4, y5, y6, y7⟩ := rec_sz (hcl y hyl)
          refine ⟨fun h2 => ⟨⟨by omega, by omega⟩, ⟨by omega, by omega⟩, (k + 1, b ++ y.bd), ⟨by show ((k + 1 : Nat) : Int) ≤ _; omega, ?_, ?_⟩, by show 10000 - (k + 1) < _; omega, by show _ = 2 + ((k + 1 : Nat) : Int); omega, List.length_append.symm, List.length_append.symm, fun j hj => ?_⟩, fun h2 => ?_⟩
          · show (b ++ y.bd).length ≤ 200000 * (k + 1 + 1)
            rw [List.length_append]; omega
          · rw [t3, show (M - 1).toNat - k = ((M - 1).toNat - (k + 1)) + 1 by omega]
            show (if (q (2 + (k : Int))).length = 1 then _ else _) = _
            rw [if_pos h1, hy, show (2 : Int) + k + 1 = 2 + ((k + 1 : Nat) : Int) by omega]; rfl
          · exact (ByI.app (k := b.length + y.bd.length) (ByI.by b) (ByI.by y.bd) rfl).2 j hj
          · have e3 : joinG q (M - 1).toNat 2 r.bd = some b := by
              rw [t3, show (M - 1).toNat - k = 0 by omega]; rfl
            rw [e3]
            rw [← eX b]
            refine ⟨⟨?_, okX b (by omega)⟩, fun hc => ?_, fun hc => ?_⟩
            · have := isC_enc cRec (jnX r b)
              rw [eX b] at this; exact this
            · have e4 : jnE r (some b) = (noRec, checkRecL (jnX r b)) := if_neg hc
              rw [e4]; exact ⟨⟨rfl, rfl, rfl, rfl, rfl, rfl, rfl⟩, rfl⟩
            · have e4 : jnE r (some b) = (jnX r b, 0) := if_pos hc
              rw [e4, eX b]; exact ⟨⟨rfl, rfl, rfl, rfl, rfl, ⟨rfl, fun _ _ => rfl⟩, rfl, fun _ _ => rfl⟩, rfl⟩
        · by_cases hM : 2 + (k : Int) ≤ M
          · push_cast (config := { maxSteps := 10000000 }) [h1, hM]
            refine ⟨fun _ => ?_, fun h => (h1 (by omega)).elim⟩
            have e3 : joinG q (M - 1).toNat 2 r.bd = none := by
              rw [t3, show (M - 1).toNat - k = ((M - 1).toNat - (k + 1)) + 1 by omega]
              show (if (q (2 + (k : Int))).length = 1 then _ else _) = _
              rw [if_neg h1]
            rw [e3]; exact ⟨⟨rfl, rfl, rfl, rfl, rfl, rfl, rfl⟩, rfl⟩
          · push_cast (config := { maxSteps := 10000000 }) [hM]
            have e3 : joinG q (M - 1).toNat 2 r.bd = some b := by
              rw [t3, show (M - 1).toNat - k = 0 by omega]; rfl
            rw [e3]
            rw [← eX b]
            refine ⟨⟨?_, okX b (by omega)⟩, fun hc => ?_, fun hc => ?_⟩
            · have := isC_enc cRec (jnX r b)
              rw [eX b] at this; exact this
            · have e4 : jnE r (some b) = (noRec, checkRecL (jnX r b)) := if_neg hc
              rw [e4]; exact ⟨⟨rfl, rfl, rfl, rfl, rfl, rfl, rfl⟩, rfl⟩
            · have e4 : jnE r (some b) = (jnX r b, 0) := if_pos hc
              rw [e4, eX b]; exact ⟨⟨rfl, rfl, rfl, rfl, rfl, ⟨rfl, fun _ _ => rfl⟩, rfl, fun _ _ => rfl⟩, rfl⟩
    · have hi : i ≤ l.length := hi
      generalize hx : l.getD i noRec = x at *
      have facts : i < l.length → hdsN x.hd ∧ x.hd.length ≤ 30 ∧ (0 ≤ fstH x.hd wNumber → fstH x.hd wNumber < x.hd.length ∧ (hdV x wNumber).length ≤ 140737488355328) := fun hlt => by
        have hm : x ∈ l := hx ▸ getD_memH (d := noRec) hlt
        obtain ⟨y1, y2, y3, y4, y5, y6, y7⟩ := rec_sz (hcl x hm)
        have oky := hl x hm
        refine ⟨fun y hy => (oky.1 y hy).1, y7, fun h0 => ?_⟩
        have h1 := fstH_lt x.hd wNumber h0
        have ht : (fstH x.hd wNumber).toNat < x.hd.length := by omega
        exact ⟨h1, (oky.1 _ (getD_memH (l := x.hd) (d := ⟨[], []⟩) ht)).2⟩
      rw [show wNumber = ([110, 117, 109, 98, 101, 114] : List UInt8) from rfl] at facts
      by_cases hq : pcsL r s (l.take i) (nbV x) = []
      · have hk : rowsR (pcsL r s (l.take i)) (.int .i64 (nbV x)) = none := if_pos hq
        push_cast (config := { maxSteps := 10000000 }) [hk, hotO, hotL, hx]
        refine ⟨fun hlt => ?_, fun hlt => ?_⟩
        · obtain ⟨f1, f2, f3⟩ := facts hlt
          refine ⟨hlt, ⟨f1, by omega⟩, fun hc => ?_, fun hc => ?_⟩
          · obtain ⟨f4, f5⟩ := f3 hc.1.1.2
            obtain ⟨p1, p2⟩ := pcsL_in hlt hx (isPc_iff.2 hc)
            rw [hq] at p1
            have hk2 : rowsR (pcsL r s (l.take (i + 1))) (.int .i64 (nbV x)) = some (1, lsF cRec [x]) := by
              show (if pcsL r s (l.take (i + 1)) (nbV x) = [] then none else some _) = _
              rw [p1]; rfl
            refine ⟨⟨hc.1.1.2, f4⟩, f5, ⟨hc.1.1.2, f4⟩, f5, rfl, rfl, ⟨by omega, by omega⟩, i + 1, .vec 115 1, [(115, .vec 7 1 (lsF cRec [x]))], by omega, by omega, by omega, ⟨rfl, ?_⟩, ?_, fun k' hk' => rowsR_other p2 hk'⟩
            · push_cast (config := { maxSteps := 10000000 })
              intro j hj
              obtain rfl : j = 0 := by omega
              rfl
            · rw [hk2]
              exact ⟨115, rfl, rfl, by decide, rfl, Nat.le_refl 1, fun j hj => rfl⟩
          · have p1 := pcsL_out hlt hx (fun e => hc (isPc_iff.1 e).1 (isPc_iff.1 e).2)
            refine ⟨⟨by omega, by omega⟩, i + 1, .nilsl, [], by omega, by omega, by omega, ⟨rfl, ?_⟩, ?_, fun k' _ => by rw [p1]⟩
            · push_cast (config := { maxSteps := 10000000 })
              done
            · rw [p1, hk]; exact ⟨rfl, rfl⟩
        · have ei : i = l.length := by omega
          subst ei
          rw [List.take_length] at *
          refine ⟨.nilsl, [], ⟨rfl, ?_⟩, ?_, fun k' _ => rfl⟩
          · push_cast (config := { maxSteps := 10000000 })
            done
          · rw [hk]; exact ⟨rfl, rfl⟩
      · have hk : rowsR (pcsL r s (l.take i)) (.int .i64 (nbV x)) = some ((pcsL r s (l.take i) (nbV x)).length, lsF cRec (pcsL r s (l.take i) (nbV x))) := if_neg hq
        push_cast (config := { maxSteps := 10000000 }) [hk, hotO, hotL, hx]
        refine ⟨fun hlt => ?_, fun hlt => ?_⟩
        · obtain ⟨f1, f2, f3⟩ := facts hlt
          have q1 : 1 ≤ (pcsL r s (l.take i) (nbV x)).length := List.length_pos_iff.2 hq
          have q2 : (pcsL r s (l.take i) (nbV x)).length ≤ 1000 := by
            have := List.length_filter_le (fun y => isPc r s y && decide (nbV y = nbV x)) (l.take i)
            rw [List.length_take] at this
            show (List.filter _ _).length ≤ _
            omega
          refine ⟨hlt, ⟨f1, by omega⟩, fun hc => ?_, fun hc => ?_⟩
          · obtain ⟨f4, f5⟩ := f3 hc.1.1.2
            obtain ⟨p1, p2⟩ := pcsL_in hlt hx (isPc_iff.2 hc)
            have hk2 : rowsR (pcsL r s (l.take (i + 1))) (.int .i64 (nbV x)) = some ((pcsL r s (l.take i) (nbV x)).length + 1, lsF cRec (pcsL r s (l.take i) (nbV x) ++ [x])) := by
              show (if pcsL r s (l.take (i + 1)) (nbV x) = [] then none else some _) = _
              rw [p1, if_neg (by simp), List.length_append]; rfl
            generalize pcsL r s (l.take i) (nbV x) = q at *
            refine ⟨⟨hc.1.1.2, f4⟩, f5, ⟨hc.1.1.2, f4⟩, f5, rfl, ⟨by omega, by omega⟩, rfl, ⟨by omega, by omega⟩, i + 1, .vec 7000 (q.length + 1), [(7000, .vec 7 (q.length + 1) (lsF cRec (q ++ [x])))], by omega, by omega, by omega, ⟨rfl, ?_⟩, ?_, fun k' hk' => rowsR_other p2 hk'⟩
            · push_cast (config := { maxSteps := 10000000 })
              exact (LsI.app (c := cRec) (k := q.length + 1) (LsI.ls q) (LsI.one (f := litF [cRec.enc x]) rfl) rfl).2
            · rw [hk2]
              exact ⟨7000, rfl, rfl, by decide, rfl, Nat.succ_le_succ (Nat.zero_le _), fun j hj => rfl⟩
          · have p1 := pcsL_out hlt hx (fun e => hc (isPc_iff.1 e).1 (isPc_iff.1 e).2)
            generalize pcsL r s (l.take i) (nbV x) = q at *
            refine ⟨⟨by omega, by omega⟩, i + 1, .vec 7000 q.length, [(7000, .vec 7 q.length (lsF cRec q))], by omega, by omega, by omega, ⟨rfl, ?_⟩, ?_, fun k' _ => by rw [p1]⟩
            · push_cast (config := { maxSteps := 10000000 })
              done
            · rw [p1, hk]; exact ⟨7000, rfl, rfl, by decide, rfl, q1, fun j hj => rfl⟩
        · have ei : i = l.length := by omega
          subst ei
          rw [List.take_length] at *
          have q1 : 1 ≤ (pcsL r s l (nbV x)).length := List.length_pos_iff.2 hq
          refine ⟨.vec 7000 (pcsL r s l (nbV x)).length, [(7000, .vec 7 (pcsL r s l (nbV x)).length (lsF cRec (pcsL r s l (nbV x))))], ⟨rfl, ?_⟩, ?_, fun k' _ => rfl⟩
          · push_cast (config := { maxSteps := 10000000 })
            done
          · rw [hk]; exact ⟨7000, rfl, rfl, by decide, rfl, q1, fun j hj => rfl⟩
  · cases h

theorem idxC_has (l : List (List UInt8)) (w : List UInt8) : decide (0 ≤ idxL l w) = l.contains w := by
  unfold idxL
  cases h : l.findIdx? (· == w) with
  | none =>
    rw [List.findIdx?_eq_none_iff] at h
    have : l.contains w = false := by
      rw [Bool.eq_false_iff]
      intro hc
      rw [List.contains_iff_mem] at hc
      have := h w hc
      simp at this
    rw [this]; rfl
  | some k =>
    rw [List.findIdx?_eq_some_iff_getElem] at h
    obtain ⟨hk, h1, _⟩ := h
    have : l.contains w = true := by
      rw [List.contains_iff_mem]
      have e := beq_iff_eq.1 h1
      rw [← e]; exact List.getElem_mem hk
    rw [this]
    exact decide_eq_true (Int.natCast_nonneg k)
def ckCtnS : Ck
  | [.sl n f, .str w] => some (isLs cStr n f ∧ n ≤ 4611686018427387904, .bool ((lsOf cStr n f).contains w))
  | _ => none
theorem conCtnS : Con pg 28 ckCtnS := by
  have hct := (ctA_ok conIndexStr (ctN_ok _))
  intro args q r h hq
  unfold ckCtnS at h
  split at h
  · cases h
    rename_i n f w
    refine w28 (fun _ => false) [] rfl hct rfl rfl ?_
    push_cast (config := { maxSteps := 10000000 })
    exact ⟨hq, idxC_has _ _⟩
  · cases h
attribute [push_cast] ckCtnS

theorem conJoinedX : Con pg 18 ckJoinedX := by
  have hct := (ctA_ok conCheckFile (ctA_ok conJoined (ctN_ok _)))
  intro args q r h hq
  unfold ckJoinedX at h
  split at h
  · cases h
    rename_i n f s
    refine pcall_args (args' := [.sl (lsOf cRec n f).length (lsF cRec (lsOf cRec n f)), .str s]) ⟨isLs.vle hq.1, VLe.refl _, trivial⟩ ?_
    obtain ⟨-, hl⟩ := hq
    generalize lsOf cRec n f = l at hl ⊢
    refine w18 (fun _ => false) [] rfl hct rfl rfl ?_
    push_cast (config := { maxSteps := 10000000 })
    refine ⟨hl, fun h => ?_, fun h => ?_⟩
    · have e : joinedL l s = (noRec, checkFileL l) := by unfold joinedL; rw [if_pos h]
      rw [e]; exact ⟨⟨rfl, rfl, rfl, rfl, rfl, rfl, rfl⟩, rfl⟩
    · have e : joinedL l s = joinL l s := by unfold joinedL; rw [if_neg (fun x => x h)]
      rw [e]; exact ⟨⟨hl, h⟩, ⟨rfl, rfl, rfl, rfl, rfl, ⟨rfl, fun _ _ => rfl⟩, rfl, fun _ _ => rfl⟩, rfl⟩
  · cases h
attribute [push_cast] ckJoinedX
theorem conShown : Con pg 10 ckShown := by
  have hct := (ctA_ok conCheckFile (ctA_ok conFind6 (ctA_ok conHasStr (ctA_ok conJoined (ctN_ok _)))))
  intro args q r h hq
  unfold ckShown at h
  split at h
  · cases h
    rename_i n f s
    refine pcall_args (args' := [.sl (lsOf cRec n f).length (lsF cRec (lsOf cRec n f)), .str s]) ⟨isLs.vle hq.1, VLe.refl _, trivial⟩ ?_
    obtain ⟨-, hl⟩ := hq
    generalize lsOf cRec n f = l at hl ⊢
    refine w10 (fun _ => false) [.frz 8000] rfl hct rfl rfl ?_
    push_cast (config := { maxSteps := 10000000 })
    refine ⟨hl, fun h => ?_, fun h => ?_⟩
    · have e : showL l s = ([], checkFileL l) := by unfold showL; rw [if_pos h]
      rw [e]; exact ⟨rfl, rfl⟩
    have e : showL l s = showG l (l.length + 1) [] s := by unfold showL; rw [if_neg (fun x => x h)]
    rw [e]
    have h0 := shI_0 l s
    generalize showG l (l.length + 1) [] s = R at h0 ⊢
    obtain ⟨hcl, hfl, hlen⟩ := file_ok h
    refine LoopW.adj ⟨hct, fol⟩ (by kernel_rfl) [.nv 7 8000 1 (lsF cStr [])] (fun t : Nat × List (List UInt8) × List UInt8 => [(0, .sl l.length (lsF cRec l)), (1, .str t.2.2), (7, .vec 8000 t.2.1.length)]) (fun t => [(8000, .vec 1 t.2.1.length (lsF cStr t.2.1))]) (fun t => shI l R t) (fun t => t.1) (l.length + 1, [], s) ?_ fun t ht => ?_
    · push_cast (config := { maxSteps := 10000000 })
      exact h0
    · obtain ⟨f, seen, id⟩ := t
      obtain ⟨p1, p2⟩ := shI_pos ht
      obtain ⟨f, rfl⟩ : ∃ g, f = g + 1 := ⟨f - 1, by have p1 : 1 ≤ f := p1; omega⟩
      have p2 : seen.length ≤ l.length := p2
      push_cast (config := { maxSteps := 10000000 })
      have eS : lsOf cStr seen.length (fun i => V.str (seen.getD i [])) = seen := lsOf_ls (c := cStr) seen
      have iS : isLs cStr seen.length (fun i => V.str (seen.getD i [])) := isLs_ls (c := cStr) seen
      rw [eS]
      have hR : R = if ¬ 0 ≤ fndL l id then ([], 9) else if seen.contains id = true then ([], 17) else if ¬ (fndR l id).ki = 4 then ((joinL l id).1.bd, (joinL l id).2) else showG l f (seen ++ [id]) (fndR l id).ow := ht.2.2.2
      refine ⟨by omega, fun g => ?_, fun g => ⟨⟨iS, by omega⟩, fun g2 => ?_, fun g2 => ⟨fun g3 => ?_, fun g3 => ⟨⟨by omega, by omega⟩, (f, seen ++ [id], (fndR l id).ow), shI_s ht g (by rw [g2]; exact Bool.false_ne_true) g3, Nat.lt_succ_self f, ⟨rfl, ?_⟩, ?_, fun j hj => ?_⟩⟩⟩⟩
      · rw [hR, if_pos g]; exact ⟨rfl, rfl⟩
      · rw [hR, if_neg (fun x => x g), if_pos g2]; exact ⟨rfl, rfl⟩
      · rw [hR, if_neg (fun x => x g), if_neg (by rw [g2]; exact Bool.false_ne_true), if_pos g3]
        exact ⟨⟨hl, h⟩, ⟨rfl, fun _ _ => rfl⟩, rfl⟩
      · rw [List.length_append]; rfl
      · rw [List.length_append]; rfl
      · exact (LsI.app (c := cStr) (k := seen.length + 1) (LsI.ls seen) (LsI.one (f := litF [cStr.enc id]) rfl) rfl).2 j hj
  · cases h
attribute [push_cast] ckShown

theorem dig49 (v : List UInt8) : (digL v 4 = true → digL v 9 = true) ∧ (digL v 9 = true → digL v 4 = false → 10000 ≤ natOf v) := by
  unfold digL
  refine ⟨fun h => ?_, fun h h4 => ?_⟩
  · simp only [Bool.and_eq_true, decide_eq_true_eq] at h ⊢
    exact ⟨⟨⟨h.1.1.1, by omega⟩, h.1.2⟩, h.2⟩
  · simp only [Bool.and_eq_true, decide_eq_true_eq] at h
    obtain ⟨⟨⟨h1, h2⟩, h3⟩, h5⟩ := h
    rw [h3, h5, decide_eq_true h1] at h4
    simp only [Bool.true_and, Bool.and_true, decide_eq_false_iff_not] at h4
    apply Nat.le_of_not_lt
    intro hn
    have e := dec_natOf h3 h1 (by
      rw [Bool.or_eq_true, decide_eq_true_eq, beq_iff_eq] at h5
      rcases h5 with h5 | h5
      · exact .inl h5
      · rw [h5]; exact .inr rfl)
    have := dec_len 3 (natOf v) (by omega)
    rw [e] at this
    omega
def nb9 (v : List UInt8) : Int := if digL v 9 = true then natOf v else -1
theorem nb9_num (v : List UInt8) : ((2 ≤ nb9 v ∧ nb9 v ≤ 9999) ∧ nb9 v = numV v ∧ 2 ≤ numV v) ∨ (¬ (2 ≤ nb9 v ∧ nb9 v ≤ 9999) ∧ numV v < 2) := by
  obtain ⟨h1, h2⟩ := dig49 v
  have h3 := numV_le v
  unfold nb9
  unfold numV at *
  cases h4 : digL v 4 with
  | true =>
    rw [h1 h4]
    rw [h4] at h3
    simp only [if_true] at h3 ⊢
    by_cases hh : (2 : Int) ≤ natOf v
    · exact .inl ⟨⟨hh, by omega⟩, trivial, hh⟩
    · exact .inr ⟨fun x => hh x.1, by omega⟩
  | false =>
    simp only [Bool.false_eq_true, if_false]
    cases h9 : digL v 9 with
    | true =>
      have := h2 h9 h4
      simp only [if_true]
      exact .inr ⟨fun x => by omega, by omega⟩
    | false =>
      simp only [Bool.false_eq_true, if_false]
      exact .inr ⟨fun x => by omega, by omega⟩
theorem fst_cons (h : Hd) (t : List Hd) (w : List UInt8) : fstH (h :: t) w = if lowL h.name = w then 0 else if fstH t w < 0 then -1 else fstH t w + 1 := by
  unfold fstH
  rw [List.findIdx?_cons]
  by_cases e : lowL h.name = w
  · rw [if_pos e, if_pos (beq_iff_eq.2 e)]; rfl
  · rw [if_neg e, if_neg (fun x => e (beq_iff_eq.1 x))]
    cases t.findIdx? (fun h => lowL h.name == w) with
    | none => rfl
    | some k => simp only [Option.map_some]; rw [if_neg (by omega)]; rfl
/-- the values of a name, and its first head -/
theorem values_fst (w : List UInt8) : ∀ l : List Hd, (fstH l w < 0 ∧ valuesL l w = []) ∨ (0 ≤ fstH l w ∧ ∃ t, valuesL l w = (l.getD (fstH l w).toNat ⟨[], []⟩).value :: t)
  | [] => .inl ⟨show (-1 : Int) < 0 by decide, rfl⟩
  | h :: t => by
    rw [fst_cons]
    unfold valuesL
    rw [List.filter_cons]
    by_cases e : lowL h.name = w
    · rw [if_pos e, if_pos (beq_iff_eq.2 e)]
      exact .inr ⟨Int.le_refl _, _, rfl⟩
    · rw [if_neg e, if_neg (fun x => e (beq_iff_eq.1 x))]
      rcases values_fst w t with ⟨h1, h2⟩ | ⟨h1, t', h2⟩
      · rw [if_pos h1]; exact .inl ⟨by decide, h2⟩
      · rw [if_neg (by omega)]
        refine .inr ⟨by omega, t', ?_⟩
        rw [show (fstH t w + 1).toNat = (fstH t w).toNat + 1 by omega, List.getD_cons_succ]
        exact h2
theorem fst_at {l : List Hd} {w : List UInt8} {i : Nat} (h : i < l.length) (h0 : 0 ≤ fstH l w) : ((i : Int) < fstH l w → ¬ lowL (l.getD i ⟨[], []⟩).name = w) ∧ ((i : Int) = fstH l w → lowL (l.getD i ⟨[], []⟩).name = w) := by
  unfold fstH at *
  cases hk : l.findIdx? (fun h => lowL h.name == w) with
  | none => rw [hk] at h0; simp at h0
  | some k =>
    simp only
    obtain ⟨h1, h2, h3⟩ := List.findIdx?_eq_some_iff_getElem.1 hk
    rw [List.getD_eq_getElem?_getD, List.getElem?_eq_getElem h, Option.getD_some]
    refine ⟨fun hi => ?_, fun hi => ?_⟩
    · have := h3 i (by omega)
      simpa using this
    · have : i = k := by omega
      subst this
      simpa using h2
/-- all but one, up to a place -/
def eraT (l : List Hd) (k i : Nat) : List Hd := if i ≤ k then l.take i else (l.take i).eraseIdx k
theorem eraT_le {l : List Hd} {k i : Nat} (h : i < l.length) (hi : i < k) : eraT l k (i + 1) = eraT l k i ++ [l.getD i ⟨[], []⟩] := by
  unfold eraT
  rw [if_pos (by omega), if_pos (by omega), takeG (d := ⟨[], []⟩) h]
theorem eraT_eq {l : List Hd} {k : Nat} (h : k < l.length) : eraT l k (k + 1) = eraT l k k := by
  unfold eraT
  rw [if_neg (by omega), if_pos (Nat.le_refl _), takeG (d := ⟨[], []⟩) h]
  have e : (l.take k).length = k := by rw [List.length_take]; omega
  rw [List.eraseIdx_append_of_length_le (by omega), e, Nat.sub_self]
  simp
theorem eraT_gt {l : List Hd} {k i : Nat} (h : i < l.length) (hi : k < i) : eraT l k (i + 1) = eraT l k i ++ [l.getD i ⟨[], []⟩] := by
  unfold eraT
  rw [if_neg (by omega), if_neg (by omega), takeG (d := ⟨[], []⟩) h, List.eraseIdx_append_of_lt_length (by rw [List.length_take]; omega)]
theorem eraT_len (l : List Hd) (k i : Nat) : (eraT l k i).length ≤ i := by
  unfold eraT
  split
  · rw [List.length_take]; omega
  · have := List.length_eraseIdx_le (l := l.take i) k
    rw [List.length_take] at this; omega
theorem eraT_end {l : List Hd} {k i : Nat} (h : l.length ≤ i) (hk : k < l.length) : eraT l k i = l.eraseIdx k := by
  unfold eraT
  rw [if_neg (by omega), List.take_of_length_le h]
def flatB (l : List Rcd) : List UInt8 := (l.map Rcd.bd).flatten
theorem flatB_app (a : List Rcd) (x : Rcd) : flatB (a ++ [x]) = flatB a ++ x.bd := by unfold flatB; rw [List.map_append, List.flatten_append]; simp
/-- the number that the first head of a name is, or -1 -/
def nbG : List (List UInt8) → Int
  | [] => -1
  | v :: _ => if digL v 9 = true then natOf v else -1
theorem nb_iff {x : Rcd} {n : Int} (h2 : 2 ≤ n) (h9 : n ≤ 9999) : nbG (valuesL x.hd wNumber) = n ↔ 0 ≤ fstH x.hd wNumber ∧ nbV x = n := by
  rcases values_fst wNumber x.hd with ⟨v1, v2⟩ | ⟨v1, t, v2⟩
  · rw [v2]
    constructor
    · intro h; have h : (-1 : Int) = n := h; omega
    · intro h; omega
  · rw [v2]
    show nb9 (hdV x wNumber) = n ↔ _ ∧ numV (hdV x wNumber) = n
    rcases nb9_num (hdV x wNumber) with ⟨q1, q2, q3⟩ | ⟨q1, q2⟩
    · rw [q2]; exact ⟨fun h => ⟨v1, h⟩, fun h => h.2⟩
    · exact ⟨fun h => absurd ⟨by omega, by omega⟩ q1, fun h => by omega⟩
theorem pc_iff {r x : Rcd} {id : List UInt8} {n : Int} (h2 : 2 ≤ n) (h9 : n ≤ 9999) : (((((x.ki = 5 ∧ x.ow = id) ∧ x.ti = r.ti) ∧ x.ke = r.ke) ∧ nbG (valuesL x.hd wNumber) = n) ↔ (isPc r id x = true ∧ nbV x = n)) := by
  rw [nb_iff h2 h9, isPc_iff]
  constructor
  · rintro ⟨⟨⟨⟨a, b⟩, c⟩, d⟩, e, f⟩; exact ⟨⟨⟨⟨⟨a, b⟩, e⟩, c⟩, d⟩, f⟩
  · rintro ⟨⟨⟨⟨⟨a, b⟩, e⟩, c⟩, d⟩, f⟩; exact ⟨⟨⟨⟨a, b⟩, c⟩, d⟩, e, f⟩

def ckPlainNum : Ck
  | [.str s] => some (s.length ≤ 4611686018427387900, .tup [.int .i64 (if digL s 9 = true then (natOf s : Int) else 0), .bool (digL s 9)])
  | _ => none
theorem pn_no {s : List UInt8} (h : (s = [] ∨ 9 < (s.length : Int)) ∨ 1 < (s.length : Int) ∧ ((s.getD 0 0).toNat : Int) = 48) : digL s 9 = false := by
  unfold digL
  rcases h with (rfl | h) | ⟨h1, h2⟩
  · rfl
  · rw [show decide ((s.length : Int) ≤ 9) = false from decide_eq_false (by omega)]; simp
  · have e1 : decide (s.getD 0 0 ≠ 48) = false := decide_eq_false fun x => x (by
      rw [u8_eq]; exact h2)
    have e2 : (s == [48]) = false := by
      rw [Bool.eq_false_iff]
      intro x
      rw [beq_iff_eq] at x
      subst x
      simp at h1
    rw [e1, e2]; simp
theorem pn_yes {s : List UInt8} (h : (¬ s = [] ∧ ¬ 9 < (s.length : Int)) ∧ (1 < (s.length : Int) → ¬ ((s.getD 0 0).toNat : Int) = 48)) (ha : s.all isDg = true) : digL s 9 = true := by
  unfold digL
  obtain ⟨⟨h1, h2⟩, h3⟩ := h
  have hp : 1 ≤ s.length := by
    cases s with
    | nil => exact absurd rfl h1
    | cons a t => simp
  rw [ha, decide_eq_true hp, decide_eq_true (show (s.length : Int) ≤ 9 by omega)]
  simp only [Bool.and_self, Bool.true_and, Bool.or_eq_true, decide_eq_true_eq, beq_iff_eq]
  by_cases e : s.getD 0 0 = 48
  · right
    have hl : s.length = 1 := by
      rcases Nat.lt_or_ge 1 s.length with h | h
      · exact absurd ((u8_eq _ _).1 e) (h3 (by omega))
      · omega
    match s, hl with
    | [c], _ => simpa using e
  · left; exact e
theorem conPlainNum : Con pg 84 ckPlainNum := by
  have hct := (ctA_ok conAtoi (ctN_ok _))
  intro args q r h hq
  unfold ckPlainNum at h
  split at h
  · cases h
    rename_i s
    refine w84 (fun _ => false) [] rfl hct rfl rfl ?_
    push_cast (config := { maxSteps := 10000000 })
    refine ⟨fun h => ⟨h, by omega⟩, fun h => ⟨h, fun h' => ⟨h, h'⟩⟩, fun h => by rw [pn_no h]; exact ⟨rfl, rfl⟩, fun h => ?_⟩
    refine LoopW.adj ⟨hct, fol⟩ (by kernel_rfl) [] (fun i : Nat => [(0, .str s), (4, .int .i64 i)]) (fun _ => []) (fun i => i ≤ s.length ∧ ∀ j, j < i → isDg (s.getD j 0) = true) (fun i => s.length - i) 0 ?_ fun i hi => ?_
    · push_cast (config := { maxSteps := 10000000 })
      exact Nat.zero_le _
    · push_cast (config := { maxSteps := 10000000 })
      obtain ⟨h1, h2⟩ := hi
      refine ⟨fun h3 => ⟨h3, fun x => ⟨x, h3⟩, fun x => ?_, fun x => ⟨⟨by omega, by omega⟩, i + 1, ⟨by omega, fun j hj => ?_⟩, by omega, by omega⟩⟩, fun h3 => ?_⟩
      · have : digL s 9 = false := by
          unfold digL
          rw [all_no h3 (p := isDg) (decide_eq_false (by omega))]; simp
        rw [this]; exact ⟨rfl, rfl⟩
      · by_cases e : j = i
        · subst e; exact decide_eq_true (by omega)
        · exact h2 j (by omega)
      · have ha := all_at (p := isDg) fun j hj => h2 j (by omega)
        have hy := pn_yes h ha
        rw [hy]
        have hp : 1 ≤ s.length := by
          cases s with
          | nil => exact absurd rfl h.1.1
          | cons a t => simp
        exact ⟨⟨hp, by omega, ha⟩, rfl, rfl⟩
  · cases h
attribute [push_cast] ckPlainNum

def ckNumOf : Ck
  | [x, .str w] => some (isC cRec x ∧ recOk (cRec.dec x) ∧ (cRec.dec x).hd.length ≤ 1000000, .int .i64 (nbG (valuesL (cRec.dec x).hd w)))
  | _ => none
theorem conNumOf : Con pg 69 ckNumOf := by
  have hct := (ctA_ok conValues2 (ctA_ok conPlainNum (ctN_ok _)))
  intro args q r h hq
  unfold ckNumOf at h
  split at h
  · cases h
    rename_i x w
    refine pcall_args (args' := [cRec.enc (cRec.dec x), .str w]) ⟨hq.1, VLe.refl _, trivial⟩ ?_
    obtain ⟨-, ok, h1⟩ := hq
    generalize cRec.dec x = r at *
    refine w69 (fun _ => false) [] rfl hct rfl rfl ?_
    push_cast (config := { maxSteps := 10000000 })
    refine ⟨⟨ok.1, h1⟩, fun h => ?_, fun h => ⟨by omega, ?_, fun h2 => ?_, fun h2 => ?_⟩⟩
    · rw [List.length_eq_zero_iff.1 (show (valuesL r.hd w).length = 0 by omega)]; rfl
    · obtain ⟨v, t, e⟩ : ∃ v t, valuesL r.hd w = v :: t := by
        cases hv : valuesL r.hd w with
        | nil => rw [hv] at h; exact absurd rfl h
        | cons a b => exact ⟨a, b, rfl⟩
      have hm : v ∈ valuesL r.hd w := by rw [e]; simp
      rw [e]
      unfold valuesL at hm
      obtain ⟨y, hy, rfl⟩ := List.mem_map.1 hm
      have := (ok.1 y (List.mem_filter.1 hy).1).2
      show y.value.length ≤ _
      omega
    · cases hv : valuesL r.hd w with
      | nil => rw [hv] at h; exact absurd rfl h
      | cons a b =>
        rw [hv] at h2
        have h2 : digL a 9 = false := h2
        show -1 = if digL a 9 = true then (natOf a : Int) else -1
        rw [h2]; rfl
    · cases hv : valuesL r.hd w with
      | nil => rw [hv] at h; exact absurd rfl h
      | cons a b =>
        rw [hv] at h2
        have h2 : digL a 9 = true := h2
        show (if digL a 9 = true then (natOf a : Int) else 0) = if digL a 9 = true then (natOf a : Int) else -1
        rw [h2]; rfl
  · cases h
attribute [push_cast] ckNumOf
theorem conJoinedOf : Con pg 41 ckJoined := by
  have hct := (ctA_ok conFind (ctA_ok conValues2 (ctW_ok conCutB (ctA_ok conNumOf (ctA_ok conWithin6 (ctA_ok conSmall (ctA_ok conCheckRec2 (ctN_ok _))))))))
  intro args q r h hq
  unfold ckJoined at h
  split at h
  · cases h
    rename_i n f s
    refine pcall_args (args' := [.sl (lsOf cRec n f).length (lsF cRec (lsOf cRec n f)), .str s]) ⟨isLs.vle hq.1, VLe.refl _, trivial⟩ ?_
    obtain ⟨-, hl, hck⟩ := hq
    generalize lsOf cRec n f = l at hl hck ⊢
    refine w41 (fun _ => false) [.frz 44, .frz 55, .frz 8000] rfl hct rfl rfl ?_
    push_cast (config := { maxSteps := 10000000 })
    rw [show ([112, 105, 101, 99, 101, 115] : List UInt8) = wPieces from rfl]
    obtain ⟨hcl, hfl, hlen⟩ := file_ok hck
    have fbd := fndL_b l s
    refine ⟨by omega, fun h => ⟨h, by omega, by omega⟩, fun h => ?_, fun h => ?_⟩
    · have e : joinL l s = (noRec, 9) := by
        unfold joinL
        rw [if_pos]
        rcases h with h | h
        · exact .inl (by omega)
        · by_cases h0 : 0 ≤ fndL l s
          · right; unfold fndR; rw [if_pos h0]; exact h
          · exact .inl h0
      rw [e]; exact ⟨⟨rfl, rfl, rfl, rfl, rfl, rfl, rfl⟩, rfl⟩
    have h0 : 0 ≤ fndL l s := by omega
    have eR : fndR l s = l.getD (fndL l s).toNat noRec := by unfold fndR; rw [if_pos h0]
    have eJ : joinL l s = jnR l s (fndR l s) := by unfold joinL; rw [if_neg (fun x => x.elim (fun y => y h0) (by rw [eR]; exact h.2))]
    rw [eJ, eR]
    have hr : l.getD (fndL l s).toNat noRec ∈ l := getD_memH (d := noRec) (by omega)
    generalize l.getD (fndL l s).toNat noRec = r at hr h eR ⊢
    have ok := hl r hr
    obtain ⟨z1, z2, z3, z4, z5, z6, z7⟩ := rec_sz (hcl r hr)
    refine ⟨⟨h0, by omega⟩, ⟨ok.1, by omega⟩, fun g => ?_, fun g => ?_⟩
    · have e : jnR l s r = (r, 0) := by
        rcases values_fst wPieces r.hd with ⟨v1, v2⟩ | ⟨v1, t, v2⟩
        · unfold jnR; rw [if_pos v1]
        · rw [v2] at g; simp at g; omega
      rw [e]
      exact ⟨⟨ok, by omega, Nat.le_refl _⟩, rfl, ⟨rfl, rfl, rfl, rfl, rfl, ⟨rfl, fun _ _ => rfl⟩, rfl, fun _ _ => rfl⟩, rfl⟩
    obtain ⟨g1, tv, g2⟩ : 0 ≤ fstH r.hd wPieces ∧ ∃ t, valuesL r.hd wPieces = hdV r wPieces :: t := by
      rcases values_fst wPieces r.hd with ⟨v1, v2⟩ | h
      · rw [v2] at g; exact absurd rfl g
      · exact h
    have g3 := fstH_lt r.hd wPieces g1
    have eN : nbG (valuesL r.hd wPieces) = nb9 (hdV r wPieces) := by rw [g2]; rfl
    rw [eN]
    refine ⟨⟨ok, by omega⟩, fun g4 => ?_, fun g4 => ⟨⟨ok, by omega, Nat.le_refl _⟩, rfl, ?_⟩⟩
    · rcases nb9_num (hdV r wPieces) with ⟨q1, q2, q3⟩ | ⟨q1, q2⟩
      · exact absurd q1.2 (g4 q1.1)
      · have e : jnR l s r = (noRec, 3) := by unfold jnR; rw [if_neg (by omega), if_pos q2]
        rw [e]; exact ⟨⟨rfl, rfl, rfl, rfl, rfl, rfl, rfl⟩, rfl⟩
    obtain ⟨q2, q3⟩ : nb9 (hdV r wPieces) = numV (hdV r wPieces) ∧ 2 ≤ numV (hdV r wPieces) := by
      rcases nb9_num (hdV r wPieces) with ⟨q1, q2, q3⟩ | ⟨q1, q2⟩
      · exact ⟨q2, q3⟩
      · exact absurd g4 q1
    have m9 := numV_le (hdV r wPieces)
    have eJ2 : jnR l s r = jnE r (joinG (pcsL r s l) (numV (hdV r wPieces) - 1).toNat 2 r.bd) := by unfold jnR; rw [if_neg (by omega), if_neg (by omega)]
    rw [eJ2, q2]
    generalize numV (hdV r wPieces) = M at *
    have okX : ∀ b, b.length ≤ 140737488355328 → recOk (jnX r b) := fun b hb => jnX_ok ok hb
    obtain ⟨k, hk⟩ : ∃ k : Nat, fstH r.hd wPieces = k := ⟨(fstH r.hd wPieces).toNat, by omega⟩
    have eX : ∀ b, jnX r b = ⟨r.ki, r.id, r.ow, r.ti, r.ke, r.hd.eraseIdx k, b⟩ := fun b => by unfold jnX; rw [hk, Int.toNat_natCast]
    have fat := fun i (hi : i < r.hd.length) => fst_at hi g1
    rw [hk] at g3 fat
    refine LoopW.adj ⟨hct, fol⟩ (by kernel_rfl) [.nvc 9 5 8000 2 (lsF cHd [])] (fun i : Nat => [(0, .sl l.length (lsF cRec l)), (1, .str s), (4, .ptr 4 0), (7, .ptr 7 0), (8, .int .i64 M), (9, .ptr 9 0), (10, .bool (decide (k < i))), (11, .int .i64 i)]) (fun i => [(4, .cells [.int .i64 0, .str [], .str [], .int .i64 0, .str [], .nilsl, .nilsl]), (7, .cells [.int .i64 r.ki, .str r.id, .str r.ow, .int .i64 r.ti, .str r.ke, .sl r.hd.length (lsF cHd r.hd), .sl r.bd.length (byF r.bd)]), (9, .cells [.int .i64 r.ki, .str r.id, .str r.ow, .int .i64 r.ti, .str r.ke, .vec 8000 (eraT r.hd k i).length, .vec 55 r.bd.length]), (55, .vec 1 r.bd.length (byF r.bd)), (8000, .vec 2 (eraT r.hd k i).length (lsF cHd (eraT r.hd k i)))]) (fun i => i ≤ r.hd.length) (fun i => r.hd.length - i) 0 ?_ fun i hi => ?_
    · push_cast (config := { maxSteps := 10000000 })
      exact ⟨Nat.zero_le _, rfl⟩
    · have hi : i ≤ r.hd.length := hi
      have fat := fat i
      have el := eraT_len r.hd k i
      push_cast (config := { maxSteps := 10000000 })
      refine ⟨fun hlt => ⟨fun x => ⟨x, hlt⟩, fun x => ⟨x, (ok.1 _ (getD_memH (d := ⟨[], []⟩) hlt)).1⟩, fun hc => ?_, fun hc => ⟨hlt, ⟨by omega, by omega⟩, ⟨by omega, by omega⟩, i + 1, by omega, by omega, ⟨?_, by omega⟩, ?_⟩⟩, fun hge => ?_⟩
      · have ei : i = k := by
          rcases Nat.lt_trichotomy i k with x | x | x
          · exact absurd hc.2 ((fat hlt).1 (by omega))
          · exact x
          · exact absurd x hc.1
        subst ei
        have e := eraT_eq hlt
        exact ⟨⟨by omega, by omega⟩, i + 1, by omega, by omega, ⟨(decide_eq_true (by omega)).symm, by omega⟩, by rw [e], by rw [e], fun j hj => by rw [e]⟩
      · have ne : i ≠ k := fun e => hc (by omega) ((fat hlt).2 (by omega))
        exact decide_eq_decide.2 (by omega)
      · have ne : i ≠ k := fun e => hc (by omega) ((fat hlt).2 (by omega))
        have e : eraT r.hd k (i + 1) = eraT r.hd k i ++ [r.hd.getD i ⟨[], []⟩] := by
          by_cases x : i < k
          · exact eraT_le hlt x
          · exact eraT_gt hlt (by omega)
        rw [e]
        generalize eraT r.hd k i = E
        refine ⟨by rw [List.length_append]; rfl, by rw [List.length_append]; rfl, fun j hj => ?_⟩
        exact (LsI.app (c := cHd) (k := E.length + 1) (LsI.ls E) (LsI.one (f := litF [cHd.enc (r.hd.getD i ⟨[], []⟩)]) rfl) rfl).2 j hj
      · have ee : eraT r.hd k i = r.hd.eraseIdx k := eraT_end (by omega) (by omega)
        rw [ee] at el ⊢
        have el2 : (r.hd.eraseIdx k).length ≤ 30 := by omega
        generalize r.hd.eraseIdx k = H at *
        have hqm : ∀ n x, x ∈ pcsL r s l n → x ∈ l := fun n x h => pcsL_mem h
        have hqs : ∀ i, i < l.length → ∀ n, pcsL r s (l.take (i + 1)) n = pcsL r s (l.take i) n ++ (if isPc r s (l.getD i noRec) = true ∧ nbV (l.getD i noRec) = n then [l.getD i noRec] else []) := fun i h n => pcsL_s r s l h n
        refine LoopW.adj ⟨hct, fol⟩ (by kernel_rfl) [] (fun t : Nat × List UInt8 => [(0, .sl l.length (lsF cRec l)), (1, .str s), (4, .ptr 4 0), (7, .ptr 7 0), (8, .int .i64 M), (9, .ptr 9 0), (12, .int .i64 (2 + t.1))]) (fun t => [(4, .cells [.int .i64 0, .str [], .str [], .int .i64 0, .str [], .nilsl, .nilsl]), (7, .cells [.int .i64 r.ki, .str r.id, .str r.ow, .int .i64 r.ti, .str r.ke, .sl r.hd.length (lsF cHd r.hd), .sl r.bd.length (byF r.bd)]), (9, .cells [.int .i64 r.ki, .str r.id, .str r.ow, .int .i64 r.ti, .str r.ke, .vec 8000 H.length, .vec 55 t.2.length]), (55, .vec 1 t.2.length (byF t.2)), (8000, .vec 2 H.length (lsF cHd H))]) (fun t => (t.1 : Int) ≤ M - 1 ∧ t.2.length ≤ 200000 * (t.1 + 1) ∧ joinG (pcsL r s l) (M - 1).toNat 2 r.bd = joinG (pcsL r s l) ((M - 1).toNat - t.1) (2 + t.1) t.2) (fun t => 10000 - t.1) (0, r.bd) ?_ fun t ht => ?_
        · push_cast (config := { maxSteps := 10000000 })
          exact ⟨by omega, by omega⟩
        · obtain ⟨j, b⟩ := t
          obtain ⟨t1, t2, t3⟩ := ht
          have t1 : (j : Int) ≤ M - 1 := t1
          have t2 : b.length ≤ 200000 * (j + 1) := t2
          have t3 : joinG (pcsL r s l) (M - 1).toNat 2 r.bd = joinG (pcsL r s l) ((M - 1).toNat - j) (2 + j) b := t3
          push_cast (config := { maxSteps := 10000000 })
          refine ⟨fun hM => ?_, fun hM => ?_⟩
          · refine LoopW.adj ⟨hct, fol⟩ (by kernel_rfl) [] (fun i : Nat => [(0, .sl l.length (lsF cRec l)), (1, .str s), (4, .ptr 4 0), (7, .ptr 7 0), (8, .int .i64 M), (9, .ptr 9 0), (12, .int .i64 (2 + j)), (13, .int .i64 (pcsL r s (l.take i) (2 + j)).length), (14, .int .i64 i)]) (fun i => [(4, .cells [.int .i64 0, .str [], .str [], .int .i64 0, .str [], .nilsl, .nilsl]), (7, .cells [.int .i64 r.ki, .str r.id, .str r.ow, .int .i64 r.ti, .str r.ke, .sl r.hd.length (lsF cHd r.hd), .sl r.bd.length (byF r.bd)]), (9, .cells [.int .i64 r.ki, .str r.id, .str r.ow, .int .i64 r.ti, .str r.ke, .vec 8000 H.length, .vec 55 (b ++ flatB (pcsL r s (l.take i) (2 + j))).length]), (55, .vec 1 (b ++ flatB (pcsL r s (l.take i) (2 + j))).length (byF (b ++ flatB (pcsL r s (l.take i) (2 + j))))), (8000, .vec 2 H.length (lsF cHd H))]) (fun i => i ≤ l.length ∧ (b ++ flatB (pcsL r s (l.take i) (2 + j))).length ≤ 200000 * (j + 1) + 200000 * i) (fun i => l.length - i) 0 ?_ fun i hi => ?_
            · push_cast (config := { maxSteps := 10000000 })
              refine ⟨⟨by omega, ?_⟩, rfl, rfl, rfl, fun y _ => ?_⟩
              · show b.length + 0 ≤ _
                omega
              · show byF b y = byF (b ++ []) y
                rw [List.append_nil]
            · obtain ⟨i1, i2⟩ := hi
              rw [List.length_append] at i2
              have hqi := hqs i
              push_cast (config := { maxSteps := 10000000 })
              rw [show ([110, 117, 109, 98, 101, 114] : List UInt8) = wNumber from rfl]
              have hq1 : (pcsL r s (l.take i) (2 + j)).length ≤ 1000 := by
                have := List.length_filter_le (fun y => isPc r s y && decide (nbV y = 2 + j)) (l.take i)
                rw [List.length_take] at this
                show (List.filter _ _).length ≤ _
                omega
              refine ⟨fun hlt => ?_, fun hge => ?_⟩
              · have hx : l.getD i noRec ∈ l := getD_memH (d := noRec) hlt
                have hqi := hqi hlt (2 + j)
                generalize l.getD i noRec = x at hx hqi ⊢
                have okx := hl x hx
                obtain ⟨y1, y2, y3, y4, y5, y6, y7⟩ := rec_sz (hcl x hx)
                have hm := pc_iff (r := r) (id := s) (x := x) (n := 2 + j) (by omega) (by omega)
                refine ⟨hlt, fun h => ⟨h, okx, by omega⟩, fun h => ?_, fun h => ?_⟩
                · rw [if_pos (hm.1 h)] at hqi
                  have e2 : flatB (pcsL r s (l.take (i + 1)) (2 + j)) = flatB (pcsL r s (l.take i) (2 + j)) ++ x.bd := by rw [hqi, flatB_app]
                  have e3 : (pcsL r s (l.take (i + 1)) (2 + j)).length = (pcsL r s (l.take i) (2 + j)).length + 1 := by rw [hqi, List.length_append]; rfl
                  refine ⟨⟨by omega, by omega⟩, ⟨by omega, by omega⟩, ⟨by omega, by omega⟩, i + 1, ⟨by omega, ?_⟩, by omega, ⟨by rw [e3]; omega, by omega⟩, ?_, ?_, fun y hy => ?_⟩
                  · rw [e2, List.length_append]; omega
                  · rw [e2, List.length_append]; omega
                  · rw [e2, List.length_append]; omega
                  · rw [e2, ← List.append_assoc]
                    rw [← List.length_append] at hy ⊢
                    exact (ByI.app (k := (b ++ flatB (pcsL r s (l.take i) (2 + j))).length + x.bd.length) (ByI.by (b ++ flatB (pcsL r s (l.take i) (2 + j)))) (ByI.by x.bd) rfl).2 y hy
                · rw [if_neg (fun q => by have q := hm.2 q; exact h q.1 q.2), List.append_nil] at hqi
                  exact ⟨⟨by omega, by omega⟩, i + 1, ⟨by omega, by rw [hqi]; omega⟩, by omega, ⟨by rw [hqi], by omega⟩, by rw [hqi], by rw [hqi], fun y hy => by rw [hqi]⟩
              · have ei : l.take i = l := List.take_of_length_le (by omega)
                rw [ei] at *
                refine ⟨fun h1 => ?_, fun h1 => ⟨⟨by omega, by omega⟩, (j + 1, b ++ flatB (pcsL r s l (2 + j))), ⟨by show ((j + 1 : Nat) : Int) ≤ _; omega, ?_, ?_⟩, by show 10000 - (j + 1) < _; omega, by show _ = 2 + ((j + 1 : Nat) : Int); omega, List.length_append.symm, List.length_append.symm, fun y hy => rfl⟩⟩
                · have e3 : joinG (pcsL r s l) (M - 1).toNat 2 r.bd = none := by
                    rw [t3, show (M - 1).toNat - j = ((M - 1).toNat - (j + 1)) + 1 by omega]
                    show (if (pcsL r s l (2 + (j : Int))).length = 1 then _ else _) = _
                    rw [if_neg (by omega)]
                  rw [e3]; exact ⟨⟨rfl, rfl, rfl, rfl, rfl, rfl, rfl⟩, rfl⟩
                · obtain ⟨y, hy⟩ := List.length_eq_one_iff.1 (show (pcsL r s l (2 + (j : Int))).length = 1 by omega)
                  have hyl : y ∈ l := hqm (2 + j) y (by rw [hy]; simp)
                  have y6 := (rec_sz (hcl y hyl)).2.2.2.2.2.1
                  rw [hy]
                  show (b ++ flatB [y]).length ≤ 200000 * (j + 1 + 1)
                  rw [List.length_append, show flatB [y] = y.bd by simp [flatB]]; omega
                · obtain ⟨y, hy⟩ := List.length_eq_one_iff.1 (show (pcsL r s l (2 + (j : Int))).length = 1 by omega)
                  rw [t3, show (M - 1).toNat - j = ((M - 1).toNat - (j + 1)) + 1 by omega]
                  show (if (pcsL r s l (2 + (j : Int))).length = 1 then _ else _) = _
                  rw [if_pos (by omega), hy, show (2 : Int) + j + 1 = 2 + ((j + 1 : Nat) : Int) by omega, show flatB [y] = y.bd by simp [flatB]]; rfl
          · have e3 : joinG (pcsL r s l) (M - 1).toNat 2 r.bd = some b := by
              rw [t3, show (M - 1).toNat - j = 0 by omega]; rfl
            rw [e3]
            rw [← eX b]
            refine ⟨⟨?_, okX b (by omega)⟩, fun hc => ?_, fun hc => ?_⟩
            · have := isC_enc cRec (jnX r b)
              rw [eX b] at this; exact this
            · have e4 : jnE r (some b) = (noRec, checkRecL (jnX r b)) := if_neg hc
              rw [e4]; exact ⟨⟨rfl, rfl, rfl, rfl, rfl, rfl, rfl⟩, rfl⟩
            · have e4 : jnE r (some b) = (jnX r b, 0) := if_pos hc
              rw [e4, eX b]; exact ⟨⟨rfl, rfl, rfl, rfl, rfl, ⟨rfl, fun _ _ => rfl⟩, rfl, fun _ _ => rfl⟩, rfl⟩
  · cases h

theorem conJoinedX2 : Con pg 19 ckJoinedX := by
  have hct := (ctA_ok conCheckFile2 (ctA_ok conJoinedOf (ctN_ok _)))
  intro args q r h hq
  unfold ckJoinedX at h
  split at h
  · cases h
    rename_i n f s
    refine pcall_args (args' := [.sl (lsOf cRec n f).length (lsF cRec (lsOf cRec n f)), .str s]) ⟨isLs.vle hq.1, VLe.refl _, trivial⟩ ?_
    obtain ⟨-, hl⟩ := hq
    generalize lsOf cRec n f = l at hl ⊢
    refine w19 (fun _ => false) [] rfl hct rfl rfl ?_
    push_cast (config := { maxSteps := 10000000 })
    refine ⟨hl, fun h => ?_, fun h => ?_⟩
    · have e : joinedL l s = (noRec, checkFileL l) := by unfold joinedL; rw [if_pos h]
      rw [e]; exact ⟨⟨rfl, rfl, rfl, rfl, rfl, rfl, rfl⟩, rfl⟩
    · have e : joinedL l s = joinL l s := by unfold joinedL; rw [if_neg (fun x => x h)]
      rw [e]; exact ⟨⟨hl, h⟩, ⟨rfl, rfl, rfl, rfl, rfl, ⟨rfl, fun _ _ => rfl⟩, rfl, fun _ _ => rfl⟩, rfl⟩
  · cases h
theorem conShownOf : Con pg 32 ckShown0 := by
  have hct := (ctA_ok conFind (ctA_ok conJoinedOf (ctN_ok _)))
  intro args q r h hq
  unfold ckShown0 at h
  split at h
  · cases h
    rename_i n f s
    refine pcall_args (args' := [.sl (lsOf cRec n f).length (lsF cRec (lsOf cRec n f)), .str s]) ⟨isLs.vle hq.1, VLe.refl _, trivial⟩ ?_
    obtain ⟨-, hl, h⟩ := hq
    generalize lsOf cRec n f = l at hl h ⊢
    refine w32 (fun _ => false) [.frz 8000] rfl hct rfl rfl ?_
    push_cast (config := { maxSteps := 10000000 })
    have e : showL l s = showG l (l.length + 1) [] s := by unfold showL; rw [if_neg (fun x => x h)]
    rw [e]
    have h0 := shI_0 l s
    generalize showG l (l.length + 1) [] s = R at h0 ⊢
    obtain ⟨hcl, hfl, hlen⟩ := file_ok h
    refine LoopW.adj ⟨hct, fol⟩ (by kernel_rfl) [.nv 6 8000 1 (lsF cStr [])] (fun t : Nat × List (List UInt8) × List UInt8 => [(0, .sl l.length (lsF cRec l)), (1, .str t.2.2), (6, .vec 8000 t.2.1.length)]) (fun t => [(8000, .vec 1 t.2.1.length (lsF cStr t.2.1))]) (fun t => shI l R t) (fun t => t.1) (l.length + 1, [], s) ?_ fun t ht => ?_
    · push_cast (config := { maxSteps := 10000000 })
      exact h0
    · obtain ⟨f, seen, id⟩ := t
      obtain ⟨p1, p2⟩ := shI_pos ht
      obtain ⟨f, rfl⟩ : ∃ g, f = g + 1 := ⟨f - 1, by have p1 : 1 ≤ f := p1; omega⟩
      have p2 : seen.length ≤ l.length := p2
      push_cast (config := { maxSteps := 10000000 })
      refine LoopW.adj ⟨hct, fol⟩ (by kernel_rfl) [] (fun i : Nat => [(0, .sl l.length (lsF cRec l)), (1, .str id), (6, .vec 8000 seen.length), (7, .int .i64 i)]) (fun _ => [(8000, .vec 1 seen.length (lsF cStr seen))]) (fun i => i ≤ seen.length ∧ ∀ j, j < i → seen.getD j [] ≠ id) (fun i => seen.length - i) 0 ?_ fun i hi => ?_
      · push_cast (config := { maxSteps := 10000000 })
        exact Nat.zero_le _
      · obtain ⟨i1, i2⟩ := hi
        have hR : R = if ¬ 0 ≤ fndL l id then ([], 9) else if seen.contains id = true then ([], 17) else if ¬ (fndR l id).ki = 4 then ((joinL l id).1.bd, (joinL l id).2) else showG l f (seen ++ [id]) (fndR l id).ow := ht.2.2.2
        have fb := fndL_b l id
        push_cast (config := { maxSteps := 10000000 })
        refine ⟨fun h1 => ⟨h1, h1, fun h2 => ?_, fun h2 => ⟨⟨by omega, by omega⟩, i + 1, ⟨by omega, fun j hj => ?_⟩, by omega, by omega⟩⟩, fun h1 => ?_⟩
        · have hm : id ∈ seen := by rw [← h2]; exact getD_memH (d := []) h1
          have g := fnd_of_mem (ht.2.1 id hm)
          rw [hR, if_neg (fun x => x g), if_pos (List.contains_iff_mem.2 hm)]; exact ⟨rfl, rfl⟩
        · by_cases e : j = i
          · subst e; exact h2
          · exact i2 j (by omega)
        · have g2 : ¬ seen.contains id = true := fun hc => by
            rw [List.contains_iff_mem] at hc
            obtain ⟨j, hj, e⟩ := List.getElem_of_mem hc
            have := i2 j (by omega)
            rw [List.getD_eq_getElem?_getD, List.getElem?_eq_getElem hj] at this
            exact this e
          have eA := LsI.app (c := cStr) (k := seen.length + 1) (LsI.ls seen) (LsI.one (f := litF [cStr.enc id]) rfl) rfl
          have pA : ∀ j, j < seen.length + 1 → (appF seen.length (lsF cStr seen) (litF [V.str id]) j).isPure = true := fun j hj => by
            have := eA.2 j hj
            exact (congrArg V.isPure this).trans rfl
          have pK : ∀ j, j < seen.length + 1 → (V.kill 9 (appF seen.length (lsF cStr seen) (litF [V.str id]) j)).isPure = true := fun j hj => by
            have := eA.2 j hj
            exact (congrArg (fun v => (V.kill 9 v).isPure) this).trans rfl
          refine ⟨⟨by omega, by omega⟩, by omega, fun g => ⟨pA, ?_⟩, fun g => ?_⟩
          · rw [hR, if_pos (by omega)]; exact ⟨rfl, rfl⟩
          have g : 0 ≤ fndL l id := by omega
          have eR : fndR l id = l.getD (fndL l id).toNat noRec := by unfold fndR; rw [if_pos g]
          rw [← eR]
          refine ⟨⟨g, by omega⟩, fun g3 => ⟨⟨hl, h⟩, fun g4 => ⟨pK, ?_⟩, fun g4 => ⟨pK, ?_⟩⟩, fun g3 => ⟨⟨g, by omega⟩, (f, seen ++ [id], (fndR l id).ow), shI_s ht g g2 g3, Nat.lt_succ_self f, ⟨rfl, ?_⟩, ?_, fun j hj => ?_⟩⟩
          · rw [hR, if_neg (fun x => x g), if_neg g2, if_pos g3, joinL_err g4]; exact ⟨rfl, rfl⟩
          · rw [hR, if_neg (fun x => x g), if_neg g2, if_pos g3]; exact ⟨⟨rfl, fun _ _ => rfl⟩, g4.symm⟩
          · rw [List.length_append]; rfl
          · rw [List.length_append]; rfl
          · exact eA.2 j hj
  · cases h
attribute [push_cast] ckShown0
theorem conShown2 : Con pg 14 ckShown := by
  have hct := (ctA_ok conCheckFile2 (ctA_ok conShownOf (ctN_ok _)))
  intro args q r h hq
  unfold ckShown at h
  split at h
  · cases h
    rename_i n f s
    refine pcall_args (args' := [.sl (lsOf cRec n f).length (lsF cRec (lsOf cRec n f)), .str s]) ⟨isLs.vle hq.1, VLe.refl _, trivial⟩ ?_
    obtain ⟨-, hl⟩ := hq
    generalize lsOf cRec n f = l at hl ⊢
    refine w14 (fun _ => false) [] rfl hct rfl rfl ?_
    push_cast (config := { maxSteps := 10000000 })
    refine ⟨hl, fun h => ?_, fun h => ?_⟩
    · have e : showL l s = ([], checkFileL l) := by unfold showL; rw [if_pos h]
      rw [e]; exact ⟨rfl, rfl⟩
    · exact ⟨hl, h⟩
  · cases h

theorem eq_take {α : Type} [DecidableEq α] {d : α} {a b : List α} (h : a.length = b.length) (hh : ∀ j, j < a.length → a.getD j d = b.getD j d) : a = b := by
  apply List.ext_getElem h
  intro i h1 h2
  have := hh i h1
  rwa [List.getD_eq_getElem?_getD, List.getD_eq_getElem?_getD, List.getElem?_eq_getElem h1, List.getElem?_eq_getElem h2] at this
theorem ne_at {α : Type} {d : α} {a b : List α} {i : Nat} (h : a.getD i d ≠ b.getD i d) : a ≠ b := fun e => h (by rw [e])
def ckEqHd : Ck
  | [.sl n f, .sl m g] => some (isLs cHd n f ∧ isLs cHd m g ∧ n ≤ 4611686018427387904, .bool (decide (lsOf cHd n f = lsOf cHd m g)))
  | _ => none
theorem conEqHd : Con pg 42 ckEqHd := by
  have hct := ctN_ok pg
  intro args q r h hq
  unfold ckEqHd at h
  split at h
  · cases h
    rename_i n f m g
    refine pcall_args (args' := [.sl (lsOf cHd n f).length (lsF cHd (lsOf cHd n f)), .sl (lsOf cHd m g).length (lsF cHd (lsOf cHd m g))]) ⟨isLs.vle hq.1, isLs.vle hq.2.1, trivial⟩ ?_
    have hn : (lsOf cHd n f).length ≤ 4611686018427387904 := by rw [lsOf_len]; exact hq.2.2
    generalize lsOf cHd n f = a at hn ⊢
    generalize lsOf cHd m g = b
    refine w42 (fun _ => false) [] rfl hct rfl rfl ?_
    push_cast (config := { maxSteps := 10000000 })
    refine ⟨fun h => ?_, fun h => ?_⟩
    · exact (decide_eq_false fun e => h (by rw [e])).symm
    refine LoopW.adj ⟨hct, fol⟩ (by kernel_rfl) [] (fun i : Nat => [(0, .sl a.length (lsF cHd a)), (1, .sl b.length (lsF cHd b)), (12, .int .i64 a.length), (13, .int .i64 i)]) (fun _ => []) (fun i => i ≤ a.length ∧ ∀ j, j < i → a.getD j ⟨[], []⟩ = b.getD j ⟨[], []⟩) (fun i => a.length - i) 0 ?_ fun i hi => ?_
    · push_cast (config := { maxSteps := 10000000 })
      exact Nat.zero_le _
    · push_cast (config := { maxSteps := 10000000 })
      obtain ⟨h1, h2⟩ := hi
      refine ⟨fun hlt => ⟨hlt, by omega, fun hne => ?_, fun he => ⟨by omega, i + 1, ⟨by omega, fun j hj => ?_⟩, by omega, by omega⟩⟩, fun hge => ?_⟩
      · exact (decide_eq_false (ne_at (d := ⟨[], []⟩) (i := i) fun e => hne (by rw [e]) (by rw [e]))).symm
      · by_cases e : j = i
        · subst e
          have e1 : ∀ x y : Hd, x.name = y.name → x.value = y.value → x = y := fun x y h h' => by cases x; cases y; simp_all
          exact e1 _ _ he.1 he.2
        · exact h2 j (by omega)
      · exact (decide_eq_true (eq_take (d := ⟨[], []⟩) (by omega) fun j hj => h2 j (by omega))).symm
  · cases h
attribute [push_cast] ckEqHd

end Go.Abs
