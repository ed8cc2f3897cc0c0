/- what functions of this program compute: contracts, each a function's own -/
import Derived.Test.YtcbkpkcmbijipaaGreatDoorAbsK3
import Derived.Test.YtcbkpkcmbijipaaGreatDoorAbsFacts
import Derived.Test.YtcbkpkcmbijipaaGreatDoorAbsF5
import Derived.Test.YtcbkpkcmbijipaaGreatDoorAbsShelf
import Derived.Lib.SlTrimSet
import Derived.Lib.Atoi
import Derived.Lib.Itoa
import Derived.Lib.ItoaNum
import Derived.Lib.AtoiErrMem
import Derived.Lib.Repeat
import Derived.Lib.ItoaLen
import Derived.Lib.Fold
namespace Go.Abs
open Go Go.Proofs
set_option maxHeartbeats 4000000
set_option maxRecDepth 100000
set_option linter.unusedVariables false
set_option linter.unusedSimpArgs false
theorem pcall_inG {ct : Ct} {ow : Nat → Bool} {n : Nat} {an : Nat → List Nat} (ad : List Adj) (hc : CtOk pg ct) (f : FuncId) {fn : Func} {code : Code} {rs : List ResultVar} (hf : pg.prog.funcs[f]? = some fn) (hb : fn.body = some code) (hrs : fn.results.toList = rs)
    (hent : entB pg.prog f = true) (hn : fn.ntmps = n) (hok : (codeOk an code && Nat.ble n 8999) = true) {args : List V} (ha : Nat.ble args.length n = true) {r : V} (hr : r.noId = true) (h : exec ⟨pg, ct, ow, n, an, false, none⟩ code ⟨argE args, hOf []⟩ (PostF pg.prog ad rs r [])) : PCall pg f args r := by
  simp only [Bool.and_eq_true] at hok
  exact pcall_of (c := ⟨pg, ct, ow, n, an, false, none⟩) ⟨hc, fol⟩ hf hb hent hn (Nat.le_of_ble_eq_true hok.2) hok.1 (Nat.le_of_ble_eq_true ha) hr (fun e s => PostF.post hrs) h
@[push_cast] theorem mn_lookup (t : TypeId) (x y : Operand) (b : Bool) : mayNew (.lookup t x y b) = false := rfl
@[push_cast] theorem mn_mapUpd (t : TypeId) (x y z : Operand) : mayNew (.mapUpdate t x y z) = false := rfl
section
variable {T : Type} (d : MD) (sz m : Nat) (l : T → List (Nat × V)) (hl : T → HL) (I : T → Prop) (μ : T → Nat) (rows : T → Rws) (e0 : Nat) (lX : List (Nat × V)) (hlX : HL) (rX : Rws) (key : T → MK) (t : T) (u : MK → Value) (s : St)
@[push_cast] theorem poolX_n : poolX d sz m l hl I μ rows e0 lX hlX rX key t u .normal s = ∃ t' o hot, I t' ∧ μ t' < μ t ∧ levE s (l t') ∧ levH s ((m, .mh d (conM (rows t) u) (key t) o) :: (hot ++ hl t')) ∧ hotOk sz m (hl t') (rows t' (key t)) o hot ∧ ∀ k', k' ≠ key t → rows t' k' = rows t k' := rfl
@[push_cast] theorem poolX_e (i : Nat) : poolX d sz m l hl I μ rows e0 lX hlX rX key t u (.exit i) s = (i = e0 ∧ ∃ o hot, levE s lX ∧ levH s ((m, .mh d (conM (rows t) u) (key t) o) :: (hot ++ hlX)) ∧ hotOk sz m hlX (rX (key t)) o hot ∧ ∀ k', k' ≠ key t → rX k' = rows t k') := rfl
end
theorem al_men {l : List (Nat × V)} {d : Nat} (h : l.all (fun p => !V.men d p.2) = true) (x : Nat) : V.men d (al l x) = false := by
  induction l with
  | nil => rfl
  | cons p r ih =>
    obtain ⟨k, v⟩ := p
    simp only [List.all_cons, Bool.and_eq_true, Bool.not_eq_true'] at h
    simp only [al]
    cases Nat.beq k x with
    | false => exact ih h.2
    | true => exact h.1
theorem hOf_all {P : Nat → Blk → Prop} : ∀ {hl : HL}, (∀ p ∈ hl, P p.1 p.2) → ∀ id b, hOf hl id = some b → P id b
  | [], _, id, b, h => by cases h
  | (k, c) :: r, hp, id, b, h => by
    simp only [hOf] at h
    by_cases e : id = k
    · subst e
      rw [upd_same] at h; cases h
      exact hp (id, c) (by simp)
    · rw [upd_ne _ _ e] at h
      exact hOf_all (fun p hq => hp p (by simp [hq])) id b h
theorem men_cells {d : Nat} {cs : List V} (h : V.menL d cs = false) : ¬ Blk.men d (.cells cs) := by
  rintro ⟨i, _, hi⟩
  rw [menL_getD d cs h i] at hi; cases hi
theorem men_by {d n : Nat} {s : List UInt8} : ¬ Blk.men d (.vec 1 n (byF s)) := by
  rintro ⟨i, j, _, hj⟩
  cases j with
  | zero => cases hj
  | succ j => cases hj
theorem conJoined : Con pg 29 ckJoined := by
  have hct := ctA_ok conFind6 (ctW_ok conCloneHdN (ctW_ok conCloneByN (ctA_ok conRhead (ctA_ok conNumber (ctF_ok conDelH (ctA_ok conCheckRec (ctN_ok _)))))))
  intro args q r h hq
  unfold ckJoined at h
  split at h
  · cases h
    rename_i n f s
    refine pcall_args (args' := [.sl (lsOf cRec n f).length (lsF cRec (lsOf cRec n f)), .str s]) ⟨isLs.vle hq.1, VLe.refl _, trivial⟩ ?_
    obtain ⟨-, hl, hck⟩ := hq
    generalize lsOf cRec n f = l at hl hck ⊢
    refine pcall_inG (ow := fun _ => false) (n := 145) (an := (anL [(4, [0, 1, 3, 0, 8, 31, 31, 127, 255, 511]), (18, [0, 0, 2, 0, 14, 30, 62, 126, 0, 0, 512, 0, 3584, 7680, 15872, 32510, 65534, 0, 131072, 524286, 1048575]), (25, [0, 1, 0, 0, 12, 28, 60, 124, 255, 511, 1023])])) (rs := [.cell 4 33, .tmp 5]) [.frz 35, .frz 32] hct 29 n29 rfl rfl e29 rfl (bodyOk_at o29 rfl rfl) rfl rfl ?_
    push_cast (config := { maxSteps := 10000000 })
    obtain ⟨hcl, hfl, hlen⟩ := file_ok hck
    rw [show ([112, 105, 101, 99, 101, 115] : List UInt8) = wPieces from rfl]
    refine ⟨by omega, fun h => ?_, fun h => ?_⟩
    · have e : joinL l s = (noRec, 9) := by unfold joinL; rw [if_pos h]
      rw [e]; exact ⟨⟨rfl, rfl, rfl, rfl, rfl, rfl, rfl⟩, rfl⟩
    have eJ : joinL l s = jnR l s (fndR l s) := by unfold joinL; rw [if_neg (fun x => x.elim (fun y => y h.1) h.2)]
    have hr : fndR l s ∈ l := by
      unfold fndR
      rw [if_pos h.1]
      have := (fndL_ok h.1).1
      exact getD_memH (d := noRec) (by omega)
    rw [eJ]
    generalize fndR l s = r at hr h eJ ⊢
    have rs := rec_sz (hcl r hr)
    obtain ⟨z1, z2, z3, z4, z5, z6, z7⟩ := rs
    have ok := hl r hr
    have hN : hdsN r.hd := fun x hx => (ok.1 x hx).1
    have fb : fstH r.hd wPieces < r.hd.length := by
      unfold fstH
      split
      · rename_i k hk
        have := (List.findIdx?_eq_some_iff_getElem.1 hk).1
        omega
      · omega
    refine ⟨by omega, by omega, ⟨hN, by omega⟩, fun g => ?_, fun g => ⟨⟨by omega, by omega⟩, by omega, ?_, fun g2 => ?_, fun g2 => ⟨⟨by omega, by omega⟩, ⟨by omega, by omega, by omega⟩, ?_⟩⟩⟩
    · have e : jnR l s r = (r, 0) := by unfold jnR; rw [if_pos g]
      rw [e]; exact ⟨⟨rfl, rfl, rfl, rfl, rfl, ⟨rfl, fun _ _ => rfl⟩, rfl, fun _ _ => rfl⟩, rfl⟩
    · have ht : (fstH r.hd wPieces).toNat < r.hd.length := by omega
      exact (ok.1 _ (getD_memH (d := ⟨[], []⟩) ht)).2
    · have g2 : numV (hdV r wPieces) < 2 := g2
      have e : jnR l s r = (noRec, 3) := by unfold jnR; rw [if_neg g, if_pos g2]
      rw [e]; exact ⟨⟨rfl, rfl, rfl, rfl, rfl, rfl, rfl⟩, rfl⟩
    have g2 : ¬ numV (hdV r wPieces) < 2 := g2
    have e : jnR l s r = jnE r (joinG (pcsL r s l) (numV (hdV r wPieces) - 1).toNat 2 r.bd) := by unfold jnR; rw [if_neg g, if_neg g2]
    rw [e]
    have eM : (r.hd.getD (fstH r.hd wPieces).toNat ⟨[], []⟩).value = hdV r wPieces := rfl
    have okX : ∀ b, b.length ≤ 140737488355328 → recOk (jnX r b) := fun b hb => jnX_ok ok hb
    have eX : ∀ b, jnX r b = ⟨r.ki, r.id, r.ow, r.ti, r.ke, r.hd.eraseIdx (fstH r.hd wPieces).toNat, b⟩ := fun b => rfl
    have le1 : (r.hd.eraseIdx (fstH r.hd wPieces).toNat).length = r.hd.length - 1 := by rw [List.length_eraseIdx, if_pos (by omega)]
    generalize r.hd.eraseIdx (fstH r.hd wPieces).toNat = H at le1 eX ⊢
    refine LoopW.poolX ⟨hct, fol⟩ rfl (by kernel_rfl) (.int .i64) 7 60 (fun i : Nat => [(1, .str s), (4, .ptr 4 0), (6, .ptr 6 0), (9, .int .i64 (numV (hdV r wPieces))), (10, .map 60), (61, .sl l.length (lsF cRec l)), (62, .int .i64 l.length), (63, .int .i64 i)])
      (fun i => [(4, .cells [.int .i64 0, .str [], .str [], .int .i64 0, .str [], .nilsl, .nilsl]), (6, .cells [.int .i64 r.ki, .str r.id, .str r.ow, .int .i64 r.ti, .str r.ke, .sl H.length (lsF cHd H), .vec 35 r.bd.length]), (35, .vec 1 r.bd.length (byF r.bd))])
      (fun i => i ≤ l.length) (fun i => l.length - i) (fun i => rowsR (pcsL r s (l.take i))) (fun i => .int .i64 (nbV (l.getD i noRec))) 0 0 [(4, .ptr 4 0), (6, .ptr 6 0), (9, .int .i64 (numV (hdV r wPieces))), (10, .map 60)]
      [(4, .cells [.int .i64 0, .str [], .str [], .int .i64 0, .str [], .nilsl, .nilsl]), (6, .cells [.int .i64 r.ki, .str r.id, .str r.ow, .int .i64 r.ti, .str r.ke, .sl H.length (lsF cHd H), .vec 35 r.bd.length]), (35, .vec 1 r.bd.length (byF r.bd))] (rowsR (pcsL r s l)) ?_ ?_ (by decide) ?_ ?_ (fun _ => rfl) rfl ?_ fun i hi u => ?_
    · push_cast (config := { maxSteps := 10000000 })
      exact ⟨Nat.zero_le _, rfl, le1.symm⟩
    · exact rowsR_no fun n => rfl
    · exact fun t => al_men rfl
    · refine fun t => hOf_all fun p hp => ?_
      simp only [List.mem_cons, List.not_mem_nil, or_false] at hp
      rcases hp with rfl | rfl | rfl
      · exact ⟨men_cells rfl, show 4 ≠ 7000 by decide, show 4 ≠ 60 by decide⟩
      · exact ⟨men_cells rfl, show 6 ≠ 7000 by decide, show 6 ≠ 60 by decide⟩
      · exact ⟨men_by, show 35 ≠ 7000 by decide, show 35 ≠ 60 by decide⟩
    · push_cast (config := { maxSteps := 10000000 })
      have m9 := numV_le (hdV r wPieces)
      generalize numV (hdV r wPieces) = M at *
      have hqm : ∀ n x, x ∈ pcsL r s l n → x ∈ l := fun n x h => pcsL_mem h
      generalize pcsL r s l = q at *
      refine LoopW.adj ⟨hct, fol⟩ (by kernel_rfl) [] (fun t : Nat × List UInt8 => [(4, .ptr 4 0), (6, .ptr 6 0), (9, .int .i64 M), (10, .map 60), (14, .int .i64 (2 + t.1))]) (fun t => [(60, .mp (.int .i64) (slM (rowsR q))), (4, .cells [.int .i64 0, .str [], .str [], .int .i64 0, .str [], .nilsl, .nilsl]), (6, .cells [.int .i64 r.ki, .str r.id, .str r.ow, .int .i64 r.ti, .str r.ke, .sl H.length (lsF cHd H), .vec 35 t.2.length]), (35, .vec 1 t.2.length (byF t.2))]) (fun t => (t.1 : Int) ≤ M - 1 ∧ t.2.length ≤ 200000 * (t.1 + 1) ∧ joinG q (M - 1).toNat 2 r.bd = joinG q ((M - 1).toNat - t.1) (2 + t.1) t.2) (fun t => 10000 - t.1) (0, r.bd) ?_ fun t ht => ?_
      · push_cast (config := { maxSteps := 10000000 })
        exact ⟨by omega, by omega⟩
      · obtain ⟨k, b⟩ := t
        obtain ⟨t1, t2, t3⟩ := ht
        have t1 : (k : Int) ≤ M - 1 := t1
        have t2 : b.length ≤ 200000 * (k + 1) := t2
        have t3 : joinG q (M - 1).toNat 2 r.bd = joinG q ((M - 1).toNat - k) (2 + k) b := t3
        by_cases h1 : (q (2 + k)).length = 1
        · obtain ⟨y, hy⟩ := List.length_eq_one_iff.1 h1
          have hF := asF_sl hy
          push_cast (config := { maxSteps := 10000000 }) [hF, hy]
          have hyl : y ∈ l := hqm (2 + k) y (by rw [hy]; simp)
          obtain ⟨y1, y2, y3, y4, y5, y6, y7⟩ := rec_sz (hcl y hyl)
          refine ⟨fun h2 => ⟨⟨by omega, by omega⟩, ⟨by omega, by omega⟩, (k + 1, b ++ y.bd), ⟨by show ((k + 1 : Nat) : Int) ≤ _; omega, ?_, ?_⟩, by show 10000 - (k + 1) < _; omega, by show _ = 2 + ((k + 1 : Nat) : Int); omega, List.length_append.symm, List.length_append.symm, fun j hj => ?_⟩, fun h2 => ?_⟩
          · show (b ++ y.bd).length ≤ 200000 * (k + 1 + 1)
            rw [List.length_append]; omega
          · rw [t3, show (M - 1).toNat - k = ((M - 1).toNat - (k + 1)) + 1 by omega]
            show (if (q (2 + (k : Int))).length = 1 then _ else _) = _
            rw [if_pos h1, hy, show (2 : Int) + k + 1 = 2 + ((k + 1 : Nat) : Int) by omega]; rfl
          · exact (ByI.app (k := b.length + y.bd.length) (ByI.by b) (ByI.by y.bd) rfl).2 j hj
          · have e3 : joinG q (M - 1).toNat 2 r.bd = some b := by
              rw [t3, show (M - 1).toNat - k = 0 by omega]; rfl
            rw [e3]
            rw [← eX b]
            refine ⟨⟨?_, okX b (by omega)⟩, fun hc => ?_, fun hc => ?_⟩
            · have := isC_enc cRec (jnX r b)
              rw [eX b] at this; exact this
            · have e4 : jnE r (some b) = (noRec, checkRecL (jnX r b)) := if_neg hc
              rw [e4]; exact ⟨⟨rfl, rfl, rfl, rfl, rfl, rfl, rfl⟩, rfl⟩
            · have e4 : jnE r (some b) = (jnX r b, 0) := if_pos hc
              rw [e4, eX b]; exact ⟨⟨rfl, rfl, rfl, rfl, rfl, ⟨rfl, fun _ _ => rfl⟩, rfl, fun _ _ => rfl⟩, rfl⟩
        · by_cases hM : 2 + (k : Int) ≤ M
          · push_cast (config := { maxSteps := 10000000 }) [h1, hM]
            refine ⟨fun _ => ?_, fun h => (h1 (by omega)).elim⟩
            have e3 : joinG q (M - 1).toNat 2 r.bd = none := by
              rw [t3, show (M - 1).toNat - k = ((M - 1).toNat - (k + 1)) + 1 by omega]
              show (if (q (2 + (k : Int))).length = 1 then _ else _) = _
              rw [if_neg h1]
            rw [e3]; exact ⟨⟨rfl, rfl, rfl, rfl, rfl, rfl, rfl⟩, rfl⟩
          · push_cast (config := { maxSteps := 10000000 }) [hM]
            have e3 : joinG q (M - 1).toNat 2 r.bd = some b := by
              rw [t3, show (M - 1).toNat - k = 0 by omega]; rfl
            rw [e3]
            rw [← eX b]
            refine ⟨⟨?_, okX b (by omega)⟩, fun hc => ?_, fun hc => ?_⟩
            · have := isC_enc cRec (jnX r b)
              rw [eX b] at this; exact this
            · have e4 : jnE r (some b) = (noRec, checkRecL (jnX r b)) := if_neg hc
              rw [e4]; exact ⟨⟨rfl, rfl, rfl, rfl, rfl, rfl, rfl⟩, rfl⟩
            · have e4 : jnE r (some b) = (jnX r b, 0) := if_pos hc
              rw [e4, eX b]; exact ⟨⟨rfl, rfl, rfl, rfl, rfl, ⟨rfl, fun _ _ => rfl⟩, rfl, fun _ _ => rfl⟩, rfl⟩
    · have hi : i ≤ l.length := hi
      generalize hx : l.getD i noRec = x at *
      have facts : i < l.length → hdsN x.hd ∧ x.hd.length ≤ 30 ∧ (0 ≤ fstH x.hd wNumber → fstH x.hd wNumber < x.hd.length ∧ (hdV x wNumber).length ≤ 140737488355328) := fun hlt => by
        have hm : x ∈ l := hx ▸ getD_memH (d := noRec) hlt
        obtain ⟨y1, y2, y3, y4, y5, y6, y7⟩ := rec_sz (hcl x hm)
        have oky := hl x hm
        refine ⟨fun y hy => (oky.1 y hy).1, y7, fun h0 => ?_⟩
        have h1 := fstH_lt x.hd wNumber h0
        have ht : (fstH x.hd wNumber).toNat < x.hd.length := by omega
        exact ⟨h1, (oky.1 _ (getD_memH (l := x.hd) (d := ⟨[], []⟩) ht)).2⟩
      rw [show wNumber = ([110, 117, 109, 98, 101, 114] : List UInt8) from rfl] at facts
      by_cases hq : pcsL r s (l.take i) (nbV x) = []
      · have hk : rowsR (pcsL r s (l.take i)) (.int .i64 (nbV x)) = none := if_pos hq
        push_cast (config := { maxSteps := 10000000 }) [hk, hotO, hotL, hx]
        refine ⟨fun hlt => ?_, fun hlt => ?_⟩
        · obtain ⟨f1, f2, f3⟩ := facts hlt
          refine ⟨hlt, ⟨f1, by omega⟩, fun hc => ?_, fun hc => ?_⟩
          · obtain ⟨f4, f5⟩ := f3 hc.1.1.2
            obtain ⟨p1, p2⟩ := pcsL_in hlt hx (isPc_iff.2 hc)
            rw [hq] at p1
            have hk2 : rowsR (pcsL r s (l.take (i + 1))) (.int .i64 (nbV x)) = some (1, lsF cRec [x]) := by
              show (if pcsL r s (l.take (i + 1)) (nbV x) = [] then none else some _) = _
              rw [p1]; rfl
            refine ⟨⟨hc.1.1.2, f4⟩, f5, ⟨hc.1.1.2, f4⟩, f5, rfl, rfl, ⟨by omega, by omega⟩, i + 1, .vec 115 1, [(115, .vec 7 1 (lsF cRec [x]))], by omega, by omega, by omega, ⟨rfl, ?_⟩, ?_, fun k' hk' => rowsR_other p2 hk'⟩
            · push_cast (config := { maxSteps := 10000000 })
              intro j hj
              obtain rfl : j = 0 := by omega
              rfl
            · rw [hk2]
              exact ⟨115, rfl, rfl, by decide, rfl, Nat.le_refl 1, fun j hj => rfl⟩
          · have p1 := pcsL_out hlt hx (fun e => hc (isPc_iff.1 e).1 (isPc_iff.1 e).2)
            refine ⟨⟨by omega, by omega⟩, i + 1, .nilsl, [], by omega, by omega, by omega, ⟨rfl, ?_⟩, ?_, fun k' _ => by rw [p1]⟩
            · push_cast (config := { maxSteps := 10000000 })
              done
            · rw [p1, hk]; exact ⟨rfl, rfl⟩
        · have ei : i = l.length := by omega
          subst ei
          rw [List.take_length] at *
          refine ⟨.nilsl, [], ⟨rfl, ?_⟩, ?_, fun k' _ => rfl⟩
          · push_cast (config := { maxSteps := 10000000 })
            done
          · rw [hk]; exact ⟨rfl, rfl⟩
      · have hk : rowsR (pcsL r s (l.take i)) (.int .i64 (nbV x)) = some ((pcsL r s (l.take i) (nbV x)).length, lsF cRec (pcsL r s (l.take i) (nbV x))) := if_neg hq
        push_cast (config := { maxSteps := 10000000 }) [hk, hotO, hotL, hx]
        refine ⟨fun hlt => ?_, fun hlt => ?_⟩
        · obtain ⟨f1, f2, f3⟩ := facts hlt
          have q1 : 1 ≤ (pcsL r s (l.take i) (nbV x)).length := List.length_pos_iff.2 hq
          have q2 : (pcsL r s (l.take i) (nbV x)).length ≤ 1000 := by
            have := List.length_filter_le (fun y => isPc r s y && decide (nbV y = nbV x)) (l.take i)
            rw [List.length_take] at this
            show (List.filter _ _).length ≤ _
            omega
          refine ⟨hlt, ⟨f1, by omega⟩, fun hc => ?_, fun hc => ?_⟩
          · obtain ⟨f4, f5⟩ := f3 hc.1.1.2
            obtain ⟨p1, p2⟩ := pcsL_in hlt hx (isPc_iff.2 hc)
            have hk2 : rowsR (pcsL r s (l.take (i + 1))) (.int .i64 (nbV x)) = some ((pcsL r s (l.take i) (nbV x)).length + 1, lsF cRec (pcsL r s (l.take i) (nbV x) ++ [x])) := by
              show (if pcsL r s (l.take (i + 1)) (nbV x) = [] then none else some _) = _
              rw [p1, if_neg (by simp), List.length_append]; rfl
            generalize pcsL r s (l.take i) (nbV x) = q at *
            refine ⟨⟨hc.1.1.2, f4⟩, f5, ⟨hc.1.1.2, f4⟩, f5, rfl, ⟨by omega, by omega⟩, rfl, ⟨by omega, by omega⟩, i + 1, .vec 7000 (q.length + 1), [(7000, .vec 7 (q.length + 1) (lsF cRec (q ++ [x])))], by omega, by omega, by omega, ⟨rfl, ?_⟩, ?_, fun k' hk' => rowsR_other p2 hk'⟩
            · push_cast (config := { maxSteps := 10000000 })
              exact (LsI.app (c := cRec) (k := q.length + 1) (LsI.ls q) (LsI.one (f := litF [cRec.enc x]) rfl) rfl).2
            · rw [hk2]
              exact ⟨7000, rfl, rfl, by decide, rfl, Nat.succ_le_succ (Nat.zero_le _), fun j hj => rfl⟩
          · have p1 := pcsL_out hlt hx (fun e => hc (isPc_iff.1 e).1 (isPc_iff.1 e).2)
            generalize pcsL r s (l.take i) (nbV x) = q at *
            refine ⟨⟨by omega, by omega⟩, i + 1, .vec 7000 q.length, [(7000, .vec 7 q.length (lsF cRec q))], by omega, by omega, by omega, ⟨rfl, ?_⟩, ?_, fun k' _ => by rw [p1]⟩
            · push_cast (config := { maxSteps := 10000000 })
              done
            · rw [p1, hk]; exact ⟨7000, rfl, rfl, by decide, rfl, q1, fun j hj => rfl⟩
        · have ei : i = l.length := by omega
          subst ei
          rw [List.take_length] at *
          have q1 : 1 ≤ (pcsL r s l (nbV x)).length := List.length_pos_iff.2 hq
          refine ⟨.vec 7000 (pcsL r s l (nbV x)).length, [(7000, .vec 7 (pcsL r s l (nbV x)).length (lsF cRec (pcsL r s l (nbV x))))], ⟨rfl, ?_⟩, ?_, fun k' _ => rfl⟩
          · push_cast (config := { maxSteps := 10000000 })
            done
          · rw [hk]; exact ⟨7000, rfl, rfl, by decide, rfl, q1, fun j hj => rfl⟩
  · cases h

theorem idxC_has (l : List (List UInt8)) (w : List UInt8) : decide (0 ≤ idxL l w) = l.contains w := by
  unfold idxL
  cases h : l.findIdx? (· == w) with
  | none =>
    rw [List.findIdx?_eq_none_iff] at h
    have : l.contains w = false := by
      rw [Bool.eq_false_iff]
      intro hc
      rw [List.contains_iff_mem] at hc
      have := h w hc
      simp at this
    rw [this]; rfl
  | some k =>
    rw [List.findIdx?_eq_some_iff_getElem] at h
    obtain ⟨hk, h1, _⟩ := h
    have : l.contains w = true := by
      rw [List.contains_iff_mem]
      have e := beq_iff_eq.1 h1
      rw [← e]; exact List.getElem_mem hk
    rw [this]
    exact decide_eq_true (Int.natCast_nonneg k)
def ckCtnS : Ck
  | [.sl n f, .str w] => some (isLs cStr n f ∧ n ≤ 4611686018427387904, .bool ((lsOf cStr n f).contains w))
  | _ => none
theorem conCtnS : Con pg 28 ckCtnS := by
  have hct := (ctA_ok conIndexStr (ctN_ok _))
  intro args q r h hq
  unfold ckCtnS at h
  split at h
  · cases h
    rename_i n f w
    refine w28 (fun _ => false) [] rfl hct rfl rfl ?_
    push_cast (config := { maxSteps := 10000000 })
    exact ⟨hq, idxC_has _ _⟩
  · cases h
attribute [push_cast] ckCtnS

theorem conJoinedX : Con pg 18 ckJoinedX := by
  have hct := (ctA_ok conCheckFile (ctA_ok conJoined (ctN_ok _)))
  intro args q r h hq
  unfold ckJoinedX at h
  split at h
  · cases h
    rename_i n f s
    refine pcall_args (args' := [.sl (lsOf cRec n f).length (lsF cRec (lsOf cRec n f)), .str s]) ⟨isLs.vle hq.1, VLe.refl _, trivial⟩ ?_
    obtain ⟨-, hl⟩ := hq
    generalize lsOf cRec n f = l at hl ⊢
    refine w18 (fun _ => false) [] rfl hct rfl rfl ?_
    push_cast (config := { maxSteps := 10000000 })
    refine ⟨hl, fun h => ?_, fun h => ?_⟩
    · have e : joinedL l s = (noRec, checkFileL l) := by unfold joinedL; rw [if_pos h]
      rw [e]; exact ⟨⟨rfl, rfl, rfl, rfl, rfl, rfl, rfl⟩, rfl⟩
    · have e : joinedL l s = joinL l s := by unfold joinedL; rw [if_neg (fun x => x h)]
      rw [e]; exact ⟨⟨hl, h⟩, ⟨rfl, rfl, rfl, rfl, rfl, ⟨rfl, fun _ _ => rfl⟩, rfl, fun _ _ => rfl⟩, rfl⟩
  · cases h
attribute [push_cast] ckJoinedX
theorem conShown : Con pg 10 ckShown := by
  have hct := (ctA_ok conCheckFile (ctA_ok conFind6 (ctA_ok conHasStr (ctA_ok conJoined (ctN_ok _)))))
  intro args q r h hq
  unfold ckShown at h
  split at h
  · cases h
    rename_i n f s
    refine pcall_args (args' := [.sl (lsOf cRec n f).length (lsF cRec (lsOf cRec n f)), .str s]) ⟨isLs.vle hq.1, VLe.refl _, trivial⟩ ?_
    obtain ⟨-, hl⟩ := hq
    generalize lsOf cRec n f = l at hl ⊢
    refine w10 (fun _ => false) [.frz 8000] rfl hct rfl rfl ?_
    push_cast (config := { maxSteps := 10000000 })
    refine ⟨hl, fun h => ?_, fun h => ?_⟩
    · have e : showL l s = ([], checkFileL l) := by unfold showL; rw [if_pos h]
      rw [e]; exact ⟨rfl, rfl⟩
    have e : showL l s = showG l (l.length + 1) [] s := by unfold showL; rw [if_neg (fun x => x h)]
    rw [e]
    have h0 := shI_0 l s
    generalize showG l (l.length + 1) [] s = R at h0 ⊢
    obtain ⟨hcl, hfl, hlen⟩ := file_ok h
    refine LoopW.adj ⟨hct, fol⟩ (by kernel_rfl) [.nv 7 8000 1 (lsF cStr [])] (fun t : Nat × List (List UInt8) × List UInt8 => [(0, .sl l.length (lsF cRec l)), (1, .str t.2.2), (7, .vec 8000 t.2.1.length)]) (fun t => [(8000, .vec 1 t.2.1.length (lsF cStr t.2.1))]) (fun t => shI l R t) (fun t => t.1) (l.length + 1, [], s) ?_ fun t ht => ?_
    · push_cast (config := { maxSteps := 10000000 })
      exact h0
    · obtain ⟨f, seen, id⟩ := t
      obtain ⟨p1, p2⟩ := shI_pos ht
      obtain ⟨f, rfl⟩ : ∃ g, f = g + 1 := ⟨f - 1, by have p1 : 1 ≤ f := p1; omega⟩
      have p2 : seen.length ≤ l.length := p2
      push_cast (config := { maxSteps := 10000000 })
      have eS : lsOf cStr seen.length (fun i => V.str (seen.getD i [])) = seen := lsOf_ls (c := cStr) seen
      have iS : isLs cStr seen.length (fun i => V.str (seen.getD i [])) := isLs_ls (c := cStr) seen
      rw [eS]
      have hR : R = if ¬ 0 ≤ fndL l id then ([], 9) else if seen.contains id = true then ([], 17) else if ¬ (fndR l id).ki = 4 then ((joinL l id).1.bd, (joinL l id).2) else showG l f (seen ++ [id]) (fndR l id).ow := ht.2.2.2
      refine ⟨by omega, fun g => ?_, fun g => ⟨⟨iS, by omega⟩, fun g2 => ?_, fun g2 => ⟨fun g3 => ?_, fun g3 => ⟨⟨by omega, by omega⟩, (f, seen ++ [id], (fndR l id).ow), shI_s ht g (by rw [g2]; exact Bool.false_ne_true) g3, Nat.lt_succ_self f, ⟨rfl, ?_⟩, ?_, fun j hj => ?_⟩⟩⟩⟩
      · rw [hR, if_pos g]; exact ⟨rfl, rfl⟩
      · rw [hR, if_neg (fun x => x g), if_pos g2]; exact ⟨rfl, rfl⟩
      · rw [hR, if_neg (fun x => x g), if_neg (by rw [g2]; exact Bool.false_ne_true), if_pos g3]
        exact ⟨⟨hl, h⟩, ⟨rfl, fun _ _ => rfl⟩, rfl⟩
      · rw [List.length_append]; rfl
      · rw [List.length_append]; rfl
      · exact (LsI.app (c := cStr) (k := seen.length + 1) (LsI.ls seen) (LsI.one (f := litF [cStr.enc id]) rfl) rfl).2 j hj
  · cases h
attribute [push_cast] ckShown

/- the calendar, by ranges -/
theorem daysI_next (y : Int) : daysI (y + 1) 1 = daysI y 1 + yearLong y := by
  rw [daysI_1, daysI_1]
  unfold yearLong leapB
  split
  · rename_i h; simp only [decide_eq_true_eq] at h; omega
  · rename_i h; simp only [decide_eq_true_eq] at h; omega
theorem daysI_month {y : Int} {m : Int} (h : 1 ≤ m) : daysI y (m + 1) = daysI y m + monthLongI y m := by
  unfold daysI
  obtain ⟨k, rfl⟩ : ∃ k : Nat, m = k + 1 := ⟨(m - 1).toNat, by omega⟩
  rw [show ((k : Int) + 1 + 1 - 1).toNat = k + 1 by omega, show ((k : Int) + 1 - 1).toNat = k by omega]
  simp only [monthsSum]; omega
theorem monthsSum_12 (y : Int) : monthsSum y 12 = yearLong y := by
  simp only [monthsSum]
  unfold monthLongI yearLong leapB
  by_cases h : y % 4 = 0 ∧ (y % 100 ≠ 0 ∨ y % 400 = 0)
  · simp [h]
  · simp [h]
theorem daysI_13 (y : Int) : daysI y 13 = daysI (y + 1) 1 := by
  rw [daysI_next, daysI_1]
  unfold daysI
  rw [show ((13 : Int) - 1).toNat = 12 from rfl, monthsSum_12]; 
theorem daysI_mono {y z : Int} (h : y < z) : daysI (y + 1) 1 ≤ daysI z 1 := by
  rw [daysI_1, daysI_1]; omega
theorem yearF_up (d : Int) : ∀ (n : Nat) (y : Int), d < daysI (yearF d n y + 1) 1 ∨ yearF d n y = y + n
  | 0, y => .inr (by simp [yearF])
  | n + 1, y => by
    simp only [yearF]
    split
    · rcases yearF_up d n (y + 1) with h | h
      · exact .inl h
      · exact .inr (by omega)
    · exact .inl (by omega)
theorem monthF_up (y d : Int) : ∀ (n : Nat) (m : Int), (12 ≤ monthF y d n m ∨ d < daysI y (monthF y d n m + 1)) ∨ monthF y d n m = m + n
  | 0, m => .inr (by simp [monthF])
  | n + 1, m => by
    simp only [monthF]
    split
    · rcases monthF_up y d n (m + 1) with h | h
      · exact .inl h
      · exact .inr (by omega)
    · exact .inl (by omega)
theorem yearI_up {d : Int} (h0 : 0 ≤ d) (h1 : d ≤ 2932896) : d < daysI (yearI d + 1) 1 := by
  have b := date_b h0 h1
  rcases yearF_up d 1000 (1970 + d / 366) with h | h
  · exact h
  · have hb := yearF_b d 1000 _ (daysI_y0 d h0 h1)
    have := daysI_step hb.2 hb.1 h0 h1
    omega
theorem yearI_is {d y : Int} (h0 : 0 ≤ d) (h1 : d ≤ 2932896) (a : daysI y 1 ≤ d) (b : d < daysI (y + 1) 1) : yearI d = y := by
  have hb := yearF_b d 1000 _ (daysI_y0 d h0 h1)
  have hu := yearI_up h0 h1
  have hl : daysI (yearI d) 1 ≤ d := hb.2
  rcases Int.lt_trichotomy (yearI d) y with h | h | h
  · have := daysI_mono h; omega
  · exact h
  · have := daysI_mono h; omega
theorem monthsSum_mono (y : Int) {i j : Nat} (h : i ≤ j) : monthsSum y i ≤ monthsSum y j := by
  induction h with
  | refl => exact Int.le_refl _
  | step _ ih => have := monthLongI_b y ((‹Nat› : Nat) + 1 : Int); simp only [monthsSum]; have := monthLongI_b y; omega
theorem daysI_mmono {y m k : Int} (h1 : 1 ≤ m) (h : m ≤ k) : daysI y m ≤ daysI y k := by
  have := monthsSum_mono y (i := (m - 1).toNat) (j := (k - 1).toNat) (by omega)
  unfold daysI; omega
theorem monthI_is {d m : Int} (h0 : 0 ≤ d) (h1 : d ≤ 2932896) (m1 : 1 ≤ m) (m2 : m ≤ 12) (a : daysI (yearI d) m ≤ d) (b : d < daysI (yearI d) (m + 1)) : monthI d = m := by
  have hd : daysI (yearI d) 1 ≤ d := (yearF_b d 1000 _ (daysI_y0 d h0 h1)).2
  have hb := monthF_b (yearI d) d 12 1 (by omega) (by omega) hd
  have hu : 12 ≤ monthI d ∨ d < daysI (yearI d) (monthI d + 1) := by
    rcases monthF_up (yearI d) d 12 1 with h | h
    · exact h
    · exact .inl (by unfold monthI; omega)
  change 1 ≤ monthI d ∧ monthI d ≤ 12 ∧ daysI (yearI d) (monthI d) ≤ d at hb
  rcases Int.lt_trichotomy (monthI d) m with h | h | h
  · rcases hu with hu | hu
    · omega
    · have := daysI_mmono (y := yearI d) (m := monthI d + 1) (k := m) (by omega) (by omega); omega
  · exact h
  · have := daysI_mmono (y := yearI d) (m := m + 1) (k := monthI d) (by omega) (by omega); omega
theorem monthI_up {d : Int} (h0 : 0 ≤ d) (h1 : d ≤ 2932896) : d < daysI (yearI d) (monthI d + 1) := by
  have hd : daysI (yearI d) 1 ≤ d := (yearF_b d 1000 _ (daysI_y0 d h0 h1)).2
  have hb := monthF_b (yearI d) d 12 1 (by omega) (by omega) hd
  change 1 ≤ monthI d ∧ monthI d ≤ 12 ∧ daysI (yearI d) (monthI d) ≤ d at hb
  rcases monthF_up (yearI d) d 12 1 with h | h
  · change 12 ≤ monthI d ∨ d < daysI (yearI d) (monthI d + 1) at h
    rcases h with h | h
    · rw [show monthI d = 12 by omega, show (12 : Int) + 1 = 13 from rfl, daysI_13]; exact yearI_up h0 h1
    · exact h
  · change monthI d = 1 + ((12 : Nat) : Int) at h; omega
theorem yearI_9999 {d : Int} (h0 : 0 ≤ d) (h1 : d ≤ 2932896) : yearI d ≤ 9999 := by
  have hd : daysI (yearI d) 1 ≤ d := (yearF_b d 1000 _ (daysI_y0 d h0 h1)).2
  rw [daysI_1] at hd; omega

theorem u8n {a b : Int} (h : a = b) : UInt8.ofNat a.toNat = UInt8.ofNat b.toNat := by rw [h]
theorem padded2 {n : Int} (h0 : 0 ≤ n) (h1 : n ≤ 99) : paddedL n 2 = twoL n := by
  obtain ⟨k, rfl⟩ : ∃ k : Nat, n = k := ⟨n.toNat, by omega⟩
  unfold paddedL twoL
  rw [itoa_nat]
  by_cases h : k < 10
  · rw [dec_small h]
    rw [show (48 + (k : Int) / 10 % 10).toNat = 48 by omega, show (48 + (k : Int) % 10).toNat = 48 + k by omega]
    rfl
  · rw [dec_step (by omega), dec_small (by omega)]
    rw [show (48 + (k : Int) / 10 % 10).toNat = 48 + k / 10 by omega, show (48 + (k : Int) % 10).toNat = 48 + k % 10 by omega]
    rfl
theorem padded4 {n : Int} (h0 : 1000 ≤ n) (h1 : n ≤ 9999) : paddedL n 4 = twoL (n / 100) ++ twoL n := by
  obtain ⟨k, rfl⟩ : ∃ k : Nat, n = k := ⟨n.toNat, by omega⟩
  unfold paddedL twoL
  rw [itoa_nat, dec_step (by omega), dec_step (n := k / 10) (by omega), dec_step (n := k / 10 / 10) (by omega), dec_small (by omega)]
  rw [show (48 + (k : Int) / 100 / 10 % 10).toNat = 48 + k / 10 / 10 / 10 by omega, show (48 + (k : Int) / 100 % 10).toNat = 48 + k / 10 / 10 % 10 by omega, show (48 + (k : Int) / 10 % 10).toNat = 48 + k / 10 % 10 by omega, show (48 + (k : Int) % 10).toNat = 48 + k % 10 by omega]
  rfl
theorem dayName (d : Int) : List.take ((3 * ((d + 4) % 7) + 3).toNat - (3 * ((d + 4) % 7)).toNat) (List.drop (3 * ((d + 4) % 7)).toNat ([83, 117, 110, 77, 111, 110, 84, 117, 101, 87, 101, 100, 84, 104, 117, 70, 114, 105, 83, 97, 116] : List UInt8)) = wdN.getD ((d + 3) % 7).toNat [] := by
  rcases (by omega : d % 7 = 0 ∨ d % 7 = 1 ∨ d % 7 = 2 ∨ d % 7 = 3 ∨ d % 7 = 4 ∨ d % 7 = 5 ∨ d % 7 = 6) with h | h | h | h | h | h | h
  · rw [show (d + 4) % 7 = 4 by omega, show (d + 3) % 7 = 3 by omega]; rfl
  · rw [show (d + 4) % 7 = 5 by omega, show (d + 3) % 7 = 4 by omega]; rfl
  · rw [show (d + 4) % 7 = 6 by omega, show (d + 3) % 7 = 5 by omega]; rfl
  · rw [show (d + 4) % 7 = 0 by omega, show (d + 3) % 7 = 6 by omega]; rfl
  · rw [show (d + 4) % 7 = 1 by omega, show (d + 3) % 7 = 0 by omega]; rfl
  · rw [show (d + 4) % 7 = 2 by omega, show (d + 3) % 7 = 1 by omega]; rfl
  · rw [show (d + 4) % 7 = 3 by omega, show (d + 3) % 7 = 2 by omega]; rfl
theorem conDateOf2 : Con pg 79 ckDateText0 := by
  have hct := (ctA_ok conYearDays (ctA_ok conMonthDays (ctA_ok conTwo (ctA_ok conMonthName (ctN_ok _)))))
  intro args q r h hq
  unfold ckDateText0 at h
  split at h
  · cases h
    rename_i n
    refine w79 (fun _ => false) [] rfl hct rfl rfl ?_
    push_cast (config := { maxSteps := 10000000 })
    (repeat (refine ⟨by omega, ?_⟩))
    generalize hd : n / 86400 = d at *
    have h0 : 0 ≤ d ∧ d ≤ 2932896 := by omega
    refine LoopW.adj ⟨hct, fol⟩ (by kernel_rfl) [] (fun t : Nat => [(3, .int .i64 (d - daysI (1970 + t) 1)), (4, .int .i64 (n % 86400)), (5, .int .i64 ((d + 4) % 7)), (6, .int .i64 (1970 + t)), (7, .int .i64 1)]) (fun _ => []) (fun t => daysI (1970 + t) 1 ≤ d) (fun t => 9000 - t) 0 ?_ fun t ht => ?_
    · push_cast (config := { maxSteps := 10000000 })
      have e : daysI 1970 1 = 0 := by rw [daysI_1]; omega
      simp [e]; omega
    · push_cast (config := { maxSteps := 10000000 })
      have hlo : (t : Int) ≤ 8029 := by have := daysI_1 (1970 + t); omega
      have hnx := daysI_next (1970 + t)
      have hyl : yearLong (1970 + t) = 365 ∨ yearLong (1970 + t) = 366 := by unfold yearLong; split <;> simp
      have hge : 0 ≤ daysI (1970 + t) 1 := by have := daysI_1 (1970 + t); omega
      refine ⟨⟨by omega, by omega⟩, fun h => ⟨⟨by omega, by omega⟩, ⟨by omega, by omega⟩, ⟨by omega, by omega⟩, t + 1, ?_, by omega, ?_, by omega⟩, fun h => ?_⟩
      · rw [show 1970 + ((t + 1 : Nat) : Int) = 1970 + (t : Int) + 1 by omega]; omega
      · rw [show 1970 + ((t + 1 : Nat) : Int) = 1970 + (t : Int) + 1 by omega]; omega
      · have hY : yearI d = 1970 + t := yearI_is h0.1 h0.2 ht (by omega)
        generalize 1970 + (t : Int) = y at *
        have hy : 1970 ≤ y ∧ y ≤ 9999 := by have := yearI_9999 h0.1 h0.2; have := (date_b h0.1 h0.2).1; omega
        refine LoopW.adj ⟨hct, fol⟩ (by kernel_rfl) [] (fun t : Nat => [(3, .int .i64 (d - daysI y (1 + t))), (4, .int .i64 (n % 86400)), (5, .int .i64 ((d + 4) % 7)), (6, .int .i64 y), (7, .int .i64 (1 + t))]) (fun _ => []) (fun t => daysI y (1 + t) ≤ d ∧ t ≤ 11) (fun t => 12 - t) 0 ?_ fun t ht2 => ?_
        · push_cast (config := { maxSteps := 10000000 })
          simpa using ht
        · push_cast (config := { maxSteps := 10000000 })
          have hm := daysI_month (y := y) (m := 1 + t) (by omega)
          have hml := monthLongI_b y (1 + t)
          have hmm := daysI_mmono (y := y) (m := 1) (k := 1 + t) (by omega) (by omega)
          have h12 : (t : Int) + 1 = 12 → d < daysI y (1 + t + 1) := fun e => by
            rw [show 1 + (t : Int) + 1 = 13 by omega, daysI_13]; omega
          have hl2 : ∀ x, (twoL x).length = 2 := fun _ => rfl
          have hl3 := mnN_b (1 + (t : Int) - 1).toNat
          have q1 : (0 ≤ y ∧ y ≤ 1000000 ∧ 1 ≤ 1 + (t : Int) ∧ 1 + (t : Int) ≤ 12) := by omega
          refine ⟨q1, fun h => ⟨q1, ⟨by omega, by omega⟩, ⟨by omega, by omega⟩, t + 1, ⟨?_, ?_⟩, by omega, ?_, by omega⟩, fun h => ?_⟩
          · rw [show 1 + ((t + 1 : Nat) : Int) = 1 + (t : Int) + 1 by omega]; omega
          · by_cases e : (t : Int) + 1 = 12
            · have := h12 e; omega
            · omega
          · rw [show 1 + ((t + 1 : Nat) : Int) = 1 + (t : Int) + 1 by omega]; omega
          have hM : monthI d = 1 + t := monthI_is h0.1 h0.2 (by omega) (by omega) (by rw [hY]; exact ht2.1) (by rw [hY]; omega)
          simp only [hl2]
          have hd2 : d - daysI y (1 + t) ≤ 30 := by omega
          (repeat (refine ⟨by omega, ?_⟩))
          rw [dayName]
          unfold dateTextL
          simp only [hd, hY, hM]
          rw [padded2 (n := d - daysI y (1 + t) + 1) (by omega) (by omega), padded4 (n := y) (by omega) (by omega), padded2 (n := n % 86400 / 3600) (by omega) (by omega), padded2 (n := n % 86400 / 60 % 60) (by omega) (by omega), padded2 (n := n % 86400 % 60) (by omega) (by omega)]
          simp only [List.append_assoc]
  · cases h

def ckWritten : Ck
  | [x] => some (isC cRec x ∧ recOk (cRec.dec x) ∧ checkRecL (cRec.dec x) = 0, .sl (recB (cRec.dec x)).length (byF (recB (cRec.dec x))))
  | _ => none
theorem conWritten : Con pg 61 ckWritten := by
  have hct := (ctA_ok conKindW (ctA_ok conDateOf2 (ctA_ok conItoa (ctA_ok conDigest2 (ctN_ok _)))))
  intro args q r h hq
  unfold ckWritten at h
  split at h
  · cases h
    rename_i x
    refine pcall_args (args' := [cRec.enc (cRec.dec x)]) ⟨hq.1, trivial⟩ ?_
    obtain ⟨-, ha, hc⟩ := hq
    generalize cRec.dec x = r at ha hc ⊢
    refine w61 (fun _ => false) [.frz 73] rfl hct rfl rfl ?_
    push_cast (config := { maxSteps := 10000000 })
    obtain ⟨z1, z2, z3, z4, z5, z6, z7⟩ := rec_sz hc
    obtain ⟨y1, y2, y3, y4, y5, y6, y7, y8, y9, y10⟩ := rec_ok hc
    have zk := kindW_le (r.ki - 1).toNat
    have zp := recP_le hc
    refine ⟨by omega, by omega, fun how => ?_, fun how => ?_⟩
    · (repeat (refine ⟨by omega, ?_⟩))
      refine LoopW.adj ⟨hct, fol⟩ (by kernel_rfl) [] (fun t : Nat × List UInt8 => [(1, .ptr 1 0), (3, .str t.2), (4, .int .i64 t.1)]) (fun t => [(1, .cells [.int .i64 r.ki, .str r.id, .str r.ow, .int .i64 r.ti, .str r.ke, .sl r.hd.length (lsF cHd r.hd), .sl r.bd.length (byF r.bd)])]) (fun t => t.1 ≤ r.hd.length ∧ t.2 ++ headsB (r.hd.drop t.1) = recP r ++ headsB r.hd) (fun t => r.hd.length - t.1) (0, recP r) ?_ fun t ht => ?_
      · push_cast (config := { maxSteps := 10000000 })
        refine ⟨Nat.zero_le _, ?_⟩
        unfold recP; rw [if_neg how]; simp [lnB2, wKept]
      · obtain ⟨i, o⟩ := t
        obtain ⟨i1, i2⟩ : i ≤ r.hd.length ∧ o ++ headsB (r.hd.drop i) = recP r ++ headsB r.hd := ht
        have hl := congrArg List.length i2
        simp only [List.length_append] at hl
        push_cast (config := { maxSteps := 10000000 })
        refine ⟨fun h => ?_, fun h => ?_⟩
        · have e := dropG (d := ⟨[], []⟩) h
          rw [e, headsB] at i2 hl
          have hx : (headB (r.hd.getD i ⟨[], []⟩)).length = (r.hd.getD i ⟨[], []⟩).name.length + 2 + (r.hd.getD i ⟨[], []⟩).value.length + 2 := by simp [headB]; omega
          simp only [List.length_append] at hl
          generalize r.hd.getD i ⟨[], []⟩ = y at *
          (repeat (refine ⟨by omega, ?_⟩))
          exact ⟨((i + 1, o ++ (y.name ++ [58, 32] ++ y.value ++ [13, 10])) : Nat × List UInt8), ⟨by show i + 1 ≤ _; omega, by rw [← i2]; simp [headB]⟩, by show r.hd.length - (i + 1) < r.hd.length - i; omega, rfl, by show (i : Int) + 1 = ((i + 1 : Nat) : Int); omega⟩
        · rw [List.drop_eq_nil_of_le (by omega)] at i2 hl
          simp only [headsB, List.append_nil, List.length_nil, Nat.add_zero] at i2 hl
          have hi6 := itoa_len (n := r.bd.length) (by omega)
          have hdg : (digestL r.bd).length = 16 := hex16_len _
          (repeat (refine ⟨by omega, ?_⟩))
          have eq : (o ++ 108 :: 101 :: 110 :: 103 :: 116 :: 104 :: 58 :: 32 :: (Lib.itoa r.bd.length ++ [13, 10, 100, 105, 103, 101, 115, 116, 58, 32] ++ digestL r.bd ++ [13, 10, 13, 10])) ++ r.bd ++ [13, 10, 13, 10] = recB r := by
            rw [i2]; simp [recB, recQ, lnB2]
          have hQ : (o ++ 108 :: 101 :: 110 :: 103 :: 116 :: 104 :: 58 :: 32 :: (Lib.itoa r.bd.length ++ [13, 10, 100, 105, 103, 101, 115, 116, 58, 32] ++ digestL r.bd ++ [13, 10, 13, 10])).length = o.length + ((Lib.itoa r.bd.length).length + 10 + (digestL r.bd).length + 4 + 1 + 1 + 1 + 1 + 1 + 1 + 1 + 1) := by simp; omega
          have app := (ByI.app (ByI.app (ByI.by (o ++ 108 :: 101 :: 110 :: 103 :: 116 :: 104 :: 58 :: 32 :: (Lib.itoa r.bd.length ++ [13, 10, 100, 105, 103, 101, 115, 116, 58, 32] ++ digestL r.bd ++ [13, 10, 13, 10]))) (ByI.by r.bd) rfl) (ByI.by [13, 10, 13, 10]) rfl).eq eq
          rw [hQ] at app
          exact ⟨app.pure, app.1, app.2⟩
    · (repeat (refine ⟨by omega, ?_⟩))
      refine LoopW.adj ⟨hct, fol⟩ (by kernel_rfl) [] (fun t : Nat × List UInt8 => [(1, .ptr 1 0), (3, .str t.2), (4, .int .i64 t.1)]) (fun t => [(1, .cells [.int .i64 r.ki, .str r.id, .str r.ow, .int .i64 r.ti, .str r.ke, .sl r.hd.length (lsF cHd r.hd), .sl r.bd.length (byF r.bd)])]) (fun t => t.1 ≤ r.hd.length ∧ t.2 ++ headsB (r.hd.drop t.1) = recP r ++ headsB r.hd) (fun t => r.hd.length - t.1) (0, recP r) ?_ fun t ht => ?_
      · push_cast (config := { maxSteps := 10000000 })
        refine ⟨Nat.zero_le _, ?_⟩
        unfold recP; rw [if_pos how]; simp [lnB2, wKept]
      · obtain ⟨i, o⟩ := t
        obtain ⟨i1, i2⟩ : i ≤ r.hd.length ∧ o ++ headsB (r.hd.drop i) = recP r ++ headsB r.hd := ht
        have hl := congrArg List.length i2
        simp only [List.length_append] at hl
        push_cast (config := { maxSteps := 10000000 })
        refine ⟨fun h => ?_, fun h => ?_⟩
        · have e := dropG (d := ⟨[], []⟩) h
          rw [e, headsB] at i2 hl
          have hx : (headB (r.hd.getD i ⟨[], []⟩)).length = (r.hd.getD i ⟨[], []⟩).name.length + 2 + (r.hd.getD i ⟨[], []⟩).value.length + 2 := by simp [headB]; omega
          simp only [List.length_append] at hl
          generalize r.hd.getD i ⟨[], []⟩ = y at *
          (repeat (refine ⟨by omega, ?_⟩))
          exact ⟨((i + 1, o ++ (y.name ++ [58, 32] ++ y.value ++ [13, 10])) : Nat × List UInt8), ⟨by show i + 1 ≤ _; omega, by rw [← i2]; simp [headB]⟩, by show r.hd.length - (i + 1) < r.hd.length - i; omega, rfl, by show (i : Int) + 1 = ((i + 1 : Nat) : Int); omega⟩
        · rw [List.drop_eq_nil_of_le (by omega)] at i2 hl
          simp only [headsB, List.append_nil, List.length_nil, Nat.add_zero] at i2 hl
          have hi6 := itoa_len (n := r.bd.length) (by omega)
          have hdg : (digestL r.bd).length = 16 := hex16_len _
          (repeat (refine ⟨by omega, ?_⟩))
          have eq : (o ++ 108 :: 101 :: 110 :: 103 :: 116 :: 104 :: 58 :: 32 :: (Lib.itoa r.bd.length ++ [13, 10, 100, 105, 103, 101, 115, 116, 58, 32] ++ digestL r.bd ++ [13, 10, 13, 10])) ++ r.bd ++ [13, 10, 13, 10] = recB r := by
            rw [i2]; simp [recB, recQ, lnB2]
          have hQ : (o ++ 108 :: 101 :: 110 :: 103 :: 116 :: 104 :: 58 :: 32 :: (Lib.itoa r.bd.length ++ [13, 10, 100, 105, 103, 101, 115, 116, 58, 32] ++ digestL r.bd ++ [13, 10, 13, 10])).length = o.length + ((Lib.itoa r.bd.length).length + 10 + (digestL r.bd).length + 4 + 1 + 1 + 1 + 1 + 1 + 1 + 1 + 1) := by simp; omega
          have app := (ByI.app (ByI.app (ByI.by (o ++ 108 :: 101 :: 110 :: 103 :: 116 :: 104 :: 58 :: 32 :: (Lib.itoa r.bd.length ++ [13, 10, 100, 105, 103, 101, 115, 116, 58, 32] ++ digestL r.bd ++ [13, 10, 13, 10]))) (ByI.by r.bd) rfl) (ByI.by [13, 10, 13, 10]) rfl).eq eq
          rw [hQ] at app
          exact ⟨app.pure, app.1, app.2⟩
  · cases h
attribute [push_cast] ckWritten

def recR (r : Rcd) : List UInt8 := if checkRecL r = 0 then recB r else []
def digR (r : Rcd) : List UInt8 := if checkRecL r = 0 then digestL r.bd else []
def ckRecBytes : Ck
  | [x] => some (isC cRec x ∧ recOk (cRec.dec x), .tup [.sl (recR (cRec.dec x)).length (byF (recR (cRec.dec x))), .int .i64 (checkRecL (cRec.dec x))])
  | _ => none
attribute [push_cast] ckRecBytes
def ckDigestOf : Ck
  | [x] => some (isC cRec x ∧ recOk (cRec.dec x), .tup [.str (digR (cRec.dec x)), .int .i64 (checkRecL (cRec.dec x))])
  | _ => none
theorem conDigestOf : Con pg 24 ckDigestOf := by
  have hct := (ctA_ok conCheckRec (ctA_ok conDigest (ctN_ok _)))
  intro args q r h hq
  unfold ckDigestOf at h
  split at h
  · cases h
    rename_i x
    refine pcall_args (args' := [cRec.enc (cRec.dec x)]) ⟨hq.1, trivial⟩ ?_
    obtain ⟨-, ha⟩ := hq
    generalize cRec.dec x = r at ha ⊢
    refine w24 (fun _ => false) [] rfl hct rfl rfl ?_
    push_cast (config := { maxSteps := 10000000 })
    exact ⟨ha, fun h => by unfold digR; rw [if_neg h], fun h => ⟨by have := (rec_ok h).2.2.2.2.2.2.2.2.2; omega, by unfold digR; rw [if_pos h], h.symm⟩⟩
  · cases h
attribute [push_cast] ckDigestOf
def recA : Rcd := ⟨1, [97], [], 0, [107], [], []⟩
def ckDigNil : Ck
  | [.agg [.int .i64 1, .str [97], .str [], .int .i64 0, .str [107], .nilsl, .nilsl]] => some (True, .tup [.str (digR recA), .int .i64 (checkRecL recA)])
  | _ => none
theorem conDigNil : Con pg 24 ckDigNil := by
  intro args q r h hq
  unfold ckDigNil at h
  split at h
  · cases h
    have hz : ∀ f, VLe .nilsl (.sl 0 f) := fun f => vle1_ok (show vle1 .nilsl (.sl 0 f) from rfl)
    refine pcall_args (args' := [cRec.enc recA]) ⟨VLe.agg ⟨VLe.refl _, VLe.refl _, VLe.refl _, VLe.refl _, VLe.refl _, hz _, hz _, trivial⟩, trivial⟩ ?_
    have := conDigestOf [cRec.enc recA] _ _ rfl ⟨isC_enc cRec recA, ?_⟩
    · rw [cRec.ok] at this
      exact this
    · rw [cRec.ok]
      exact ⟨fun x hx => (by cases hx), by decide, by decide, by decide, by decide, by decide, by decide, by decide, by decide, by decide⟩
  · cases h
attribute [push_cast] ckDigNil
def ckAwake6 : Ck
  | [] => some (True, .bool true)
  | _ => none
theorem conAwake6 : Con pg 8 ckAwake6 := by
  have hct := (ctA_ok conDigNil (ctN_ok _))
  intro args q r h hq
  unfold ckAwake6 at h
  split at h
  · cases h
    refine w8 (fun _ => false) [] rfl hct rfl rfl ?_
    push_cast (config := { maxSteps := 10000000 })
    exact ⟨by decide +kernel, by decide +kernel⟩
  · cases h
attribute [push_cast] ckAwake6

/- lists of records as arguments -/
theorem shRecX {m : Nat} {v : V} (h : Sh.has (.tup [.int .i64, .str, .str, .int .i64, .str, .list (.tup [.str, .str]), .list (.int .u8)]) m v) : ∃ ki id ow ti ke n f k g, v = .agg [.int .i64 ki, .str id, .str ow, .int .i64 ti, .str ke, .sl n f, .sl k g] ∧ isLs cHd n f ∧ isBy k g := by
  obtain ⟨l, ms, rfl, -, hl⟩ := h
  obtain ⟨m1, v1, ms, l, rfl, h1, hl⟩ := hasL_cons hl
  obtain ⟨m2, v2, ms, l, rfl, h2, hl⟩ := hasL_cons hl
  obtain ⟨m3, v3, ms, l, rfl, h3, hl⟩ := hasL_cons hl
  obtain ⟨m4, v4, ms, l, rfl, h4, hl⟩ := hasL_cons hl
  obtain ⟨m5, v5, ms, l, rfl, h5, hl⟩ := hasL_cons hl
  obtain ⟨m6, v6, ms, l, rfl, h6, hl⟩ := hasL_cons hl
  obtain ⟨m7, v7, ms, l, rfl, h7, hl⟩ := hasL_cons hl
  obtain rfl := hasL_nil hl
  obtain ⟨ki, rfl, c1⟩ := shInt h1
  obtain ⟨id, rfl, b2⟩ := shStr h2
  obtain ⟨ow, rfl, b3⟩ := shStr h3
  obtain ⟨ti, rfl, c4⟩ := shInt h4
  obtain ⟨ke, rfl, b5⟩ := shStr h5
  obtain ⟨n, f, rfl, i6, b6, k6⟩ := shList (c := cHd) (fun m v h => shHead h) h6
  obtain ⟨k, g, rfl, i7, b7⟩ := shBytes h7
  exact ⟨ki, id, ow, ti, ke, n, f, k, g, rfl, i6, i7⟩
theorem shRecs {m : Nat} {v : V} (h : Sh.has (.list (.tup [.int .i64, .str, .str, .int .i64, .str, .list (.tup [.str, .str]), .list (.int .u8)])) m v) : ∃ (n : Nat) (f : Nat → V), v = .sl n f ∧ isLv cRec n f ∧ n ≤ 140737488355328 ∧ recsOk (lsOf cRec n f) := by
  obtain ⟨l, ms, rfl, h1, h2, h3, h4⟩ := h
  have := reach_le
  refine ⟨_, _, rfl, ?_, by omega, fun a ha => ?_⟩
  · unfold isLv
    rw [lsOf_len]
    refine VLe.slV fun i hi => ?_
    obtain ⟨ki, id, ow, ti, ke, n, f, k, g, e, i6, i7⟩ := shRecX (h4 i hi)
    have e : litF l i = _ := e
    have e2 : lsF cRec (lsOf cRec l.length (litF l)) i = cRec.enc (cRec.dec (litF l i)) := by
      unfold lsF lsOf
      rw [List.getD_eq_getElem?_getD, List.getElem?_map, List.getElem?_range hi]; rfl
    rw [e2, e]
    refine ⟨rfl, fun j hj => ?_⟩
    match j, hj with
    | 0, _ => exact ⟨VLe.refl _, rfl⟩
    | 1, _ => exact ⟨VLe.refl _, rfl⟩
    | 2, _ => exact ⟨VLe.refl _, rfl⟩
    | 3, _ => exact ⟨VLe.refl _, rfl⟩
    | 4, _ => exact ⟨VLe.refl _, rfl⟩
    | 5, _ => exact ⟨isLs.vle i6, rfl⟩
    | 6, _ => exact ⟨isBy.vle i7, rfl⟩
  · simp only [lsOf, List.mem_map, List.mem_range] at ha
    obtain ⟨i, hi, rfl⟩ := ha
    exact (shRec (h4 i hi)).2

def ckLawRS : Ck
  | [.sl n f] => some (isLv cRec n f ∧ recsOk (lsOf cRec n f), .bool true)
  | _ => none
theorem conLawRS : Con pg 3 ckLawRS := by
  have hct := (ctA_ok conRev (ctA_ok conCheckFile (ctA_ok conShown (ctA_ok conFind (ctA_ok conBEqual (ctA_ok conAwake6 (ctN_ok _)))))))
  intro args q r h hq
  unfold ckLawRS at h
  split at h
  · cases h
    rename_i n f
    refine pcall_args (args' := [.sl (lsOf cRec n f).length (lsF cRec (lsOf cRec n f))]) ⟨hq.1, trivial⟩ ?_
    obtain ⟨-, ha⟩ := hq
    generalize lsOf cRec n f = l at ha ⊢
    refine w3 (fun _ => false) [] rfl hct rfl rfl ?_
    push_cast (config := { maxSteps := 10000000 })
    refine ⟨ha, fun h => by unfold revR0; rw [if_neg h]; rfl, fun hf => ?_⟩
    have e0 : revR0 l = revL l := by unfold revR0; rw [if_pos hf]
    obtain ⟨hcl, hfl, hlen⟩ := file_ok hf
    rw [e0]
    have hL := revL_len l
    refine ⟨fun h => h hL, fun _ => ⟨rev_recsOk ha, fun hx => ?_⟩⟩
    have hsh := rev_shows hf hx
    have hX := rev_recsOk ha
    have hat := fun i (h : i < l.length) => rev_at (l := l) h
    have hpt := fun i (h : i < l.length) => rev_points hf (i := i) h
    have hid := rev_ids l
    generalize revL l = X at *
    refine LoopW.adj ⟨hct, fol⟩ (by kernel_rfl) [] (fun i : Nat => [(0, .sl l.length (lsF cRec l)), (3, .sl X.length (lsF cRec X)), (5, .int .i64 i)]) (fun _ => []) (fun i => i ≤ l.length) (fun i => l.length - i) 0 ?_ fun i hi => ?_
    · push_cast (config := { maxSteps := 10000000 })
      exact Nat.zero_le _
    · push_cast (config := { maxSteps := 10000000 })
      intro hlt
      have hXi := hat i hlt
      obtain ⟨e1, e2, e3, -⟩ := hid i
      rw [← hXi] at e1 e2 e3
      have hlx : i < X.length := by omega
      have hpi := hpt i hlt
      rw [← hXi] at hpi
      have n1 : (-9223372036854775808 : Int) ≤ (i : Int) + 1 ∧ (i : Int) + 1 ≤ 9223372036854775807 := by omega
      have n2 : X.length ≤ 4611686018427387900 := by omega
      have nx : ∃ t', t' ≤ l.length ∧ l.length - t' < l.length - i ∧ (i : Int) + 1 = (t' : Int) := ⟨i + 1, by omega, by omega, by omega⟩
      have nl : i < l.length := hlt
      simp only [hsh, e1, e2, e3, hlt, hlx, ha, hX, n1, n2, nx, and_self, true_and, and_true, not_true_eq_false, or_self, false_implies, implies_true, forall_const]
      intro hne
      obtain ⟨p1, e, p2, p3, p4, p5⟩ := hpi hne
      have he := hat e (by omega)
      rw [← he] at p4 p5
      have q1 : ¬ (e : Int) < 0 := by omega
      have q2 : ¬ (i : Int) ≤ (e : Int) := by omega
      have q3 : (0 : Int) ≤ (e : Int) := by omega
      have q4 : (e : Int) < (X.length : Int) := by omega
      rw [p2, Int.toNat_natCast]
      simp only [p1, p4, p5, q1, q2, q3, q4, e3, and_self, true_and, and_true, not_false_eq_true, not_true_eq_false, or_self, false_implies, implies_true]
      done
  · cases h
attribute [push_cast] ckLawRS
theorem allLawRS {H : Type} (ds : List (DataW H)) (hh : hasD [.list (.tup [.int .i64, .str, .str, .int .i64, .str, .list (.tup [.str, .str]), .list (.int .u8)])] ds) : PCall pg 3 (ds.map toV) (.bool true) := by
  obtain ⟨d1, rfl, a⟩ := hasD1 hh
  obtain ⟨n, f, e1, i1, b1, k1⟩ := shRecs a
  simp only [List.map_cons, List.map_nil, e1]
  exact conLawRS _ _ _ rfl ⟨i1, k1⟩

end Go.Abs
