/- what functions of this program compute: contracts, each a function's own -/
import Derived.Test.YthcimhogoiklfaaGreatDoorAbsK2
import Derived.Test.YthcimhogoiklfaaGreatDoorAbsFacts
import Derived.Test.YthcimhogoiklfaaGreatDoorAbsF9
import Derived.Test.YthcimhogoiklfaaGreatDoorAbsShelf
import Derived.Lib.SplitLaws
import Derived.Lib.SlTrimSet
import Derived.Lib.IndexMore
import Derived.Lib.Atoi
import Derived.Lib.Itoa
import Derived.Lib.ItoaNum
import Derived.Lib.AtoiErrMem
import Derived.Lib.Join
import Derived.Lib.Repeat
import Derived.Lib.ItoaLen
import Derived.Lib.Walk
import Derived.Deep.RegionLaw
import Derived.Lib.SliceRun
import Derived.Shelf.RegionOpenPlain
namespace Go.Abs
open Go Go.Proofs
set_option maxHeartbeats 4000000
set_option maxRecDepth 100000
set_option linter.unusedVariables false
set_option linter.unusedSimpArgs false
def ckLies : Ck
  | [.str h, .str o] => some (h.length ≤ 140737488355328 ∧ o.length ≤ 140737488355328, .bool (hasSuf h (46 :: o)))
  | _ => none
theorem conLies : Con pg 92 ckLies := by
  have hct := (ctA_ok conHasSufS (ctN_ok _))
  intro args q r h hq
  unfold ckLies at h
  split at h
  · cases h
    rename_i h o
    refine w92 (fun _ => false) [] rfl hct rfl rfl ?_
    push_cast (config := { maxSteps := 10000000 })
    exact ⟨by omega, by omega⟩
  · cases h
attribute [push_cast] ckLies
theorem hasSuf_one {s : List UInt8} (h : 1 ≤ s.length) : hasSuf s [47] = decide ((s.getD (s.length - 1) 0).toNat = 47) := by
  unfold hasSuf
  rw [decide_eq_true (show ([47] : List UInt8).length ≤ s.length from h), Bool.true_and, List.length_singleton]
  have e : s.drop (s.length - 1) = [s.getD (s.length - 1) 0] := by
    rw [List.drop_eq_getElem_cons (by omega), List.drop_eq_nil_of_le (by omega), List.getD_eq_getElem?_getD, List.getElem?_eq_getElem (by omega)]; rfl
  rw [e, Bool.eq_iff_iff, beq_iff_eq, decide_eq_true_eq]
  constructor
  · intro h; rw [(List.cons.inj h).1]; rfl
  · intro h
    have : s.getD (s.length - 1) 0 = 47 := UInt8.toNat_inj.1 h
    rw [this]
def ckFits2 : Ck
  | [.agg [.str na, .str va, .str ho, .bool wi, .str pa, .bool se, .int .i64 un, .int .i64 si], .agg [.str sc, .str h1, .str po, .str p1, .str qu, .bool q1, .str fr, .bool hf], .int .i64 m] => some (cooOk ⟨na, va, ho, wi, pa, se, un, si⟩ ∧ adrOk ⟨sc, h1, po, p1, qu, q1, fr, hf⟩ ∧ 1 ≤ pa.length, .bool (goesL ⟨na, va, ho, wi, pa, se, un, si⟩ ⟨sc, h1, po, p1, qu, q1, fr, hf⟩ m))
  | _ => none
theorem conFits2 : Con pg 33 ckFits2 := by
  have hct := (ctA_ok conSmall (ctA_ok conEnded2 (ctA_ok conLies (ctA_ok conHasPre (ctN_ok _)))))
  intro args q r h hq
  unfold ckFits2 at h
  split at h
  · cases h
    rename_i na va ho wi pa se un si sc h1 po p1 qu q1 fr hf m
    refine w33 (fun d => decide (d = 20004)) [] rfl hct rfl rfl ?_
    push_cast (config := { maxSteps := 10000000 })
    obtain ⟨⟨z1, z2, z3, z4, z5, z6⟩, ⟨y1, y2, y3, y4, y5, y6⟩, hp⟩ := hq
    simp only at z1 z2 z3 z4 z5 z6 y1 y2 y3 y4 y5 y6
    (repeat (refine ⟨by omega, ?_⟩))
    refine SeqW.cut ⟨hct, fol⟩ (by kernel_rfl) (by kernel_rfl) [] (fun p : List UInt8 => [(2, .int .i64 m), (3, .ptr 3 0), (4, .ptr 4 0), (7, .str (lowL h1)), (8, .str p)]) (fun p => [(3, .cells [.str na, .str va, .str ho, .bool wi, .str pa, .bool se, .int .i64 un, .int .i64 si]), (4, .cells [.str sc, .str h1, .str po, .str p1, .str qu, .bool q1, .str fr, .bool hf])]) (fun p => p = if p1 = [] then [47] else p1) ?_ fun p hp1 => ?_
    · push_cast (config := { maxSteps := 10000000 })
      exact ⟨fun h => ⟨[47], by rw [if_pos h], rfl⟩, fun h => ⟨p1, by rw [if_neg h], rfl⟩⟩
    · have hp2 := hp1
      push_cast (config := { maxSteps := 10000000 })
      have hlow := lowL_len h1
      have pz : ∀ x : List UInt8, pa = x → 0 < x.length := fun x e => by rw [← e]; omega
      have eG : goesL ⟨na, va, ho, wi, pa, se, un, si⟩ ⟨sc, h1, po, p1, qu, q1, fr, hf⟩ m = (!(decide (un ≠ -1) && decide (un ≤ m)) && (decide (lowL h1 = ho) || (wi && (decide (lowL h1 = ho) || hasSuf (lowL h1) (46 :: ho)))) && fitsL pa p && (!se || decide (lowL sc = [104, 116, 116, 112, 115]))) := by rw [hp1]; rfl
      have eF : fitsL pa p = (hasPre p pa && (decide (p.drop pa.length = []) || hasSuf pa [47] || decide (((p.drop pa.length).getD 0 0).toNat = 47))) := rfl
      have eSf : hasSuf pa [47] = decide ((pa.getD (pa.length - 1) 0).toNat = 47) := hasSuf_one hp
      have eDr : (p.drop pa.length).getD 0 0 = p.getD pa.length 0 := by rw [List.getD_eq_getElem?_getD, List.getD_eq_getElem?_getD, List.getElem?_drop, Nat.add_zero]
      have eN : ((pa.length : Int) - 1).toNat = pa.length - 1 := by omega
      have eL : hasPre p pa = true → pa.length ≤ p.length ∧ (p.drop pa.length = [] → p = pa) := fun h => by
        obtain ⟨r, rfl⟩ := hasPre_iff.1 h
        refine ⟨by simp, fun h => ?_⟩
        rw [List.drop_left'] at h
        · rw [h, List.append_nil]
        · rfl
      have eS : p = pa → hasPre p pa = true ∧ p.drop pa.length = [] := fun h => by
        subst h
        exact ⟨hasPre_iff.2 ⟨[], by simp⟩, by simp⟩
      have eQ : hasPre p pa = true → ¬ p = pa → pa.length < p.length := fun h hn => by
        obtain ⟨a, b⟩ := eL h
        refine Classical.byContradiction fun hl => hn (b ?_)
        exact List.drop_eq_nil_of_le (by omega)
      rw [eN]
      rw [eDr, eSf] at eF
      rw [eF] at eG
      clear eF eSf eDr pz hp1
      have hpb : p.length ≤ 140737488355329 := by
        rw [hp2]
        split
        · exact (by decide : ([47] : List UInt8).length ≤ 140737488355329)
        · omega
      generalize goesL ⟨na, va, ho, wi, pa, se, un, si⟩ ⟨sc, h1, po, p1, qu, q1, fr, hf⟩ m = G at *
      generalize (pa.getD (pa.length - 1) 0).toNat = u1 at *
      generalize (p.getD pa.length 0).toNat = u2 at *
      generalize p.drop pa.length = dr at *
      generalize hasPre p pa = hpp at *
      generalize hasSuf (lowL h1) (46 :: ho) = hs at *
      generalize lowL h1 = lh at *
      generalize lowL sc = ls at *
      have gE : (¬un = -1 ∧ un ≤ m ∨ ¬ho = lh ∧ (wi = true → hs = false)) ∨ se = true ∧ ¬ls = [104, 116, 116, 112, 115] → G = false := fun h => by
        rw [eG]
        grind
      have gT : ((¬un = -1 → ¬un ≤ m) ∧ (¬ho = lh → wi = true ∧ hs = true)) ∧ (se = true → ls = [104, 116, 116, 112, 115]) → G = (hpp && (decide (dr = []) || decide (u1 = 47) || decide (u2 = 47))) := fun h => by
        rw [eG]
        grind
      clear eG
      refine ⟨fun a => ⟨a, by omega⟩, fun a => ⟨a, fun c => ⟨a, c⟩⟩, fun a => ⟨a, fun c => ⟨a, c⟩⟩, fun a => ⟨a, by omega⟩, fun a => ⟨a, fun c => ⟨a, c⟩⟩, fun a => (gE a).symm, fun a => ⟨fun c => ?_, fun c => ?_⟩⟩
      · rw [gT a, (eS c).1, (eS c).2]; simp
      · refine ⟨by omega, fun d => ⟨d, by omega⟩, fun d => ⟨d, by omega⟩, fun d => ⟨d, eQ d.1 c⟩, fun d => ⟨d, fun e => ⟨d, e⟩⟩, ?_⟩
        rw [gT a]
        cases hpp with
        | false => rfl
        | true =>
          have hd : ¬ dr = [] := fun e => c ((eL rfl).2 e)
          rw [decide_eq_false hd, Bool.true_and, Bool.true_and, Bool.false_or]
          rw [Bool.eq_iff_iff, Bool.or_eq_true, Bool.or_eq_true, beq_iff_eq, beq_iff_eq, decide_eq_true_eq, decide_eq_true_eq]
          omega
  · cases h
attribute [push_cast] ckFits2
def crN (l : List Coo) (i : Nat) (b : Adr) (m : Int) : List Coo := srtC ((l.take i).filter fun c => goesL c b m)
theorem coo_pa {c : Coo} (h : checkCooL c = 0) : 1 ≤ c.pa.length := by
  unfold checkCooL at h
  split at h
  · split at h
    · split at h
      · split at h
        · rename_i h4
          exact (cpath_iff.1 h4).1.1.1
        · cases h
      · cases h
    · cases h
  · cases h
theorem crN_no {l : List Coo} {i : Nat} {b : Adr} {m : Int} (h : i < l.length) (hg : goesL (l.getD i noCoo) b m = false) : crN l (i + 1) b m = crN l i b m := by
  have ht : l.take (i + 1) = l.take i ++ [l.getD i noCoo] := by
    rw [List.getD_eq_getElem?_getD, List.getElem?_eq_getElem h, List.take_succ_eq_append_getElem h]; rfl
  unfold crN
  rw [ht, List.filter_append]
  simp only [List.filter_cons, List.filter_nil, hg, Bool.false_eq_true, if_false, List.append_nil]
theorem crN_yes {l : List Coo} {i : Nat} {b : Adr} {m : Int} (h : i < l.length) (hg : goesL (l.getD i noCoo) b m = true) : crN l (i + 1) b m = insK ltC noCoo (crN l i b m) (l.getD i noCoo) := by
  have ht : l.take (i + 1) = l.take i ++ [l.getD i noCoo] := by
    rw [List.getD_eq_getElem?_getD, List.getElem?_eq_getElem h, List.take_succ_eq_append_getElem h]; rfl
  unfold crN
  rw [ht, List.filter_append]
  simp only [List.filter_cons, List.filter_nil, hg, if_true]
  exact srtL_snoc ltC noCoo _ _
theorem crN_len (l : List Coo) (i : Nat) (b : Adr) (m : Int) : (crN l i b m).length ≤ i := by
  have h1 := List.length_filter_le (fun c => goesL c b m) (l.take i)
  rw [List.length_take] at h1
  have h2 : (crN l i b m).length = ((l.take i).filter fun c => goesL c b m).length := srtL_len ltC noCoo _
  omega
def serL (l : List Coo) : Nat → List UInt8
  | 0 => []
  | k + 1 => (if 0 < k then serL l k ++ [59, 32] else serL l k) ++ sentL (l.getD k noCoo)
theorem join_snoc : ∀ (L : List (List UInt8)) (x c : List UInt8), L ≠ [] → Lib.join (L ++ [x]) c = Lib.join L c ++ c ++ x
  | [], x, c, h => absurd rfl h
  | [a], x, c, _ => by simp [Lib.join, List.intercalate]
  | a :: b :: t, x, c, _ => by
    have e1 : Lib.join (a :: b :: t) c = a ++ (c ++ Lib.join (b :: t) c) := by simp [Lib.join, List.intercalate]
    have e2 : Lib.join ((a :: b :: t) ++ [x]) c = a ++ (c ++ Lib.join ((b :: t) ++ [x]) c) := by simp [Lib.join, List.intercalate]
    rw [e2, join_snoc (b :: t) x c (by simp), e1]
    simp only [List.append_assoc]
theorem serL_join {l : List Coo} : ∀ {k : Nat}, k ≤ l.length → serL l k = Lib.join ((l.take k).map sentL) [59, 32]
  | 0, _ => rfl
  | k + 1, h => by
    have ht : l.take (k + 1) = l.take k ++ [l.getD k noCoo] := by
      rw [List.getD_eq_getElem?_getD, List.getElem?_eq_getElem (by omega), List.take_succ_eq_append_getElem (by omega)]; rfl
    rw [serL, serL_join (k := k) (by omega), ht, List.map_append]
    by_cases h0 : 0 < k
    · rw [if_pos h0]
      exact (join_snoc _ _ _ (fun e => by
        have := congrArg List.length e
        rw [List.length_map, List.length_take, List.length_nil] at this; omega)).symm
    · have : k = 0 := by omega
      subst this
      rw [if_neg h0]
      show Lib.join [] [59, 32] ++ _ = Lib.join ([] ++ [sentL (l.getD 0 noCoo)]) [59, 32]
      rw [join_nilL, List.nil_append, List.nil_append, join_oneL]
theorem conCookiesFor2 : Con pg 9 ckCookiesFor := by
  have hct := (ctA_ok conCheckCoos2 (ctA_ok conCheckAdr1 (ctA_ok conWithin2b (ctA_ok conFits2 (ctN_ok _)))))
  intro args q r h hq
  unfold ckCookiesFor at h
  split at h
  · cases h
    rename_i n f sc ho po pa qu hq1 fr hf m
    refine pcall_args (args' := [.sl (lsOf cCoo n f).length (lsF cCoo (lsOf cCoo n f)), .agg [.str sc, .str ho, .str po, .str pa, .str qu, .bool hq1, .str fr, .bool hf], .int .i64 m]) ⟨isLs.vle hq.1, VLe.refl _, VLe.refl _, trivial⟩ ?_
    obtain ⟨-, hl, ha, hm⟩ := hq
    generalize lsOf cCoo n f = l at hl ⊢
    generalize ea : (⟨sc, ho, po, pa, qu, hq1, fr, hf⟩ : Adr) = b at *
    obtain ⟨rfl, rfl, rfl, rfl, rfl, rfl, rfl, rfl⟩ : sc = b.sc ∧ ho = b.ho ∧ po = b.po ∧ pa = b.pa ∧ qu = b.qu ∧ hq1 = b.hq ∧ fr = b.fr ∧ hf = b.hf := by subst ea; exact ⟨rfl, rfl, rfl, rfl, rfl, rfl, rfl, rfl⟩
    refine w9 (fun d => decide (d = 20012 ∨ d = 20018)) [] rfl hct rfl rfl ?_
    push_cast (config := { maxSteps := 10000000 })
    rw [show (⟨b.sc, b.ho, b.po, b.pa, b.qu, b.hq, b.fr, b.hf⟩ : Adr) = b from rfl]
    refine ⟨hl, fun h => ?_, fun h1 => ⟨ha, fun h => ?_, fun h2 => ⟨fun h => ?_, fun h3 => ?_⟩⟩⟩
    · have e : cfE l b m = checkCoosL l := by unfold cfE; rw [if_pos h]
      unfold cfS; rw [e, if_neg h]; exact ⟨rfl, rfl⟩
    · have e : cfE l b m = checkAdrL b := by unfold cfE; rw [if_neg (fun x => x h1), if_pos h]
      unfold cfS; rw [e, if_neg h]; exact ⟨rfl, rfl⟩
    · have e : cfE l b m = 1 := by unfold cfE; rw [if_neg (fun x => x h1), if_neg (fun x => x h2), if_pos (fun x => h x.1 x.2)]
      unfold cfS; rw [e]; exact ⟨rfl, rfl⟩
    have h200 := coos_200 h1
    refine LoopW.adj ⟨hct, fol⟩ (by kernel_rfl) [] (fun t : Nat × List Coo => [(0, .sl l.length (lsF cCoo l)), (2, .int .i64 m), (4, .ptr 4 0), (10, .sl t.2.length (lsF cCoo t.2)), (11, .int .i64 t.1)]) (fun t => [(4, .cells (cAdr.enc b).flat)]) (fun t => t.1 ≤ l.length ∧ t.2 = crN l t.1 b m) (fun t => l.length - t.1) (0, []) ?_ fun t ht => ?_
    · push_cast (config := { maxSteps := 10000000 })
      exact ⟨Nat.zero_le _, by unfold crN; rfl⟩
    · obtain ⟨i, o⟩ := t
      obtain ⟨i1, i2⟩ : i ≤ l.length ∧ o = crN l i b m := ht
      push_cast (config := { maxSteps := 10000000 })
      refine ⟨fun hlt => ?_, fun hge => ?_⟩
      · refine SeqW.cut ⟨hct, fol⟩ (by kernel_rfl) (by kernel_rfl) [.frzIf 8000 8000] (fun o : List Coo => [(0, .sl l.length (lsF cCoo l)), (2, .int .i64 m), (4, .ptr 4 0), (10, .sl o.length (lsF cCoo o)), (11, .int .i64 i)]) (fun t => [(4, .cells (cAdr.enc b).flat)]) (fun o => o = crN l (i + 1) b m) ?_ fun o2 ho2 => ?_
        · push_cast (config := { maxSteps := 10000000 })
          rw [show (⟨b.sc, b.ho, b.po, b.pa, b.qu, b.hq, b.fr, b.hf⟩ : Adr) = b from rfl]
          have hc0 := (coos_ok h1).2 _ (mem_at' (d := noCoo) hlt)
          have hol := crN_len l i b m
          rw [← i2] at hol
          refine ⟨hlt, ⟨hl _ (mem_at' (d := noCoo) hlt), ha, coo_pa hc0⟩, fun g => ⟨o, by rw [crN_no hlt g]; exact i2, rfl, fun _ _ => rfl⟩, fun g => ?_⟩
          have hy := crN_yes hlt g
          rw [← i2] at hy
          refine LoopW.adj ⟨hct, fol⟩ (by kernel_rfl) [] (fun k : Nat => [(0, .sl l.length (lsF cCoo l)), (2, .int .i64 m), (4, .ptr 4 0), (10, .sl o.length (lsF cCoo o)), (11, .int .i64 i), (12, .int .i64 k)]) (fun _ => [(4, .cells (cAdr.enc b).flat)]) (fun k => k ≤ o.length ∧ posK ltC noCoo o (l.getD i noCoo) k = posK ltC noCoo o (l.getD i noCoo) o.length) (fun k => k) o.length ?_ fun k hk => ?_
          · push_cast (config := { maxSteps := 10000000 })
            exact Nat.le_refl _
          · obtain ⟨k1, k2⟩ := hk
            push_cast (config := { maxSteps := 10000000 })
            have e1 : ∀ j, k = j + 1 → ((k : Int) - 1).toNat = j := fun j hj => by omega
            refine ⟨fun h => ⟨h, by omega⟩, fun h => ⟨h, by omega⟩, fun h => ⟨h, by omega⟩, fun h => ⟨h, by omega⟩, fun h => ⟨h, by omega⟩, fun h => ⟨h, by omega⟩, fun h => ⟨h, by omega⟩, fun h => ⟨h, by omega⟩, fun h => ⟨h, by omega⟩, fun h => ⟨h, fun z => ⟨h, z⟩⟩, fun h => ⟨h, fun z => ⟨h, z⟩⟩, fun h => ?_, fun h => ?_⟩
            · obtain ⟨j, rfl⟩ : ∃ j, k = j + 1 := ⟨k - 1, by omega⟩
              rw [e1 j rfl] at h
              have hlt : ltC (l.getD i noCoo) (o.getD j noCoo) = true := ltC_iff.2 (by omega)
              rw [posK, if_pos hlt] at k2
              exact ⟨by omega, j, ⟨by omega, k2⟩, by omega, by omega⟩
            · have hk : posK ltC noCoo o (l.getD i noCoo) o.length = k := by
                rw [← k2]
                cases k with
                | zero => rfl
                | succ j =>
                  have h := h (by omega)
                  rw [e1 j rfl] at h
                  have hlt : ltC (l.getD i noCoo) (o.getD j noCoo) = false := ltC_no.2 (by omega)
                  rw [posK, if_neg (by rw [hlt]; simp)]
              have hy2 : crN l (i + 1) b m = stK o (l.getD i noCoo) k := by rw [hy]; unfold insK; rw [hk]
              refine SeqW.cut ⟨hct, fol⟩ (by kernel_rfl) (by kernel_rfl) [.nv 13 8000 8 (lsF cCoo [])] (fun _ : Unit => [(0, .sl l.length (lsF cCoo l)), (2, .int .i64 m), (4, .ptr 4 0), (10, .sl o.length (lsF cCoo o)), (11, .int .i64 i), (12, .int .i64 k), (13, .vec 8000 0)]) (fun _ => [(8000, .vec 8 0 (lsF cCoo [])), (4, .cells (cAdr.enc b).flat)]) (fun _ => True) ?_ fun _ _ => ?_
              · push_cast (config := { maxSteps := 10000000 })
                exact ⟨(), trivial⟩
              · push_cast (config := { maxSteps := 10000000 })
                have hA := LsI.sh (k := k) (l := 0) (LsI.ls (c := cCoo) o) (by omega)
                rw [List.drop_zero] at hA
                have hB := LsI.one (c := cCoo) (a := l.getD i noCoo) (f := litF [cCoo.enc (l.getD i noCoo)]) rfl
                have hC := LsI.sh (k := o.length - k) (l := k) (LsI.ls (c := cCoo) o) (by omega)
                rw [List.take_of_length_le (by rw [List.length_drop]; omega)] at hC
                have app := LsI.app (LsI.app hA hB rfl) hC rfl
                exact ⟨k1, ⟨hA.flat (fun _ => rfl), by omega⟩, hlt, by omega, k1, ⟨hC.flat (fun _ => rfl), by omega⟩, (o.take k ++ [l.getD i noCoo]) ++ o.drop k, by rw [hy2]; unfold stK; simp, app.pure (fun _ => rfl), by simp; omega, app.2⟩
        · push_cast (config := { maxSteps := 10000000 })
          exact ⟨by omega, (i + 1, o2), ⟨by show i + 1 ≤ l.length; omega, ho2⟩, by show l.length - (i + 1) < l.length - i; omega, ⟨rfl, fun _ _ => rfl⟩, by show (i : Int) + 1 = ((i + 1 : Nat) : Int); omega⟩
      · have hol := crN_len l i b m
        rw [← i2] at hol
        have eI : i = l.length := by omega
        have eO : o = srtC (l.filter fun c => goesL c b m) := by rw [i2, eI]; unfold crN; rw [List.take_length]
        have e0 : cfE l b m = 0 := by unfold cfE; rw [if_neg (fun x => x h1), if_neg (fun x => x h2), if_neg (fun x => x h3)]
        have eF : cfS l b m = serL o o.length := by unfold cfS; rw [if_pos e0, ← eO, serL_join (Nat.le_refl _), List.take_length]
        rw [eF, e0]
        have hmm : ∀ x ∈ o, checkCooL x = 0 := fun x hx => by
          rw [eO] at hx
          have hx := (srtL_st keyC noCoo (l.filter fun c => goesL c b m)).2.symm.mem keyC hx
          exact (coos_ok h1).2 x (List.mem_filter.1 hx).1
        clear eO i2 eF
        have hsz : ∀ k, k ≤ o.length → (serL o k).length ≤ k * 1043 := fun k => by
          induction k with
          | zero => intro _; exact Nat.zero_le _
          | succ k ih =>
            intro hk
            have := ih (by omega)
            obtain ⟨z1, z2⟩ := coo_sz (hmm _ (mem_at' (d := noCoo) (show k < o.length by omega)))
            rw [serL, List.length_append]
            have hs : (sentL (o.getD k noCoo)).length ≤ 1041 := by
              unfold sentL; rw [List.length_append, List.length_append, List.length_cons, List.length_nil]; omega
            split
            · rw [List.length_append, List.length_cons, List.length_cons, List.length_nil]; omega
            · omega
        refine LoopW.adj ⟨hct, fol⟩ (by kernel_rfl) [] (fun k : Nat => [(10, .sl o.length (lsF cCoo o)), (14, .str (serL o k)), (15, .int .i64 k)]) (fun _ => []) (fun k => k ≤ o.length) (fun k => o.length - k) 0 ?_ fun k hk => ?_
        · push_cast (config := { maxSteps := 10000000 })
          exact ⟨Nat.zero_le _, rfl⟩
        · have hs1 := hsz k hk
          push_cast (config := { maxSteps := 10000000 })
          refine ⟨fun hlt => ?_, fun hge => ?_⟩
          · have hk5 : ¬ k < o.length → False := fun h => by omega
            obtain ⟨z1, z2⟩ := coo_sz (hmm _ (mem_at' (d := noCoo) (show k < o.length by omega)))
            refine ⟨fun h => ⟨by omega, by omega, by omega, by omega, by omega, by omega, by omega, k + 1, by omega, by omega, by rw [serL, if_pos (show 0 < k by omega)]; rfl, by omega⟩, fun h => ⟨by omega, by omega, by omega, by omega, by omega, by omega, k + 1, by omega, by omega, by rw [serL, if_neg (show ¬ 0 < k by omega)]; rfl, by omega⟩⟩
          · rw [show k = o.length by omega]
  · cases h

theorem shCoo {m : Nat} {v : V} (h : Sh.has (.tup [.str, .str, .str, .bool, .str, .bool, .int .i64, .int .i64]) m v) : ∃ a, v = cCoo.enc a ∧ cooOk a := by
  obtain ⟨l, ms, rfl, -, hl⟩ := h
  obtain ⟨m1, v1, ms, l, rfl, h1, hl⟩ := hasL_cons hl
  obtain ⟨m2, v2, ms, l, rfl, h2, hl⟩ := hasL_cons hl
  obtain ⟨m3, v3, ms, l, rfl, h3, hl⟩ := hasL_cons hl
  obtain ⟨m4, v4, ms, l, rfl, h4, hl⟩ := hasL_cons hl
  obtain ⟨m5, v5, ms, l, rfl, h5, hl⟩ := hasL_cons hl
  obtain ⟨m6, v6, ms, l, rfl, h6, hl⟩ := hasL_cons hl
  obtain ⟨m7, v7, ms, l, rfl, h7, hl⟩ := hasL_cons hl
  obtain ⟨m8, v8, ms, l, rfl, h8, hl⟩ := hasL_cons hl
  obtain rfl := hasL_nil hl
  obtain ⟨na, rfl, b1⟩ := shStr h1
  obtain ⟨va, rfl, b2⟩ := shStr h2
  obtain ⟨ho, rfl, b3⟩ := shStr h3
  obtain ⟨wi, rfl⟩ := shBoolE h4
  obtain ⟨pa, rfl, b5⟩ := shStr h5
  obtain ⟨se, rfl⟩ := shBoolE h6
  obtain ⟨un, rfl, c7⟩ := shInt h7
  obtain ⟨si, rfl, c8⟩ := shInt h8
  simp only [Lit.wf, Bool.and_eq_true, decide_eq_true_eq] at c7 c8
  exact ⟨⟨na, va, ho, wi, pa, se, un, si⟩, rfl, b1, b2, b3, b5, c7, c8⟩

def ckLawCS : Ck
  | [.sl n f, .agg [.str sc, .str ho, .str po, .str pa, .str qu, .bool hq, .str fr, .bool hf], .int .i64 m] => some (isLs cCoo n f ∧ coosOk (lsOf cCoo n f) ∧ adrOk ⟨sc, ho, po, pa, qu, hq, fr, hf⟩ ∧ I64 m, .bool true)
  | _ => none
theorem conLawCS : Con pg 3 ckLawCS := by
  have hct := (ctA_ok conCookiesFor (ctA_ok conCookiesFor2 (ctA_ok conAwake2 (ctN_ok _))))
  intro args q r h hq
  unfold ckLawCS at h
  split at h
  · cases h
    rename_i n f sc ho po pa qu hq1 fr hf m
    refine pcall_args (args' := [.sl (lsOf cCoo n f).length (lsF cCoo (lsOf cCoo n f)), .agg [.str sc, .str ho, .str po, .str pa, .str qu, .bool hq1, .str fr, .bool hf], .int .i64 m]) ⟨isLs.vle hq.1, VLe.refl _, VLe.refl _, trivial⟩ ?_
    obtain ⟨-, hl, ha, hm⟩ := hq
    generalize lsOf cCoo n f = l at hl ⊢
    generalize ea : (⟨sc, ho, po, pa, qu, hq1, fr, hf⟩ : Adr) = b at *
    obtain ⟨rfl, rfl, rfl, rfl, rfl, rfl, rfl, rfl⟩ : sc = b.sc ∧ ho = b.ho ∧ po = b.po ∧ pa = b.pa ∧ qu = b.qu ∧ hq1 = b.hq ∧ fr = b.fr ∧ hf = b.hf := by subst ea; exact ⟨rfl, rfl, rfl, rfl, rfl, rfl, rfl, rfl⟩
    refine w3 (fun _ => false) [] rfl hct rfl rfl ?_
    push_cast (config := { maxSteps := 10000000 })
    rw [show (⟨b.sc, b.ho, b.po, b.pa, b.qu, b.hq, b.fr, b.hf⟩ : Adr) = b from rfl]
    exact ⟨hl, ha, hm⟩
  · cases h
attribute [push_cast] ckLawCS
theorem allLawCS {H : Type} (ds : List (DataW H)) (hh : hasD [.list (.tup [.str, .str, .str, .bool, .str, .bool, .int .i64, .int .i64]), .tup [.str, .str, .str, .str, .str, .bool, .str, .bool], .int .i64] ds) : PCall pg 3 (ds.map toV) (.bool true) := by
  obtain ⟨d1, d2, d3, rfl, a, b, c⟩ := hasD3 hh
  obtain ⟨n, f, e1, i1, b1, k1⟩ := shList (c := cCoo) (fun m v h => shCoo h) a
  obtain ⟨x, e2, k2⟩ := shAdr b
  obtain ⟨k, e3, k3⟩ := shInt c
  simp only [List.map_cons, List.map_nil, e1, e2, e3]
  simp only [Lit.wf, Bool.and_eq_true, decide_eq_true_eq] at k3
  exact conLawCS _ _ _ rfl ⟨i1, k1, k2, k3⟩

end Go.Abs
