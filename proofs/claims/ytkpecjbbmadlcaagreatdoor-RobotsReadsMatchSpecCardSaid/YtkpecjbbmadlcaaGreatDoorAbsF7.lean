/- what functions of this program compute: contracts, each a function's own -/
import Derived.Test.YtkpecjbbmadlcaaGreatDoorAbsK3
import Derived.Test.YtkpecjbbmadlcaaGreatDoorAbsFacts
import Derived.Test.YtkpecjbbmadlcaaGreatDoorAbsF6
import Derived.Test.YtkpecjbbmadlcaaGreatDoorAbsShelf
import Derived.Lib.SplitLaws
import Derived.Lib.SlTrimSet
import Derived.Lib.Atoi
import Derived.Lib.Itoa
import Derived.Lib.ItoaNum
import Derived.Lib.Replace
import Derived.Lib.ReplaceLaws
import Derived.Lib.AtoiErrMem
import Derived.Lib.Join
namespace Go.Abs
open Go Go.Proofs
set_option maxHeartbeats 4000000
set_option maxRecDepth 100000
set_option linter.unusedVariables false
set_option linter.unusedSimpArgs false
/- the reference's reader (plain) -/
theorem tr9 : (fun x => ([9, 32] : List UInt8).contains x) = fun x => ([32, 9] : List UInt8).contains x := by
  funext x
  simp only [List.contains_cons, List.contains_nil, Bool.or_false]
  rw [Bool.or_comm]
theorem trL9 (s : List UInt8) : Lib.trimLeftS s [9, 32] = Lib.trimLeftS s [32, 9] := by unfold Lib.trimLeftS; rw [tr9]
theorem trR9 (s : List UInt8) : Lib.trimRightS s [9, 32] = Lib.trimRightS s [32, 9] := by unfold Lib.trimRightS; rw [tr9]
theorem trS9 (s : List UInt8) : Lib.trimS s [9, 32] = Lib.trimS s [32, 9] := by unfold Lib.trimS; rw [trR9, trL9]
/-- the word last met -/
def lastL (s w : List UInt8) : List UInt8 := if lnB s = false then w else if lnW s = uaW ∨ lnW s = allowW ∨ lnW s = disW ∨ lnW s = crawlW then lnW s else w
def rd4 (x : RdS) (w : List UInt8) (A R G M i : Nat) : HL := [(i, .cells [.vec G (gN x), .vec M x.ma.length, .bool x.op, .str w]), (G, .vec 3 (gN x) (gF A R x)), (M, .vec 1 x.ma.length (lsF cStr x.ma)), (A, .vec 1 x.ag.length (lsF cStr x.ag)), (R, .vec 2 x.ru.length (lsF cRul x.ru))]
theorem rd4_sh (x : RdS) (w : List UInt8) (A R G M i : Nat) : (rd4 x w A R G M i).shift = rd4 x w (A + 9000) (R + 9000) (G + 9000) (M + 9000) (i + 9000) := by
  unfold rd4
  simp only [HL.shift, Blk.shift, gF_sh]
  rfl
theorem rd4_shm7 (x : RdS) (w : List UInt8) : (rd4 x w 8990 8991 7002 7003 7004).shm = rd4 x w 8990 8991 16002 16003 16004 := by
  unfold rd4
  simp only [HL.shm, Blk.shm, gF_shm]
  rfl
theorem rd4_hl {p : Nat → Bool} {x : RdS} {w : List UInt8} {A R G M i : Nat} (hi : p i = true) (hG : p G = true) (hM : p M = true) (hA : p A = true) (hR : p R = true) : hlIn p (rd4 x w A R G M i) := by
  refine ⟨hi, ?_, hG, fun j _ => gF_in hA hR j, hM, fun j _ => rfl, hA, fun j _ => rfl, hR, fun j _ => rfl, trivial⟩
  show V.menInL p [.vec G _, .vec M _, .bool _, .str _] = true
  simp [V.menInL, V.menIn, hG, hM]
theorem rd4_k72 (x : RdS) (w : List UInt8) : killHL 8990 (killHL 8991 ((2, .cells [.nilsl, .nilsl]) :: rd4 x w 7000 7001 7002 7003 7004)) = (2, .cells [.nilsl, .nilsl]) :: rd4 x w 7000 7001 7002 7003 7004 := by
  have e : (fun j => V.kill 8990 (V.kill 8991 (gF 7000 7001 x j))) = gF 7000 7001 x := by
    funext j
    rw [gF_kl x (by decide) (by decide), gF_kl x (by decide) (by decide)]
  unfold rd4
  show [_, _, (7002, Blk.vec 3 (gN x) fun j => V.kill 8990 (V.kill 8991 (gF 7000 7001 x j))), _, _, _] = _
  rw [e]
  rfl
theorem subH_4 (x : RdS) (w : List UInt8) {A R G M i k : Nat} {b : Blk} (h : [k, i, G, M, A, R].Nodup) : subH (hOf ((k, b) :: rd4 x w A R G M i)) (rd4 x w A R G M i) := by
  simp only [List.nodup_cons, List.mem_cons, List.mem_nil_iff, or_false, not_or] at h
  obtain ⟨⟨k1, k2, k3, k4, k5⟩, ⟨h1, h2, h3, h4⟩, ⟨h5, h6, h7⟩, ⟨h8, h9⟩, h10, -⟩ := h
  unfold rd4
  simp only [subH, hOf]
  refine ⟨?_, ?_, ?_, ?_, ?_, trivial⟩
  · rw [upd_ne _ _ (Ne.symm k1), upd_same]
  · rw [upd_ne _ _ (Ne.symm k2), upd_ne _ _ (Ne.symm h1), upd_same]
  · rw [upd_ne _ _ (Ne.symm k3), upd_ne _ _ (Ne.symm h2), upd_ne _ _ (Ne.symm h5), upd_same]
  · rw [upd_ne _ _ (Ne.symm k4), upd_ne _ _ (Ne.symm h3), upd_ne _ _ (Ne.symm h6), upd_ne _ _ (Ne.symm h8), upd_same]
  · rw [upd_ne _ _ (Ne.symm k5), upd_ne _ _ (Ne.symm h4), upd_ne _ _ (Ne.symm h7), upd_ne _ _ (Ne.symm h9), upd_ne _ _ (Ne.symm h10), upd_same]
/-- what is last met, and whether it was an agent -/
theorem last_la {x : RdS} {s w : List UInt8} {n : Nat} (hx : RdOk x n) (h : x.la = decide (w = uaW)) : (rdLine s x).la = decide (lastL s w = uaW) := by
  unfold rdLine lastL
  by_cases h1 : lnB s = false
  · rw [if_pos h1, if_pos h1]; exact h
  · rw [if_neg h1, if_neg h1]
    by_cases h2 : lnW s = uaW
    · rw [if_pos h2, if_pos (.inl h2), decide_eq_true h2]
      have ho : (rdOpen x).la = true := by
        unfold rdOpen
        split
        · rename_i h; exact h.2
        · rfl
      unfold rdAgent
      split
      · exact ho
      · exact ho
    · rw [if_neg h2]
      by_cases h3 : lnW s = allowW ∨ lnW s = disW ∨ lnW s = crawlW
      · rw [if_pos h3, if_pos (.inr h3), decide_eq_false h2]
        unfold rdRule
        split
        · rename_i ho
          exact (hx.op ho).2
        · split
          · split <;> rfl
          · split <;> rfl
      · have h4 : ¬ (lnW s = uaW ∨ lnW s = allowW ∨ lnW s = disW ∨ lnW s = crawlW) := fun g => g.elim h2 h3
        rw [if_neg h3, if_neg h4]
        split
        · exact h
        · exact h

def ckNum4 : Ck
  | [.str s] => some (s.length ≤ 1000000, .bool ((decide (1 ≤ s.length) && decide (s.length ≤ 5)) && s.all isDg))
  | _ => none
theorem conNum4 : Con pg 57 ckNum4 := by
  have hct := (ctA_ok conWithin (ctA_ok conTrim (ctN_ok _)))
  intro args q r h hq
  unfold ckNum4 at h
  split at h
  · cases h
    rename_i s
    refine w57 (fun _ => false) [] rfl hct rfl rfl ?_
    push_cast (config := { maxSteps := 10000000 })
    have e := trim_dig s
    unfold digs at e
    refine ⟨fun h => ⟨h, by omega⟩, ?_⟩
    rw [Bool.eq_iff_iff]
    simp only [Bool.and_eq_true, decide_eq_true_eq, beq_iff_eq, e]
    refine and_congr_left fun _ => and_congr ?_ ?_ <;> omega
  · cases h
attribute [push_cast] ckNum4
def ckFull4 : Ck
  | [x] => some (isC cRob x ∧ (cRob.dec x).gr.length ≤ 1000000 ∧ (cRob.dec x).ma.length ≤ 1000000, .bool (fullR (cRob.dec x).gr (cRob.dec x).ma))
  | _ => none
theorem conFull4 : Con pg 31 ckFull4 := by
  have hct := ctN_ok pg
  intro args q r h hq
  unfold ckFull4 at h
  split at h
  · cases h
    rename_i x
    refine pcall_args (args' := [cRob.enc (cRob.dec x)]) ⟨hq.1, trivial⟩ ?_
    obtain ⟨-, o1, o2⟩ := hq
    generalize cRob.dec x = r at o1 o2 ⊢
    refine w31 (fun _ => false) [] rfl hct rfl rfl ?_
    push_cast (config := { maxSteps := 10000000 })
    refine ⟨fun h => ?_, fun h => ?_⟩
    · unfold fullR
      rw [decide_eq_true (by omega)]; rfl
    have hb : fullR r.gr r.ma = r.gr.any fullG := by
      unfold fullR
      rw [decide_eq_false (by omega)]; rfl
    rw [hb]
    refine LoopW.adj ⟨hct, fol⟩ (by kernel_rfl) [] (fun i : Nat => [(16, .sl r.gr.length (lsF cGrp r.gr)), (17, .int .i64 r.gr.length), (18, .int .i64 i)]) (fun _ => []) (fun i => i ≤ r.gr.length ∧ ∀ j, j < i → fullG (r.gr.getD j noGrp) = false) (fun i => r.gr.length - i) 0 ?_ fun i hi => ?_
    · push_cast (config := { maxSteps := 10000000 })
      exact Nat.zero_le _
    · obtain ⟨h1, h2⟩ : i ≤ r.gr.length ∧ ∀ j, j < i → fullG (r.gr.getD j noGrp) = false := hi
      have h3 : ∀ L : List Grp, (∀ j, j < L.length → fullG (L.getD j noGrp) = false) → L.any fullG = false := fun L hL => by
        rw [List.any_eq_false]
        intro x hx
        obtain ⟨j, hj, rfl⟩ := List.getElem_of_mem hx
        have := hL j hj
        rw [List.getD_eq_getElem?_getD, List.getElem?_eq_getElem hj] at this
        rw [show fullG L[j] = false from this]; simp
      push_cast (config := { maxSteps := 10000000 })
      refine ⟨fun hl => ⟨hl, fun h4 => ?_, fun h4 => ⟨by omega, i + 1, ⟨by omega, fun j hj => ?_⟩, by omega, by omega⟩⟩, fun hl => (h3 _ fun j hj => h2 j (by omega)).symm⟩
      · refine (List.any_eq_true.2 ⟨r.gr[i], List.getElem_mem hl, ?_⟩).symm
        have e : r.gr[i] = r.gr.getD i noGrp := by rw [List.getD_eq_getElem?_getD, List.getElem?_eq_getElem hl]; rfl
        rw [e]
        exact decide_eq_true (by omega)
      · by_cases e : j = i
        · subst e; exact decide_eq_false (by omega)
        · exact h2 j (by omega)
  · cases h
attribute [push_cast] ckFull4

@[push_cast] theorem pred_c (n : Nat) : ((n : Int) + 1 - 1).toNat = n := by omega
@[push_cast] theorem pred_d (n : Nat) : (n : Int) + 1 - 1 = n := by omega
theorem setR6 {x y : RdS} {i : Nat} {f : Nat → V} {a r : Nat} {d : Int} (hf : ∀ j, f j = gF 16000 16001 x j) (hi : i < x.cl.length + 1) (h1 : y.cl = x.cl) (h2 : opG 8990 8991 a r d = opG 8990 8991 y.ag.length y.ru.length y.de) : V.ren 16001 8991 (V.kill 8991 (V.ren 16000 8990 (V.kill 8990 (setF f x.cl.length (V.agg [V.vec 16000 a, V.vec 16001 r, V.int IntKind.i64 d]) i)))) = gF 8990 8991 y i := by
  by_cases h : i < x.cl.length
  · have e : setF f x.cl.length (V.agg [V.vec 16000 a, V.vec 16001 r, V.int IntKind.i64 d]) i = f i := by
      unfold setF
      rw [decide_eq_false (by omega)]; rfl
    rw [e, hf, gF_lo h, gF_lo (by rw [h1]; exact h), h1]
    rfl
  · obtain rfl : i = x.cl.length := by omega
    have e : setF f x.cl.length (V.agg [V.vec 16000 a, V.vec 16001 r, V.int IntKind.i64 d]) x.cl.length = opG 16000 16001 a r d := by
      unfold setF
      rw [decide_eq_true rfl]; rfl
    rw [e, gF_hi (by rw [h1]; exact h), ← h2]
    rfl
/-- the groups' row, frozen, with a new group -/
def fz6 (x : RdS) (n : Nat) : Nat → V := fun i => frzV 16001 2 x.ru.length (fun i => V.agg [V.bool (x.ru.getD i noRul).al, V.str (x.ru.getD i noRul).pa]) (frzV 16000 1 x.ag.length (lsF cStr x.ag) (appF n (gF 16000 16001 x) (litF [V.agg [V.nilsl, V.nilsl, V.int IntKind.i64 (-1)]]) i))
theorem fz6_new (x : RdS) (n : Nat) : fz6 x n n = V.agg [V.nilsl, V.nilsl, V.int IntKind.i64 (-1)] := by
  unfold fz6 appF
  rw [decide_eq_false (Nat.lt_irrefl _), Nat.sub_self]
  rfl
theorem fz6_old {x : RdS} {n i : Nat} (hn : n = gN x) (h : i < n) : fz6 x n i = lsF cGrp (rdG x) i := by
  subst hn
  unfold fz6 appF
  rw [decide_eq_true h, cond_true]
  show _ = cGrp.enc ((rdG x).getD i noGrp)
  by_cases h1 : i < x.cl.length
  · rw [gF_lo h1, rdG_lo h1]; rfl
  · rw [gF_hi h1, rdG_hi h h1]
    unfold opG
    push_cast (config := { maxSteps := 10000000 })
    rfl
theorem nv6 {x : RdS} {n i : Nat} (hn : n = gN x) (h : i < n + 1) : nveF n 1 8991 (nveF n 0 8990 (fz6 x n)) i = gF 8990 8991 ⟨rdG x, true, true, [], [], -1, x.ma⟩ i := by
  by_cases h1 : i < n
  · have hb : Nat.beq i n = false := by
      cases hb : Nat.beq i n with
      | false => rfl
      | true => have := Nat.eq_of_beq_eq_true hb; omega
    unfold nveF
    rw [hb, cond_false, cond_false, fz6_old hn h1, gF_lo (by show i < (rdG x).length; rw [rdG_len]; omega)]
    rfl
  · obtain rfl : i = n := by omega
    have hb : Nat.beq i i = true := by simp
    unfold nveF
    rw [hb, cond_true, cond_true, fz6_new x i, gF_hi (by show ¬ i < (rdG x).length; rw [rdG_len]; omega)]
    rfl
/-- the reader's blocks when a group is open, an agent not yet put to it -/
def rd4o (z : RdS) (w : List UInt8) (o : Bool) : HL := [(16004, .cells [.vec 16002 (z.cl.length + 1), .vec 16003 z.ma.length, .bool o, .str w]), (16002, .vec 3 (z.cl.length + 1) (gF 8990 8991 z)), (16003, .vec 1 z.ma.length (lsF cStr z.ma)), (8990, .vec 1 z.ag.length (lsF cStr z.ag)), (8991, .vec 2 z.ru.length (lsF cRul z.ru))]
theorem mLine4o {x : RdS} {s w : List UInt8} (hx : RdOk x 1000000) (hs : s.length ≤ 1000000) (hla : x.la = decide (w = uaW)) (hop : x.op = true) : MCall pg 30 [.ptr 16004 0, .str s] (rd4 x w 16000 16001 16002 16003 16004) (.tup []) (rd4 (rdLine s x) (lastL s w) 8990 8991 16002 16003 16004) := by
  have hct : CtOk pg _ := ctA_ok conCut (ctA_ok conTrim (ctA_ok conTrimRight (ctA_ok conSmall4 (ctA_ok conTrimLeft (ctA_ok conIsAgent4 (ctA_ok conPat4 (ctA_ok conNum4 (ctA_ok conAtoi (ctA_ok conIsAdr4 (ctN_ok pg))))))))))
  refine mw30 (fun d => decide (d = 20009)) [.ren 16000 8990, .ren 16001 8991] rfl hct rfl (by simp [rd4]) (rd4_hl (by simp [idsIn, rd4, nwB]) (by simp [idsIn, rd4, nwB]) (by simp [idsIn, rd4, nwB]) (by simp [idsIn, rd4, nwB]) (by simp [idsIn, rd4, nwB])) rfl ?_
  have hL : rdLine s x = if lnB s = false then x
    else if lnW s = uaW then rdAgent (lnV s) x
    else if lnW s = allowW ∨ lnW s = disW ∨ lnW s = crawlW then rdRule (lnW s) (lnV s) x
    else if lnW s = siteW ∧ (readA (lnV s)).2.2 = 0 then { x with ma := x.ma ++ [lnV s] } else x := rfl
  have hW : lastL s w = if lnB s = false then w else if lnW s = uaW ∨ lnW s = allowW ∨ lnW s = disW ∨ lnW s = crawlW then lnW s else w := rfl
  generalize rdLine s x = z at hL ⊢
  generalize lastL s w = w' at hW ⊢
  have hc1 := cut_sz3 s [35]
  have ht1 := trimS_sz (Lib.cut s [35]).1 [9, 32]
  have hc2 := cut_sz3 (Lib.trimS (Lib.cut s [35]).1 [9, 32]) [58]
  have ht2 := trimR_sz (Lib.cut (Lib.trimS (Lib.cut s [35]).1 [9, 32]) [58]).1 [9, 32]
  have eW : lowL (Lib.trimRightS (Lib.cut (Lib.trimS (Lib.cut s [35]).1 [9, 32]) [58]).1 [9, 32]) = lnW s := by rw [trS9, trR9]; rfl
  have eV : Lib.trimLeftS (Lib.cut (Lib.trimS (Lib.cut s [35]).1 [9, 32]) [58]).2.1 [9, 32] = lnV s := by rw [trS9, trL9]; rfl
  have eB : (Lib.cut (Lib.trimS (Lib.cut s [35]).1 [9, 32]) [58]).2.2 = lnB s := by rw [trS9]; rfl
  have hvl : (lnV s).length ≤ 1000000 := by
    have := trimL_sz (Lib.cut (Lib.trimS (Lib.cut s [35]).1 [9, 32]) [58]).2.1 [9, 32]
    rw [← eV]
    omega
  have hg := gN_op hop
  unfold rd4
  rw [hg, hop]
  push_cast (config := { maxSteps := 10000000 })
  simp only [eW, eV, eB]
  clear eW eV eB
  have hcl := hx.cl
  have hru := hx.ru
  have hma := hx.ma
  have leaf : ∀ (l : Bool) (u : List UInt8), z = { x with la := l } → w' = u → (x.cl.length + 1 = gN z ∧ x.ma.length = z.ma.length ∧ true = z.op ∧ u = w') ∧ (x.cl.length + 1 = gN z ∧ ∀ (i : Nat), i < x.cl.length + 1 → V.ren 16001 8991 (V.kill 8991 (V.ren 16000 8990 (V.kill 8990 (gF 16000 16001 x i)))) = gF 8990 8991 z i) ∧ (x.ma.length = z.ma.length ∧ ∀ (i : Nat), i < x.ma.length → V.str (x.ma.getD i []) = V.str (z.ma.getD i [])) ∧ (x.ag.length = z.ag.length ∧ ∀ (i : Nat), i < x.ag.length → V.str (x.ag.getD i []) = V.str (z.ag.getD i [])) ∧ x.ru.length = z.ru.length ∧ ∀ (i : Nat), i < x.ru.length → V.agg [V.bool (x.ru.getD i noRul).al, V.str (x.ru.getD i noRul).pa] = V.agg [V.bool (z.ru.getD i noRul).al, V.str (z.ru.getD i noRul).pa] := fun l u e e2 => by
    subst e
    subst e2
    exact ⟨⟨hg.symm, rfl, hop.symm, rfl⟩, ⟨hg.symm, fun i _ => (gF_ren6 x i).trans rfl⟩, ⟨rfl, fun _ _ => rfl⟩, ⟨rfl, fun _ _ => rfl⟩, rfl, fun _ _ => rfl⟩
  refine ⟨by omega, by omega, by omega, by omega, by omega, fun h => leaf x.la w (by rw [hL, if_pos h]) (by rw [hW, if_pos h]), fun h => ⟨fun h2 => ?_, fun h2 => ?_⟩⟩
  · have hb : ¬ lnB s = false := by rw [h]; simp
    have hu : lnW s = uaW := h2
    have hz : z = rdAgent (lnV s) x := by rw [hL, if_neg hb, if_pos hu]
    have hw : w' = lnW s := by rw [hW, if_neg hb, if_pos (.inl hu)]
    obtain ⟨z0, hz0⟩ : ∃ z0, z0 = rdOpen x := ⟨_, rfl⟩
    obtain ⟨z1, z2⟩ := open_op x
    have zok : RdOk (rdOpen x) 1000001 := open_ok hx
    unfold rdAgent at hz
    rw [← hz0] at z1 z2 zok hz
    have zag := zok.ag
    have zcl := zok.cl
    by_cases hl : x.la = true
    · have hw0 : w = uaW := by rw [hl] at hla; exact of_decide_eq_true hla.symm
      have e0 : z0 = x := by rw [hz0]; unfold rdOpen; rw [if_pos ⟨hop, hl⟩]
      refine SeqW.cut ⟨hct, fol⟩ (by kernel_rfl) (by kernel_rfl) [.ren 16000 8990, .ren 16001 8991] (fun _ : Unit => [(0, .ptr 16004 0), (4, .str (lnW s)), (5, .str (lnV s)), (7, .int .i64 ((z0.cl.length : Int) + 1))]) (fun _ => rd4o z0 w true) (fun _ => True) ?_ fun _ _ => ?_
      · rw [e0]
        unfold rd4o
        push_cast (config := { maxSteps := 10000000 })
        exact ⟨fun hn => absurd hw0 hn, fun _ => ⟨(), fun i _ => gF_ren6 x i⟩⟩
      · have ek : (fun i => V.kill 90 (V.kill 89 (gF 8990 8991 z0 i))) = gF 8990 8991 z0 := by
          funext i
          rw [gF_kl z0 (by decide) (by decide), gF_kl z0 (by decide) (by decide)]
        unfold rd4o
        push_cast (config := { maxSteps := 10000000 })
        rw [ek]
        have hg0 := gN_op z1
        refine ⟨by omega, by rw [lowL_len]; omega, fun ha => ⟨⟨by omega, by omega⟩, ⟨by omega, by omega⟩, by omega, by omega, ⟨by omega, by omega⟩, by omega, by omega, ?_⟩, fun ha => ?_⟩
        · rw [if_pos ha] at hz
          subst hz
          subst hw
          exact ⟨⟨hg0.symm, rfl, z1.symm, rfl⟩, ⟨hg0.symm, fun i hi => gF_set (y := { z0 with ag := z0.ag ++ [lowL (lnV s)] }) (by omega) z1 rfl (by show opG _ _ _ _ _ = opG _ _ (z0.ag ++ [lowL (lnV s)]).length _ _; rw [List.length_append, List.length_singleton]) rfl⟩, ⟨rfl, fun _ _ => rfl⟩, ⟨by simp, fun j hj => app_str hj⟩, rfl, fun _ _ => rfl⟩
        · rw [if_neg (by rw [ha]; simp)] at hz
          subst hz
          subst hw
          exact ⟨⟨hg0.symm, rfl, z1.symm, rfl⟩, ⟨hg0.symm, fun _ _ => rfl⟩, ⟨rfl, fun _ _ => rfl⟩, ⟨rfl, fun _ _ => rfl⟩, rfl, fun _ _ => rfl⟩
    · have hw0 : ¬ w = uaW := by
        intro e
        rw [decide_eq_true e] at hla
        exact hl hla
      have e0 : z0 = ⟨rdG x, true, true, [], [], -1, x.ma⟩ := by rw [hz0]; unfold rdOpen; rw [if_neg fun g => hl g.2]
      have hN : (rdG x).length = x.cl.length + 1 := by rw [rdG_len, hg]
      refine SeqW.cut ⟨hct, fol⟩ (by kernel_rfl) (by kernel_rfl) [.frz 16000, .frz 16001, .nve 16002 (x.cl.length + 1) 0 8990 1 (lsF cStr []), .nve 16002 (x.cl.length + 1) 1 8991 2 (lsF cRul [])] (fun _ : Unit => [(0, .ptr 16004 0), (4, .str (lnW s)), (5, .str (lnV s)), (7, .int .i64 ((z0.cl.length : Int) + 1))]) (fun _ => rd4o z0 w true) (fun _ => True) ?_ fun _ _ => ?_
      · rw [e0]
        unfold rd4o
        push_cast (config := { maxSteps := 10000000 })
        have ek := fz6_new x (x.cl.length + 1)
        unfold fz6 at ek
        refine ⟨fun _ => ⟨by omega, ⟨by omega, by omega⟩, (), ⟨by omega, ?_⟩, ⟨by omega, ?_⟩, by omega, by omega, by omega, fun i hi => nv6 hg.symm hi⟩, fun e => absurd e hw0⟩
        · rw [ek]; rfl
        · unfold nveF
          simp only [ek]
          rw [show Nat.beq (x.cl.length + 1) (x.cl.length + 1) = true from by simp]
          rfl
      · have ek : (fun i => V.kill 90 (V.kill 89 (gF 8990 8991 z0 i))) = gF 8990 8991 z0 := by
          funext i
          rw [gF_kl z0 (by decide) (by decide), gF_kl z0 (by decide) (by decide)]
        unfold rd4o
        push_cast (config := { maxSteps := 10000000 })
        rw [ek]
        have hg0 := gN_op z1
        refine ⟨by omega, by rw [lowL_len]; omega, fun ha => ⟨⟨by omega, by omega⟩, ⟨by omega, by omega⟩, by omega, by omega, ⟨by omega, by omega⟩, by omega, by omega, ?_⟩, fun ha => ?_⟩
        · rw [if_pos ha] at hz
          subst hz
          subst hw
          exact ⟨⟨hg0.symm, rfl, z1.symm, rfl⟩, ⟨hg0.symm, fun i hi => gF_set (y := { z0 with ag := z0.ag ++ [lowL (lnV s)] }) (by omega) z1 rfl (by show opG _ _ _ _ _ = opG _ _ (z0.ag ++ [lowL (lnV s)]).length _ _; rw [List.length_append, List.length_singleton]) rfl⟩, ⟨rfl, fun _ _ => rfl⟩, ⟨by simp, fun j hj => app_str hj⟩, rfl, fun _ _ => rfl⟩
        · rw [if_neg (by rw [ha]; simp)] at hz
          subst hz
          subst hw
          exact ⟨⟨hg0.symm, rfl, z1.symm, rfl⟩, ⟨hg0.symm, fun _ _ => rfl⟩, ⟨rfl, fun _ _ => rfl⟩, ⟨rfl, fun _ _ => rfl⟩, rfl, fun _ _ => rfl⟩
  · have hb : ¬ lnB s = false := by rw [h]; simp
    have hu : ¬ lnW s = uaW := h2
    have rul : ∀ W, (W = allowW ∨ W = disW ∨ W = crawlW) → lnW s = W → z = rdRule (lnW s) (lnV s) x ∧ w' = lnW s := fun W h1 h2 => by
      have h3 : lnW s = allowW ∨ lnW s = disW ∨ lnW s = crawlW := by rw [h2]; exact h1
      exact ⟨by rw [hL, if_neg hb, if_neg hu, if_pos h3], by rw [hW, if_neg hb, if_pos (.inr h3)]⟩
    have pat1 : ∀ W, (W = allowW ∨ W = disW) → lnW s = W → patOk (lnV s) = true → z = { x with la := false, ru := x.ru ++ [⟨decide (lnW s = allowW), lnV s⟩] } := fun W h1 h2 h3 => by
      have h4 : ¬ lnW s = crawlW := by rw [h2]; rcases h1 with h1 | h1 <;> rw [h1] <;> decide
      rw [(rul W (h1.elim .inl fun x => .inr (.inl x)) h2).1]
      unfold rdRule
      rw [if_neg (by rw [hop]; simp), if_neg h4, if_pos h3]
    have pat0 : ∀ W, (W = allowW ∨ W = disW) → lnW s = W → patOk (lnV s) = false → z = { x with la := false } := fun W h1 h2 h3 => by
      have h4 : ¬ lnW s = crawlW := by rw [h2]; rcases h1 with h1 | h1 <;> rw [h1] <;> decide
      rw [(rul W (h1.elim .inl fun x => .inr (.inl x)) h2).1]
      unfold rdRule
      rw [if_neg (by rw [hop]; simp), if_neg h4, if_neg (by rw [h3]; simp)]
    have other : ¬ lnW s = allowW → ¬ lnW s = disW → ¬ lnW s = crawlW → w' = w ∧ z = if lnW s = siteW ∧ (readA (lnV s)).2.2 = 0 then { x with ma := x.ma ++ [lnV s] } else x := fun a b c => by
      have h4 : ¬ (lnW s = allowW ∨ lnW s = disW ∨ lnW s = crawlW) := fun g => g.elim a fun g => g.elim b c
      exact ⟨by rw [hW, if_neg hb, if_neg (fun g => g.elim hu h4)], by rw [hL, if_neg hb, if_neg hu, if_neg h4]⟩
    refine ⟨fun a => ⟨fun _ => ?_, fun n => absurd a n⟩, fun a => ⟨fun b => ?_, fun b => ⟨fun c => ?_, fun c => ⟨fun st => ⟨fun ad => ?_, fun ad => ?_⟩, fun st => ?_⟩⟩⟩⟩
    · have hH : allowW = allowW ∨ allowW = disW := .inl rfl
      refine ⟨fun hp => ⟨⟨by omega, by omega⟩, ⟨by omega, by omega⟩, by omega, by omega, ⟨by omega, by omega⟩, by omega, by omega, ?_⟩, fun hp => leaf false (lnW s) (pat0 allowW hH a hp) (rul allowW (hH.elim .inl fun x => .inr (.inl x)) a).2⟩
      have e1 := pat1 allowW hH a hp
      have e2 := (rul allowW (hH.elim .inl fun x => .inr (.inl x)) a).2
      subst e1
      subst e2
      refine ⟨⟨hg.symm, rfl, hop.symm, rfl⟩, ⟨hg.symm, fun i hi => setR6 (x := x) (fun j => by rw [gF_kl x (by decide) (by decide), gF_kl x (by decide) (by decide)]) hi rfl (by show opG _ _ _ _ _ = opG _ _ _ (x.ru ++ [_]).length _; rw [List.length_append, List.length_singleton])⟩, ⟨rfl, fun _ _ => rfl⟩, ⟨rfl, fun _ _ => rfl⟩, by simp, fun j hj => ?_⟩
      have ew : (lnW s == [97, 108, 108, 111, 119]) = decide (lnW s = allowW) := by
          rw [Bool.eq_iff_iff, beq_iff_eq, decide_eq_true_eq]; rfl
      rw [ew]
      exact (congrArg (fun v => V.ren 16001 8991 (V.kill 8991 (V.ren 16000 8990 (V.kill 8990 v)))) (app_rul (x := ⟨decide (lnW s = allowW), lnV s⟩) hj)).trans rfl
    · have hH : disW = allowW ∨ disW = disW := .inr rfl
      refine ⟨fun hp => ⟨⟨by omega, by omega⟩, ⟨by omega, by omega⟩, by omega, by omega, ⟨by omega, by omega⟩, by omega, by omega, ?_⟩, fun hp => leaf false (lnW s) (pat0 disW hH b hp) (rul disW (hH.elim .inl fun x => .inr (.inl x)) b).2⟩
      have e1 := pat1 disW hH b hp
      have e2 := (rul disW (hH.elim .inl fun x => .inr (.inl x)) b).2
      subst e1
      subst e2
      refine ⟨⟨hg.symm, rfl, hop.symm, rfl⟩, ⟨hg.symm, fun i hi => setR6 (x := x) (fun j => by rw [gF_kl x (by decide) (by decide), gF_kl x (by decide) (by decide)]) hi rfl (by show opG _ _ _ _ _ = opG _ _ _ (x.ru ++ [_]).length _; rw [List.length_append, List.length_singleton])⟩, ⟨rfl, fun _ _ => rfl⟩, ⟨rfl, fun _ _ => rfl⟩, by simp, fun j hj => ?_⟩
      have ew : (lnW s == [97, 108, 108, 111, 119]) = decide (lnW s = allowW) := by
          rw [Bool.eq_iff_iff, beq_iff_eq, decide_eq_true_eq]; rfl
      rw [ew]
      exact (congrArg (fun v => V.ren 16001 8991 (V.kill 8991 (V.ren 16000 8990 (V.kill 8990 v)))) (app_rul (x := ⟨decide (lnW s = allowW), lnV s⟩) hj)).trans rfl
    · obtain ⟨e1, e2⟩ := rul crawlW (.inr (.inr rfl)) c
      unfold rdRule at e1
      have c' : lnW s = crawlW := c
      rw [if_neg (by rw [hop]; simp), if_pos c'] at e1
      refine ⟨hvl, fun h => ⟨h, by omega, by omega⟩, fun h => ⟨h, by omega⟩, fun h => ⟨h, by omega⟩, fun h => ⟨⟨by omega, by omega⟩, ⟨by omega, by omega, h.1.2⟩, by omega, by omega, ?_⟩, fun h => ?_⟩
      · rw [if_pos ⟨⟨⟨by omega, by omega⟩, h.1.2⟩, h.2⟩] at e1
        subst e1
        subst e2
        exact ⟨⟨hg.symm, rfl, hop.symm, rfl⟩, ⟨hg.symm, fun i hi => setR6 (x := x) (fun j => by rw [gF_kl x (by decide) (by decide)]) hi rfl rfl⟩, ⟨rfl, fun _ _ => rfl⟩, ⟨rfl, fun _ _ => rfl⟩, rfl, fun _ _ => rfl⟩
      · rw [if_neg (fun g => h ⟨⟨by omega, by omega⟩, g.1.2⟩ g.2)] at e1
        exact leaf false (lnW s) e1 e2
    · obtain ⟨e1, e2⟩ := other a b c
      have ad' : (readA (lnV s)).2.2 = 0 := of_decide_eq_true ad
      rw [if_pos ⟨st, ad'⟩] at e2
      subst e2
      subst e1
      refine ⟨⟨by omega, by omega⟩, ⟨hg.symm, by simp, hop.symm, rfl⟩, ⟨hg.symm, fun i _ => (gF_ren6 x i).trans rfl⟩, ⟨by simp, fun j hj => ?_⟩, ⟨rfl, fun _ _ => rfl⟩, rfl, fun _ _ => rfl⟩
      exact (congrArg (fun v => V.ren 16001 8991 (V.kill 8991 (V.ren 16000 8990 (V.kill 8990 v)))) (app_str hj)).trans rfl
    · obtain ⟨e1, e2⟩ := other a b c
      have ad' : ¬ (readA (lnV s)).2.2 = 0 := of_decide_eq_false ad
      rw [if_neg (fun g => ad' g.2)] at e2
      exact leaf x.la w e2 e1
    · obtain ⟨e1, e2⟩ := other a b c
      rw [if_neg (fun g => st g.1)] at e2
      exact leaf x.la w e2 e1
theorem mLine4c {x : RdS} {s w : List UInt8} (hx : RdOk x 1000000) (hs : s.length ≤ 1000000) (hla : x.la = decide (w = uaW)) (hop : x.op = false) : MCall pg 30 [.ptr 16004 0, .str s] (rd4 x w 16000 16001 16002 16003 16004) (.tup []) (rd4 (rdLine s x) (lastL s w) 8990 8991 16002 16003 16004) := by
  have hct : CtOk pg _ := ctA_ok conCut (ctA_ok conTrim (ctA_ok conTrimRight (ctA_ok conSmall4 (ctA_ok conTrimLeft (ctA_ok conIsAgent4 (ctA_ok conPat4 (ctA_ok conNum4 (ctA_ok conAtoi (ctA_ok conIsAdr4 (ctN_ok pg))))))))))
  refine mw30 (fun d => decide (d = 20009)) [.ren 16000 8990, .ren 16001 8991] rfl hct rfl (by simp [rd4]) (rd4_hl (by simp [idsIn, rd4, nwB]) (by simp [idsIn, rd4, nwB]) (by simp [idsIn, rd4, nwB]) (by simp [idsIn, rd4, nwB]) (by simp [idsIn, rd4, nwB])) rfl ?_
  have hL : rdLine s x = if lnB s = false then x
    else if lnW s = uaW then rdAgent (lnV s) x
    else if lnW s = allowW ∨ lnW s = disW ∨ lnW s = crawlW then rdRule (lnW s) (lnV s) x
    else if lnW s = siteW ∧ (readA (lnV s)).2.2 = 0 then { x with ma := x.ma ++ [lnV s] } else x := rfl
  have hW : lastL s w = if lnB s = false then w else if lnW s = uaW ∨ lnW s = allowW ∨ lnW s = disW ∨ lnW s = crawlW then lnW s else w := rfl
  generalize rdLine s x = z at hL ⊢
  generalize lastL s w = w' at hW ⊢
  have hc1 := cut_sz3 s [35]
  have ht1 := trimS_sz (Lib.cut s [35]).1 [9, 32]
  have hc2 := cut_sz3 (Lib.trimS (Lib.cut s [35]).1 [9, 32]) [58]
  have ht2 := trimR_sz (Lib.cut (Lib.trimS (Lib.cut s [35]).1 [9, 32]) [58]).1 [9, 32]
  have eW : lowL (Lib.trimRightS (Lib.cut (Lib.trimS (Lib.cut s [35]).1 [9, 32]) [58]).1 [9, 32]) = lnW s := by rw [trS9, trR9]; rfl
  have eV : Lib.trimLeftS (Lib.cut (Lib.trimS (Lib.cut s [35]).1 [9, 32]) [58]).2.1 [9, 32] = lnV s := by rw [trS9, trL9]; rfl
  have eB : (Lib.cut (Lib.trimS (Lib.cut s [35]).1 [9, 32]) [58]).2.2 = lnB s := by rw [trS9]; rfl
  have hvl : (lnV s).length ≤ 1000000 := by
    have := trimL_sz (Lib.cut (Lib.trimS (Lib.cut s [35]).1 [9, 32]) [58]).2.1 [9, 32]
    rw [← eV]
    omega
  obtain ⟨hcl, hlf⟩ := hx.op hop
  have hg : gN x = 0 := by unfold gN; rw [hcl, hop]; rfl
  have hma := hx.ma
  unfold rd4
  rw [hg, hop]
  have hgf : gF 16000 16001 x 0 = .agg [.vec 16000 x.ag.length, .vec 16001 x.ru.length, .int .i64 x.de] := by
    have := gF_at 16000 16001 x
    rw [hcl] at this
    exact this
  push_cast (config := { maxSteps := 10000000 }) [hgf]
  simp only [eW, eV, eB]
  clear eW eV eB
  have leaf : ∀ (u : List UInt8), z = x → w' = u → (0 = gN z ∧ x.ma.length = z.ma.length ∧ false = z.op ∧ u = w') ∧ 0 = gN z ∧ (x.ma.length = z.ma.length ∧ ∀ (i : Nat), i < x.ma.length → V.str (x.ma.getD i []) = V.str (z.ma.getD i [])) ∧ (x.ag.length = z.ag.length ∧ ∀ (i : Nat), i < x.ag.length → V.str (x.ag.getD i []) = V.str (z.ag.getD i [])) ∧ x.ru.length = z.ru.length ∧ ∀ (i : Nat), i < x.ru.length → V.agg [V.bool (x.ru.getD i noRul).al, V.str (x.ru.getD i noRul).pa] = V.agg [V.bool (z.ru.getD i noRul).al, V.str (z.ru.getD i noRul).pa] := fun u e e2 => by
    subst e
    subst e2
    exact ⟨⟨hg.symm, rfl, hop.symm, rfl⟩, hg.symm, ⟨rfl, fun _ _ => rfl⟩, ⟨rfl, fun _ _ => rfl⟩, rfl, fun _ _ => rfl⟩
  refine ⟨by omega, by omega, by omega, by omega, by omega, fun h => leaf w (by rw [hL, if_pos h]) (by rw [hW, if_pos h]), fun h => ⟨fun h2 => ?_, fun h2 => ?_⟩⟩
  · have hb : ¬ lnB s = false := by rw [h]; simp
    have hu : lnW s = uaW := h2
    have hz : z = rdAgent (lnV s) x := by rw [hL, if_neg hb, if_pos hu]
    have hw : w' = lnW s := by rw [hW, if_neg hb, if_pos (.inl hu)]
    obtain ⟨z0, hz0⟩ : ∃ z0, z0 = rdOpen x := ⟨_, rfl⟩
    obtain ⟨z1, z2⟩ := open_op x
    have zok : RdOk (rdOpen x) 1000001 := open_ok hx
    unfold rdAgent at hz
    rw [← hz0] at z1 z2 zok hz
    have zag := zok.ag
    have zcl := zok.cl
    have eG : rdG x = [] := by unfold rdG; rw [if_neg (by rw [hop]; simp), hcl]
    have e0 : z0 = ⟨[], true, true, [], [], -1, x.ma⟩ := by rw [hz0]; unfold rdOpen; rw [if_neg (by rw [hop]; simp), eG]
    refine SeqW.cut ⟨hct, fol⟩ (by kernel_rfl) (by kernel_rfl) [.frz 16000, .frz 16001, .nve 16002 0 0 8990 1 (lsF cStr []), .nve 16002 0 1 8991 2 (lsF cRul [])] (fun _ : Unit => [(0, .ptr 16004 0), (4, .str (lnW s)), (5, .str (lnV s)), (7, .int .i64 ((z0.cl.length : Int) + 1))]) (fun _ => rd4o z0 w true) (fun _ => True) ?_ fun _ _ => ?_
    · rw [e0]
      unfold rd4o
      push_cast (config := { maxSteps := 10000000 })
      refine ⟨(), rfl, fun i hi => ?_⟩
      obtain rfl : i = 0 := by omega
      rfl
    · have ek : (fun i => V.kill 90 (V.kill 89 (gF 8990 8991 z0 i))) = gF 8990 8991 z0 := by
        funext i
        rw [gF_kl z0 (by decide) (by decide), gF_kl z0 (by decide) (by decide)]
      unfold rd4o
      push_cast (config := { maxSteps := 10000000 })
      rw [ek]
      have hg0 := gN_op z1
      refine ⟨by omega, by rw [lowL_len]; omega, fun ha => ⟨⟨by omega, by omega⟩, ⟨by omega, by omega⟩, by omega, by omega, ⟨by omega, by omega⟩, by omega, by omega, ?_⟩, fun ha => ?_⟩
      · rw [if_pos ha] at hz
        subst hz
        subst hw
        exact ⟨⟨hg0.symm, rfl, z1.symm, rfl⟩, ⟨hg0.symm, fun i hi => gF_set (y := { z0 with ag := z0.ag ++ [lowL (lnV s)] }) (by omega) z1 rfl (by show opG _ _ _ _ _ = opG _ _ (z0.ag ++ [lowL (lnV s)]).length _ _; rw [List.length_append, List.length_singleton]) rfl⟩, ⟨rfl, fun _ _ => rfl⟩, ⟨by simp, fun j hj => app_str hj⟩, rfl, fun _ _ => rfl⟩
      · rw [if_neg (by rw [ha]; simp)] at hz
        subst hz
        subst hw
        exact ⟨⟨hg0.symm, rfl, z1.symm, rfl⟩, ⟨hg0.symm, fun _ _ => rfl⟩, ⟨rfl, fun _ _ => rfl⟩, ⟨rfl, fun _ _ => rfl⟩, rfl, fun _ _ => rfl⟩
  · have hb : ¬ lnB s = false := by rw [h]; simp
    have hu : ¬ lnW s = uaW := h2
    have rul : ∀ W, (W = allowW ∨ W = disW ∨ W = crawlW) → lnW s = W → z = x ∧ w' = lnW s := fun W h1 h2 => by
      have h3 : lnW s = allowW ∨ lnW s = disW ∨ lnW s = crawlW := by rw [h2]; exact h1
      refine ⟨?_, by rw [hW, if_neg hb, if_pos (.inr h3)]⟩
      rw [hL, if_neg hb, if_neg hu, if_pos h3]
      unfold rdRule
      rw [if_pos hop]
    have other : ¬ lnW s = allowW → ¬ lnW s = disW → ¬ lnW s = crawlW → w' = w ∧ z = if lnW s = siteW ∧ (readA (lnV s)).2.2 = 0 then { x with ma := x.ma ++ [lnV s] } else x := fun a b c => by
      have h4 : ¬ (lnW s = allowW ∨ lnW s = disW ∨ lnW s = crawlW) := fun g => g.elim a fun g => g.elim b c
      exact ⟨by rw [hW, if_neg hb, if_neg (fun g => g.elim hu h4)], by rw [hL, if_neg hb, if_neg hu, if_neg h4]⟩
    refine ⟨fun a => ⟨fun _ => leaf _ (rul allowW (.inl rfl) a).1 (rul allowW (.inl rfl) a).2, fun n => absurd a n⟩, fun a => ⟨fun b => leaf _ (rul disW (.inr (.inl rfl)) b).1 (rul disW (.inr (.inl rfl)) b).2, fun b => ⟨fun c => leaf _ (rul crawlW (.inr (.inr rfl)) c).1 (rul crawlW (.inr (.inr rfl)) c).2, fun c => ⟨fun st => ⟨fun ad => ?_, fun ad => ?_⟩, fun st => ?_⟩⟩⟩⟩
    · obtain ⟨e1, e2⟩ := other a b c
      have ad' : (readA (lnV s)).2.2 = 0 := of_decide_eq_true ad
      rw [if_pos ⟨st, ad'⟩] at e2
      subst e2
      subst e1
      refine ⟨⟨by omega, by omega⟩, ⟨hg.symm, by simp, hop.symm, rfl⟩, hg.symm, ⟨by simp, fun j hj => ?_⟩, ⟨rfl, fun _ _ => rfl⟩, rfl, fun _ _ => rfl⟩
      exact (congrArg (fun v => V.ren 16001 8991 (V.kill 8991 (V.ren 16000 8990 (V.kill 8990 v)))) (app_str hj)).trans rfl
    · obtain ⟨e1, e2⟩ := other a b c
      have ad' : ¬ (readA (lnV s)).2.2 = 0 := of_decide_eq_false ad
      rw [if_neg (fun g => ad' g.2)] at e2
      exact leaf w e2 e1
    · obtain ⟨e1, e2⟩ := other a b c
      rw [if_neg (fun g => st g.1)] at e2
      exact leaf w e2 e1
theorem mLine4 {x : RdS} {s w : List UInt8} (hx : RdOk x 1000000) (hs : s.length ≤ 1000000) (hla : x.la = decide (w = uaW)) : MCall pg 30 [.ptr 16004 0, .str s] (rd4 x w 16000 16001 16002 16003 16004) (.tup []) (rd4 (rdLine s x) (lastL s w) 8990 8991 16002 16003 16004) := by
  cases hop : x.op with
  | true => exact mLine4o hx hs hla hop
  | false => exact mLine4c hx hs hla hop

/-- the word last met in such lines -/
def lwF (L : List (List UInt8)) : List UInt8 := L.foldl (fun w s => lastL s w) []
theorem lwF_one (L : List (List UInt8)) (s : List UInt8) : lwF (L ++ [s]) = lastL s (lwF L) := List.foldl_append ..
theorem keepA_app {α : Type} (g : α → Bool) (L : List α) (x : α) : keepA g (L ++ [x]) = if g x = true then keepA g L else keepA g L ++ [x] := by
  unfold keepA
  rw [List.filter_append, List.filter_cons]
  cases g x <;> simp
theorem app_grp {D : List Grp} {x : Grp} {j : Nat} (h : j < D.length + 1) : appF D.length (lsF cGrp D) (litF [cGrp.enc x]) j = cGrp.enc ((D ++ [x]).getD j noGrp) := by
  unfold appF
  by_cases e : j < D.length
  · rw [decide_eq_true e, List.getD_eq_getElem?_getD, List.getElem?_append_left e, ← List.getD_eq_getElem?_getD]; rfl
  · obtain rfl : j = D.length := by omega
    rw [decide_eq_false e, Nat.sub_self, List.getD_eq_getElem?_getD, List.getElem?_append_right (Nat.le_refl _), Nat.sub_self]; rfl
theorem fz_74 (x : RdS) {i : Nat} (h : i < gN x) : frzV 7001 2 x.ru.length (fun i => V.agg [V.bool (x.ru.getD i noRul).al, V.str (x.ru.getD i noRul).pa]) (frzV 7000 1 x.ag.length (lsF cStr x.ag) (gF 7000 7001 x i)) = cGrp.enc ((rdG x).getD i noGrp) := by
  by_cases h1 : i < x.cl.length
  · rw [gF_lo h1, rdG_lo h1]; rfl
  · rw [gF_hi h1, rdG_hi h h1]
    unfold opG
    push_cast (config := { maxSteps := 10000000 })
    rfl
theorem conRead4 : Con pg 12 ckRobRead := by
  have hct := (ctA_ok conReplaceAll (ctA_ok conSplit (ctA_ok conFull4 (ctN_ok _))))
  intro args q r h hq
  unfold ckRobRead at h
  split at h
  · cases h
    rename_i t
    refine w12 (fun d => decide (d = 20004 ∨ d = 20009 ∨ d = 20016)) [] rfl hct rfl rfl ?_
    push_cast (config := { maxSteps := 10000000 })
    generalize hR : robRead t = R
    unfold robRead at hR
    refine ⟨fun h => ?_, fun h => ?_⟩
    · rw [if_pos (by omega)] at hR
      subst hR
      exact ⟨⟨rfl, rfl⟩, rfl⟩
    rw [if_neg (by omega)] at hR
    have hLl := rdLs_len t
    obtain ⟨L, hL⟩ : ∃ L, L = rdLs t := ⟨_, rfl⟩
    have hL' : splitL (rep1 13 [10] t) 10 = L := hL.symm
    have hsz : ∀ i, (L.getD i []).length ≤ 100000 := fun i => by
      by_cases hi : i < L.length
      · rw [List.getD_eq_getElem?_getD, List.getElem?_eq_getElem hi]
        have := spl_len 10 (rep1 13 [10] t) L[i] (by rw [← splitL_eq, hL']; exact List.getElem_mem hi)
        rw [rep1_one] at this
        show (L[i]).length ≤ _
        omega
      · rw [List.getD_eq_getElem?_getD, List.getElem?_eq_none (by omega)]; exact Nat.zero_le _
    rw [← hL] at hR hLl
    have hok : ∀ i, RdOk (rdF (L.take i)) 1000000 := fun i => (rdF_ok _).up (by rw [List.length_take]; omega)
    generalize hX : rdF L = X at *
    refine SeqW.cut ⟨hct, fol⟩ (by kernel_rfl) (by kernel_rfl) [.ren 4 7004, .nvc 7004 0 7002 3 (lsF cGrp []), .nvc 7004 1 7003 1 (lsF cStr []), .ph 7000 1 (lsF cStr []), .ph 7001 2 (lsF cRul [])] (fun _ : Unit => [(0, .str t), (2, .ptr 2 0), (4, .ptr 7004 0)]) (fun _ => (2, .cells [.nilsl, .nilsl]) :: rd4 rd0 [] 7000 7001 7002 7003 7004) (fun _ => True) ?_ fun _ _ => ?_
    · unfold rd4
      push_cast (config := { maxSteps := 10000000 })
      exact ⟨(), ⟨rfl, rfl, rfl⟩, rfl, rfl, rfl, rfl⟩
    have e0 : rdF (L.take 0) = rd0 := rfl
    have e1 : lwF (L.take 0) = [] := rfl
    unfold rd4
    push_cast (config := { maxSteps := 10000000 })
    refine SeqW.cut ⟨hct, fol⟩ (by kernel_rfl) (by kernel_rfl) [.frz 7000, .frz 7001, .frz 7002, .frz 7003] (fun _ : Unit => [(2, .ptr 2 0), (4, .ptr 7004 0)]) (fun _ => [(2, .cells [.nilsl, .nilsl]), (7004, .cells [.sl (rdG X).length (lsF cGrp (rdG X)), .sl X.ma.length (lsF cStr X.ma), .bool X.op, .str (lwF L)])]) (fun _ => True) ?_ fun _ _ => ?_
    · push_cast (config := { maxSteps := 10000000 })
      rw [rep1_one, hL']
      refine ⟨by omega, by omega, ?_⟩
      refine LoopW.adj ⟨hct, fol⟩ (by kernel_rfl) [.ren 8990 7000, .ren 8991 7001] (fun i : Nat => [(2, .ptr 2 0), (4, .ptr 7004 0), (16, .sl L.length (lsF cStr L)), (17, .int .i64 L.length), (18, .int .i64 i)]) (fun i => (2, .cells [.nilsl, .nilsl]) :: rd4 (rdF (L.take i)) (lwF (L.take i)) 7000 7001 7002 7003 7004) (fun i => i ≤ L.length ∧ (rdF (L.take i)).la = decide (lwF (L.take i) = uaW)) (fun i => L.length - i) 0 ?_ fun i hi => ?_
      · rw [e0, e1]
        unfold rd4
        push_cast (config := { maxSteps := 10000000 })
        exact ⟨Nat.zero_le _, rfl⟩
      · obtain ⟨i1, i2⟩ : i ≤ L.length ∧ (rdF (L.take i)).la = decide (lwF (L.take i) = uaW) := hi
        have hend : ¬ i < L.length → rdF (L.take i) = X ∧ lwF (L.take i) = lwF L := fun h => by
          rw [List.take_of_length_le (by omega)]
          exact ⟨hX, rfl⟩
        have hnx : i < L.length → rdF (L.take (i + 1)) = rdLine (L.getD i []) (rdF (L.take i)) ∧ lwF (L.take (i + 1)) = lastL (L.getD i []) (lwF (L.take i)) := fun h => by
          rw [takeG (d := []) h, rdF_one, lwF_one]
          exact ⟨rfl, rfl⟩
        have hy := hok i
        generalize rdF (L.take i) = y at *
        generalize lwF (L.take i) = w at *
        unfold rd4
        push_cast (config := { maxSteps := 10000000 })
        refine ⟨fun hlt => ⟨hlt, ?_⟩, fun hge => ?_⟩
        · obtain ⟨n1, n2⟩ := hnx hlt
          have hyl := last_la (s := L.getD i []) hy i2
          refine callM (rd4 y w 7000 7001 7002 7003 7004) (.tup []) (rd4 (rdLine (L.getD i []) y) (lastL (L.getD i []) w) 8990 8991 7002 7003 7004) ?_ ?_ ?_ ?_
          · rw [rd4_sh, rd4_shm7]
            exact mLine4 hy (by have := hsz i; omega) i2
          · have := rd4_k72 y w
            unfold rd4 at this
            rw [this]
            exact subH_4 y w (by decide)
          · refine ⟨?_, ?_, ?_, ?_, ?_, trivial⟩ <;> rfl
          · have := rd4_k72 y w
            unfold rd4 at this
            rw [this]
            unfold rd4
            generalize hz : rdLine (L.getD i []) y = z at *
            generalize hv : lastL (L.getD i []) w = v at *
            push_cast (config := { maxSteps := 10000000 })
            refine ⟨⟨by omega, by omega⟩, i + 1, ⟨by omega, by rw [n1, n2]; exact hyl⟩, by omega, by omega, ?_⟩
            rw [n1, n2]
            exact ⟨⟨rfl, rfl, rfl, rfl⟩, ⟨rfl, fun k _ => gF_ren7 z k⟩, ⟨rfl, fun _ _ => rfl⟩, ⟨rfl, fun _ _ => rfl⟩, rfl, fun _ _ => rfl⟩
        · obtain ⟨n1, n2⟩ := hend hge
          subst n1
          refine ⟨(), fun k hk => by rw [fz_74 y hk]; rfl, ⟨(rdG_len y).symm, fun k hk => fz_74 y hk⟩, ⟨rfl, fun _ _ => rfl⟩, rfl, n2⟩
    have hX1 : RdOk X 200002 := by
      rw [← hX]
      exact (rdF_ok _).up (by omega)
    have hX2 : (rdG X).length ≤ 200003 := by
      rw [rdG_len]
      have := hX1.cl
      unfold gN
      cases X.op <;> simp <;> omega
    have hX3 := hX1.ma
    unfold robOf at hR
    generalize X.ma = M at *
    generalize rdG X = K at *
    have hG2 : ∀ i, (keepA goneG (K.take i)).length ≤ 200003 := fun i => Nat.le_trans (List.length_filter_le _ _) (by rw [List.length_take]; omega)
    have hG3 : (keepA goneG K).length ≤ 200003 := Nat.le_trans (List.length_filter_le _ _) hX2
    push_cast (config := { maxSteps := 10000000 })
    refine SeqW.cut ⟨hct, fol⟩ (by kernel_rfl) (by kernel_rfl) [.frz 8000] (fun _ : Unit => [(2, .ptr 2 0), (4, .ptr 7004 0), (7, .sl (keepA goneG K).length (lsF cGrp (keepA goneG K)))]) (fun _ => [(2, .cells [.nilsl, .nilsl]), (7004, .cells [.sl K.length (lsF cGrp K), .sl M.length (lsF cStr M), .bool X.op, .str (lwF L)])]) (fun _ => True) ?_ fun _ _ => ?_
    · push_cast (config := { maxSteps := 10000000 })
      refine LoopW.adj ⟨hct, fol⟩ (by kernel_rfl) [.nv 7 8000 3 (lsF cGrp [])] (fun i : Nat => [(2, .ptr 2 0), (4, .ptr 7004 0), (7, .vec 8000 (keepA goneG (K.take i)).length), (27, .sl K.length (lsF cGrp K)), (28, .int .i64 K.length), (29, .int .i64 i)]) (fun i => [(2, .cells [.nilsl, .nilsl]), (7004, .cells [.sl K.length (lsF cGrp K), .sl M.length (lsF cStr M), .bool X.op, .str (lwF L)]), (8000, .vec 3 (keepA goneG (K.take i)).length (lsF cGrp (keepA goneG (K.take i))))]) (fun i => i ≤ K.length) (fun i => K.length - i) 0 ?_ fun i hi => ?_
      · push_cast (config := { maxSteps := 10000000 })
        exact ⟨Nat.zero_le _, rfl⟩
      · have hi : i ≤ K.length := hi
        have hst : i < K.length → keepA goneG (K.take (i + 1)) = if goneG (K.getD i noGrp) = true then keepA goneG (K.take i) else keepA goneG (K.take i) ++ [K.getD i noGrp] := keepA_succ
        have hend : ¬ i < K.length → keepA goneG (K.take i) = keepA goneG K := fun h => by rw [List.take_of_length_le (by omega)]
        have := hG2 i
        generalize keepA goneG (K.take i) = D at *
        push_cast (config := { maxSteps := 10000000 })
        refine ⟨fun hlt => ⟨hlt, fun hg => ?_, fun hg => ?_⟩, fun hge => ?_⟩
        · have e := hst hlt
          rw [if_neg (by unfold goneG; rw [decide_eq_false (by omega)]; simp)] at e
          refine ⟨⟨by omega, by omega⟩, ⟨by omega, by omega⟩, i + 1, by omega, by omega, ⟨by rw [e]; simp, by omega⟩, by rw [e]; simp, fun j hj => ?_⟩
          rw [e]
          exact app_grp hj
        · have e := hst hlt
          rw [if_pos (by unfold goneG; rw [decide_eq_true (by omega)])] at e
          refine ⟨⟨by omega, by omega⟩, i + 1, by omega, by omega, ⟨by rw [e], by omega⟩, by rw [e], fun j hj => ?_⟩
          rw [e]
        · rw [← hend hge]
          exact ⟨(), rfl, fun _ _ => rfl⟩
    push_cast (config := { maxSteps := 10000000 })
    refine ⟨⟨isC_enc cRob ⟨keepA goneG K, M⟩, by omega, by omega⟩, fun hf => ?_, fun hf => ?_⟩
    · rw [if_pos hf] at hR
      subst hR
      exact ⟨⟨rfl, rfl⟩, rfl⟩
    · rw [if_neg (by rw [hf]; simp)] at hR
      subst hR
      exact ⟨⟨⟨rfl, fun _ _ => rfl⟩, rfl, fun _ _ => rfl⟩, rfl⟩
  · cases h
attribute [push_cast] ckRobRead

/- the rules for an agent -/
def agE (r : Rob) (a : List UInt8) : Int := if checkRobL r = 0 then (if agentL a = true ∧ a ≠ [42] then 0 else 5) else checkRobL r
def rulG (G : List Grp) (a : List UInt8) : List Rul := (G.filter fun g => g.ag.contains a).flatMap fun g => g.ru
def delGp (G : List Grp) (a : List UInt8) : Int := (G.filter fun g => g.ag.contains a).foldl (fun d g => max d g.de) (-1)
def namG (G : List Grp) (a : List UInt8) : Bool := G.any fun g => g.ag.contains a
def rulesL (r : Rob) (a : List UInt8) : List Rul × Int := if namG r.gr a = true then (rulG r.gr a, delGp r.gr a) else (rulG r.gr [42], delGp r.gr [42])
theorem take_s {α : Type} (l : List α) (d : α) {i : Nat} (h : i < l.length) : l.take (i + 1) = l.take i ++ [l.getD i d] := by
  rw [List.getD_eq_getElem?_getD, List.getElem?_eq_getElem h, List.take_succ_eq_append_getElem h]; rfl
theorem rulG_s (G : List Grp) (a : List UInt8) {i : Nat} (h : i < G.length) : rulG (G.take (i + 1)) a = if (G.getD i noGrp).ag.contains a = true then rulG (G.take i) a ++ (G.getD i noGrp).ru else rulG (G.take i) a := by
  rw [take_s G noGrp h]
  unfold rulG
  rw [List.filter_append, List.flatMap_append]
  cases hc : (G.getD i noGrp).ag.contains a
  · rw [List.filter_cons_of_neg (by rw [hc]; simp)]; simp
  · rw [List.filter_cons_of_pos (by rw [hc])]; simp
theorem delG_s (G : List Grp) (a : List UInt8) {i : Nat} (h : i < G.length) : delGp (G.take (i + 1)) a = if (G.getD i noGrp).ag.contains a = true then max (delGp (G.take i) a) (G.getD i noGrp).de else delGp (G.take i) a := by
  rw [take_s G noGrp h]
  unfold delGp
  rw [List.filter_append, List.foldl_append]
  cases hc : (G.getD i noGrp).ag.contains a
  · rw [List.filter_cons_of_neg (by rw [hc]; simp)]; simp
  · rw [List.filter_cons_of_pos (by rw [hc])]; simp
theorem namG_s (G : List Grp) (a : List UInt8) {i : Nat} (h : i < G.length) : namG (G.take (i + 1)) a = (namG (G.take i) a || (G.getD i noGrp).ag.contains a) := by
  rw [take_s G noGrp h]
  unfold namG
  rw [List.any_append]; simp
theorem rulG_0 (G : List Grp) (a : List UInt8) : rulG (G.take 0) a = [] := rfl
theorem nam_no {G : List Grp} {a : List UInt8} (h : namG G a = false) : rulG G a = [] ∧ delGp G a = -1 := by
  have e : (G.filter fun g => g.ag.contains a) = [] := by
    rw [List.filter_eq_nil_iff]
    intro g hg hc
    unfold namG at h
    rw [List.any_eq_false] at h
    exact h g hg hc
  unfold rulG delGp
  rw [e]; exact ⟨rfl, rfl⟩
/- what is right has its bounds -/
theorem grp_ok {g : Grp} (h : checkGrpL g = 0) : 1 ≤ g.ag.length ∧ g.ag.length ≤ 50 ∧ (∀ s ∈ g.ag, agentL s = true) ∧ g.ru.length ≤ 200 ∧ (∀ r ∈ g.ru, patOk r.pa = true) ∧ -1 ≤ g.de ∧ g.de ≤ 99999 := by
  unfold checkGrpL at h
  by_cases h1 : g.ag.length = 0
  · rw [if_pos h1] at h; cases h
  rw [if_neg h1] at h
  by_cases h2 : 50 < g.ag.length
  · rw [if_pos h2] at h; cases h
  rw [if_neg h2] at h
  by_cases h3 : g.ag.all agentL = false
  · rw [if_pos h3] at h; cases h
  rw [if_neg h3] at h
  by_cases h4 : 200 < g.ru.length
  · rw [if_pos h4] at h; cases h
  rw [if_neg h4] at h
  by_cases h5 : (g.ru.all fun r => patOk r.pa) = false
  · rw [if_pos h5] at h; cases h
  rw [if_neg h5] at h
  by_cases h6 : g.de < -1 ∨ 99999 < g.de
  · rw [if_pos h6] at h; cases h
  have h3 : g.ag.all agentL = true := by simpa using h3
  have h5 : (g.ru.all fun r => patOk r.pa) = true := by simpa using h5
  exact ⟨by omega, by omega, List.all_eq_true.1 h3, by omega, List.all_eq_true.1 h5, by omega, by omega⟩
theorem grpsE_ok : ∀ {G : List Grp}, grpsE G = 0 → ∀ g ∈ G, checkGrpL g = 0
  | g :: t, h, x, hx => by
    rw [grpsE] at h
    by_cases h1 : checkGrpL g = 0
    · rw [if_pos h1] at h
      rcases List.mem_cons.1 hx with rfl | hx
      · exact h1
      · exact grpsE_ok h x hx
    · rw [if_neg h1] at h; exact absurd h h1
theorem rob_ok {r : Rob} (h : checkRobL r = 0) : r.gr.length ≤ 100 ∧ (∀ g ∈ r.gr, checkGrpL g = 0) ∧ r.ma.length ≤ 100 ∧ ∀ s ∈ r.ma, adrB s = true := by
  unfold checkRobL at h
  by_cases h1 : 100 < r.gr.length
  · rw [if_pos h1] at h; cases h
  rw [if_neg h1] at h
  by_cases h2 : grpsE r.gr = 0
  · rw [if_pos h2] at h
    by_cases h3 : 100 < r.ma.length
    · rw [if_pos h3] at h; cases h
    rw [if_neg h3] at h
    by_cases h4 : r.ma.all adrB = true
    · exact ⟨by omega, grpsE_ok h2, by omega, List.all_eq_true.1 h4⟩
    · rw [if_neg h4] at h; cases h
  · rw [if_neg h2] at h; exact absurd h h2
theorem pat_len {s : List UInt8} (h : patOk s = true) : s.length ≤ 300 := ((patOk_iff s).1 h).2.1
theorem mem_at {α : Type} {l : List α} {d : α} {i : Nat} (h : i < l.length) : l.getD i d ∈ l := by
  rw [List.getD_eq_getElem?_getD, List.getElem?_eq_getElem h]; exact List.getElem_mem h
theorem rulG_b {G : List Grp} (a : List UInt8) (h : ∀ g ∈ G, checkGrpL g = 0) : (rulG G a).length ≤ 200 * G.length ∧ (∀ r ∈ rulG G a, patOk r.pa = true) ∧ -1 ≤ delGp G a ∧ delGp G a ≤ 99999 := by
  refine ⟨?_, fun r hr => ?_, ?_⟩
  · induction G with
    | nil => simp [rulG]
    | cons g t ih =>
      have := ih fun x hx => h x (List.mem_cons_of_mem _ hx)
      have h2 := (grp_ok (h g (by simp))).2.2.2.1
      unfold rulG at *
      rw [List.filter_cons]
      split
      · simp only [List.flatMap_cons, List.length_append, List.length_cons]; omega
      · simp only [List.length_cons]; omega
  · unfold rulG at hr
    obtain ⟨g, hg, hr⟩ := List.mem_flatMap.1 hr
    exact (grp_ok (h g (List.mem_filter.1 hg).1)).2.2.2.2.1 r hr
  · unfold delGp
    have key : ∀ (L : List Grp) (d : Int), (∀ g ∈ L, checkGrpL g = 0) → -1 ≤ d → d ≤ 99999 → -1 ≤ L.foldl (fun d g => max d g.de) d ∧ L.foldl (fun d g => max d g.de) d ≤ 99999 := by
      intro L
      induction L with
      | nil => exact fun d _ h1 h2 => ⟨h1, h2⟩
      | cons g t ih =>
        intro d hL h1 h2
        have := (grp_ok (hL g (by simp))).2.2.2.2.2
        exact ih (max d g.de) (fun x hx => hL x (List.mem_cons_of_mem _ hx)) (by omega) (by omega)
    exact key _ _ (fun g hg => h g (List.mem_filter.1 hg).1) (by omega) (by omega)
theorem rules_b {r : Rob} (a : List UInt8) (h : checkRobL r = 0) : (rulesL r a).1.length ≤ 20000 ∧ (∀ x ∈ (rulesL r a).1, patOk x.pa = true) ∧ -1 ≤ (rulesL r a).2 ∧ (rulesL r a).2 ≤ 99999 := by
  obtain ⟨h1, h2, -, -⟩ := rob_ok h
  have k1 := rulG_b a h2
  have k2 := rulG_b [42] h2
  unfold rulesL
  split
  · exact ⟨by have := k1.1; show (rulG r.gr a).length ≤ _; omega, k1.2⟩
  · exact ⟨by have := k2.1; show (rulG r.gr [42]).length ≤ _; omega, k2.2⟩
/- the rule that decides -/
def betB (l : List Rul) (b : Int) (i : Nat) : Bool := decide (b < 0) || decide ((l.getD b.toNat noRul).pa.length < (l.getD i noRul).pa.length) || (decide ((l.getD i noRul).pa.length = (l.getD b.toNat noRul).pa.length) && (l.getD i noRul).al && !(l.getD b.toNat noRul).al)
def decG (l : List Rul) (p : List UInt8) : Nat → Int
  | 0 => -1
  | i + 1 => if matchesB (l.getD i noRul).pa p = true ∧ betB l (decG l p i) i = true then (i : Int) else decG l p i
def decL (l : List Rul) (p : List UInt8) : Int := decG l p l.length
theorem decG_b (l : List Rul) (p : List UInt8) : ∀ n, -1 ≤ decG l p n ∧ decG l p n < n
  | 0 => ⟨Int.le_refl _, by show (-1 : Int) < 0; omega⟩
  | n + 1 => by
    have := decG_b l p n
    rw [decG]
    split <;> omega
/- what is permitted -/
def wRobots : List UInt8 := [47, 114, 111, 98, 111, 116, 115, 46, 116, 120, 116]
def perL (r : Rob) (a p : List UInt8) : Bool := p == wRobots || (decide (decL (rulesL r a).1 p < 0) || ((rulesL r a).1.getD (decL (rulesL r a).1 p).toNat noRul).al)
def adE (r : Rob) (a : List UInt8) (x : Adr) : Int := if agE r a = 0 then checkAdrL x else agE r a

end Go.Abs
