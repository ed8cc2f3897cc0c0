/- what functions of this program compute: contracts, each a function's own -/
import Derived.Test.YtggipkjoemdbkaaGreatDoorAbsK2
import Derived.Test.YtggipkjoemdbkaaGreatDoorAbsFacts
import Derived.Test.YtggipkjoemdbkaaGreatDoorAbsF7
import Derived.Test.YtggipkjoemdbkaaGreatDoorAbsShelf
import Derived.Lib.SplitLaws
import Derived.Lib.SlTrimSet
import Derived.Lib.Atoi
import Derived.Lib.Itoa
import Derived.Lib.ItoaNum
import Derived.Lib.AtoiErrMem
import Derived.Lib.Join
import Derived.Lib.Repeat
import Derived.Lib.Walk
namespace Go.Abs
open Go Go.Proofs
set_option maxHeartbeats 4000000
set_option maxRecDepth 100000
set_option linter.unusedVariables false
set_option linter.unusedSimpArgs false
theorem dg_dig (s : List UInt8) : s.all digB = s.all isDg := by
  congr 1
  funext c
  unfold digB isDg isDig
  rw [Bool.eq_iff_iff]
  simp only [Bool.and_eq_true, decide_eq_true_eq]
  omega
theorem natOf_z (s : List UInt8) : natOf (trimZ s) = natOf s := by
  induction s with
  | nil => rfl
  | cons c t ih =>
    by_cases hc : c = 48
    · subst hc
      have e : trimZ (48 :: t) = trimZ t := by unfold trimZ; rw [List.dropWhile_cons, if_pos (by decide)]
      rw [e, ih]; rfl
    · have e : trimZ (c :: t) = c :: t := by unfold trimZ; rw [List.dropWhile_cons, if_neg (by simpa using hc)]
      rw [e]
theorem trimZ_head (s : List UInt8) (h : trimZ s ≠ []) : (trimZ s).getD 0 0 ≠ 48 := by
  induction s with
  | nil => exact absurd rfl h
  | cons c t ih =>
    by_cases hc : c = 48
    · subst hc
      have e : trimZ (48 :: t) = trimZ t := by unfold trimZ; rw [List.dropWhile_cons, if_pos (by decide)]
      rw [e] at h ⊢; exact ih h
    · have e : trimZ (c :: t) = c :: t := by unfold trimZ; rw [List.dropWhile_cons, if_neg (by simpa using hc)]
      rw [e]; simpa using hc
theorem trimZ_all {s : List UInt8} (h : s.all isDg = true) : (trimZ s).all isDg = true := by
  rw [List.all_eq_true] at h ⊢
  exact fun x hx => h x ((List.dropWhile_sublist _).subset hx)
theorem port_facts {s : List UInt8} (h : s = [] ∨ portN s ≠ 0) : s.length ≤ 18 ∧ s.all isDg = true ∧ natOf s ≤ 99999 ∧ (natOf s = 0 → trimZ s = []) ∧ (natOf s ≠ 0 → Lib.itoa (natOf s : Nat) = trimZ s ∧ trimZ s ≠ []) := by
  rcases h with h | h
  · subst h
    exact ⟨by decide, rfl, by decide, fun _ => rfl, fun x => absurd rfl x⟩
  · have h5 : 1 ≤ s.length ∧ s.length ≤ 5 ∧ s.all digB = true ∧ portV s ≤ 65535 := Classical.byContradiction fun x => h (by unfold portN; rw [if_neg x])
    obtain ⟨h1, h2, h3, h4⟩ := h5
    rw [dg_dig] at h3
    have hz := trimZ_all h3
    have hlt := natOf_lt s h3
    have hp : 10 ^ s.length ≤ 10 ^ 5 := Nat.pow_le_pow_right (by omega) h2
    have hne : natOf s ≠ 0 → trimZ s ≠ [] := fun h e => h (by rw [← natOf_z, e]; rfl)
    refine ⟨by omega, h3, by omega, fun e => Classical.byContradiction fun hn => ?_, fun hn => ⟨?_, hne hn⟩⟩
    · have := natOf_pos hz (List.length_pos_iff.2 hn) (trimZ_head s hn)
      rw [natOf_z] at this; omega
    · rw [itoa_nat, ← natOf_z, dec_natOf hz (List.length_pos_iff.2 (hne hn)) (.inl (trimZ_head s (hne hn)))]
theorem conNormOf : Con pg 83 ckNormA := by
  have hct := (ctA_ok conSmall (ctA_ok conCoded (ctA_ok conDots1 (ctA_ok conAtoiE (ctA_ok conItoa (ctN_ok _))))))
  intro args q r h hq
  unfold ckNormA at h
  split at h
  · cases h
    rename_i sc ho po pa qu hq1 fr hf
    refine w83 (fun _ => false) [] rfl hct rfl rfl ?_
    push_cast (config := { maxSteps := 10000000 })
    obtain ⟨z1, z2, z3, z4, z5, z6, z7, z8⟩ := check_sz hq
    obtain ⟨y1, y2⟩ := syn_wf z1
    have z9 : (po = [] ∨ portN po ≠ 0) ∧ (pa = [] ∨ pa.getD 0 0 = 47) := by
      unfold synA at z1
      simp only [Bool.and_eq_true, Bool.or_eq_true, beq_iff_eq, decide_eq_true_eq] at z1
      obtain ⟨⟨⟨⟨⟨⟨s1, s2⟩, s3⟩, s4⟩, s5⟩, s6⟩, s7⟩ := z1
      exact ⟨s3, s4.imp id fun e => UInt8.toNat_inj.1 e⟩
    simp only at z3 z4 z5 z6 z7 z8 y1 y2
    have n1 := normL_len pa
    have n2 := norm_head z9.2
    obtain ⟨p1, p2, p3, p4, p5⟩ := port_facts z9.1
    simp only [normA, portA, npL, show wHttp = [104, 116, 116, 112] from rfl, show wHttps = [104, 116, 116, 112, 115] from rfl]
    have q80 : natOf po = 80 ↔ trimZ po = [56, 48] := by
      constructor
      · intro e; rw [← (p5 (by omega)).1, e]; decide +kernel
      · intro e; rw [← natOf_z, e]; decide
    have q443 : natOf po = 443 ↔ trimZ po = [52, 52, 51] := by
      constructor
      · intro e; rw [← (p5 (by omega)).1, e]; decide +kernel
      · intro e; rw [← natOf_z, e]; decide
    generalize Lib.itoa (natOf po : Nat) = it at *
    generalize trimZ po = tz at *
    generalize natOf po = N at *
    have c80 : (N : Int) = 80 ↔ N = 80 := by omega
    have c443 : (N : Int) = 443 ↔ N = 443 := by omega
    have c0 : (N : Int) = 0 ↔ N = 0 := by omega
    simp only [c80, c443, c0]
    generalize lowL sc = lsc at *
    have n3 : normL pa = [] ∨ (normL pa).getD 0 0 = 47 := by rcases n2 with h | h; exact .inl h.2; exact .inr h.2.2
    generalize undotL (normL pa) = up at *
    generalize normL pa = np at *
    have e1 : ([47] : List UInt8) ≠ [] := by simp
    clear z1 hq
    (repeat' (first | apply And.intro | intro _)) <;> first | assumption | omega | exact trivial | grind
  · cases h
attribute [push_cast] ckNormA
theorem conPathOf40 : Con pg 56 ckPathOf := by
  have hct := (ctA_ok conNormOf (ctN_ok _))
  intro args q r h hq
  unfold ckPathOf at h
  split at h
  · cases h
    rename_i sc ho po pa qu hq1 fr hf
    refine w56 (fun _ => false) [] rfl hct rfl rfl ?_
    push_cast (config := { maxSteps := 10000000 })
    have h1 := norm_ok hq
    obtain ⟨o1, o2, o3, o4, o5, o6⟩ := h1
    refine ⟨hq, fun h => ⟨by omega, by omega, ?_⟩, fun h => ?_⟩
    · unfold pathL
      rw [if_pos (show hq1 = true from h), List.append_assoc]; rfl
    · unfold pathL
      rw [if_neg (show ¬ hq1 = true by rw [show hq1 = false from h]; simp), List.append_nil]; rfl
  · cases h
attribute [push_cast] ckPathOf
def ckPathOfR : Ck
  | [.agg [.str sc, .str ho, .str po, .str pa, .str qu, .bool hq, .str fr, .bool hf]] => some (adrOk ⟨sc, ho, po, pa, qu, hq, fr, hf⟩, .tup [.str (if checkAdrL ⟨sc, ho, po, pa, qu, hq, fr, hf⟩ = 0 then pathL ⟨sc, ho, po, pa, qu, hq, fr, hf⟩ else []), .int .i64 (checkAdrL ⟨sc, ho, po, pa, qu, hq, fr, hf⟩)])
  | _ => none
theorem conPathOf4 : Con pg 25 ckPathOfR := by
  have hct := (ctA_ok conCheckAdr1 (ctA_ok conPathOf40 (ctN_ok _)))
  intro args q r h hq
  unfold ckPathOfR at h
  split at h
  · cases h
    rename_i sc ho po pa qu hq1 fr hf
    refine w25 (fun _ => false) [] rfl hct rfl rfl ?_
    push_cast (config := { maxSteps := 10000000 })
    exact ⟨hq, fun h => (if_neg h).symm, fun h => ⟨h, (if_pos h).symm, h.symm⟩⟩
  · cases h
attribute [push_cast] ckPathOfR

theorem conAgE4 : Con pg 42 ckAgE := by
  have hct := (ctA_ok conCheckRob4 (ctA_ok conIsAgent4 (ctN_ok _)))
  intro args q r h hq
  unfold ckAgE at h
  split at h
  · cases h
    rename_i x a
    refine pcall_args (args' := [cRob.enc (cRob.dec x), .str a]) ⟨hq.1, VLe.refl _, trivial⟩ ?_
    obtain ⟨-, ok, ha⟩ := hq
    generalize cRob.dec x = r at ok ⊢
    refine w42 (fun _ => false) [] rfl hct rfl rfl ?_
    push_cast (config := { maxSteps := 10000000 })
    unfold agE
    refine ⟨ok, fun h => by rw [if_neg h], fun h => ⟨fun h3 => ⟨h3, ha⟩, fun h2 => ?_, fun h2 => ?_⟩⟩
    · rw [if_pos h, if_neg ?_]
      rintro ⟨x, y⟩
      rcases h2 with h2 | h2
      · exact y h2
      · rw [h2] at x; cases x
    · rw [if_pos h, if_pos ⟨h2.2, h2.1⟩]
  · cases h
attribute [push_cast] ckAgE
theorem conRules4 : Con pg 43 ckRules := by
  have hct := (ctA_ok conCtnS (ctN_ok _))
  intro args q r h hq
  unfold ckRules at h
  split at h
  · cases h
    rename_i x a
    refine pcall_args (args' := [cRob.enc (cRob.dec x), .str a]) ⟨hq.1, VLe.refl _, trivial⟩ ?_
    obtain ⟨-, ok, hc⟩ := hq
    generalize cRob.dec x = r at ok hc ⊢
    refine w43 (fun _ => false) [.frz 8000] rfl hct rfl rfl ?_
    push_cast (config := { maxSteps := 10000000 })
    obtain ⟨o1, o2, o3, o4⟩ := ok
    obtain ⟨c1, c2, -, -⟩ := rob_ok hc
    refine LoopW.adj ⟨hct, fol⟩ (by kernel_rfl) [.nv 6 8000 2 (lsF cRul [])] (fun k : Nat => [(2, .ptr 2 0), (6, .vec 8000 0), (7, .int .i64 (-1)), (8, .bool false), (14, .sl 2 (lsF cStr [a, [42]])), (15, .int .i64 2), (16, .int .i64 k)]) (fun k => [(2, .cells [.sl r.gr.length (lsF cGrp r.gr), .sl r.ma.length (lsF cStr r.ma)]), (8000, .vec 2 0 (lsF cRul []))]) (fun k => k ≤ 2 ∧ ∀ j, j < k → namG r.gr ([a, [42]].getD j []) = false) (fun k => 2 - k) 0 ?_ fun k hk => ?_
    · push_cast (config := { maxSteps := 10000000 })
      intro i hi
      match i, hi with
      | 0, _ => rfl
      | 1, _ => rfl
    · obtain ⟨k1, k2⟩ := hk
      push_cast (config := { maxSteps := 10000000 })
      refine ⟨fun hlt => ⟨hlt, ?_⟩, fun hge => ?_⟩
      · generalize hw : [a, [42]].getD k [] = w at *
        refine LoopW.adj ⟨hct, fol⟩ (by kernel_rfl) [] (fun i : Nat => [(2, .ptr 2 0), (6, .vec 8000 (rulG (r.gr.take i) w).length), (7, .int .i64 (delG (r.gr.take i) w)), (8, .bool (namG (r.gr.take i) w)), (10, .str w), (14, .sl 2 (lsF cStr [a, [42]])), (15, .int .i64 2), (16, .int .i64 k), (21, .sl r.gr.length (lsF cGrp r.gr)), (22, .int .i64 r.gr.length), (23, .int .i64 i)]) (fun i => [(2, .cells [.sl r.gr.length (lsF cGrp r.gr), .sl r.ma.length (lsF cStr r.ma)]), (8000, .vec 2 (rulG (r.gr.take i) w).length (lsF cRul (rulG (r.gr.take i) w)))]) (fun i => i ≤ r.gr.length) (fun i => r.gr.length - i) 0 ?_ fun i hi => ?_
        · push_cast (config := { maxSteps := 10000000 })
          exact ⟨Nat.zero_le _, ⟨rfl, rfl, rfl⟩, rfl⟩
        · push_cast (config := { maxSteps := 10000000 })
          refine ⟨fun hlt => ?_, fun hge => ?_⟩
          · have hg := o2 _ (mem_at hlt (d := noGrp))
            have hk := grp_ok (c2 _ (mem_at hlt (d := noGrp)))
            have tb := rulG_b (G := r.gr.take i) w fun g hg => c2 g (List.mem_of_mem_take hg)
            have hk2 := hk.2.2.2.1
            have tb2 := tb.1
            have tl : (r.gr.take i).length ≤ 100 := by rw [List.length_take]; omega
            have e1 := rulG_s r.gr w hlt
            have e2 := delG_s r.gr w hlt
            have e3 := namG_s r.gr w hlt
            refine ⟨hlt, by have := hg.1; omega, fun h => ?_, fun h => ?_⟩
            · rw [if_neg (by rw [h]; simp)] at e1 e2
              rw [h, Bool.or_false] at e3
              exact ⟨by omega, i + 1, by omega, by omega, ⟨by rw [e1], e2.symm, e3.symm, by omega⟩, by rw [e1], fun j hj => by rw [e1]⟩
            · rw [if_pos h] at e1 e2
              rw [h, Bool.or_true] at e3
              refine ⟨⟨by omega, by omega⟩, by omega, i + 1, by omega, by omega, ⟨by rw [e1, List.length_append], e2.symm, e3.symm, by omega⟩, by rw [e1, List.length_append], fun j hj => ?_⟩
              rw [e1]
              exact (LsI.app (c := cRul) (f := lsF cRul (rulG (r.gr.take i) w)) (g := lsF cRul (r.gr.getD i noGrp).ru) (LsI.ls _) (LsI.ls _) rfl).2 j hj
          · obtain rfl : i = r.gr.length := by omega
            rw [List.take_length]
            refine ⟨fun h => ?_, fun h => ?_⟩
            · have e : rulesL r a = (rulG r.gr w, delG r.gr w) := by
                unfold rulesL
                rcases (by omega : k = 0 ∨ k = 1) with rfl | rfl
                · have hw : a = w := hw
                  subst hw
                  rw [if_pos h]
                · have hw : [42] = w := hw
                  subst hw
                  have n0 : namG r.gr a = false := k2 0 (by omega)
                  rw [if_neg (by rw [n0]; simp)]
              rw [e]
              exact ⟨⟨rfl, fun _ _ => rfl⟩, rfl⟩
            · obtain ⟨m1, m2⟩ := nam_no h
              rw [m1, m2]
              refine ⟨by omega, k + 1, ⟨by omega, fun j hj => ?_⟩, by omega, ⟨rfl, rfl, h, by omega⟩, rfl, fun _ _ => rfl⟩
              by_cases ej : j = k
              · subst ej; rw [hw]; exact h
              · exact k2 j (by omega)
      · obtain rfl : k = 2 := by omega
        have n1 := k2 0 (by omega)
        have n2 := k2 1 (by omega)
        have n1 : namG r.gr a = false := n1
        have n2 : namG r.gr [42] = false := n2
        obtain ⟨m1, m2⟩ := nam_no n2
        unfold rulesL
        rw [if_neg (by rw [n1]; simp), m1, m2]
        exact ⟨rfl, rfl⟩
  · cases h
attribute [push_cast] ckRules
theorem conDec4 : Con pg 48 ckDec := by
  have hct := (ctA_ok conMatch4 (ctN_ok _))
  intro args q r h hq
  unfold ckDec at h
  split at h
  · cases h
    rename_i n f p
    refine pcall_args (args' := [.sl (lsOf cRul n f).length (lsF cRul (lsOf cRul n f)), .str p]) ⟨isLs.vle hq.1, VLe.refl _, trivial⟩ ?_
    obtain ⟨hL, hn, hp, hl⟩ := hq
    have hlen : (lsOf cRul n f).length = n := lsOf_len n f
    rw [← hlen] at hn
    generalize lsOf cRul n f = l at hn hp ⊢
    refine w48 (fun _ => false) [] rfl hct rfl rfl ?_
    push_cast (config := { maxSteps := 10000000 })
    refine LoopW.adj ⟨hct, fol⟩ (by kernel_rfl) [] (fun i : Nat => [(0, .sl l.length (lsF cRul l)), (1, .str p), (5, .int .i64 (decG l p i)), (8, .sl l.length (lsF cRul l)), (9, .int .i64 l.length), (10, .int .i64 i)]) (fun _ => []) (fun i => i ≤ l.length) (fun i => l.length - i) 0 ?_ fun i hi => ?_
    · push_cast (config := { maxSteps := 10000000 })
      exact ⟨Nat.zero_le _, rfl⟩
    · push_cast (config := { maxSteps := 10000000 })
      have db := decG_b l p i
      refine ⟨fun hlt => ?_, fun hge => ?_⟩
      · have hpt := pat_len (hp _ (mem_at hlt (d := noRul)))
        have eD : decG l p (i + 1) = if matchesB (l.getD i noRul).pa p = true ∧ betB l (decG l p i) i = true then (i : Int) else decG l p i := rfl
        have eB : betB l (decG l p i) i = true ↔ (decG l p i < 0 ∨ (l.getD (decG l p i).toNat noRul).pa.length < (l.getD i noRul).pa.length) ∨ ((l.getD i noRul).pa.length = (l.getD (decG l p i).toNat noRul).pa.length ∧ (l.getD i noRul).al = true) ∧ (l.getD (decG l p i).toNat noRul).al = false := by
          unfold betB
          simp only [Bool.or_eq_true, Bool.and_eq_true, decide_eq_true_eq, Bool.not_eq_true']
        have eY : matchesB (l.getD i noRul).pa p = true → ((decG l p i < 0 ∨ (l.getD (decG l p i).toNat noRul).pa.length < (l.getD i noRul).pa.length) ∨ ((l.getD i noRul).pa.length = (l.getD (decG l p i).toNat noRul).pa.length ∧ (l.getD i noRul).al = true) ∧ (l.getD (decG l p i).toNat noRul).al = false) → (i : Int) = decG l p (i + 1) := fun h1 h2 => by rw [eD, if_pos ⟨h1, eB.2 h2⟩]
        have eN : (matchesB (l.getD i noRul).pa p = false ∨ ¬ ((decG l p i < 0 ∨ (l.getD (decG l p i).toNat noRul).pa.length < (l.getD i noRul).pa.length) ∨ ((l.getD i noRul).pa.length = (l.getD (decG l p i).toNat noRul).pa.length ∧ (l.getD i noRul).al = true) ∧ (l.getD (decG l p i).toNat noRul).al = false)) → decG l p i = decG l p (i + 1) := fun h => by
          rw [eD, if_neg]
          rintro ⟨h1, h2⟩
          rcases h with h | h
          · rw [h] at h1; cases h1
          · exact h (eB.1 h2)
        clear eD eB
        generalize decG l p i = D at *
        generalize (l.getD D.toNat noRul).pa.length = x1 at *
        generalize (l.getD i noRul).pa.length = x2 at *
        generalize (l.getD D.toNat noRul).al = b1 at *
        generalize (l.getD i noRul).al = b2 at *
        refine ⟨hlt, by omega, fun hm => ⟨by omega, i + 1, by omega, by omega, eN (.inl hm), by omega⟩, fun hm => ?_⟩
        refine ⟨by omega, by omega, by grind, by grind, by grind, fun h => ⟨by omega, i + 1, by omega, by omega, eY hm h, by omega⟩, fun h => ⟨by omega, i + 1, by omega, by omega, eN (.inr (by grind)), by omega⟩⟩
      · obtain rfl : i = l.length := by omega
        rfl
  · cases h
attribute [push_cast] ckDec
theorem conRulesF4 : Con pg 14 ckRulesF := by
  have hct := (ctA_ok conAgE4 (ctA_ok conRules4 (ctN_ok _)))
  intro args q r h hq
  unfold ckRulesF at h
  split at h
  · cases h
    rename_i x a
    refine pcall_args (args' := [cRob.enc (cRob.dec x), .str a]) ⟨hq.1, VLe.refl _, trivial⟩ ?_
    obtain ⟨-, ok, ha⟩ := hq
    generalize cRob.dec x = r at ok ⊢
    refine w14 (fun _ => false) [] rfl hct rfl rfl ?_
    push_cast (config := { maxSteps := 10000000 })
    refine ⟨⟨ok, ha⟩, fun h => ?_, fun h => ?_⟩
    · rw [if_neg h, if_neg h]; exact ⟨rfl, rfl⟩
    · rw [if_pos h, if_pos h]; exact ⟨⟨ok, (agE_rob h).1⟩, ⟨rfl, fun _ _ => rfl⟩, rfl, h.symm⟩
  · cases h
attribute [push_cast] ckRulesF
theorem conPer4 : Con pg 50 ckPer := by
  have hct := (ctA_ok conRules4 (ctA_ok conDec4 (ctN_ok _)))
  intro args q r h hq
  unfold ckPer at h
  split at h
  · cases h
    rename_i x a p
    refine pcall_args (args' := [cRob.enc (cRob.dec x), .str a, .str p]) ⟨hq.1, VLe.refl _, VLe.refl _, trivial⟩ ?_
    obtain ⟨-, ok, hc, hp⟩ := hq
    generalize cRob.dec x = r at ok hc ⊢
    obtain ⟨b1, b2, b3, b4⟩ := rules_b a hc
    refine w50 (fun _ => false) [] rfl hct rfl rfl ?_
    push_cast (config := { maxSteps := 10000000 })
    have db := decG_b (rulesL r a).1 p (rulesL r a).1.length
    have db2 : decL (rulesL r a).1 p = decG (rulesL r a).1 p (rulesL r a).1.length := rfl
    refine ⟨⟨ok, hc⟩, ⟨b1, b2, hp⟩, fun h => ⟨h, by omega, by omega⟩, ?_⟩
    unfold perL
    rw [show wRobots = [47, 114, 111, 98, 111, 116, 115, 46, 116, 120, 116] from rfl]
    generalize (p == [47, 114, 111, 98, 111, 116, 115, 46, 116, 120, 116]) = u
    generalize decide (decL (rulesL r a).1 p < 0) = v
    cases u <;> cases v <;> simp
  · cases h
attribute [push_cast] ckPer
theorem adE_ok {r : Rob} {a : List UInt8} {y : Adr} (h : adE r a y = 0) : agE r a = 0 ∧ checkAdrL y = 0 := by
  unfold adE at h
  by_cases h1 : agE r a = 0
  · rw [if_pos h1] at h; exact ⟨h1, h⟩
  · rw [if_neg h1] at h; exact absurd h h1
def ckAskA : Ck
  | [x, .str a, .agg [.str sc, .str ho, .str po, .str pa, .str qu, .bool hq, .str fr, .bool hf]] => some (isC cRob x ∧ robOk (cRob.dec x) ∧ a.length ≤ 140737488355328 ∧ adrOk ⟨sc, ho, po, pa, qu, hq, fr, hf⟩,
      .tup [.str (if adE (cRob.dec x) a ⟨sc, ho, po, pa, qu, hq, fr, hf⟩ = 0 then pathL ⟨sc, ho, po, pa, qu, hq, fr, hf⟩ else []), .int .i64 (adE (cRob.dec x) a ⟨sc, ho, po, pa, qu, hq, fr, hf⟩)])
  | _ => none
theorem conAskA : Con pg 47 ckAskA := by
  have hct := (ctA_ok conAgE4 (ctA_ok conCheckAdr1 (ctA_ok conPathOf40 (ctN_ok _))))
  intro args q r h hq
  unfold ckAskA at h
  split at h
  · cases h
    rename_i x a sc ho po pa qu hq1 fr hf
    refine pcall_args (args' := [cRob.enc (cRob.dec x), .str a, .agg [.str sc, .str ho, .str po, .str pa, .str qu, .bool hq1, .str fr, .bool hf]]) ⟨hq.1, VLe.refl _, VLe.refl _, trivial⟩ ?_
    obtain ⟨-, ok, ha, hx⟩ := hq
    generalize cRob.dec x = r at ok ⊢
    refine w47 (fun _ => false) [] rfl hct rfl rfl ?_
    push_cast (config := { maxSteps := 10000000 })
    generalize (⟨sc, ho, po, pa, qu, hq1, fr, hf⟩ : Adr) = y at *
    refine ⟨⟨ok, ha⟩, fun h => ?_, fun h => ⟨hx, fun h2 => ?_, fun h2 => ?_⟩⟩
    · unfold adE; rw [if_neg h, if_neg h]; exact ⟨rfl, rfl⟩
    · unfold adE; rw [if_pos h, if_neg h2]; exact ⟨rfl, rfl⟩
    · have e : adE r a y = 0 := by unfold adE; rw [if_pos h, h2]
      rw [e]
      exact ⟨h2, (if_pos rfl).symm, rfl⟩
  · cases h
attribute [push_cast] ckAskA
theorem conPermits4 : Con pg 19 ckPermits := by
  have hct := (ctA_ok conAskA (ctA_ok conPer4 (ctN_ok _)))
  intro args q r h hq
  unfold ckPermits at h
  split at h
  · cases h
    rename_i x a sc ho po pa qu hq1 fr hf
    refine pcall_args (args' := [cRob.enc (cRob.dec x), .str a, .agg [.str sc, .str ho, .str po, .str pa, .str qu, .bool hq1, .str fr, .bool hf]]) ⟨hq.1, VLe.refl _, VLe.refl _, trivial⟩ ?_
    obtain ⟨-, ok, ha, hx⟩ := hq
    generalize cRob.dec x = r at ok ⊢
    refine w19 (fun _ => false) [] rfl hct rfl rfl ?_
    push_cast (config := { maxSteps := 10000000 })
    generalize (⟨sc, ho, po, pa, qu, hq1, fr, hf⟩ : Adr) = y at *
    refine ⟨⟨ok, ha, hx⟩, fun h => by rw [decide_eq_false h]; rfl, fun h => ?_⟩
    obtain ⟨h1, h2⟩ := adE_ok h
    have := pathL_len h2
    rw [if_pos h, h]
    exact ⟨⟨ok, (agE_rob h1).1, by omega⟩, rfl, rfl⟩
  · cases h
attribute [push_cast] ckPermits
theorem conDecF4 : Con pg 17 ckDecF := by
  have hct := (ctA_ok conAskA (ctA_ok conRules4 (ctA_ok conDec4 (ctN_ok _))))
  intro args q r h hq
  unfold ckDecF at h
  split at h
  · cases h
    rename_i x a sc ho po pa qu hq1 fr hf
    refine pcall_args (args' := [cRob.enc (cRob.dec x), .str a, .agg [.str sc, .str ho, .str po, .str pa, .str qu, .bool hq1, .str fr, .bool hf]]) ⟨hq.1, VLe.refl _, VLe.refl _, trivial⟩ ?_
    obtain ⟨-, ok, ha, hx⟩ := hq
    generalize cRob.dec x = r at ok ⊢
    refine w17 (fun _ => false) [] rfl hct rfl rfl ?_
    push_cast (config := { maxSteps := 10000000 })
    generalize (⟨sc, ho, po, pa, qu, hq1, fr, hf⟩ : Adr) = y at *
    refine ⟨⟨ok, ha, hx⟩, fun h => by rw [decide_eq_false h, if_neg h]; exact ⟨rfl, rfl⟩, fun h => ?_⟩
    obtain ⟨h1, h2⟩ := adE_ok h
    have hc := (agE_rob h1).1
    have := pathL_len h2
    obtain ⟨b1, b2, b3, b4⟩ := rules_b a hc
    rw [if_pos h, if_pos h, h]
    exact ⟨⟨ok, hc⟩, ⟨b1, b2, by omega⟩, rfl, rfl, rfl⟩
  · cases h
attribute [push_cast] ckDecF

def saysN (x : Rdg) : Int := if isRulS x.st = true then 2 else if isAllS x.st = true then 3 else 0
def ckSays : Ck
  | [.agg [.int .i64 a, .int .i64 s, x, y]] => some (True, .int .i64 (saysN ⟨a, s, noRob⟩))
  | _ => none
theorem conSays : Con pg 58 ckSays := by
  have hct := (ctA_ok conWithin (ctN_ok _))
  intro args q r h hq
  unfold ckSays at h
  split at h
  · cases h
    rename_i a s x y
    refine w58 (fun _ => false) [] rfl hct rfl rfl ?_
    push_cast (config := { maxSteps := 10000000 })
    unfold saysN isRulS isAllS
    simp only [Bool.and_eq_true, decide_eq_true_eq]
    exact ⟨fun h => by rw [if_pos h], fun h => ⟨fun h2 => by rw [if_neg (by omega), if_pos h2], fun h2 => by rw [if_neg (by omega), if_neg (by omega)]⟩⟩
  · cases h
attribute [push_cast] ckSays
def ckIsZero : Ck
  | [.agg [.sl n f, .sl m g]] => some (True, .bool (decide (n = 0) && decide (m = 0)))
  | _ => none
theorem conIsZero : Con pg 37 ckIsZero := by
  have hct := ctN_ok pg
  intro args q r h hq
  unfold ckIsZero at h
  split at h
  · cases h
    rename_i n f m g
    refine w37 (fun _ => false) [] rfl hct rfl rfl ?_
    push_cast (config := { maxSteps := 10000000 })
    congr 1
    · rw [Bool.eq_iff_iff, beq_iff_eq, decide_eq_true_eq]; omega
    · rw [Bool.eq_iff_iff, beq_iff_eq, decide_eq_true_eq]; omega
  · cases h
attribute [push_cast] ckIsZero
theorem conCheckRdgs4 : Con pg 11 ckCheckRdgs := by
  have hct := (ctA_ok conWithin (ctA_ok conIsZero (ctA_ok conCheckRob4 (ctN_ok _))))
  intro args q r h hq
  unfold ckCheckRdgs at h
  split at h
  · cases h
    rename_i n f
    refine pcall_args (args' := [.sl (lsOf cRdg n f).length (lsF cRdg (lsOf cRdg n f))]) ⟨isLs.vle hq.1, trivial⟩ ?_
    obtain ⟨-, hl⟩ := hq
    generalize lsOf cRdg n f = l at hl ⊢
    refine w11 (fun _ => false) [] rfl hct rfl rfl ?_
    push_cast (config := { maxSteps := 10000000 })
    refine ⟨fun h => by unfold checkRdgs; rw [if_pos (by omega)], fun h => ?_⟩
    have e0 : checkRdgs l = rdgsGo (-1) l := by unfold checkRdgs; rw [if_neg (by omega)]
    rw [e0]
    refine LoopW.adj ⟨hct, fol⟩ (by kernel_rfl) [] (fun i : Nat => [(0, .sl l.length (lsF cRdg l)), (9, .sl l.length (lsF cRdg l)), (10, .int .i64 l.length), (11, .int .i64 i)]) (fun _ => []) (fun i => i ≤ l.length ∧ rdgsGo (prevA l i) (l.drop i) = rdgsGo (-1) l) (fun i => l.length - i) 0 ?_ fun i hi => ?_
    · push_cast (config := { maxSteps := 10000000 })
      exact ⟨Nat.zero_le _, rfl⟩
    · push_cast (config := { maxSteps := 10000000 })
      obtain ⟨i1, i2⟩ := hi
      have ep : ∀ j, prevA l (j + 1) = (l.getD j noRdg).at' := fun j => by unfold prevA; rw [if_neg (by omega)]; rfl
      refine ⟨fun hlt => ?_, fun hge => ?_⟩
      · rw [dropG (d := noRdg) hlt, rdgsGo] at i2
        have ok := rdgs_at hl hlt
        have e1 := ep i
        have hp : 0 < i → prevA l i = (l.getD ((i : Int) - 1).toNat noRdg).at' := fun h => by
          unfold prevA; rw [if_neg (by omega)]; congr 2; omega
        have hp0 : i = 0 → prevA l i = -1 := fun h => by subst h; rfl
        generalize l.getD i noRdg = x at *
        obtain ⟨k1, k2, k3, k4, k5⟩ := ok
        have g1 := k5.1
        have g2 := k5.2.2.1
        have hr : isRulS x.st = true ↔ 200 ≤ x.st ∧ x.st ≤ 299 := by unfold isRulS; rw [Bool.and_eq_true, decide_eq_true_eq, decide_eq_true_eq]
        have hf : isRulS x.st = false ↔ ¬ (200 ≤ x.st ∧ x.st ≤ 299) := by rw [← hr]; simp
        refine ⟨hlt, fun h => ⟨h, fun h' => ⟨h, h'⟩⟩, fun h => ?_, fun h => ⟨fun h2 => ?_, fun h2 => ⟨k5, fun h3 => ?_, fun h3 => ⟨fun h4 => ⟨h4, by omega, by omega⟩, fun h4 => ⟨h4, by omega, by omega⟩, fun h4 => ?_, fun h4 => ⟨⟨by omega, by omega⟩, i + 1, ⟨by omega, ?_⟩, by omega, by omega⟩⟩⟩⟩⟩
        · have hE : rdgE x = 1 := by unfold rdgE; rw [if_pos (by omega)]
          rw [hE, if_neg (by omega)] at i2; exact i2
        · have hE : rdgE x = 3 := by unfold rdgE; rw [if_neg (by omega), if_pos ⟨hf.2 (by omega), by omega⟩]
          rw [hE, if_neg (by omega)] at i2; exact i2
        all_goals
          have hE : rdgE x = checkRobL x.ro := by
            unfold rdgE
            rw [if_neg (by omega), if_neg (fun y => by have := hf.1 y.1; omega)]
          rw [hE] at i2
        · rw [if_neg h3] at i2; exact i2
        · rw [if_pos h3, if_pos (by rw [hp (by omega)]; exact h4.2)] at i2; exact i2
        · rw [if_pos h3, if_neg ?_, ← e1] at i2
          · exact i2
          · by_cases hi0 : i = 0
            · rw [hp0 hi0]; omega
            · rw [hp (by omega)]; exact h4 (by omega)
      · rw [List.drop_eq_nil_of_le (by omega), rdgsGo] at i2
        exact i2
  · cases h
theorem conAsk4 : Con pg 31 ckAsk := by
  have hct := (ctA_ok conCheckRdgs4 (ctA_ok conWithin (ctN_ok _)))
  intro args q r h hq
  unfold ckAsk at h
  split at h
  · cases h
    rename_i n f a m
    refine pcall_args (args' := [.sl (lsOf cRdg n f).length (lsF cRdg (lsOf cRdg n f)), .int .i64 a, .int .i64 m]) ⟨isLs.vle hq.1, VLe.refl _, VLe.refl _, trivial⟩ ?_
    obtain ⟨-, hl⟩ := hq
    generalize lsOf cRdg n f = l at hl ⊢
    refine w31 (fun _ => false) [] rfl hct rfl rfl ?_
    push_cast (config := { maxSteps := 10000000 })
    refine ⟨hl, fun h => by unfold askE; rw [if_neg h], fun h => ⟨fun h2 => ?_, fun h2 => ?_⟩⟩
    · unfold askE; rw [if_pos h, if_neg (by omega)]
    · unfold askE; rw [if_pos h, if_pos (by omega)]
  · cases h
theorem conStand04 : Con pg 32 ckStand0 := by
  have hct := (ctA_ok conSays (ctN_ok _))
  intro args q r h hq
  unfold ckStand0 at h
  split at h
  · cases h
    rename_i n f a m
    refine pcall_args (args' := [.sl (lsOf cRdg n f).length (lsF cRdg (lsOf cRdg n f)), .int .i64 a, .int .i64 m]) ⟨isLs.vle hq.1, VLe.refl _, VLe.refl _, trivial⟩ ?_
    obtain ⟨-, hl, hask⟩ := hq
    generalize lsOf cRdg n f = l at hl hask ⊢
    refine w32 (fun _ => false) [] rfl hct rfl rfl ?_
    push_cast (config := { maxSteps := 10000000 })
    have hc : checkRdgs l = 0 ∧ 1 ≤ a ∧ a ≤ 100000000 ∧ 0 ≤ m ∧ m ≤ 253402300799 := by
      unfold askE at hask
      split at hask
      · rename_i h0
        split at hask
        · exact ⟨h0, by assumption⟩
        · cases hask
      · exact absurd hask (by assumption)
    obtain ⟨s1, s2, s3⟩ := rdgs_ok hc.1
    refine LoopW.adj ⟨hct, fol⟩ (by kernel_rfl) [] (fun t : Nat × Int => [(0, .sl l.length (lsF cRdg l)), (1, .int .i64 a), (2, .int .i64 m), (8, .int .i64 t.2), (14, .sl l.length (lsF cRdg l)), (15, .int .i64 l.length), (16, .int .i64 t.1)]) (fun _ => []) (fun t => t.1 ≤ l.length ∧ -1 ≤ t.2 ∧ t.2 < t.1 ∧ (∀ j : Nat, (j : Int) ≤ t.2 → (l.getD j noRdg).at' ≤ m) ∧ (∀ j : Nat, t.2 < j → j < t.1 → m < (l.getD j noRdg).at')) (fun t => l.length - t.1) (0, -1) ?_ fun t ht => ?_
    · push_cast (config := { maxSteps := 10000000 })
      exact ⟨Nat.zero_le _, fun j hj => by omega⟩
    · obtain ⟨i, z⟩ := t
      obtain ⟨i1, i2, i3, i4, i5⟩ : i ≤ l.length ∧ -1 ≤ z ∧ z < i ∧ (∀ j : Nat, (j : Int) ≤ z → (l.getD j noRdg).at' ≤ m) ∧ (∀ j : Nat, z < j → j < i → m < (l.getD j noRdg).at') := ht
      push_cast (config := { maxSteps := 10000000 })
      refine ⟨fun hlt => ⟨hlt, fun hm => ⟨⟨by omega, by omega⟩, ((i + 1, (i : Int)) : Nat × Int), ⟨by show i + 1 ≤ _; omega, by show -1 ≤ (i : Int); omega, by show (i : Int) < ((i + 1 : Nat) : Int); omega, fun j hj => ?_, fun j h1 h2 => ?_⟩, by show l.length - (i + 1) < l.length - i; omega, rfl, by show (i : Int) + 1 = ((i + 1 : Nat) : Int); omega⟩, fun hm => ⟨⟨by omega, by omega⟩, ((i + 1, z) : Nat × Int), ⟨by show i + 1 ≤ _; omega, i2, by show z < ((i + 1 : Nat) : Int); omega, i4, fun j h1 h2 => ?_⟩, by show l.length - (i + 1) < l.length - i; omega, rfl, by show (i : Int) + 1 = ((i + 1 : Nat) : Int); omega⟩⟩, fun hge => ?_⟩
      · have hj : (j : Int) ≤ i := hj
        have := s3 j i (by omega) hlt
        omega
      · have h1 : (i : Int) < j := h1
        have h2 : j < i + 1 := h2
        omega
      · have h2 : j < i + 1 := h2
        by_cases e : j = i
        · subst e; omega
        · exact i5 j h1 (by omega)
      have hN : lastN l m = (z + 1).toNat := lastN_at (by omega) (fun j hj => i4 j (by omega)) (fun h => i5 _ (by omega) (by omega))
      refine ⟨fun h => ?_, fun h => ⟨⟨by omega, by omega⟩, fun hs => ?_, fun hs => ⟨⟨by omega, by omega⟩, ?_⟩⟩⟩
      · have : (z + 1).toNat = 0 := by omega
        unfold standL; rw [hN, this, if_pos rfl]; exact ⟨rfl, rfl⟩
      · obtain ⟨k, rfl⟩ : ∃ k : Nat, z = k := ⟨z.toNat, by omega⟩
        have hk : ((k : Int) + 1).toNat = k + 1 := by omega
        rw [hk] at hN
        rw [Int.toNat_natCast] at hs ⊢
        have hsB : saysB (l.getD k noRdg) = true := by
          unfold saysB
          unfold saysN at hs
          simp only at hs
          cases h1 : isRulS (l.getD k noRdg).st with
          | true => rfl
          | false =>
            rw [h1] at hs
            cases h2 : isAllS (l.getD k noRdg).st with
            | true => rfl
            | false => rw [h2] at hs; exact absurd rfl hs
        have hg : goodI l (k + 1) = k := by rw [goodI, if_pos hsB]
        unfold standL
        rw [hN, hg, if_neg (by omega), if_neg (by omega), Int.toNat_natCast]
        unfold saysN
        simp only
        unfold saysB at hsB
        cases h1 : isRulS (l.getD k noRdg).st with
        | true => exact ⟨rfl, rfl⟩
        | false =>
          rw [h1] at hsB
          rw [show isAllS (l.getD k noRdg).st = true from hsB]
          exact ⟨rfl, rfl⟩
      obtain ⟨k, rfl⟩ : ∃ k : Nat, z = k := ⟨z.toNat, by omega⟩
      have hk : ((k : Int) + 1).toNat = k + 1 := by omega
      rw [hk] at hN
      rw [Int.toNat_natCast] at hs
      have no : ∀ j, saysN ⟨(l.getD j noRdg).at', (l.getD j noRdg).st, noRob⟩ = 0 ↔ saysB (l.getD j noRdg) = false := fun j => by
        unfold saysN saysB
        simp only
        cases isRulS (l.getD j noRdg).st <;> cases isAllS (l.getD j noRdg).st <;> decide
      have hg : goodI l (k + 1) = goodI l k := by rw [goodI, if_neg (by rw [(no k).1 hs]; simp)]
      refine LoopW.adj ⟨hct, fol⟩ (by kernel_rfl) [] (fun t : Nat => [(0, .sl l.length (lsF cRdg l)), (1, .int .i64 a), (2, .int .i64 m), (8, .int .i64 k), (12, .int .i64 ((t : Int) - 1))]) (fun _ => []) (fun t => t ≤ k ∧ goodI l (k + 1) = goodI l t) (fun t => t) k ?_ fun t ht => ?_
      · push_cast (config := { maxSteps := 10000000 })
        exact ⟨Nat.le_refl _, hg⟩
      · push_cast (config := { maxSteps := 10000000 })
        obtain ⟨t1, t2⟩ := ht
        have bd : ∀ j, j < l.length → 0 ≤ (l.getD j noRdg).at' ∧ (l.getD j noRdg).at' ≤ 253402300799 := fun j hj => by
          have := s2 (l.getD j noRdg) (by rw [List.getD_eq_getElem?_getD, List.getElem?_eq_getElem hj]; exact List.getElem_mem hj)
          exact ⟨this.1, this.2.1⟩
        have base : standL l a m = if goodI l t < 0 ∨ (goodI l t < (k : Int) ∧ (l.getD (goodI l t).toNat noRdg).at' + a ≤ m) then (4, (k : Int)) else if isRulS (l.getD (goodI l t).toNat noRdg).st = true then (2, goodI l t) else (3, goodI l t) := by
          unfold standL
          rw [hN, t2, if_neg (by omega)]
          have e : (((k + 1 : Nat) : Int) - 1) = k := by omega
          rw [e]
        rw [base]
        refine ⟨fun h => ?_, fun h => ?_⟩
        · obtain ⟨j, rfl⟩ : ∃ j, t = j + 1 := ⟨t - 1, by omega⟩
          have ej : (((j + 1 : Nat) : Int) - 1).toNat = j := by omega
          have ej2 : (((j + 1 : Nat) : Int) - 1) = j := by omega
          rw [ej]
          have bj := bd j (by omega)
          refine ⟨⟨by omega, by omega⟩, fun hz => ?_, fun hz => ⟨⟨by omega, by omega⟩, j, ⟨by omega, ?_⟩, by omega, by omega⟩⟩
          · have hsB : saysB (l.getD j noRdg) = true := by
              cases hx : saysB (l.getD j noRdg) with
              | true => rfl
              | false => exact absurd ((no j).2 hx) hz
            have hg2 : goodI l (j + 1) = j := by rw [goodI, if_pos hsB]
            rw [hg2, Int.toNat_natCast, ej2]
            refine ⟨⟨by omega, by omega⟩, ⟨by omega, by omega⟩, fun x => ?_, fun x => ?_⟩
            · rw [if_neg (by omega)]
              unfold saysB at hsB
              unfold saysN
              simp only
              cases h1 : isRulS (l.getD j noRdg).st with
              | true => exact ⟨rfl, rfl⟩
              | false =>
                rw [h1] at hsB
                rw [show isAllS (l.getD j noRdg).st = true from hsB]
                exact ⟨rfl, rfl⟩
            · rw [if_pos (by omega)]; exact ⟨rfl, rfl⟩
          · rw [t2, goodI, if_neg (by rw [(no j).1 hz]; simp)]
        · obtain rfl : t = 0 := by omega
          have g0 : goodI l 0 = -1 := rfl
          rw [g0, if_pos (by omega)]
          exact ⟨rfl, rfl⟩
  · cases h
theorem conStand4 : Con pg 9 ckStand := by
  have hct := (ctA_ok conAsk4 (ctA_ok conStand04 (ctN_ok _)))
  intro args q r h hq
  unfold ckStand at h
  split at h
  · cases h
    rename_i n f a m
    refine pcall_args (args' := [.sl (lsOf cRdg n f).length (lsF cRdg (lsOf cRdg n f)), .int .i64 a, .int .i64 m]) ⟨isLs.vle hq.1, VLe.refl _, VLe.refl _, trivial⟩ ?_
    obtain ⟨-, hl⟩ := hq
    generalize lsOf cRdg n f = l at hl ⊢
    refine w9 (fun _ => false) [] rfl hct rfl rfl ?_
    push_cast (config := { maxSteps := 10000000 })
    refine ⟨hl, fun h => ?_, fun h => ⟨⟨hl, h⟩, ?_⟩⟩
    · rw [if_neg h, if_neg h]; exact ⟨rfl, rfl⟩
    · rw [if_pos h, if_pos h]; exact ⟨rfl, rfl, h.symm⟩
  · cases h

theorem conAt4 : Con pg 26 ckAt := by
  have hct := (ctA_ok conAsk4 (ctA_ok conAskA (ctA_ok conStand04 (ctA_ok conPer4 (ctN_ok _)))))
  intro args q r h hq
  unfold ckAt at h
  split at h
  · cases h
    rename_i n f a ag sc ho po pa qu hq1 fr hf m
    refine pcall_args (args' := [.sl (lsOf cRdg n f).length (lsF cRdg (lsOf cRdg n f)), .int .i64 a, .str ag, .agg [.str sc, .str ho, .str po, .str pa, .str qu, .bool hq1, .str fr, .bool hf], .int .i64 m]) ⟨isLs.vle hq.1, VLe.refl _, VLe.refl _, VLe.refl _, VLe.refl _, trivial⟩ ?_
    obtain ⟨-, hl, ha, hx⟩ := hq
    generalize lsOf cRdg n f = l at hl ⊢
    refine w26 (fun _ => false) [] rfl hct rfl rfl ?_
    push_cast (config := { maxSteps := 10000000 })
    generalize (⟨sc, ho, po, pa, qu, hq1, fr, hf⟩ : Adr) = y at *
    refine ⟨hl, fun h => ?_, fun h => ?_⟩
    · have e : atE l a m ag y = askE l a m := by unfold atE; rw [if_neg h]
      rw [e, decide_eq_false h]; exact ⟨rfl, rfl⟩
    have e : atE l a m ag y = adE noRob ag y := by unfold atE; rw [if_pos h]
    rw [e]
    refine ⟨⟨noRob_ok, ha, hx⟩, fun h2 => by rw [decide_eq_false h2]; exact ⟨rfl, rfl⟩, fun h2 => ?_⟩
    have h3 := (adE_ok h2).2
    have hp := pathL_len h3
    have s2 := stand_2 (l := l) (a := a) (m := m)
    have sl := lastN_le l m
    have hR : (standL l a m).1 = 2 → robOk (l.getD (standL l a m).2.toNat noRdg).ro ∧ checkRobL (l.getD (standL l a m).2.toNat noRdg).ro = 0 := fun q => by
      have q2 := s2 q
      have hm := mem_at (d := noRdg) (show (standL l a m).2.toNat < l.length by omega)
      exact ⟨(hl _ hm).2.2.2.2, ((rdgs_ok (ask_ok h).1).2.1 _ hm).2.2⟩
    rw [if_pos h2, h2]
    have eT : atL l a m ag y = (pathL y == wRobots || ((standL l a m).1 == 3 || ((standL l a m).1 == 2 && perL (l.getD (standL l a m).2.toNat noRdg).ro ag (pathL y)))) := rfl
    rw [show ([47, 114, 111, 98, 111, 116, 115, 46, 116, 120, 116] : List UInt8) = wRobots from rfl, eT]
    refine ⟨⟨hl, h⟩, fun q => ⟨?_, rfl⟩, fun q => ⟨fun q2 => ⟨by have := s2 q2; omega, ⟨(hR q2).1, (hR q2).2, by omega⟩, ?_, rfl⟩, fun q2 => ⟨?_, rfl⟩⟩⟩
    · rcases q with q | q
      · rw [beq_iff_eq.2 q]; rfl
      · rw [beq_iff_eq.2 q]; simp
    · rw [beq_eq_false_iff_ne.2 q.1, beq_eq_false_iff_ne.2 q.2, beq_iff_eq.2 q2]; simp
    · rw [beq_eq_false_iff_ne.2 q.1, beq_eq_false_iff_ne.2 q.2, beq_eq_false_iff_ne.2 q2]; simp
  · cases h
attribute [push_cast] ckAt
theorem conAgain4 : Con pg 28 ckAgain := by
  have hct := (ctA_ok conAsk4 (ctA_ok conSays (ctN_ok _)))
  intro args q r h hq
  unfold ckAgain at h
  split at h
  · cases h
    rename_i n f a m
    refine pcall_args (args' := [.sl (lsOf cRdg n f).length (lsF cRdg (lsOf cRdg n f)), .int .i64 a, .int .i64 m]) ⟨isLs.vle hq.1, VLe.refl _, VLe.refl _, trivial⟩ ?_
    obtain ⟨-, hl⟩ := hq
    generalize lsOf cRdg n f = l at hl ⊢
    refine w28 (fun _ => false) [] rfl hct rfl rfl ?_
    push_cast (config := { maxSteps := 10000000 })
    refine ⟨hl, fun h => by rw [if_neg h], fun h => ?_⟩
    obtain ⟨hc, ha⟩ := ask_ok h
    obtain ⟨s1, s2, s3⟩ := rdgs_ok hc
    refine LoopW.adj ⟨hct, fol⟩ (by kernel_rfl) [] (fun i : Nat => [(1, .int .i64 a), (2, .int .i64 m), (9, .int .i64 (againL (l.take i) a m)), (20, .sl l.length (lsF cRdg l)), (21, .int .i64 l.length), (22, .int .i64 i)]) (fun _ => []) (fun i => i ≤ l.length ∧ lastN (l.take i) m = i) (fun i => l.length - i) 0 ?_ fun i hi => ?_
    · push_cast (config := { maxSteps := 10000000 })
      exact ⟨⟨Nat.zero_le _, rfl⟩, rfl⟩
    · obtain ⟨i1, i2⟩ := hi
      push_cast (config := { maxSteps := 10000000 })
      have e1 := fun h : i < l.length => lastN_s (m := m) s3 h
      refine ⟨fun hlt => ?_, fun hge => ?_⟩
      · have e1 := e1 hlt
        have hx := s2 _ (mem_at (d := noRdg) hlt)
        have gT : (l.take (i + 1)).getD i noRdg = l.getD i noRdg := by
          rw [List.getD_eq_getElem?_getD, List.getD_eq_getElem?_getD, List.getElem?_take, if_pos (by omega)]
        have fin : m < (l.getD i noRdg).at' → againL (l.take i) a m = againL l a m := fun q => by
          have hN : lastN l m = i := lastN_at i1 (fun j hj => ?_) (fun _ => q)
          · unfold againL
            rw [hN, i2]
            by_cases h0 : i = 0
            · rw [if_pos h0, if_pos h0]
            · have g2 : (l.take i).getD (i - 1) noRdg = l.getD (i - 1) noRdg := by
                rw [List.getD_eq_getElem?_getD, List.getD_eq_getElem?_getD, List.getElem?_take, if_pos (by omega)]
              rw [g2]
          · have hl' : (l.take i).length = i := by rw [List.length_take]; omega
            have := lastN_all (by rw [i2, hl']) ((l.take i).getD j noRdg) (mem_at (by rw [hl']; exact hj))
            rwa [List.getD_eq_getElem?_getD, List.getElem?_take, if_pos hj, ← List.getD_eq_getElem?_getD] at this
        have nx : ¬ m < (l.getD i noRdg).at' → lastN (l.take (i + 1)) m = i + 1 := fun q => by rw [e1, if_pos (by omega)]
        have ag : ¬ m < (l.getD i noRdg).at' → againL (l.take (i + 1)) a m = if saysB (l.getD i noRdg) = true then (l.getD i noRdg).at' + a else (l.getD i noRdg).at' + (a + 99) / 100 := fun q => by
          unfold againL
          rw [nx q, if_neg (by omega), Nat.add_sub_cancel, gT]
        have sS : saysN ⟨(l.getD i noRdg).at', (l.getD i noRdg).st, noRob⟩ = 0 ↔ ¬ saysB (l.getD i noRdg) = true := by
          unfold saysN saysB
          cases isRulS (l.getD i noRdg).st <;> cases isAllS (l.getD i noRdg).st <;> simp
        generalize l.getD i noRdg = x at *
        refine ⟨hlt, fun q => ⟨by rw [if_pos h]; exact fin q, h.symm⟩, fun q => ⟨by omega, by omega, by omega, fun q2 => ⟨by omega, by omega, i + 1, ⟨by omega, nx q⟩, by omega, ?_, by omega⟩, fun q2 => ⟨by omega, i + 1, ⟨by omega, nx q⟩, by omega, ?_, by omega⟩⟩⟩
        · rw [ag q, if_pos (Classical.byContradiction fun z => q2 (sS.2 z))]
        · rw [ag q, if_neg (sS.1 q2)]
      · rw [List.take_of_length_le (by omega), if_pos h, h]; exact ⟨rfl, rfl⟩
  · cases h
attribute [push_cast] ckAgain

theorem lastN_in {m : Int} : ∀ {l : List Rdg} {j : Nat}, j < lastN l m → (l.getD j noRdg).at' ≤ m
  | [], j, h => by simp [lastN] at h
  | c :: t, j, h => by
    unfold lastN at h
    rw [List.takeWhile_cons] at h
    by_cases hc : c.at' ≤ m
    · rw [if_pos (decide_eq_true hc), List.length_cons] at h
      cases j with
      | zero => simpa using hc
      | succ j =>
        rw [List.getD_cons_succ]
        exact lastN_in (by unfold lastN; omega)
    · rw [if_neg (by simpa using hc)] at h; simp at h
theorem lastN_out {m : Int} : ∀ {l : List Rdg}, lastN l m < l.length → m < (l.getD (lastN l m) noRdg).at'
  | [], h => by simp [lastN] at h
  | c :: t, h => by
    unfold lastN at h ⊢
    rw [List.takeWhile_cons] at h ⊢
    by_cases hc : c.at' ≤ m
    · rw [if_pos (decide_eq_true hc), List.length_cons] at h ⊢
      rw [List.getD_cons_succ]
      rw [List.length_cons] at h
      exact lastN_out (l := t) (by unfold lastN; omega)
    · rw [if_neg (by simpa using hc)]
      simpa using hc
theorem rdgsGo_take : ∀ {l : List Rdg} {p : Int} (k : Nat), rdgsGo p l = 0 → rdgsGo p (l.take k) = 0
  | _, _, 0, _ => rfl
  | [], _, k + 1, _ => rfl
  | x :: t, p, k + 1, h => by
    rw [rdgsGo] at h
    rw [List.take_succ_cons, rdgsGo]
    by_cases h1 : rdgE x = 0
    · rw [if_pos h1] at h ⊢
      by_cases h2 : x.at' < p
      · rw [if_pos h2] at h; cases h
      · rw [if_neg h2] at h ⊢
        exact rdgsGo_take k h
    · rw [if_neg h1] at h; exact absurd h h1
theorem ask_take {l : List Rdg} {a m : Int} (k : Nat) (h : askE l a m = 0) : askE (l.take k) a m = 0 := by
  obtain ⟨h1, h2⟩ := ask_ok h
  have hc : checkRdgs (l.take k) = 0 := by
    unfold checkRdgs at h1 ⊢
    by_cases h3 : 500 < l.length
    · rw [if_pos h3] at h1; cases h1
    · rw [if_neg h3] at h1
      rw [if_neg (by rw [List.length_take]; omega)]
      exact rdgsGo_take k h1
  unfold askE
  rw [if_pos hc, if_pos h2]
theorem take_at (l : List Rdg) {k j : Nat} (h : j < k) : (l.take k).getD j noRdg = l.getD j noRdg := by
  rw [List.getD_eq_getElem?_getD, List.getD_eq_getElem?_getD, List.getElem?_take, if_pos h]
theorem goodI_take (l : List Rdg) (k : Nat) : ∀ n, n ≤ k → goodI (l.take k) n = goodI l n
  | 0, _ => rfl
  | n + 1, h => by
    rw [goodI, goodI, take_at l (by omega), goodI_take l k n (by omega)]
theorem at_take {l : List Rdg} {m : Int} {k : Nat} (a : Int) (ag : List UInt8) (y : Adr) (h1 : lastN l m ≤ k) (h2 : k ≤ l.length) (h0 : atE l a m ag y = 0) : atE (l.take k) a m ag y = 0 ∧ atL (l.take k) a m ag y = atL l a m ag y := by
  have hask : askE l a m = 0 := by
    unfold atE at h0
    by_cases h : askE l a m = 0
    · exact h
    · rw [if_neg h] at h0; exact absurd h0 h
  have hl : (l.take k).length = k := by rw [List.length_take]; omega
  have hN : lastN (l.take k) m = lastN l m := by
    have o1 := lastN_out (l := l.take k) (m := m)
    have o2 := lastN_out (l := l) (m := m)
    rcases Nat.lt_trichotomy (lastN (l.take k) m) (lastN l m) with h | h | h
    · have a1 := lastN_in (l := l) (m := m) h
      have a2 := o1 (by omega)
      rw [take_at l (by omega)] at a2
      omega
    · exact h
    · have a1 := lastN_in (l := l.take k) (m := m) h
      have b := lastN_le (l.take k) m
      have a2 := o2 (by omega)
      rw [take_at l (by omega)] at a1
      omega
  have gb : ∀ n, -1 ≤ goodI l n ∧ goodI l n < n := by
    intro n
    induction n with
    | zero => exact ⟨Int.le_refl _, by show (-1 : Int) < 0; omega⟩
    | succ n ih => rw [goodI]; split <;> omega
  have gb := gb (lastN l m)
  have hS : standL (l.take k) a m = standL l a m := by
    unfold standL
    rw [hN, goodI_take l k _ h1]
    by_cases hz : lastN l m = 0
    · rw [if_pos hz, if_pos hz]
    rw [if_neg hz, if_neg hz]
    by_cases hg : goodI l (lastN l m) < 0
    · rw [if_pos (.inl hg), if_pos (.inl hg)]
    · rw [take_at l (show (goodI l (lastN l m)).toNat < k by omega)]
  refine ⟨by unfold atE at h0 ⊢; rw [if_pos (ask_take k hask)]; rw [if_pos hask] at h0; exact h0, ?_⟩
  unfold atL
  rw [hS]
  by_cases h : (standL l a m).1 = 2
  · have := stand_2 h
    rw [take_at l (show (standL l a m).2.toNat < k by omega)]
  · rw [beq_eq_false_iff_ne.2 h]; rfl
theorem at_nil (a m : Int) (ag : List UInt8) (y : Adr) : atL [] a m ag y = (pathL y == wRobots) := by
  unfold atL
  rw [show standL [] a m = (1, -1) from rfl]
  simp
theorem atE_nil {l : List Rdg} {a m : Int} {ag : List UInt8} {y : Adr} (h : atE l a m ag y = 0) : atE [] a m ag y = 0 ∧ checkAdrL y = 0 := by
  have h2 : askE l a m = 0 ∧ adE noRob ag y = 0 := by
    unfold atE at h
    by_cases h' : askE l a m = 0
    · rw [if_pos h'] at h; exact ⟨h', h⟩
    · rw [if_neg h'] at h; exact absurd h h'
  refine ⟨?_, ?_⟩
  · unfold atE
    rw [if_pos (by have := ask_take 0 h2.1; rwa [List.take_zero] at this)]; exact h2.2
  · have := h2.2
    unfold adE at this
    by_cases h' : agE noRob ag = 0
    · rw [if_pos h'] at this; exact this
    · rw [if_neg h'] at this; exact absurd this h'
theorem path_robots (sc ho : List UInt8) : pathL ⟨sc, ho, [], wRobots, [], false, [], false⟩ = wRobots := by
  unfold pathL npL
  rw [show undotL (normL wRobots) = wRobots by decide +kernel]
  rfl

theorem noRdgs : rdgsOk [] := fun x hx => by cases hx
def ckAtN : Ck
  | [.nilsl, .int .i64 a, .str ag, .agg [.str sc, .str ho, .str po, .str pa, .str qu, .bool hq, .str fr, .bool hf], .int .i64 m] => some (ag.length ≤ 140737488355328 ∧ adrOk ⟨sc, ho, po, pa, qu, hq, fr, hf⟩,
      .tup [.bool (decide (atE [] a m ag ⟨sc, ho, po, pa, qu, hq, fr, hf⟩ = 0) && atL [] a m ag ⟨sc, ho, po, pa, qu, hq, fr, hf⟩), .int .i64 (atE [] a m ag ⟨sc, ho, po, pa, qu, hq, fr, hf⟩)])
  | x => ckAt x
theorem conAtN : Con pg 23 ckAtN := by
  intro args q r h hq
  unfold ckAtN at h
  split at h
  · cases h
    rename_i a ag sc ho po pa qu hq1 fr hf m
    refine pcall_args (args' := [.sl 0 (lsF cRdg []), .int .i64 a, .str ag, .agg [.str sc, .str ho, .str po, .str pa, .str qu, .bool hq1, .str fr, .bool hf], .int .i64 m]) ⟨VLe.nilsl _, VLe.refl _, VLe.refl _, VLe.refl _, VLe.refl _, trivial⟩ ?_
    refine conAt _ _ _ rfl ⟨isLs_ls [], ?_, hq⟩
    exact noRdgs
  · exact conAt _ _ _ h hq
attribute [push_cast] ckAtN
def ckLawLR : Ck
  | [.sl n f, .int .i64 a, .str ag, .agg [.str sc, .str ho, .str po, .str pa, .str qu, .bool hq, .str fr, .bool hf], .int .i64 m, .int .i64 k] => some (isLv cRdg n f ∧ rdgsOk (lsOf cRdg n f) ∧ ag.length ≤ 140737488355328 ∧ adrOk ⟨sc, ho, po, pa, qu, hq, fr, hf⟩ ∧ -9223372036854775808 ≤ k ∧ k ≤ 9223372036854775807, .bool true)
  | _ => none
theorem conLawLR : Con pg 6 ckLawLR := by
  have hct := (ctA_ok conAtN (ctA_ok conAwake4 (ctA_ok conBelow (ctA_ok conPathOf4 (ctN_ok _)))))
  intro args q r h hq
  unfold ckLawLR at h
  split at h
  · cases h
    rename_i n f a ag sc ho po pa qu hq1 fr hf m k
    refine pcall_args (args' := [.sl (lsOf cRdg n f).length (lsF cRdg (lsOf cRdg n f)), .int .i64 a, .str ag, .agg [.str sc, .str ho, .str po, .str pa, .str qu, .bool hq1, .str fr, .bool hf], .int .i64 m, .int .i64 k]) ⟨hq.1, VLe.refl _, VLe.refl _, VLe.refl _, VLe.refl _, VLe.refl _, trivial⟩ ?_
    obtain ⟨-, hl, ha, hx, hk1, hk2⟩ := hq
    generalize lsOf cRdg n f = l at hl ⊢
    refine w6 (fun _ => false) [] rfl hct rfl rfl ?_
    push_cast (config := { maxSteps := 10000000 })
    generalize ea : (⟨sc, ho, po, pa, qu, hq1, fr, hf⟩ : Adr) = y at *
    obtain ⟨rfl, rfl, rfl, rfl, rfl, rfl, rfl, rfl⟩ : sc = y.sc ∧ ho = y.ho ∧ po = y.po ∧ pa = y.pa ∧ qu = y.qu ∧ hq1 = y.hq ∧ fr = y.fr ∧ hf = y.hf := by subst ea; exact ⟨rfl, rfl, rfl, rfl, rfl, rfl, rfl, rfl⟩
    refine ⟨⟨hl, ha, hx⟩, fun h h' => absurd h' h, fun h => ?_⟩
    refine LoopW.adj ⟨hct, fol⟩ (by kernel_rfl) [] (fun i : Nat => [(0, .sl l.length (lsF cRdg l)), (1, .int .i64 a), (2, .str ag), (4, .int .i64 m), (5, .int .i64 k), (9, .ptr 9 0), (13, .bool (decide (atE l a m ag y = 0) && atL l a m ag y)), (15, .int .i64 i)]) (fun _ => [(9, .cells (cAdr.enc y).flat)]) (fun i => i ≤ l.length ∧ ∀ j, j < i → (l.getD j noRdg).at' ≤ m) (fun i => l.length - i) 0 ?_ fun i hi => ?_
    · push_cast (config := { maxSteps := 10000000 })
      exact Nat.zero_le _
    · push_cast (config := { maxSteps := 10000000 })
      obtain ⟨i1, i2⟩ := hi
      have hlen : (l.length : Int) ≤ 500 := by
        have h5 : askE l a m = 0 := by
          unfold atE at h
          by_cases h' : askE l a m = 0
          · exact h'
          · rw [if_neg h'] at h; exact absurd h h'
        have := (rdgs_ok (ask_ok h5).1).1
        omega
      refine ⟨fun q => ⟨by omega, i + 1, ⟨by omega, fun j hj => ?_⟩, by omega, by omega⟩, fun q => ?_⟩
      · by_cases e : j = i
        · subst e; exact q.2
        · exact i2 j (by omega)
      rw [show (⟨y.sc, y.ho, y.po, y.pa, y.qu, y.hq, y.fr, y.hf⟩ : Adr) = y from rfl]
      have hN : lastN l m = i := lastN_at i1 i2 fun q2 => by have := q q2; omega
      have hb0 := Int.emod_nonneg k (show (l.length : Int) - i + 1 ≠ 0 by omega)
      have hb1 := Int.emod_lt_of_pos k (show 0 < (l.length : Int) - i + 1 by omega)
      obtain ⟨K, hK⟩ : ∃ K : Nat, (i : Int) + k % ((l.length : Int) - i + 1) = K := ⟨((i : Int) + k % ((l.length : Int) - i + 1)).toNat, by omega⟩
      rw [hK, Int.toNat_natCast]
      have hT : LsI cRdg K (shF (lsF cRdg l) 0) (l.take K) := LsI.sh (l := 0) (k := K) (LsI.ls l) (by omega)
      rw [hT.of]
      obtain ⟨t1, t2⟩ := at_take (l := l) (m := m) (k := K) a ag y (by omega) (by omega) h
      obtain ⟨n1, n2⟩ := atE_nil h
      have hno : adrOk ⟨y.sc, y.ho, [], [47, 114, 111, 98, 111, 116, 115, 46, 116, 120, 116], [], false, [], false⟩ := ⟨hx.1, hx.2.1, by simp, by simp, by simp, by simp⟩
      rw [t1, t2, h, n1, at_nil, if_pos n2, at_nil, show ([47, 114, 111, 98, 111, 116, 115, 46, 116, 120, 116] : List UInt8) = wRobots from rfl, path_robots]
      rw [show ([47, 114, 111, 98, 111, 116, 115, 46, 116, 120, 116] : List UInt8) = wRobots from rfl] at hno
      refine ⟨by omega, by omega, ⟨hk1, hk2, by omega, by omega⟩, by omega, by omega, ⟨hT.is, fun x hx' => hl x (List.mem_of_mem_take hx'), ha, hx⟩, fun z => z.elim (fun z => z rfl) (fun z => z rfl), fun _ => ⟨⟨ha, hx⟩, ⟨ha, hno⟩, hx, fun _ => ⟨fun z => ⟨z, fun w => ⟨z, w⟩⟩, ⟨rfl, rfl⟩, ?_⟩⟩⟩
      by_cases hz : atE [] a m ag ⟨y.sc, y.ho, [], wRobots, [], false, [], false⟩ = 0
      · exact .inr ⟨hz, by simp⟩
      · exact .inl hz
  · cases h
attribute [push_cast] ckLawLR
theorem hasD6 {H : Type} {s1 s2 s3 s4 s5 s6 : Sh} {ds : List (DataW H)} (h : hasD [s1, s2, s3, s4, s5, s6] ds) : ∃ a b c d e f, ds = [a, b, c, d, e, f] ∧ s1.has (bulkD a) (toV a) ∧ s2.has (bulkD b) (toV b) ∧ s3.has (bulkD c) (toV c) ∧ s4.has (bulkD d) (toV d) ∧ s5.has (bulkD e) (toV e) ∧ s6.has (bulkD f) (toV f) := by
  match ds, h with
  | [_, _, _, _, _, _], h => exact ⟨_, _, _, _, _, _, rfl, h.1, h.2.1, h.2.2.1, h.2.2.2.1, h.2.2.2.2.1, h.2.2.2.2.2.1⟩
theorem allLawLR {H : Type} (ds : List (DataW H)) (hh : hasD [.list sRdg, .int .i64, .str, .tup [.str, .str, .str, .str, .str, .bool, .str, .bool], .int .i64, .int .i64] ds) : PCall pg 6 (ds.map toV) (.bool true) := by
  obtain ⟨d1, d2, d3, d4, d5, d6, rfl, x1, x2, x3, x4, x5, x6⟩ := hasD6 hh
  obtain ⟨n, f, e1, i1, b1, k1⟩ := shListE (c := cRdg) (p := rdgOk) (fun m v h => shRdg h) x1
  obtain ⟨a, e2, _⟩ := shInt x2
  obtain ⟨ag, e3, b3⟩ := shStr x3
  obtain ⟨y, e4, b4⟩ := shAdr x4
  obtain ⟨m, e5, _⟩ := shInt x5
  obtain ⟨k, e6, b6⟩ := shInt x6
  simp only [Lit.wf, Bool.and_eq_true, decide_eq_true_eq] at b6
  simp only [List.map_cons, List.map_nil, e1, e2, e3, e4, e5, e6]
  exact conLawLR _ _ _ rfl ⟨i1, k1, b3, b4, b6.1, b6.2⟩

end Go.Abs
