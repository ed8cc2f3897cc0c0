/- what functions of this program compute: contracts, each a function's own -/
import Derived.Test.YtmnokccdnjokoaaGreatDoorAbsK2
import Derived.Test.YtmnokccdnjokoaaGreatDoorAbsFacts
import Derived.Test.YtmnokccdnjokoaaGreatDoorAbsF4
import Derived.Test.YtmnokccdnjokoaaGreatDoorAbsShelf
import Derived.Lib.SlTrimSet
import Derived.Lib.Atoi
import Derived.Lib.Itoa
import Derived.Lib.ItoaNum
import Derived.Lib.AtoiErrMem
import Derived.Lib.ItoaLen
namespace Go.Abs
open Go Go.Proofs
set_option maxHeartbeats 4000000
set_option maxRecDepth 100000
set_option linter.unusedVariables false
set_option linter.unusedSimpArgs false
theorem setF_b (g : Nat → Bool) (k j : Nat) : setF (fun j => V.bool (g j)) k (.bool true) j = .bool (setB g k j) := by
  unfold setF setB
  cases decide (j = k) <;> rfl
theorem conWithout2 : Con pg 11 ckWithout := by
  have hct := (ctA_ok conCheckFile2 (ctA_ok conIsName2 (ctA_ok conFind (ctN_ok _))))
  intro args q r h hq
  unfold ckWithout at h
  split at h
  · cases h
    rename_i n f m g
    refine pcall_args (args' := [.sl (lsOf cRec n f).length (lsF cRec (lsOf cRec n f)), .sl (lsOf cStr m g).length (lsF cStr (lsOf cStr m g))]) ⟨isLs.vle hq.1, isLs.vle hq.2.2.1, trivial⟩ ?_
    obtain ⟨-, hl, -, hs⟩ := hq
    generalize lsOf cRec n f = l at hl ⊢
    generalize lsOf cStr m g = s at hs ⊢
    refine w11 (fun _ => false) [.frz 8000] rfl hct rfl rfl ?_
    push_cast (config := { maxSteps := 10000000 })
    refine ⟨hl, fun h => ?_, fun h => ⟨fun h1 => ?_, fun h1 => ?_⟩⟩
    · have eE : woErr l s = checkFileL l := by unfold woErr; rw [if_neg h]
      unfold woL
      rw [eE, if_neg h]
      exact ⟨rfl, rfl⟩
    · have eE : woErr l s = 2 := by unfold woErr; rw [if_pos h, if_pos (by omega)]
      unfold woL
      rw [eE]
      exact ⟨rfl, rfl⟩
    have eE : woErr l s = woE l s := by unfold woErr; rw [if_pos h, if_neg (by omega)]
    unfold woL
    rw [eE]
    obtain ⟨c1, c2, c3⟩ := file_ok h
    have ha : ∀ i j, i < l.length → j < l.length → (l.getD i noRec).id = (l.getD j noRec).id → i = j := fun i j => file_apart h
    (repeat (refine ⟨by omega, ?_⟩))
    refine LoopW.adj ⟨hct, fol⟩ (by kernel_rfl) [] (fun t : Nat × (Nat → Bool) => [(0, .sl l.length (lsF cRec l)), (1, .sl s.length (lsF cStr s)), (7, .vec 24 l.length), (8, .int .i64 t.1)]) (fun t => [(24, .vec 1 l.length fun j => .bool (t.2 j))]) (fun t => t.1 ≤ s.length ∧ woE l (s.drop t.1) = woE l s ∧ WoR l (s.take t.1) t.2) (fun t => s.length - t.1) (0, fun _ => false) ?_ fun t ht => ?_
    · push_cast (config := { maxSteps := 10000000 })
      exact ⟨Nat.zero_le _, fun i hi => rfl, fun x hx => (by cases hx)⟩
    · obtain ⟨i, g⟩ := t
      obtain ⟨i1, i2, i3⟩ : i ≤ s.length ∧ woE l (s.drop i) = woE l s ∧ WoR l (s.take i) g := ht
      push_cast (config := { maxSteps := 10000000 })
      refine ⟨fun hlt => ?_, fun hge => ?_⟩
      · rw [dropG (d := []) hlt, woE] at i2
        have et := takeG (d := []) hlt
        have hx := hs (s.getD i []) (by rw [List.getD_eq_getElem?_getD, List.getElem?_eq_getElem hlt]; exact List.getElem_mem hlt)
        refine ⟨hlt, by omega, fun g1 => ?_, fun g1 => ⟨hlt, by omega, fun g2 => ?_, fun g2 => ?_⟩⟩
        · rw [if_neg (by rw [g1]; simp)] at i2
          rw [← i2]; exact ⟨rfl, rfl⟩
        · rw [if_pos g1, if_neg (by omega)] at i2
          rw [← i2]; exact ⟨rfl, rfl⟩
        · have g3 : 0 ≤ fndL l (s.getD i []) := by omega
          obtain ⟨f1, f2, f3⟩ := fndL_ok g3
          rw [if_pos g1, if_pos g3] at i2
          have hp := wor_put ha i3 f1
          rw [f2, ← et] at hp
          exact ⟨⟨g3, by omega⟩, f1, ⟨by omega, by omega⟩, ((i + 1, setB g (fndL l (s.getD i [])).toNat) : Nat × (Nat → Bool)), ⟨by show i + 1 ≤ _; omega, i2, hp⟩, by show s.length - (i + 1) < s.length - i; omega, by show (i : Int) + 1 = ((i + 1 : Nat) : Int); omega, fun j _ => setF_b _ _ j⟩
      rw [List.drop_eq_nil_of_le (by omega), woE] at i2
      rw [← i2, if_pos rfl]
      rw [List.take_of_length_le (by omega)] at i3
      refine LoopW.adj ⟨hct, fol⟩ (by kernel_rfl) [] (fun t : Nat × (Nat → Bool) => [(0, .sl l.length (lsF cRec l)), (7, .vec 24 l.length), (49, .int .i64 l.length), (50, .int .i64 t.1)]) (fun t => [(24, .vec 1 l.length fun j => .bool (t.2 j))]) (fun t => t.1 ≤ l.length ∧ WoR l (woN l t.1 s) t.2) (fun t => l.length - t.1) (0, g) ?_ fun t ht => ?_
      · push_cast (config := { maxSteps := 10000000 })
        exact ⟨Nat.zero_le _, i3⟩
      · obtain ⟨i, g⟩ := t
        obtain ⟨j1, j2⟩ : i ≤ l.length ∧ WoR l (woN l i s) g := ht
        push_cast (config := { maxSteps := 10000000 })
        refine ⟨fun hlt => ?_, fun hge => ?_⟩
        · refine LoopW.adj ⟨hct, fol⟩ (by kernel_rfl) [] (fun t : Nat × (Nat → Bool) => [(0, .sl l.length (lsF cRec l)), (7, .vec 24 l.length), (10, .int .i64 t.1), (49, .int .i64 l.length), (50, .int .i64 i)]) (fun t => [(24, .vec 1 l.length fun j => .bool (t.2 j))]) (fun t => t.1 ≤ l.length ∧ WoR l (woP (woN l i s) (l.take t.1)) t.2) (fun t => l.length - t.1) (0, g) ?_ fun t ht => ?_
          · push_cast (config := { maxSteps := 10000000 })
            exact ⟨Nat.zero_le _, j2⟩
          · obtain ⟨j, g⟩ := t
            obtain ⟨k1, k2⟩ : j ≤ l.length ∧ WoR l (woP (woN l i s) (l.take j)) g := ht
            push_cast (config := { maxSteps := 10000000 })
            have st := fun h3 : j < l.length => wor_step ha k2 h3
            refine ⟨fun h3 => ⟨h3, by omega, fun g1 => ⟨g1, g1, (fndL_b _ _).2⟩, fun g1 => ⟨g1, (fndL_ok g1).1⟩, fun g1 => ?_, fun g1 => ?_⟩, fun h3 => ?_⟩
            · have hp := (st h3).1 ((wor_ow k2 _).2 g1)
              rw [← woP_take h3] at hp
              exact ⟨h3, h3, ⟨by omega, by omega⟩, ((j + 1, setB g j) : Nat × (Nat → Bool)), ⟨by show j + 1 ≤ _; omega, hp⟩, by show l.length - (j + 1) < l.length - j; omega, by show (j : Int) + 1 = ((j + 1 : Nat) : Int); omega, fun j' _ => setF_b _ _ j'⟩
            · have hp := (st h3).2 (fun x => by have := (wor_ow k2 _).1 x; rw [g1 this.1] at this; exact absurd this.2 (by simp))
              rw [← woP_take h3] at hp
              exact ⟨⟨by omega, by omega⟩, ((j + 1, g) : Nat × (Nat → Bool)), ⟨by show j + 1 ≤ _; omega, hp⟩, by show l.length - (j + 1) < l.length - j; omega, by show (j : Int) + 1 = ((j + 1 : Nat) : Int); omega, fun _ _ => rfl⟩
            · rw [List.take_of_length_le (by omega), ← woN_comm] at k2
              exact ⟨⟨by omega, by omega⟩, ((i + 1, g) : Nat × (Nat → Bool)), ⟨by show i + 1 ≤ _; omega, k2⟩, by show l.length - (i + 1) < l.length - i; omega, by show (i : Int) + 1 = ((i + 1 : Nat) : Int); omega, fun _ _ => rfl⟩
        obtain rfl : i = l.length := by omega
        refine LoopW.adj ⟨hct, fol⟩ (by kernel_rfl) [.nv 12 8000 7 (lsF cRec [])] (fun t : Nat => [(0, .sl l.length (lsF cRec l)), (7, .vec 24 l.length), (12, .vec 8000 (woK (l.take t) (woA l s)).length), (13, .int .i64 t)]) (fun t => [(24, .vec 1 l.length fun j => .bool (g j)), (8000, .vec 7 (woK (l.take t) (woA l s)).length (lsF cRec (woK (l.take t) (woA l s))))]) (fun t => t ≤ l.length) (fun t => l.length - t) 0 ?_ fun t ht => ?_
        · push_cast (config := { maxSteps := 10000000 })
          exact ⟨Nat.zero_le _, rfl⟩
        · have ht : t ≤ l.length := ht
          push_cast (config := { maxSteps := 10000000 })
          have hkl := woK_len (l.take t) (woA l s)
          rw [List.length_take] at hkl
          refine ⟨fun hlt => ⟨hlt, hlt, fun g1 => ?_, fun g1 => ?_⟩, fun hge => ?_⟩
          · have e : woK (l.take (t + 1)) (woA l s) = woK (l.take t) (woA l s) ++ [l.getD t noRec] := by
              have := j2.1 t hlt
              rw [g1] at this
              rw [woK_take hlt, if_neg (by show ¬ (woN l l.length s).contains _ = true; rw [← this]; simp)]
            have app := LsI.app (c := cRec) (f := lsF cRec (woK (l.take t) (woA l s))) (g := litF [cRec.enc (l.getD t noRec)]) (LsI.ls _) (LsI.one (c := cRec) (a := l.getD t noRec) rfl) rfl
            rw [← e] at app
            refine ⟨hlt, ⟨by omega, by omega⟩, ⟨by omega, by omega⟩, t + 1, by omega, by omega, ⟨?_, by omega⟩, ?_, app.2⟩
            · rw [e]; simp
            · rw [e]; simp
          · have e : woK (l.take (t + 1)) (woA l s) = woK (l.take t) (woA l s) := by
              have := j2.1 t hlt
              rw [g1] at this
              rw [woK_take hlt, if_pos (by show (woN l l.length s).contains _ = true; rw [← this])]
            exact ⟨⟨by omega, by omega⟩, t + 1, by omega, by omega, ⟨by rw [e], by omega⟩, by rw [e], fun k _ => by rw [e]⟩
          · rw [List.take_of_length_le (by omega)]
            exact ⟨rfl, fun _ _ => rfl⟩
  · cases h
attribute [push_cast] ckWithout

theorem eq_take {α : Type} [DecidableEq α] {d : α} {a b : List α} (h : a.length = b.length) (hh : ∀ j, j < a.length → a.getD j d = b.getD j d) : a = b := by
  apply List.ext_getElem h
  intro i h1 h2
  have := hh i h1
  rwa [List.getD_eq_getElem?_getD, List.getD_eq_getElem?_getD, List.getElem?_eq_getElem h1, List.getElem?_eq_getElem h2] at this
theorem ne_at {α : Type} {d : α} {a b : List α} {i : Nat} (h : a.getD i d ≠ b.getD i d) : a ≠ b := fun e => h (by rw [e])
def ckEqHd : Ck
  | [.sl n f, .sl m g] => some (isLs cHd n f ∧ isLs cHd m g ∧ n ≤ 4611686018427387904, .bool (decide (lsOf cHd n f = lsOf cHd m g)))
  | _ => none
theorem conEqHd : Con pg 53 ckEqHd := by
  have hct := ctN_ok pg
  intro args q r h hq
  unfold ckEqHd at h
  split at h
  · cases h
    rename_i n f m g
    refine pcall_args (args' := [.sl (lsOf cHd n f).length (lsF cHd (lsOf cHd n f)), .sl (lsOf cHd m g).length (lsF cHd (lsOf cHd m g))]) ⟨isLs.vle hq.1, isLs.vle hq.2.1, trivial⟩ ?_
    have hn : (lsOf cHd n f).length ≤ 4611686018427387904 := by rw [lsOf_len]; exact hq.2.2
    generalize lsOf cHd n f = a at hn ⊢
    generalize lsOf cHd m g = b
    refine w53 (fun _ => false) [] rfl hct rfl rfl ?_
    push_cast (config := { maxSteps := 10000000 })
    refine ⟨fun h => ?_, fun h => ?_⟩
    · exact (decide_eq_false fun e => h (by rw [e])).symm
    refine LoopW.adj ⟨hct, fol⟩ (by kernel_rfl) [] (fun i : Nat => [(0, .sl a.length (lsF cHd a)), (1, .sl b.length (lsF cHd b)), (12, .int .i64 a.length), (13, .int .i64 i)]) (fun _ => []) (fun i => i ≤ a.length ∧ ∀ j, j < i → a.getD j ⟨[], []⟩ = b.getD j ⟨[], []⟩) (fun i => a.length - i) 0 ?_ fun i hi => ?_
    · push_cast (config := { maxSteps := 10000000 })
      exact Nat.zero_le _
    · push_cast (config := { maxSteps := 10000000 })
      obtain ⟨h1, h2⟩ := hi
      refine ⟨fun hlt => ⟨hlt, by omega, fun hne => ?_, fun he => ⟨by omega, i + 1, ⟨by omega, fun j hj => ?_⟩, by omega, by omega⟩⟩, fun hge => ?_⟩
      · exact (decide_eq_false (ne_at (d := ⟨[], []⟩) (i := i) fun e => hne (by rw [e]) (by rw [e]))).symm
      · by_cases e : j = i
        · subst e
          have e1 : ∀ x y : Hd, x.name = y.name → x.value = y.value → x = y := fun x y h h' => by cases x; cases y; simp_all
          exact e1 _ _ he.1 he.2
        · exact h2 j (by omega)
      · exact (decide_eq_true (eq_take (d := ⟨[], []⟩) (by omega) fun j hj => h2 j (by omega))).symm
  · cases h
attribute [push_cast] ckEqHd

def ckSame6 : Ck
  | [.agg [.int .i64 k1, .str i1, .str o1, .int .i64 t1, .str e1, .sl n f, .sl m g], .agg [.int .i64 k2, .str i2, .str o2, .int .i64 t2, .str e2, .sl n' f', .sl m' g']] => some (isLs cHd n f ∧ isLs cHd n' f' ∧ n ≤ 4611686018427387904 ∧ isBy m g ∧ isBy m' g', .bool (decide ((⟨k1, i1, o1, t1, e1, lsOf cHd n f, bytesOf m g⟩ : Rcd) = ⟨k2, i2, o2, t2, e2, lsOf cHd n' f', bytesOf m' g'⟩)))
  | _ => none
theorem conSame6 : Con pg 26 ckSame6 := by
  have hct := (ctA_ok conEqHd (ctA_ok conBEqual (ctN_ok _)))
  intro args q r h hq
  unfold ckSame6 at h
  split at h
  · cases h
    rename_i k1 i1 o1 t1 e1 n f m g k2 i2 o2 t2 e2 n' f' m' g'
    refine w26 (fun _ => false) [] rfl hct rfl rfl ?_
    push_cast (config := { maxSteps := 10000000 })
    obtain ⟨h1, h2, h3, h4, h5⟩ := hq
    refine ⟨fun h => ⟨h, h1, h2, h3⟩, fun h => ⟨h, h4, h5⟩, ?_⟩
    rw [Bool.eq_iff_iff]
    simp only [Bool.and_eq_true, beq_iff_eq, decide_eq_true_eq, Rcd.mk.injEq, and_assoc]
  · cases h
attribute [push_cast] ckSame6
def ckSameAll : Ck
  | [.sl n f, .sl m g] => some (isLs cRec n f ∧ isLs cRec m g ∧ n ≤ 1000000 ∧ (∀ r ∈ lsOf cRec n f, r.hd.length ≤ 4611686018427387904), .bool (decide (lsOf cRec n f = lsOf cRec m g)))
  | _ => none
theorem conSameAll : Con pg 13 ckSameAll := by
  have hct := (ctA_ok conSame6 (ctN_ok _))
  intro args q r h hq
  unfold ckSameAll at h
  split at h
  · cases h
    rename_i n f m g
    refine pcall_args (args' := [.sl (lsOf cRec n f).length (lsF cRec (lsOf cRec n f)), .sl (lsOf cRec m g).length (lsF cRec (lsOf cRec m g))]) ⟨isLs.vle hq.1, isLs.vle hq.2.1, trivial⟩ ?_
    obtain ⟨-, -, hn, hh⟩ := hq
    have hn : (lsOf cRec n f).length ≤ 1000000 := by rw [lsOf_len]; exact hn
    generalize lsOf cRec n f = a at hn hh ⊢
    generalize lsOf cRec m g = b
    refine w13 (fun _ => false) [] rfl hct rfl rfl ?_
    push_cast (config := { maxSteps := 10000000 })
    refine ⟨fun h => ?_, fun h => ?_⟩
    · exact (decide_eq_false fun e => h (by rw [e])).symm
    refine LoopW.adj ⟨hct, fol⟩ (by kernel_rfl) [] (fun i : Nat => [(0, .sl a.length (lsF cRec a)), (1, .sl b.length (lsF cRec b)), (5, .int .i64 i)]) (fun _ => []) (fun i => i ≤ a.length ∧ ∀ j, j < i → a.getD j noRec = b.getD j noRec) (fun i => a.length - i) 0 ?_ fun i hi => ?_
    · push_cast (config := { maxSteps := 10000000 })
      exact Nat.zero_le _
    · push_cast (config := { maxSteps := 10000000 })
      obtain ⟨h1, h2⟩ := hi
      refine ⟨fun hlt => ⟨hlt, by omega, ?_, fun hne => ?_, fun he => ⟨⟨by omega, by omega⟩, i + 1, ⟨by omega, fun j hj => ?_⟩, by omega, by omega⟩⟩, fun hge => ?_⟩
      · exact hh _ (by rw [List.getD_eq_getElem?_getD, List.getElem?_eq_getElem hlt]; exact List.getElem_mem hlt)
      · exact (decide_eq_false (ne_at (d := noRec) (i := i) fun e => hne e)).symm
      · by_cases e : j = i
        · subst e; exact he
        · exact h2 j (by omega)
      · exact (decide_eq_true (eq_take (d := noRec) (by omega) fun j hj => h2 j (by omega))).symm
  · cases h
attribute [push_cast] ckSameAll

def ckSameFiles : Ck
  | [.sl n f, .sl m g] => some (isLs cFile n f ∧ isLs cFile m g ∧ n ≤ 1000000 ∧ (∀ l ∈ lsOf cFile n f, l.length ≤ 1000000 ∧ ∀ r ∈ l, r.hd.length ≤ 4611686018427387904), .bool (decide (lsOf cFile n f = lsOf cFile m g)))
  | _ => none
theorem conSameFiles : Con pg 12 ckSameFiles := by
  have hct := (ctA_ok conSameAll (ctN_ok _))
  intro args q r h hq
  unfold ckSameFiles at h
  split at h
  · cases h
    rename_i n f m g
    refine pcall_args (args' := [.sl (lsOf cFile n f).length (lsF cFile (lsOf cFile n f)), .sl (lsOf cFile m g).length (lsF cFile (lsOf cFile m g))]) ⟨isLs.vle hq.1, isLs.vle hq.2.1, trivial⟩ ?_
    obtain ⟨-, -, hn, hh⟩ := hq
    have hn : (lsOf cFile n f).length ≤ 1000000 := by rw [lsOf_len]; exact hn
    generalize lsOf cFile n f = a at hn hh ⊢
    generalize lsOf cFile m g = b
    refine w12 (fun _ => false) [] rfl hct rfl rfl ?_
    push_cast (config := { maxSteps := 10000000 })
    refine ⟨fun h => ?_, fun h => ?_⟩
    · exact (decide_eq_false fun e => h (by rw [e])).symm
    refine LoopW.adj ⟨hct, fol⟩ (by kernel_rfl) [] (fun i : Nat => [(0, .sl a.length (lsF cFile a)), (1, .sl b.length (lsF cFile b)), (5, .int .i64 i)]) (fun _ => []) (fun i => i ≤ a.length ∧ ∀ j, j < i → a.getD j [] = b.getD j []) (fun i => a.length - i) 0 ?_ fun i hi => ?_
    · push_cast (config := { maxSteps := 10000000 })
      exact Nat.zero_le _
    · push_cast (config := { maxSteps := 10000000 })
      obtain ⟨h1, h2⟩ := hi
      refine ⟨fun hlt => ⟨hlt, by omega, hh _ (by rw [List.getD_eq_getElem?_getD, List.getElem?_eq_getElem hlt]; exact List.getElem_mem hlt), fun hne => ?_, fun he => ⟨⟨by omega, by omega⟩, i + 1, ⟨by omega, fun j hj => ?_⟩, by omega, by omega⟩⟩, fun hge => ?_⟩
      · exact (decide_eq_false (ne_at (d := []) (i := i) fun e => hne e)).symm
      · by_cases e : j = i
        · subst e; exact he
        · exact h2 j (by omega)
      · exact (decide_eq_true (eq_take (d := []) (by omega) fun j hj => h2 j (by omega))).symm
  · cases h
attribute [push_cast] ckSameFiles

def recR (r : Rcd) : List UInt8 := if checkRecL r = 0 then recB r else []
def digR (r : Rcd) : List UInt8 := if checkRecL r = 0 then digestL r.bd else []
def ckRecBytes : Ck
  | [x] => some (isC cRec x ∧ recOk (cRec.dec x), .tup [.sl (recR (cRec.dec x)).length (byF (recR (cRec.dec x))), .int .i64 (checkRecL (cRec.dec x))])
  | _ => none
attribute [push_cast] ckRecBytes
def ckDigestOf : Ck
  | [x] => some (isC cRec x ∧ recOk (cRec.dec x), .tup [.str (digR (cRec.dec x)), .int .i64 (checkRecL (cRec.dec x))])
  | _ => none
theorem conDigestOf : Con pg 38 ckDigestOf := by
  have hct := (ctA_ok conCheckRec (ctA_ok conDigest (ctN_ok _)))
  intro args q r h hq
  unfold ckDigestOf at h
  split at h
  · cases h
    rename_i x
    refine pcall_args (args' := [cRec.enc (cRec.dec x)]) ⟨hq.1, trivial⟩ ?_
    obtain ⟨-, ha⟩ := hq
    generalize cRec.dec x = r at ha ⊢
    refine w38 (fun _ => false) [] rfl hct rfl rfl ?_
    push_cast (config := { maxSteps := 10000000 })
    exact ⟨ha, fun h => by unfold digR; rw [if_neg h], fun h => ⟨by have := (rec_ok h).2.2.2.2.2.2.2.2.2; omega, by unfold digR; rw [if_pos h], h.symm⟩⟩
  · cases h
attribute [push_cast] ckDigestOf
def recA : Rcd := ⟨1, [97], [], 0, [107], [], []⟩
def ckDigNil : Ck
  | [.agg [.int .i64 1, .str [97], .str [], .int .i64 0, .str [107], .nilsl, .nilsl]] => some (True, .tup [.str (digR recA), .int .i64 (checkRecL recA)])
  | _ => none
theorem conDigNil : Con pg 38 ckDigNil := by
  intro args q r h hq
  unfold ckDigNil at h
  split at h
  · cases h
    have hz : ∀ f, VLe .nilsl (.sl 0 f) := fun f => vle1_ok (show vle1 .nilsl (.sl 0 f) from rfl)
    refine pcall_args (args' := [cRec.enc recA]) ⟨VLe.agg ⟨VLe.refl _, VLe.refl _, VLe.refl _, VLe.refl _, VLe.refl _, hz _, hz _, trivial⟩, trivial⟩ ?_
    have := conDigestOf [cRec.enc recA] _ _ rfl ⟨isC_enc cRec recA, ?_⟩
    · rw [cRec.ok] at this
      exact this
    · rw [cRec.ok]
      exact ⟨fun x hx => (by cases hx), by decide, by decide, by decide, by decide, by decide, by decide, by decide, by decide, by decide⟩
  · cases h
attribute [push_cast] ckDigNil
def ckAwake6 : Ck
  | [] => some (True, .bool true)
  | _ => none
theorem conAwake6 : Con pg 14 ckAwake6 := by
  have hct := (ctA_ok conDigNil (ctN_ok _))
  intro args q r h hq
  unfold ckAwake6 at h
  split at h
  · cases h
    refine w14 (fun _ => false) [] rfl hct rfl rfl ?_
    push_cast (config := { maxSteps := 10000000 })
    exact ⟨by decide +kernel, by decide +kernel⟩
  · cases h
attribute [push_cast] ckAwake6

/- lists of records as arguments -/
theorem VLe.slV {n : Nat} {f g : Nat → V} (h : ∀ i, i < n → (g i).flat.length = (f i).flat.length ∧ ∀ j, j < (f i).flat.length → VLe ((f i).flat.getD j .any) ((g i).flat.getD j .any) ∧ ((g i).flat.getD j .any).isPure = true) : VLe (.sl n f) (.sl n g) := by
  intro γ imm w v hr
  cases inv_sl (S := ⟨γ, imm, fun _ => none, w⟩) hr with
  | sl0 _ a c => exact .pure (.sl0 _ a c)
  | sl _ _ b off c sz u hb hnc hs hf hc ho hp =>
    refine .pure (.sl n g b off c sz u hb hnc hs (fun i hi => (h i hi).1.trans (hf i hi)) hc ho (fun i j hi hj => ?_))
    have hj' : j < (f i).flat.length := by rw [hf i hi]; exact hj
    obtain ⟨h1, h2⟩ := (h i hi).2 j hj'
    exact isPure_rep (S := ⟨γ, imm, fun _ => none, w⟩) (h1 _ _ _ _ (.pure (hp i j hi hj))) h2
def isLv {α : Type} (c : Cod α) (n : Nat) (f : Nat → V) : Prop := VLe (.sl n f) (.sl (lsOf c n f).length (lsF c (lsOf c n f)))
theorem shRecX {m : Nat} {v : V} (h : Sh.has (.tup [.int .i64, .str, .str, .int .i64, .str, .list (.tup [.str, .str]), .list (.int .u8)]) m v) : ∃ ki id ow ti ke n f k g, v = .agg [.int .i64 ki, .str id, .str ow, .int .i64 ti, .str ke, .sl n f, .sl k g] ∧ isLs cHd n f ∧ isBy k g := by
  obtain ⟨l, ms, rfl, -, hl⟩ := h
  obtain ⟨m1, v1, ms, l, rfl, h1, hl⟩ := hasL_cons hl
  obtain ⟨m2, v2, ms, l, rfl, h2, hl⟩ := hasL_cons hl
  obtain ⟨m3, v3, ms, l, rfl, h3, hl⟩ := hasL_cons hl
  obtain ⟨m4, v4, ms, l, rfl, h4, hl⟩ := hasL_cons hl
  obtain ⟨m5, v5, ms, l, rfl, h5, hl⟩ := hasL_cons hl
  obtain ⟨m6, v6, ms, l, rfl, h6, hl⟩ := hasL_cons hl
  obtain ⟨m7, v7, ms, l, rfl, h7, hl⟩ := hasL_cons hl
  obtain rfl := hasL_nil hl
  obtain ⟨ki, rfl, c1⟩ := shInt h1
  obtain ⟨id, rfl, b2⟩ := shStr h2
  obtain ⟨ow, rfl, b3⟩ := shStr h3
  obtain ⟨ti, rfl, c4⟩ := shInt h4
  obtain ⟨ke, rfl, b5⟩ := shStr h5
  obtain ⟨n, f, rfl, i6, b6, k6⟩ := shList (c := cHd) (fun m v h => shHead h) h6
  obtain ⟨k, g, rfl, i7, b7⟩ := shBytes h7
  exact ⟨ki, id, ow, ti, ke, n, f, k, g, rfl, i6, i7⟩
theorem shRecs {m : Nat} {v : V} (h : Sh.has (.list (.tup [.int .i64, .str, .str, .int .i64, .str, .list (.tup [.str, .str]), .list (.int .u8)])) m v) : ∃ (n : Nat) (f : Nat → V), v = .sl n f ∧ isLv cRec n f ∧ n ≤ 140737488355328 ∧ recsOk (lsOf cRec n f) := by
  obtain ⟨l, ms, rfl, h1, h2, h3, h4⟩ := h
  have := reach_le
  refine ⟨_, _, rfl, ?_, by omega, fun a ha => ?_⟩
  · unfold isLv
    rw [lsOf_len]
    refine VLe.slV fun i hi => ?_
    obtain ⟨ki, id, ow, ti, ke, n, f, k, g, e, i6, i7⟩ := shRecX (h4 i hi)
    have e : litF l i = _ := e
    have e2 : lsF cRec (lsOf cRec l.length (litF l)) i = cRec.enc (cRec.dec (litF l i)) := by
      unfold lsF lsOf
      rw [List.getD_eq_getElem?_getD, List.getElem?_map, List.getElem?_range hi]; rfl
    rw [e2, e]
    refine ⟨rfl, fun j hj => ?_⟩
    match j, hj with
    | 0, _ => exact ⟨VLe.refl _, rfl⟩
    | 1, _ => exact ⟨VLe.refl _, rfl⟩
    | 2, _ => exact ⟨VLe.refl _, rfl⟩
    | 3, _ => exact ⟨VLe.refl _, rfl⟩
    | 4, _ => exact ⟨VLe.refl _, rfl⟩
    | 5, _ => exact ⟨isLs.vle i6, rfl⟩
    | 6, _ => exact ⟨isBy.vle i7, rfl⟩
  · simp only [lsOf, List.mem_map, List.mem_range] at ha
    obtain ⟨i, hi, rfl⟩ := ha
    exact (shRec (h4 i hi)).2

theorem divOf_ok {l : List Rcd} {m : Int} (h : checkFileL l = 0) : (divOf m l).length ≤ 1000 ∧ ∀ x ∈ divOf m l, x.length ≤ 1000 ∧ checkFileL x = 0 := by
  have hf := divOf_flat m l
  refine ⟨?_, fun x hx => ?_⟩
  · have h1 : ∀ L : List (List Rcd), (∀ x ∈ L, x ≠ []) → L.length ≤ L.flatten.length := by
      intro L
      induction L with
      | nil => intro _; simp
      | cons a t ih =>
        intro hx
        have h0 := hx a (by simp)
        have := ih fun x h => hx x (List.mem_cons_of_mem _ h)
        have := List.length_pos_iff.2 h0
        simp only [List.length_cons, List.flatten_cons, List.length_append]
        omega
    have h2 := h1 (divOf m l) fun x hx => (divOf_fit m l x hx).1
    rw [hf] at h2
    have := (file_ok h).2.2
    omega
  · have hp := file_part (L := divOf m l) (by rw [hf]; exact h) hx
    exact ⟨(file_ok hp).2.2, hp⟩
theorem divL_ok (l : List Rcd) (m : Int) : (divL l m).length ≤ 1000 ∧ ∀ x ∈ divL l m, x.length ≤ 1000 ∧ checkFileL x = 0 := by
  unfold divL
  split
  · rename_i h; exact divOf_ok h.1
  · exact ⟨by simp, fun x hx => by cases hx⟩
theorem woL_ok (l : List Rcd) (s : List (List UInt8)) : (woL l s).length ≤ 1000 ∧ ∀ r ∈ woL l s, r ∈ l ∧ checkRecL r = 0 := by
  unfold woL
  split
  · rename_i h
    have hc : checkFileL l = 0 := by
      unfold woErr at h
      split at h
      · assumption
      · exact h
    obtain ⟨c1, c2, c3⟩ := file_ok hc
    have := woK_len l (woA l s)
    refine ⟨by omega, fun r hr => ?_⟩
    have : r ∈ l := (List.mem_filter.1 hr).1
    exact ⟨this, c1 r this⟩
  · exact ⟨by simp, fun x hx => by cases hx⟩
def ckLawDM : Ck
  | [.sl n f, .int .i64 m, .sl k g] => some ((isLv cRec n f ∧ recsOk (lsOf cRec n f)) ∧ isLs cStr k g ∧ (∀ x ∈ lsOf cStr k g, x.length ≤ 140737488355328), .bool true)
  | _ => none
theorem conLawDM : Con pg 3 ckLawDM := by
  have hct := (ctA_ok conDivided (ctA_ok conDivided2 (ctA_ok conWithout (ctA_ok conWithout2 (ctA_ok conSameFiles (ctA_ok conSameAll (ctA_ok conAwake6 (ctN_ok _))))))))
  intro args q r h hq
  unfold ckLawDM at h
  split at h
  · cases h
    rename_i n f m k g
    refine pcall_args (args' := [.sl (lsOf cRec n f).length (lsF cRec (lsOf cRec n f)), .int .i64 m, .sl (lsOf cStr k g).length (lsF cStr (lsOf cStr k g))]) ⟨hq.1.1, VLe.refl _, isLs.vle hq.2.1, trivial⟩ ?_
    obtain ⟨⟨-, ha⟩, -, hs⟩ := hq
    generalize lsOf cRec n f = l at ha ⊢
    generalize lsOf cStr k g = s at hs ⊢
    refine w3 (fun _ => false) [] rfl hct rfl rfl ?_
    push_cast (config := { maxSteps := 10000000 })
    obtain ⟨d1, d2⟩ := divL_ok l m
    obtain ⟨w1, w2⟩ := woL_ok l s
    refine ⟨ha, ha, ⟨ha, hs⟩, ⟨ha, hs⟩, ⟨by omega, fun x hx => ⟨by have := (d2 x hx).1; omega, fun r hr => ?_⟩⟩, by omega, fun r hr => ?_⟩
    · have := (rec_ok ((file_ok (d2 x hx).2).1 r hr)).2.2.2.2.2.2.2.1; omega
    · have := (rec_ok (w2 r hr).2).2.2.2.2.2.2.2.1; omega
  · cases h
attribute [push_cast] ckLawDM
theorem allLawDM {H : Type} (ds : List (DataW H)) (hh : hasD [.list (.tup [.int .i64, .str, .str, .int .i64, .str, .list (.tup [.str, .str]), .list (.int .u8)]), .int .i64, .list .str] ds) : PCall pg 3 (ds.map toV) (.bool true) := by
  obtain ⟨d1, d2, d3, rfl, a, b, c⟩ := hasD3 hh
  obtain ⟨n, f, e1, i1, b1, k1⟩ := shRecs a
  obtain ⟨m, e2, _⟩ := shInt b
  obtain ⟨k, g, e3, i3, b3, k3⟩ := shList (c := cStr) (fun m v h => shStr h) c
  simp only [List.map_cons, List.map_nil, e1, e2, e3]
  exact conLawDM _ _ _ rfl ⟨⟨i1, k1⟩, i3, k3⟩

end Go.Abs
