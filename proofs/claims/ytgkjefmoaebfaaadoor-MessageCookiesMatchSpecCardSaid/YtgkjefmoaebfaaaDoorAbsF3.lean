/- what functions of this program compute: contracts, each a function's own -/
import Derived.Test.YtgkjefmoaebfaaaDoorAbsK2
import Derived.Test.YtgkjefmoaebfaaaDoorAbsFacts
import Derived.Test.YtgkjefmoaebfaaaDoorAbsF2
import Derived.Test.YtgkjefmoaebfaaaDoorAbsShelf
import Derived.Lib.SlTrimSet
import Derived.Lib.Atoi
import Derived.Lib.Itoa
import Derived.Lib.ItoaNum
import Derived.Lib.SplitLaws
import Derived.Lib.ItoaLen
import Derived.Lib.Walk
import Derived.Deep.RegionLaw
import Derived.Lib.SliceRun
import Derived.Shelf.RegionOpenPlain
namespace Go.Abs
open Go Go.Proofs
set_option maxHeartbeats 4000000
set_option maxRecDepth 100000
set_option linter.unusedVariables false
set_option linter.unusedSimpArgs false
def ckEqCoo : Ck
  | [.sl n f, .sl m g] => some (isLs cCoo n f ∧ isLs cCoo m g ∧ n ≤ 4611686018427387904, .bool (decide (lsOf cCoo n f = lsOf cCoo m g)))
  | _ => none
theorem coo_ext {x y : Coo} (h : x.na = y.na ∧ x.va = y.va ∧ x.ho = y.ho ∧ x.wi = y.wi ∧ x.pa = y.pa ∧ x.se = y.se ∧ x.un = y.un ∧ x.si = y.si) : x = y := by
  cases x; cases y; simp_all
theorem conEqCoo : Con pg 8 ckEqCoo := by
  have hct := ctN_ok pg
  intro args q r h hq
  unfold ckEqCoo at h
  split at h
  · cases h
    rename_i n f m g
    refine pcall_args (args' := [.sl (lsOf cCoo n f).length (lsF cCoo (lsOf cCoo n f)), .sl (lsOf cCoo m g).length (lsF cCoo (lsOf cCoo m g))]) ⟨isLs.vle hq.1, isLs.vle hq.2.1, trivial⟩ ?_
    have hn : (lsOf cCoo n f).length ≤ 4611686018427387904 := by rw [lsOf_len]; exact hq.2.2
    generalize lsOf cCoo n f = a at hn ⊢
    generalize lsOf cCoo m g = b
    refine w8 (fun _ => false) [] rfl hct rfl rfl ?_
    push_cast (config := { maxSteps := 10000000 })
    refine ⟨fun h => ?_, fun h => ?_⟩
    · exact (decide_eq_false fun e => h (by rw [e])).symm
    refine LoopW.adj ⟨hct, fol⟩ (by kernel_rfl) [] (fun i : Nat => [(0, .sl a.length (lsF cCoo a)), (1, .sl b.length (lsF cCoo b)), (12, .int .i64 a.length), (13, .int .i64 i)]) (fun _ => []) (fun i => i ≤ a.length ∧ ∀ j, j < i → a.getD j noCoo = b.getD j noCoo) (fun i => a.length - i) 0 ?_ fun i hi => ?_
    · push_cast (config := { maxSteps := 10000000 })
      exact Nat.zero_le _
    · push_cast (config := { maxSteps := 10000000 })
      obtain ⟨h1, h2⟩ := hi
      refine ⟨fun hlt => ⟨hlt, by omega, fun hne => ?_, fun he => ⟨⟨by omega, by omega⟩, i + 1, ⟨by omega, fun j hj => ?_⟩, by omega, by omega⟩⟩, fun hge => ?_⟩
      · refine (decide_eq_false (ne_at (d := noCoo) (i := i) fun e => ?_)).symm
        rw [e] at hne
        exact hne rfl rfl rfl rfl rfl rfl rfl rfl
      · by_cases e : j = i
        · subst e; exact coo_ext he
        · exact h2 j (by omega)
      · exact (decide_eq_true (eq_take (d := noCoo) (by omega) fun j hj => h2 j (by omega))).symm
  · cases h
attribute [push_cast] ckEqCoo

theorem keep_le (l : List Coo) (c : Coo) (m : Int) : (keepL l c m).1.length ≤ l.length + 1 := by
  unfold keepL
  split
  · exact Nat.zero_le _
  · split
    · exact Nat.zero_le _
    · split
      · exact Nat.zero_le _
      · have h1 := kA_len c m (endedC c m) l [] (endedC c m)
        simp only [List.length_nil, Nat.zero_add] at h1
        have h2 : ∀ o p, (finO o p c).length ≤ o.length + 1 := fun o p => by unfold finO; split <;> simp
        have h3 : ∀ o, (finL o).length ≤ o.length := fun o => by
          unfold finL
          split
          · rw [List.length_eraseIdx]; split <;> omega
          · exact Nat.le_refl _
        exact Nat.le_trans (h3 _) (Nat.le_trans (h2 _ _) (by omega))
theorem shBool {m : Nat} {v : V} (h : Sh.has .bool m v) : ∃ b, v = .bool b := by
  obtain ⟨b, e, _⟩ := h
  exact ⟨b, e⟩
theorem shCoo {m : Nat} {v : V} (h : Sh.has (.tup [.str, .str, .str, .bool, .str, .bool, .int .i64, .int .i64]) m v) : ∃ a, v = cCoo.enc a ∧ cooOk a := by
  obtain ⟨l, ms, rfl, -, hl⟩ := h
  obtain ⟨m1, v1, ms, l, rfl, h1, hl⟩ := hasL_cons hl
  obtain ⟨m2, v2, ms, l, rfl, h2, hl⟩ := hasL_cons hl
  obtain ⟨m3, v3, ms, l, rfl, h3, hl⟩ := hasL_cons hl
  obtain ⟨m4, v4, ms, l, rfl, h4, hl⟩ := hasL_cons hl
  obtain ⟨m5, v5, ms, l, rfl, h5, hl⟩ := hasL_cons hl
  obtain ⟨m6, v6, ms, l, rfl, h6, hl⟩ := hasL_cons hl
  obtain ⟨m7, v7, ms, l, rfl, h7, hl⟩ := hasL_cons hl
  obtain ⟨m8, v8, ms, l, rfl, h8, hl⟩ := hasL_cons hl
  obtain rfl := hasL_nil hl
  obtain ⟨na, rfl, b1⟩ := shStr h1
  obtain ⟨va, rfl, b2⟩ := shStr h2
  obtain ⟨ho, rfl, b3⟩ := shStr h3
  obtain ⟨wi, rfl⟩ := shBool h4
  obtain ⟨pa, rfl, b5⟩ := shStr h5
  obtain ⟨se, rfl⟩ := shBool h6
  obtain ⟨un, rfl, c7⟩ := shInt h7
  obtain ⟨si, rfl, c8⟩ := shInt h8
  simp only [Lit.wf, Bool.and_eq_true, decide_eq_true_eq] at c7 c8
  exact ⟨⟨na, va, ho, wi, pa, se, un, si⟩, rfl, b1, b2, b3, b5, c7, c8⟩
def ckLawCoo : Ck
  | [.sl n f, x, .int .i64 m] => some (isLs cCoo n f ∧ isC cCoo x ∧ coosOk (lsOf cCoo n f) ∧ cooOk (cCoo.dec x) ∧ n ≤ 140737488355328, .bool true)
  | _ => none
theorem conLawCoo : Con pg 3 ckLawCoo := by
  have hct := (ctA_ok conKeep (ctA_ok conKeep2 (ctA_ok conCheckCoos (ctA_ok conCheckCoos2 (ctA_ok conEqCoo (ctA_ok conAwake2 (ctN_ok _)))))))
  intro args q r h hq
  unfold ckLawCoo at h
  split at h
  · cases h
    rename_i n f x m
    refine pcall_args (args' := [.sl (lsOf cCoo n f).length (lsF cCoo (lsOf cCoo n f)), cCoo.enc (cCoo.dec x), .int .i64 m]) ⟨isLs.vle hq.1, hq.2.1, VLe.refl _, trivial⟩ ?_
    obtain ⟨-, -, hl, hc, hn⟩ := hq
    rw [← lsOf_len (c := cCoo) n f] at hn
    generalize lsOf cCoo n f = l at hl hn ⊢
    generalize cCoo.dec x = c at hc ⊢
    have hk := keep_le l c m
    refine w3 (fun _ => false) [] rfl hct rfl rfl ?_
    push_cast (config := { maxSteps := 10000000 })
    exact ⟨⟨isC_enc cCoo c, hl, hc⟩, ⟨isC_enc cCoo c, hl, hc⟩, hl, hl, by show (keepL l c m).1.length ≤ _; omega⟩
  · cases h
attribute [push_cast] ckLawCoo
theorem allLawCoo {H : Type} (ds : List (DataW H)) (hh : hasD [.list (.tup [.str, .str, .str, .bool, .str, .bool, .int .i64, .int .i64]), .tup [.str, .str, .str, .bool, .str, .bool, .int .i64, .int .i64], .int .i64] ds) : PCall pg 3 (ds.map toV) (.bool true) := by
  obtain ⟨d1, d2, d3, rfl, a, b, c⟩ := hasD3 hh
  obtain ⟨n, f, e1, i1, b1, k1⟩ := shList (c := cCoo) (fun m v h => shCoo h) a
  obtain ⟨x, e2, k2⟩ := shCoo b
  obtain ⟨k, e3, _⟩ := shInt c
  simp only [List.map_cons, List.map_nil, e1, e2, e3]
  exact conLawCoo _ _ _ rfl ⟨i1, isC_enc cCoo x, k1, by rw [show cCoo.dec (cCoo.enc x) = x from rfl]; exact k2, b1⟩

end Go.Abs
