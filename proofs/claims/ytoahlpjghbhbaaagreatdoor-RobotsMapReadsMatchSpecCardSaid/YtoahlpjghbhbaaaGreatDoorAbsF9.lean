/- what functions of this program compute: contracts, each a function's own -/
import Derived.Test.YtoahlpjghbhbaaaGreatDoorAbsK3
import Derived.Test.YtoahlpjghbhbaaaGreatDoorAbsFacts
import Derived.Test.YtoahlpjghbhbaaaGreatDoorAbsF8
import Derived.Test.YtoahlpjghbhbaaaGreatDoorAbsShelf
import Derived.Lib.SplitLaws
import Derived.Lib.Overlaps
import Derived.Deep.AppendSrc
import Derived.Laws.NewBlocks
import Derived.WalkKit
import Derived.Lib.Walk
import Derived.Lib.AppendStr
import Derived.Lib.AppendZeros
import Derived.Lib.UnsafeStr
import Derived.Lib.Builder
import Derived.Laws.Externs
import Derived.Lib.Repeat
import Derived.Lib.ItoaLen
import Derived.Lib.SlTrimSet
import Derived.Lib.Atoi
import Derived.Lib.Itoa
import Derived.Lib.ItoaNum
import Derived.Lib.AtoiErrMem
namespace Go.Abs
open Go Go.Proofs
set_option maxHeartbeats 4000000
set_option maxRecDepth 100000
set_option linter.unusedVariables false
set_option linter.unusedSimpArgs false
/- a list of a site as an argument -/
def entOk (e : Ent) : Prop := e.loc.length ≤ 140737488355328 ∧ -9223372036854775808 ≤ e.day ∧ e.day ≤ 9223372036854775807 ∧ -9223372036854775808 ≤ e.wt ∧ e.wt ≤ 9223372036854775807
abbrev sEnt : Sh := .tup [.str, .int .i64, .int .i64]
abbrev sSMp : Sh := .tup [.bool, .list sEnt]
theorem shEnt {m : Nat} {v : V} (h : Sh.has sEnt m v) : ∃ a, v = cEnt.enc a ∧ entOk a := by
  obtain ⟨l, ms, rfl, -, hl⟩ := h
  obtain ⟨m1, v1, ms, l, rfl, h1, hl⟩ := hasL_cons hl
  obtain ⟨m2, v2, ms, l, rfl, h2, hl⟩ := hasL_cons hl
  obtain ⟨m3, v3, ms, l, rfl, h3, hl⟩ := hasL_cons hl
  obtain rfl := hasL_nil hl
  obtain ⟨s, rfl, b1⟩ := shStr h1
  obtain ⟨d, rfl, c2⟩ := shInt h2
  obtain ⟨w, rfl, c3⟩ := shInt h3
  simp only [Lit.wf, Bool.and_eq_true, decide_eq_true_eq] at c2 c3
  exact ⟨⟨s, d, w⟩, rfl, b1, c2.1, c2.2, c3.1, c3.2⟩
theorem shSMp {m : Nat} {v : V} (h : Sh.has sSMp m v) : ∃ b n f, v = .agg [.bool b, .sl n f] ∧ isLs cEnt n f ∧ n ≤ 140737488355328 ∧ ∀ e ∈ lsOf cEnt n f, entOk e := by
  obtain ⟨l, ms, rfl, -, hl⟩ := h
  obtain ⟨m1, v1, ms, l, rfl, h1, hl⟩ := hasL_cons hl
  obtain ⟨m2, v2, ms, l, rfl, h2, hl⟩ := hasL_cons hl
  obtain rfl := hasL_nil hl
  obtain ⟨b, rfl, _⟩ := h1
  obtain ⟨n, f, rfl, i1, b1, k1⟩ := shList (c := cEnt) (fun m v h => shEnt h) h2
  exact ⟨b, n, f, rfl, i1, b1, k1⟩

theorem rmF_len (s : List UInt8) : (rmF s).1.en.length ≤ 1000 := by
  have hn : (noSMp : SMp).en.length ≤ 1000 := Nat.zero_le _
  unfold rmF
  split
  · exact hn
  · split
    · exact hn
    · split
      · exact hn
      · split
        · exact hn
        · split
          · exact hn
          · rename_i h
            have h : chkM ⟨rmIx s, (rmR s).2.2⟩ = 0 := Decidable.not_not.1 h
            unfold chkM at h
            split at h
            · cases h
            · rename_i z; exact Nat.le_of_not_lt z
def ckLawMR : Ck
  | [.str s] => some (s.length ≤ 140737488355328, .bool true)
  | _ => none
theorem conLawMR : Con pg 3 ckLawMR := by
  have hct := (ctA_ok conRM (ctA_ok conRM4 (ctA_ok conSameM (ctA_ok conAwake4 (ctN_ok _)))))
  intro args q r h hq
  unfold ckLawMR at h
  split at h
  · cases h
    rename_i s
    refine w3 (fun _ => false) [] rfl hct rfl rfl ?_
    push_cast (config := { maxSteps := 10000000 })
    have hl := rmF_len s
    exact ⟨by omega, by omega, by omega⟩
  · cases h
attribute [push_cast] ckLawMR
theorem allLawMR {H : Type} (ds : List (DataW H)) (hh : hasD [.str] ds) : PCall pg 3 (ds.map toV) (.bool true) := by
  match ds, hh with
  | [_], ⟨x, _⟩ =>
    obtain ⟨s, e1, b1⟩ := shStr x
    simp only [List.map_cons, List.map_nil, e1]
    exact conLawMR _ _ _ rfl b1

end Go.Abs
