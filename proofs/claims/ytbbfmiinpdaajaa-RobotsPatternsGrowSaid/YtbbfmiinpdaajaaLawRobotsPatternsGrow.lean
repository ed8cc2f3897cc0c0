/- The law RobotsPatternsGrow: for every input the call returns true and its arguments read as before. No condition. -/
import Derived.Test.YtbbfmiinpdaajaaRows
import Derived.Test.YtbbfmiinpdaajaaAbsF1
import Derived.ProofKit
import Derived.SizedLaws
import Derived.JoinedCond
import Derived.Deep.CondSized
namespace Go.Proofs.Ytbbfmiinpdaajaa.lawRobotsPatternsGrow
open Go.Abs
set_option linter.unusedVariables false
theorem own : ownKnob Try.prog.godebug = none := by kernel_rfl
theorem tys : okTys Try.prog [9] = true := by kernel_rfl
theorem ent : entB Try.prog 4 = true := by kernel_rfl
theorem fnat : Try.prog.funcs[4]? = some Try.f4 := by kernel_rfl
theorem shapes : Sh.ofTyL Try.prog [.str, .str, .str] Try.f4.params.toList = true := by kernel_rfl
theorem pars : Try.f4.params.toList.all (fun t => ([9] : List TypeId).contains t) = true := by kernel_rfl
theorem isB : Try.prog.underlying 4 = some .bool := by kernel_rfl
set_option maxRecDepth 100000 in
theorem lifted (os : Os) (started : os.Started) (H : Type) (enc : TypeId × Value → H) :
    ReturnsInHanded {} Try.checked os 4 .any (Rows.robotsPatternsGrowSpec.pre6 enc Try.prog Try.f4 Rows.robotsPatternsGrowRow.domain false) (Rows.robotsPatternsGrowSpec.post enc Try.prog Try.f4 false true false false) := by
  refine returnsInHanded_of_change_sized (C := Try.checked) own started (by kernel_rfl) fnat
    (ChangeSpec.witness6 (enc := enc) (C := Try.checked) false ⟨#[], #[.string ⟨#[]⟩, .string ⟨#[]⟩, .string ⟨#[]⟩], []⟩ 8 (by kernel_rfl) (by kernel_rfl) (by kernel_rfl) (by kernel_rfl)) ?_
  intro W base args ds gs before hval hW _ hsz _
  obtain ⟨rfl, hh⟩ := law_open (s := Rows.robotsPatternsGrowSpec) (vt := Rows.robotsPatternsGrowSpec.plain.varTypes Try.prog) rfl rfl hW hsz shapes
  refine law_calls (s := Rows.robotsPatternsGrowSpec) tys ent pars rfl rfl isB hval hW ?_ (allLawPG ds hh)
  match ds, hh with
  | [_, _, _], _ => rfl
theorem proved : Rows.RobotsPatternsGrowSaid :=
  OpenClaim.holds_of_wide 4 Try.f4 rfl rfl rfl rfl rfl rfl rfl ⟨rfl, rfl, rfl, rfl, rfl⟩ rfl rfl rfl rfl rfl (by kernel_rfl) fnat (by kernel_rfl)
    (of_decide_eq_true (by kernel_rfl)) (by unfold Func.isWrapper; first | (rw [if_pos (by decide +kernel)]; kernel_rfl) | (rw [if_neg (by decide +kernel)]; exact ⟨rfl, rfl⟩))
    (fun os started H enc _ => lifted os started H enc)
end Go.Proofs.Ytbbfmiinpdaajaa.lawRobotsPatternsGrow
