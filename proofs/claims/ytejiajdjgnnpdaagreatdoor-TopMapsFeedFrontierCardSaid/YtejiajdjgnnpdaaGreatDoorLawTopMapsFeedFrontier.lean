/- The law TopMapsFeedFrontier: for every input the call returns true and its arguments read as before. No condition. -/
import Derived.Test.YtejiajdjgnnpdaaGreatDoorLawTopMapsFeedFrontierFacts
import Derived.Test.YtejiajdjgnnpdaaGreatDoorLawTopMapsFeedFrontierText
import Derived.Test.YtejiajdjgnnpdaaGreatDoorRows
import Derived.Test.YtejiajdjgnnpdaaGreatDoorAbsF11
import Derived.Test.YtejiajdjgnnpdaaGreatDoorCards
import Derived.Test.YtejiajdjgnnpdaaGreatDoorTie
import Derived.WalkKit
import Derived.ProofKit
import Derived.OpenShut
import Derived.Deep.DeepHandedRow
import Derived.Lib.LaidTab
import Derived.Lay
import Derived.Deep.DeepWitnessRowRef
import Derived.Deep.DeepLaidRun
import GoSem.PinnedTables
import Derived.SizedLaws
import Derived.JoinedCond
import Derived.Deep.CondSized
namespace Go.Proofs.YtejiajdjgnnpdaaGreatDoor.lawTopMapsFeedFrontier
open Go.Abs
set_option linter.unusedVariables false
theorem own : ownKnob Tryz.prog.godebug = none := by kernel_rfl
theorem tys : okTys Tryz.prog [24, 4, 22, 59, 9, 3, 25, 100, 29, 26, 147, 27, 110, 115] = true := by kernel_rfl
theorem ent : entB Tryz.prog 3 = true := by kernel_rfl
theorem fnat : Tryz.prog.funcs[3]? = some Tryz.f3 := by kernel_rfl
theorem shapes : Sh.ofTyL Tryz.prog [(.tup [.bool, (.list (.tup [.str, (.int .i64), (.int .i64)]))]), (.list (.tup [(.int .i64), .str])), (.tup [(.list (.tup [(.list .str), (.list (.tup [.bool, .str])), (.int .i64)])), (.list .str)]), .str] Tryz.f3.params.toList = true := by kernel_rfl
theorem pars : Tryz.f3.params.toList.all (fun t => ([24, 4, 22, 59, 9, 3, 25, 100, 29, 26, 147, 27, 110, 115] : List TypeId).contains t) = true := by kernel_rfl
theorem isB : Tryz.prog.underlying 4 = some .bool := by kernel_rfl
theorem argsN {H : Type} {s0 s1 s2 s3 : Sh} {ds : List (DataW H)} (h : hasD [s0, s1, s2, s3] ds) : ∃ d0 d1 d2 d3, ds = [d0, d1, d2, d3] := by
  match ds, h with
  | [d0, d1, d2, d3], _ => exact ⟨d0, d1, d2, d3, rfl⟩
noncomputable def low : Nat := (World.holding Tryz.prog default ⟨#[], #[], []⟩).heap.size
/-- a world for the witness: the settled one, the listed variables holding what their initialisers lay -/
noncomputable def laidWorld (os : Os) : World :=
  { World.holding Tryz.prog os ⟨#[], #[], []⟩ with heap := (((World.holding Tryz.prog os ⟨#[], #[], []⟩).heap.modify 2 (fun
      | .cells _ t frozen => .cells #[(.int .u8 128), (.int .u8 191), (.int .u8 160), (.int .u8 191), (.int .u8 128), (.int .u8 159), (.int .u8 144), (.int .u8 191), (.int .u8 128), (.int .u8 143), (.int .u8 0), (.int .u8 0), (.int .u8 0), (.int .u8 0), (.int .u8 0), (.int .u8 0), (.int .u8 0), (.int .u8 0), (.int .u8 0), (.int .u8 0), (.int .u8 0), (.int .u8 0), (.int .u8 0), (.int .u8 0), (.int .u8 0), (.int .u8 0), (.int .u8 0), (.int .u8 0), (.int .u8 0), (.int .u8 0), (.int .u8 0), (.int .u8 0)] t frozen
      | o => o)).modify 1 (fun
      | .cells _ t frozen => .cells (Go.Pinned.utf8FirstZ.map fun (n : Nat) => Value.int .u8 n).toArray t frozen
      | o => o)) }
theorem laid_met (os : Os) : laidMet Tryz.prog Rows.topMapsFeedFrontierRow.laid ((laidWorld os).forCall (fun _ _ => 0) ⟨#[], #[.agg #[.bool false, .slice none 0 0], .slice none 0 0, .agg #[.slice none 0 0, .slice none 0 0], .string ⟨#[]⟩], []⟩).memory :=
  laidMet_of_run3 8 (by kernel_rfl) (by kernel_rfl) (by kernel_rfl)
theorem noHandle : (Rows.topMapsFeedFrontierRow.laid.filter fun x => x.2.handleName?.isSome) = [] := by kernel_rfl
theorem laid_H {w : World} : laidMetH Tryz.prog Rows.topMapsFeedFrontierRow.laid w = laidMet Tryz.prog Rows.topMapsFeedFrontierRow.laid w := by
  unfold laidMetH
  rw [noHandle]
theorem reads (os : Os) {H : Type} (enc : TypeId × Value → H) : ∃ places, DataW.whole enc Tryz.prog ((laidWorld os).forCall (fun _ _ => 0) ⟨#[], #[.agg #[.bool false, .slice none 0 0], .slice none 0 0, .agg #[.slice none 0 0, .slice none 0 0], .string ⟨#[]⟩], []⟩).memory Tryz.f3.params.toList Rows.topMapsFeedFrontierSpec.vars false (#[.agg #[.bool false, .slice none 0 0], .slice none 0 0, .agg #[.slice none 0 0, .slice none 0 0], .string ⟨#[]⟩] : Array Value).toList 8 = some ([.agg [.lit (.bool false), .nil], .nil, .agg [.nil, .nil], .lit (.string [])], [], places) :=
  ⟨[], by kernel_rfl⟩
theorem room {W : World} (h : W.ShapedOpen Tryz.prog) : pg.n ≤ W.heap.size := by
  have := shaped_size h (k := 2) (by kernel_rfl) (by kernel_rfl)
  rwa [show Tryz.prog.globals.size = 3 by kernel_rfl] at this
set_option maxRecDepth 100000 in
theorem lifted (os : Os) (started : os.Started) (H : Type) (enc : TypeId × Value → H) (F : Stop.Interp) :
    ReturnsInHanded {} Tryz.checked os 3 .any ((OpenSpec.ofChange Rows.topMapsFeedFrontierSpec).preRow enc Tryz.prog Tryz.f3 Rows.topMapsFeedFrontierRow.domain false Rows.topMapsFeedFrontierRow.laid) (((OpenSpec.ofChange Rows.topMapsFeedFrontierSpec).at F).post enc Tryz.prog Tryz.f3 false true false false) := by
  obtain ⟨places, hx⟩ := reads os enc
  refine returnsInHanded_of_row (C := Tryz.checked) (s := OpenSpec.ofChange Rows.topMapsFeedFrontierSpec) own started (by kernel_rfl) fnat
    (witness_row_at (enc := enc) (C := Tryz.checked) false (laidWorld os) #[.agg #[.bool false, .slice none 0 0], .slice none 0 0, .agg #[.slice none 0 0, .slice none 0 0], .string ⟨#[]⟩] rfl (by kernel_rfl) (by kernel_rfl) (by kernel_rfl)
      (OpenSpec.preRow_of_cond 8 hx (by kernel_rfl) (fun k hk => by cases hk) (by kernel_rfl) (Eq.mpr laid_H (laid_met os)))) ?_
  intro W base args ds gs before hval hW _ hcond hsz hL hsh _
  obtain ⟨rfl, hh⟩ := law_open (s := Rows.topMapsFeedFrontierSpec) (vt := (OpenSpec.ofChange Rows.topMapsFeedFrontierSpec).bare.plain.varTypes Tryz.prog) rfl rfl hW hsz shapes
  have hL2 : laidMet Tryz.prog Rows.topMapsFeedFrontierRow.laid W := by rw [← laid_H]; exact hL
  refine law_calls (s := Rows.topMapsFeedFrontierSpec) tys ent pars rfl rfl isB hval hW ?_ (G := pg) rfl (mkPG_ok ⟨tabs_of _  hL2, hsh⟩) (room hsh) (allLawMF ds hh)
  obtain ⟨d0, d1, d2, d3, rfl⟩ := argsN hh
  rfl
theorem said : Rows.TopMapsFeedFrontierSaid :=
  OpenClaim.holds_of_cond 3 Tryz.f3 rfl rfl rfl rfl rfl rfl rfl ⟨rfl, rfl, rfl, rfl, rfl⟩ rfl rfl rfl rfl rfl (by kernel_rfl) fnat facts
    (of_decide_eq_true (by kernel_rfl)) (by unfold Func.isWrapper; first | (rw [if_pos (by decide +kernel)]; kernel_rfl) | (rw [if_neg (by decide +kernel)]; exact ⟨rfl, rfl⟩))
    (fun os started H enc _ F => by rw [OpenClaim.pre_eq_preRow]; exact lifted os started H enc F)
/-- no parameter wants a stand-in; the program's own looks are off -/
theorem plain (f : FuncId) (fn : Func) (hf : Tryz.pinned.checked.prog.funcNamed Rows.topMapsFeedFrontierRow.func = some f) (hfn : Tryz.pinned.checked.prog.funcs[f]? = some fn) :
    false = Tryz.pinned.checked.prog.looks [] ∧ ∀ (j : Nat) t, fn.params[j]? = some t → Tryz.pinned.checked.prog.wantsStandIn t = false := by
  obtain rfl : f = 3 := Option.some.inj ((show Tryz.prog.funcNamed Rows.topMapsFeedFrontierRow.func = some 3 by kernel_rfl).symm.trans hf) |>.symm
  obtain rfl : fn = Tryz.f3 := (Option.some.inj (fnat.symm.trans hfn)).symm
  refine ⟨by kernel_rfl, fun j t ht => ?_⟩
  have h := List.all_eq_true.1 (show Tryz.f3.params.toList.all (fun t => !Tryz.prog.wantsStandIn t) = true by kernel_rfl) t (by have := Array.mem_of_getElem? ht; simpa using this)
  have h2 : Tryz.prog.wantsStandIn t = false := by simpa using h
  exact h2
theorem proved : Rows.TopMapsFeedFrontierCardSaid :=
  Claim7.holds_tied_plain_at .later [] _ _ _ _ said (fun _ h => by cases h) wfW (fun _ h => by cases h) topMapsFeedFrontier_row_tie rfl ⟨rfl, rfl⟩ mainW rfl plain goesW
end Go.Proofs.YtejiajdjgnnpdaaGreatDoor.lawTopMapsFeedFrontier
