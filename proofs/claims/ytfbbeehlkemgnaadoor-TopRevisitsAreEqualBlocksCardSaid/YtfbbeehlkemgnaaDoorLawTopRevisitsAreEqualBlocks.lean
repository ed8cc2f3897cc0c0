/- The law TopRevisitsAreEqualBlocks: for every input the call returns true and its arguments read as before. No condition. -/
import Derived.Test.YtfbbeehlkemgnaaDoorLawTopRevisitsAreEqualBlocksFacts
import Derived.Test.YtfbbeehlkemgnaaDoorLawTopRevisitsAreEqualBlocksText
import Derived.Test.YtfbbeehlkemgnaaDoorRows
import Derived.Test.YtfbbeehlkemgnaaDoorAbsF3
import Derived.Test.YtfbbeehlkemgnaaDoorCards
import Derived.Test.YtfbbeehlkemgnaaDoorTie
import Derived.WalkKit
import Derived.ProofKit
import Derived.OpenShut
import Derived.Deep.DeepHandedRow
import Derived.Lib.LaidTab
import Derived.Lay
import Derived.Deep.DeepWitnessRowRef
import Derived.Deep.DeepLaidRun
import GoSem.PinnedTables
import Derived.SizedLaws
import Derived.JoinedCond
import Derived.Deep.CondSized
namespace Go.Proofs.YtfbbeehlkemgnaaDoor.lawTopRevisitsAreEqualBlocks
open Go.Abs
set_option linter.unusedVariables false
theorem own : ownKnob Tryd.prog.godebug = none := by kernel_rfl
theorem tys : okTys Tryd.prog [22, 32, 3, 9, 29, 56, 30, 5] = true := by kernel_rfl
theorem ent : entB Tryd.prog 3 = true := by kernel_rfl
theorem fnat : Tryd.prog.funcs[3]? = some Tryd.f3 := by kernel_rfl
theorem shapes : Sh.ofTyL Tryd.prog [(.list (.tup [(.int .i64), .str, .str, (.int .i64), .str, (.list (.tup [.str, .str])), (.list (.int .u8))]))] Tryd.f3.params.toList = true := by kernel_rfl
theorem pars : Tryd.f3.params.toList.all (fun t => ([22, 32, 3, 9, 29, 56, 30, 5] : List TypeId).contains t) = true := by kernel_rfl
theorem isB : Tryd.prog.underlying 4 = some .bool := by kernel_rfl
theorem argsN {H : Type} {s0 : Sh} {ds : List (DataW H)} (h : hasD [s0] ds) : ∃ d0, ds = [d0] := by
  match ds, h with
  | [d0], _ => exact ⟨d0, rfl⟩
noncomputable def low : Nat := (World.holding Tryd.prog default ⟨#[], #[], []⟩).heap.size
/-- a world for the witness: the settled one, the listed variables holding what their initialisers lay -/
noncomputable def laidWorld (os : Os) : World :=
  World.laidAll Tryd.prog os Rows.topRevisitsAreEqualBlocksRow.laid
theorem laid_met (os : Os) : laidMet Tryd.prog Rows.topRevisitsAreEqualBlocksRow.laid ((laidWorld os).forCall (fun _ _ => 0) ⟨#[], #[.slice none 0 0], []⟩).memory :=
  laidMet_laidAll _ (by kernel_rfl) (by kernel_rfl)
theorem noHandle : (Rows.topRevisitsAreEqualBlocksRow.laid.filter fun x => x.2.handleName?.isSome) = [] := by kernel_rfl
theorem laid_H {w : World} : laidMetH Tryd.prog Rows.topRevisitsAreEqualBlocksRow.laid w = laidMet Tryd.prog Rows.topRevisitsAreEqualBlocksRow.laid w := by
  unfold laidMetH
  rw [noHandle]
theorem reads (os : Os) {H : Type} (enc : TypeId × Value → H) : ∃ places, DataW.whole enc Tryd.prog ((laidWorld os).forCall (fun _ _ => 0) ⟨#[], #[.slice none 0 0], []⟩).memory Tryd.f3.params.toList Rows.topRevisitsAreEqualBlocksSpec.vars false (#[.slice none 0 0] : Array Value).toList 8 = some ([.nil], [], places) :=
  ⟨[], by kernel_rfl⟩
theorem room {W : World} (h : W.ShapedOpen Tryd.prog) : pg.n ≤ W.heap.size := by
  have := shaped_size h (k := 8) (by kernel_rfl) (by kernel_rfl)
  rwa [show Tryd.prog.globals.size = 9 by kernel_rfl] at this
theorem mem0 : ("internal/strconv.uint64pow10", Lib.tabData .u64 Lib.pow10Tab) ∈ Rows.topRevisitsAreEqualBlocksRow.laid := by
  show _ ∈ [("math/bits.deBruijn32tab", Rows.laid_math_bits_deBruijn32tab), ("math/bits.deBruijn64tab", Rows.laid_math_bits_deBruijn64tab), ("internal/strconv.uint64pow10", Rows.laid_internal_strconv_uint64pow10), ("unicode/utf8.acceptRanges", Rows.laid_unicode_utf8_acceptRanges), ("unicode.asciiFold", Rows.laid_unicode_asciiFold), ("unicode.caseOrbit", Rows.laid_unicode_caseOrbit), ("unicode.CaseRanges", Rows.laid_unicode_CaseRanges), ("unicode/utf8.first", Rows.laid_unicode_utf8_first)]
  first | exact .head _ | exact .tail _ (.head _) | exact .tail _ (.tail _ (.head _)) | exact .tail _ (.tail _ (.tail _ (.head _))) | exact .tail _ (.tail _ (.tail _ (.tail _ (.head _)))) | exact .tail _ (.tail _ (.tail _ (.tail _ (.tail _ (.head _))))) | exact .tail _ (.tail _ (.tail _ (.tail _ (.tail _ (.tail _ (.head _)))))) | exact .tail _ (.tail _ (.tail _ (.tail _ (.tail _ (.tail _ (.tail _ (.head _))))))) | exact .tail _ (.tail _ (.tail _ (.tail _ (.tail _ (.tail _ (.tail _ (.tail _ (.head _)))))))) | exact .tail _ (.tail _ (.tail _ (.tail _ (.tail _ (.tail _ (.tail _ (.tail _ (.tail _ (.head _)))))))))
theorem mem1 : ("math/bits.deBruijn64tab", Lib.tabData .u8 (Lib.deBruijn64tab.map fun (n : Nat) => (n : Int))) ∈ Rows.topRevisitsAreEqualBlocksRow.laid := by
  show _ ∈ [("math/bits.deBruijn32tab", Rows.laid_math_bits_deBruijn32tab), ("math/bits.deBruijn64tab", Rows.laid_math_bits_deBruijn64tab), ("internal/strconv.uint64pow10", Rows.laid_internal_strconv_uint64pow10), ("unicode/utf8.acceptRanges", Rows.laid_unicode_utf8_acceptRanges), ("unicode.asciiFold", Rows.laid_unicode_asciiFold), ("unicode.caseOrbit", Rows.laid_unicode_caseOrbit), ("unicode.CaseRanges", Rows.laid_unicode_CaseRanges), ("unicode/utf8.first", Rows.laid_unicode_utf8_first)]
  first | exact .head _ | exact .tail _ (.head _) | exact .tail _ (.tail _ (.head _)) | exact .tail _ (.tail _ (.tail _ (.head _))) | exact .tail _ (.tail _ (.tail _ (.tail _ (.head _)))) | exact .tail _ (.tail _ (.tail _ (.tail _ (.tail _ (.head _))))) | exact .tail _ (.tail _ (.tail _ (.tail _ (.tail _ (.tail _ (.head _)))))) | exact .tail _ (.tail _ (.tail _ (.tail _ (.tail _ (.tail _ (.tail _ (.head _))))))) | exact .tail _ (.tail _ (.tail _ (.tail _ (.tail _ (.tail _ (.tail _ (.tail _ (.head _)))))))) | exact .tail _ (.tail _ (.tail _ (.tail _ (.tail _ (.tail _ (.tail _ (.tail _ (.tail _ (.head _)))))))))
set_option maxRecDepth 100000 in
theorem lifted (os : Os) (started : os.Started) (H : Type) (enc : TypeId × Value → H) (F : Stop.Interp) :
    ReturnsInHanded {} Tryd.checked os 3 .any ((OpenSpec.ofChange Rows.topRevisitsAreEqualBlocksSpec).preRow enc Tryd.prog Tryd.f3 Rows.topRevisitsAreEqualBlocksRow.domain false Rows.topRevisitsAreEqualBlocksRow.laid) (((OpenSpec.ofChange Rows.topRevisitsAreEqualBlocksSpec).at F).post enc Tryd.prog Tryd.f3 false true false false) := by
  obtain ⟨places, hx⟩ := reads os enc
  refine returnsInHanded_of_row (C := Tryd.checked) (s := OpenSpec.ofChange Rows.topRevisitsAreEqualBlocksSpec) own started (by kernel_rfl) fnat
    (witness_row_atRef (enc := enc) (C := Tryd.checked) false (laidWorld os) #[.slice none 0 0] (World.laidAll_os _ _ _) (by kernel_rfl) (by kernel_rfl) (by kernel_rfl)
      (OpenSpec.preRow_of_cond 8 hx (by kernel_rfl) (fun k hk => by cases hk) (by kernel_rfl) (Eq.mpr laid_H (laid_met os)))) ?_
  intro W base args ds gs before hval hW _ hcond hsz hL hsh _
  obtain ⟨rfl, hh⟩ := law_open (s := Rows.topRevisitsAreEqualBlocksSpec) (vt := (OpenSpec.ofChange Rows.topRevisitsAreEqualBlocksSpec).bare.plain.varTypes Tryd.prog) rfl rfl hW hsz shapes
  have hL2 : laidMet Tryd.prog Rows.topRevisitsAreEqualBlocksRow.laid W := by rw [← laid_H]; exact hL
  refine law_calls (s := Rows.topRevisitsAreEqualBlocksSpec) tys ent pars rfl rfl isB hval hW ?_ (G := pg) rfl (mkPG_ok ⟨tabs_of _ mem0 mem1 hL2, hsh⟩) (room hsh) (allLawTR ds hh)
  obtain ⟨d0, rfl⟩ := argsN hh
  rfl
theorem said : Rows.TopRevisitsAreEqualBlocksSaid :=
  OpenClaim.holds_of_cond 3 Tryd.f3 rfl rfl rfl rfl rfl rfl rfl ⟨rfl, rfl, rfl, rfl, rfl⟩ rfl rfl rfl rfl rfl (by kernel_rfl) fnat facts
    (of_decide_eq_true (by kernel_rfl)) (by unfold Func.isWrapper; first | (rw [if_pos (by decide +kernel)]; kernel_rfl) | (rw [if_neg (by decide +kernel)]; exact ⟨rfl, rfl⟩))
    (fun os started H enc _ F => by rw [OpenClaim.pre_eq_preRow]; exact lifted os started H enc F)
/-- no parameter wants a stand-in; the program's own looks are off -/
theorem plain (f : FuncId) (fn : Func) (hf : Tryd.pinned.checked.prog.funcNamed Rows.topRevisitsAreEqualBlocksRow.func = some f) (hfn : Tryd.pinned.checked.prog.funcs[f]? = some fn) :
    false = Tryd.pinned.checked.prog.looks [] ∧ ∀ (j : Nat) t, fn.params[j]? = some t → Tryd.pinned.checked.prog.wantsStandIn t = false := by
  obtain rfl : f = 3 := Option.some.inj ((show Tryd.prog.funcNamed Rows.topRevisitsAreEqualBlocksRow.func = some 3 by kernel_rfl).symm.trans hf) |>.symm
  obtain rfl : fn = Tryd.f3 := (Option.some.inj (fnat.symm.trans hfn)).symm
  refine ⟨by kernel_rfl, fun j t ht => ?_⟩
  have h := List.all_eq_true.1 (show Tryd.f3.params.toList.all (fun t => !Tryd.prog.wantsStandIn t) = true by kernel_rfl) t (by have := Array.mem_of_getElem? ht; simpa using this)
  have h2 : Tryd.prog.wantsStandIn t = false := by simpa using h
  exact h2
theorem proved : Rows.TopRevisitsAreEqualBlocksCardSaid :=
  Claim7.holds_tied_plain_at .later [] _ _ _ _ said (fun _ h => by cases h) wfW (fun _ h => by cases h) topRevisitsAreEqualBlocks_row_tie rfl ⟨rfl, rfl⟩ mainW rfl plain goesW
end Go.Proofs.YtfbbeehlkemgnaaDoor.lawTopRevisitsAreEqualBlocks
