/- what functions of this program compute: contracts, each a function's own -/
import Derived.Test.YtakfogogdklefaaDoorAbsK2
import Derived.Test.YtakfogogdklefaaDoorAbsFacts
import Derived.Test.YtakfogogdklefaaDoorAbsF2
import Derived.Test.YtakfogogdklefaaDoorAbsShelf
import Derived.Lib.ItoaLen
import Derived.Lib.SplitLaws
import Derived.Lib.SlTrimSet
import Derived.Lib.Atoi
import Derived.Lib.Itoa
import Derived.Lib.ItoaNum
import Derived.Lib.Walk
import Derived.WalkKit
import Derived.OwnWalkIn
import Derived.TacticsInMore
import Derived.RegionIn
import Derived.LoopNIn
import Derived.LoopIn
import Derived.Shelf.Abstract
import Derived.Lib.Repeat
namespace Go.Abs
open Go Go.Proofs
set_option maxHeartbeats 4000000
set_option maxRecDepth 100000
set_option linter.unusedVariables false
set_option linter.unusedSimpArgs false
@[push_cast] theorem shAl_nil : shAl [] = [] := rfl
@[push_cast] theorem shAl_cons (k : Nat) (v : V) (r : List (Nat × V)) : shAl ((k, v) :: r) = (k, V.shift v) :: shAl r := rfl
@[push_cast] theorem shift_ptr (i o : Nat) : V.shift (.ptr i o) = .ptr (i + 9000) o := rfl
@[push_cast] theorem shift_fn0 (f : Fn) (n : Nat) (g : Nat → V) (k : Int) : V.shift (.fn f [] [.iptr [.sl n g], .iptr [.int .i64 k]]) = .fn f [] [.iptr [.sl n g], .iptr [.int .i64 k]] := rfl
@[push_cast] theorem shF_ent (l : List Ent) (m i : Nat) : shF (lsF cEnt l) m i = .agg [.str (l.getD (i + m) noEnt).loc, .int .i64 (l.getD (i + m) noEnt).day, .int .i64 (l.getD (i + m) noEnt).wt] := rfl
@[push_cast] theorem kill_outF (d : Nat) (l : List Ent) (k i : Nat) : V.kill d (outF l k i) = outF l k i := rfl
@[push_cast] theorem pure_outF (l : List Ent) (k i : Nat) : (outF l k i).isPure = true := rfl
@[push_cast] theorem vle_fn (f : Fn) (a b : List V) : vle (.fn f a b) (.fn f a b) = True := eq_true rfl
def splE (m : SMp) (base : List UInt8) (most : Int) : Int := if chkM m ≠ 0 then chkM m else if m.ix = true then 3 else if most < 1 ∨ 1000 < most then 1 else chkM ⟨true, idxL m.en base most.toNat⟩
def splN (m : SMp) (base : List UInt8) (most : Int) : Nat := if splE m base most = 0 then cntP m.en.length most.toNat else 0
def ckSplitV : Ck
  | [.agg [.bool b, .sl n f], .str base, .int .i64 most] => some (isLs cEnt n f ∧ n ≤ 4611686018427387904 ∧ base.length ≤ 140737488355328,
      .tup [.sl (splN ⟨b, lsOf cEnt n f⟩ base most) (outF (lsOf cEnt n f) most.toNat), .agg [.bool (decide (splE ⟨b, lsOf cEnt n f⟩ base most = 0)), .sl (splN ⟨b, lsOf cEnt n f⟩ base most) (lsF cEnt (idxL (lsOf cEnt n f) base most.toNat))], .int .i64 (splE ⟨b, lsOf cEnt n f⟩ base most)])
  | _ => none
theorem conSplitV : Con pg 4 ckSplitV := by
  have hct := (ctA_ok conCM (ctA_ok conChunk (ctA_ok conCloneEnt (ctA_ok conItoa (ctN_ok _)))))
  intro args q r h hq
  unfold ckSplitV at h
  split at h
  · cases h
    rename_i b n f base most
    have hn : (lsOf cEnt n f).length ≤ 4611686018427387904 := by rw [lsOf_len]; exact hq.2.1
    have hb := hq.2.2
    refine pcall_args (args' := [.agg [.bool b, .sl (lsOf cEnt n f).length (lsF cEnt (lsOf cEnt n f))], .str base, .int .i64 most]) ⟨VLe.agg ⟨VLe.refl _, hq.1.vle, trivial⟩, VLe.refl _, VLe.refl _, trivial⟩ ?_
    generalize lsOf cEnt n f = l at hn ⊢
    refine w4 (fun _ => false) [.frz 8000, .frz 8001] rfl hct rfl rfl ?_
    push_cast (config := { maxSteps := 10000000 })
    refine ⟨hn, fun h => ?_, fun h1 => ⟨fun h => ?_, fun h2 => ⟨fun h => ?_, fun h3 => ⟨by omega, ?_⟩⟩⟩⟩
    · have e : splE ⟨b, l⟩ base most = chkM ⟨b, l⟩ := by unfold splE; rw [if_pos h]
      unfold splN; rw [e, if_neg h, decide_eq_false h]; exact ⟨rfl, ⟨rfl, rfl⟩, rfl⟩
    · have e : splE ⟨b, l⟩ base most = 3 := by unfold splE; rw [if_neg (fun x => x h1), if_pos h]
      unfold splN; rw [e]; exact ⟨rfl, ⟨rfl, rfl⟩, rfl⟩
    · have e : splE ⟨b, l⟩ base most = 1 := by unfold splE; rw [if_neg (fun x => x h1), if_neg (by rw [h2]; simp), if_pos h]
      unfold splN; rw [e]; exact ⟨rfl, ⟨rfl, rfl⟩, rfl⟩
    obtain ⟨k, rfl⟩ : ∃ k : Nat, most = k := ⟨most.toNat, by omega⟩
    have hl1 : l.length ≤ 1000 := by
      unfold chkM at h1
      split at h1
      · cases h1
      · rename_i z; exact Nat.le_of_not_lt z
    have eE : splE ⟨b, l⟩ base k = chkM ⟨true, idxL l base k⟩ := by unfold splE; rw [if_neg (fun x => x h1), if_neg (by rw [h2]; simp), if_neg (by omega)]; rfl
    simp only [Int.toNat_natCast] at *
    refine RngW.adj ⟨hct, fol⟩ (by kernel_rfl) [.nvc 11 0 8000 2 (outF l k), .nvc 12 1 8001 3 (lsF cEnt (idxL l base k))] [] [(4, .ptr 4 0), (7, .ptr 7 0), (9, .ptr 9 0), (11, .ptr 11 0), (12, .ptr 12 0), (39, .fn (.func 14) [] [.iptr [.sl l.length (lsF cEnt l)], .iptr [.int .i64 (k : Int)]])] (fun t : Nat => [(4, .cells [.str base]), (7, .cells [.bool false, .nilsl]), (9, .cells [.bool false, .nilsl]), (11, .cells [.vec 8000 t]), (12, .cells [.bool true, .vec 8001 t]), (8000, .vec 2 t (outF l k)), (8001, .vec 3 t (lsF cEnt (idxL l base k)))]) (fun t : Nat => [(9004, .cells [.str base]), (9007, .cells [.bool false, .nilsl]), (9009, .cells [.bool false, .nilsl]), (9011, .cells [.vec 17000 t]), (9012, .cells [.bool true, .vec 17001 t]), (17000, .vec 2 t (outF l k)), (17001, .vec 3 t (lsF cEnt (idxL l base k)))]) (fun t => rfl) (fun j t => t = j) 0 ⟨rfl, ?_⟩ (chunksV l.length (lsF cEnt l) k) rfl (chunkIter (fun i hi => rfl) (by omega) (by omega) (by omega)) (fun j t L hj hlt => ?_) (fun t ht => ?_)
    · push_cast (config := { maxSteps := 10000000 })
    · subst hj
      rw [chunksV_at _ _ _ _ hlt]
      rw [chunksV_len] at hlt
      have hlt2 : t * k < l.length := (cntP_iff (by omega)).1 hlt
      have hc := cntP_le (n := l.length) (k := k) (by omega)
      have hlt3 : t < cntP l.length k := hlt
      have hit : (Lib.itoa ((t : Int) + 1)).length ≤ 21 := Lib.itoa_length_le _ (by omega) (by omega)
      have hpl := partL_len l k t
      push_cast (config := { maxSteps := 10000000 })
      refine ⟨⟨fun i hi => ⟨l.getD (i + t * k) noEnt, rfl⟩, by omega⟩, ⟨by omega, by omega⟩, ⟨by omega, by omega⟩, by omega, by omega, ?_⟩
      refine LoopW.adj ⟨hct, fol⟩ (by kernel_rfl) [] (fun i : Nat => [(12, .ptr 9012 0), (14, .ptr 14 0), (54, .sl (min k (l.length - t * k)) (shF (lsF cEnt l) (t * k))), (55, .int .i64 ((min k (l.length - t * k) : Nat) : Int)), (56, .int .i64 i)]) (fun i => [(14, .cells [.str (base ++ Lib.itoa ((t : Int) + 1) ++ [46, 120, 109, 108]), .int .i64 (dayL ((partL l k t).take i)), .int .i64 (-1)]), (9004, .cells [.str base]), (9007, .cells [.bool false, .nilsl]), (9009, .cells [.bool false, .nilsl]), (9011, .cells [.vec 17000 (t + 1)]), (9012, .cells [.bool true, .vec 17001 t]), (17000, .vec 2 (t + 1) (outF l k)), (17001, .vec 3 t (lsF cEnt (idxL l base k)))]) (fun i => i ≤ min k (l.length - t * k)) (fun i => min k (l.length - t * k) - i) 0 ?_ fun i hi => ?_
      · push_cast (config := { maxSteps := 10000000 })
        refine ⟨Nat.zero_le _, rfl, fun i hi => ?_⟩
        unfold appF
        by_cases e : i < t
        · rw [decide_eq_true e]; rfl
        · obtain rfl : i = t := by omega
          rw [decide_eq_false e, Nat.sub_self]; rfl
      · push_cast (config := { maxSteps := 10000000 })
        refine ⟨fun h => ⟨h, ⟨by omega, by omega⟩, i + 1, by omega, by omega, by omega, ?_⟩, fun h => ⟨⟨by omega, by omega⟩, t + 1, rfl, rfl, rfl, rfl, rfl, fun m hm => ?_⟩⟩
        · rw [← hpl] at h
          rw [← partL_at l (by rw [← hpl]; exact h)]
          have et : (partL l k t).take (i + 1) = (partL l k t).take i ++ [(partL l k t).getD i noEnt] := by
            rw [List.getD_eq_getElem?_getD, List.getElem?_eq_getElem h, List.take_succ_eq_append_getElem h]; rfl
          rw [et, dayL_app]
        · obtain rfl : i = min k (l.length - t * k) := by omega
          rw [← hpl, List.take_length]
          show _ = cEnt.enc ((idxL l base k).getD m noEnt)
          unfold appF
          by_cases e : m < t
          · rw [decide_eq_true e]; rfl
          · obtain rfl : m = t := by omega
            rw [decide_eq_false e, Nat.sub_self, cond_false, idxL_at l base hlt3]; rfl
    · rw [chunksV_len] at ht
      subst ht
      have hc := cntP_le (n := l.length) (k := k) (by omega)
      have hil := idxL_len l base k
      unfold cntP at hc hil
      have hI := isLs_ls (c := cEnt) (idxL l base k)
      have hI2 := lsOf_ls (c := cEnt) (idxL l base k)
      rw [hil] at hI hI2
      push_cast (config := { maxSteps := 10000000 })
      rw [hI2, ← eE]
      refine ⟨⟨hI, by omega⟩, fun h => ?_, fun h => ?_⟩
      · unfold splN; rw [if_neg h, decide_eq_false h]; exact ⟨rfl, ⟨rfl, rfl⟩, rfl⟩
      · unfold splN; rw [if_pos h, decide_eq_true h]; exact ⟨rfl, ⟨rfl, rfl⟩, h.symm⟩
  · cases h
attribute [push_cast] ckSplitV
theorem pcall_resM {f : FuncId} {args : List V} {r r' : V} (hv : VLe r r') (h : PCall pg f args r) : PCall pg f args r' := by
  intro S vals hs hh hlen hr
  exact (h S vals hs hh hlen hr).mono fun e w' ⟨v, γ', imm', e1, e2, e3, e4, e5⟩ => ⟨v, γ', imm', e1, e2, e3, e4, hv _ _ _ _ e5⟩
theorem VLe.tup3 {a b a' b' c : V} (h : VLe a b) (h' : VLe a' b') : VLe (.tup [a, a', c]) (.tup [b, b', c]) := by
  intro γ imm w v hr
  obtain ⟨vs, rfl, h1, h2⟩ := inv_tup (S := ⟨γ, imm, fun _ => none, w⟩) hr
  exact .tup _ vs h1 fun i hi => by
    match i, hi with
    | 0, _ => exact h _ _ _ _ (h2 0 (by simp))
    | 1, _ => exact h' _ _ _ _ (h2 1 (by simp))
    | 2, _ => exact h2 2 (by simp)
def splO (m : SMp) (base : List UInt8) (most : Int) : List SMp := if splE m base most = 0 then partsL m.en most.toNat else []
def splI (m : SMp) (base : List UInt8) (most : Int) : SMp := if splE m base most = 0 then ⟨true, idxL m.en base most.toNat⟩ else noSMp
def ckSplM : Ck
  | [.agg [.bool b, .sl n f], .str base, .int .i64 most] => some (isLs cEnt n f ∧ n ≤ 4611686018427387904 ∧ base.length ≤ 140737488355328,
      .tup [.sl (splO ⟨b, lsOf cEnt n f⟩ base most).length (lsF cSMp (splO ⟨b, lsOf cEnt n f⟩ base most)), .agg [.bool (splI ⟨b, lsOf cEnt n f⟩ base most).ix, .sl (splI ⟨b, lsOf cEnt n f⟩ base most).en.length (lsF cEnt (splI ⟨b, lsOf cEnt n f⟩ base most).en)], .int .i64 (splE ⟨b, lsOf cEnt n f⟩ base most)])
  | _ => none
theorem outF_ple (l : List Ent) (k j : Nat) : pleL (outF l k j).flat (cSMp.enc ⟨false, partL l k j⟩).flat := by
  refine ⟨PLe.refl _, ?_, trivial⟩
  show PLe (.sl _ _) (.sl (partL l k j).length (lsF cEnt (partL l k j)))
  refine PLe.sl (partL_len l k j).symm fun i hi => ?_
  have e : lsF cEnt (partL l k j) i = shF (lsF cEnt l) (j * k) i := by
    show cEnt.enc ((partL l k j).getD i noEnt) = _
    rw [partL_at l hi]; rfl
  rw [e]; exact pleL_refl _
theorem conSplM : Con pg 4 ckSplM := by
  intro args q r h hq
  unfold ckSplM at h
  split at h
  · cases h
    rename_i b n f base most
    refine pcall_resM (VLe.tup3 ?_ ?_) (conSplitV _ _ _ rfl hq)
    · generalize lsOf cEnt n f = l
      unfold splO splN
      by_cases he : splE ⟨b, l⟩ base most = 0
      · rw [if_pos he, if_pos he]
        refine VLe.slP (partsL_len l _).symm fun i hi => ?_
        have e : lsF cSMp (partsL l most.toNat) i = cSMp.enc ⟨false, partL l most.toNat i⟩ := by
          show cSMp.enc ((partsL l most.toNat).getD i noSMp) = _
          rw [partsL_at l hi]
        rw [e]
        exact outF_ple l _ i
      · rw [if_neg he, if_neg he]
        exact VLe.slP rfl fun i hi => absurd hi (Nat.not_lt_zero i)
    · generalize lsOf cEnt n f = l
      unfold splI splN
      by_cases he : splE ⟨b, l⟩ base most = 0
      · rw [if_pos he, if_pos he, decide_eq_true he]
        rw [← idxL_len l base]
        exact VLe.refl _
      · rw [if_neg he, if_neg he, decide_eq_false he]
        refine VLe.agg ⟨VLe.refl _, VLe.slP rfl fun i hi => absurd hi (Nat.not_lt_zero i), trivial⟩
  · cases h
attribute [push_cast] ckSplM

theorem eqE_take {α : Type} {d : α} {a b : List α} (h : a.length = b.length) (hh : ∀ j, j < a.length → a.getD j d = b.getD j d) : a = b := by
  apply List.ext_getElem h
  intro i h1 h2
  have := hh i h1
  rwa [List.getD_eq_getElem?_getD, List.getD_eq_getElem?_getD, List.getElem?_eq_getElem h1, List.getElem?_eq_getElem h2] at this
theorem neE_at {α : Type} {d : α} {a b : List α} {i : Nat} (h : a.getD i d ≠ b.getD i d) : a ≠ b := fun e => h (by rw [e])
def ckEqEnt : Ck
  | [.sl n f, .sl m g] => some (isLs cEnt n f ∧ isLs cEnt m g ∧ n ≤ 4611686018427387904, .bool (decide (lsOf cEnt n f = lsOf cEnt m g)))
  | _ => none
theorem conEqEnt : Con pg 6 ckEqEnt := by
  have hct := ctN_ok pg
  intro args q r h hq
  unfold ckEqEnt at h
  split at h
  · cases h
    rename_i n f m g
    refine pcall_args (args' := [.sl (lsOf cEnt n f).length (lsF cEnt (lsOf cEnt n f)), .sl (lsOf cEnt m g).length (lsF cEnt (lsOf cEnt m g))]) ⟨isLs.vle hq.1, isLs.vle hq.2.1, trivial⟩ ?_
    have hn : (lsOf cEnt n f).length ≤ 4611686018427387904 := by rw [lsOf_len]; exact hq.2.2
    generalize lsOf cEnt n f = a at hn ⊢
    generalize lsOf cEnt m g = b
    refine w6 (fun _ => false) [] rfl hct rfl rfl ?_
    push_cast (config := { maxSteps := 10000000 })
    refine ⟨fun h => ?_, fun h => ?_⟩
    · exact (decide_eq_false fun e => h (by rw [e])).symm
    refine LoopW.adj ⟨hct, fol⟩ (by kernel_rfl) [] (fun i : Nat => [(0, .sl a.length (lsF cEnt a)), (1, .sl b.length (lsF cEnt b)), (12, .int .i64 a.length), (13, .int .i64 i)]) (fun _ => []) (fun i => i ≤ a.length ∧ ∀ j, j < i → a.getD j noEnt = b.getD j noEnt) (fun i => a.length - i) 0 ?_ fun i hi => ?_
    · push_cast (config := { maxSteps := 10000000 })
      exact Nat.zero_le _
    · push_cast (config := { maxSteps := 10000000 })
      obtain ⟨h1, h2⟩ := hi
      refine ⟨fun hlt => ⟨hlt, by omega, fun hne => ?_, fun he => ⟨by omega, i + 1, ⟨by omega, fun j hj => ?_⟩, by omega, by omega⟩⟩, fun hge => ?_⟩
      · exact (decide_eq_false (neE_at (d := noEnt) (i := i) fun e => hne (by rw [e]) (by rw [e]) (by rw [e]))).symm
      · by_cases e : j = i
        · subst e
          have e1 : ∀ x y : Ent, x.loc = y.loc → x.day = y.day → x.wt = y.wt → x = y := fun x y h h' h'' => by cases x; cases y; simp_all
          exact e1 _ _ he.1 he.2.1 he.2.2
        · exact h2 j (by omega)
      · exact (decide_eq_true (eqE_take (d := noEnt) (by omega) fun j hj => h2 j (by omega))).symm
  · cases h
attribute [push_cast] ckEqEnt

def joinM (l : List SMp) : List Ent := (l.map SMp.en).flatten
theorem joinM_s (l : List SMp) {i : Nat} (h : i < l.length) : joinM (l.take (i + 1)) = joinM (l.take i) ++ (l.getD i noSMp).en := by
  have e : l.take (i + 1) = l.take i ++ [l.getD i noSMp] := by
    rw [List.getD_eq_getElem?_getD, List.getElem?_eq_getElem h, List.take_succ_eq_append_getElem h]; rfl
  unfold joinM
  rw [e, List.map_append, List.flatten_append]; simp
theorem joinM_le (l : List SMp) (i : Nat) : (joinM (l.take i)).length ≤ (joinM l).length := by
  have e : joinM l = joinM (l.take i) ++ joinM (l.drop i) := by
    unfold joinM
    rw [← List.flatten_append, ← List.map_append, List.take_append_drop]
  rw [e, List.length_append]; omega
def ckJoined : Ck
  | [.sl n f] => some (isLs cSMp n f ∧ n ≤ 1000000 ∧ (joinM (lsOf cSMp n f)).length ≤ 1000000, .sl (joinM (lsOf cSMp n f)).length (lsF cEnt (joinM (lsOf cSMp n f))))
  | _ => none
theorem conJoined : Con pg 7 ckJoined := by
  have hct := ctN_ok pg
  intro args q r h hq
  unfold ckJoined at h
  split at h
  · cases h
    rename_i n f
    obtain ⟨h0, h1, h2⟩ := hq
    refine pcall_args (args' := [.sl (lsOf cSMp n f).length (lsF cSMp (lsOf cSMp n f))]) ⟨isLs.vle h0, trivial⟩ ?_
    rw [← lsOf_len (c := cSMp) n f] at h1
    generalize lsOf cSMp n f = l at h1 h2 ⊢
    refine w7 (fun _ => false) [.frz 8000] rfl hct rfl rfl ?_
    push_cast (config := { maxSteps := 10000000 })
    refine LoopW.adj ⟨hct, fol⟩ (by kernel_rfl) [.nv 3 8000 3 (lsF cEnt [])] (fun i : Nat => [(3, .vec 8000 (joinM (l.take i)).length), (6, .sl l.length (lsF cSMp l)), (7, .int .i64 l.length), (8, .int .i64 i)]) (fun i => [(8000, .vec 3 (joinM (l.take i)).length (lsF cEnt (joinM (l.take i))))]) (fun i => i ≤ l.length) (fun i => l.length - i) 0 ?_ fun i hi => ?_
    · push_cast (config := { maxSteps := 10000000 })
      exact ⟨Nat.zero_le _, rfl⟩
    · have hle := joinM_le l i
      have hs := fun h => joinM_s l (i := i) h
      have hle2 := joinM_le l (i + 1)
      push_cast (config := { maxSteps := 10000000 })
      refine ⟨fun h => ?_, fun h => ?_⟩
      · rw [hs h, List.length_append] at hle2
        refine ⟨h, ⟨by omega, by omega⟩, ⟨by omega, by omega⟩, i + 1, by omega, by omega, ⟨by rw [hs h, List.length_append], by omega⟩, by rw [hs h, List.length_append], fun j hj => ?_⟩
        rw [hs h]
        exact (LsI.app (c := cEnt) (k := (joinM (l.take i)).length + (l.getD i noSMp).en.length) (f := lsF cEnt (joinM (l.take i))) (g := lsF cEnt (l.getD i noSMp).en) (LsI.ls _) (LsI.ls _) rfl).2 j hj
      · rw [List.take_of_length_le (by omega)]
        exact ⟨rfl, fun _ _ => rfl⟩
  · cases h
attribute [push_cast] ckJoined

/-- a value that stands for a coded thing -/
def isC {α : Type} (c : Cod α) (x : V) : Prop := VLe x (c.enc (c.dec x))
theorem isC_enc {α : Type} (c : Cod α) (a : α) : isC c (c.enc a) := by unfold isC; rw [c.ok]; exact VLe.refl _
/-- strings of heads are not long -/
def hdsOk (l : List Hd) : Prop := ∀ h ∈ l, h.name.length ≤ 140737488355328 ∧ h.value.length ≤ 140737488355328
theorem hdsOk_at {l : List Hd} (h : hdsOk l) {i : Nat} (hi : i < l.length) : (l.getD i ⟨[], []⟩).name.length ≤ 140737488355328 ∧ (l.getD i ⟨[], []⟩).value.length ≤ 140737488355328 := by
  rw [List.getD_eq_getElem?_getD, List.getElem?_eq_getElem hi]; exact h _ (List.getElem_mem hi)
@[push_cast] theorem lsF_hdfl (l : List Hd) (i : Nat) : (lsF cHd l i).flat = [.str (l.getD i ⟨[], []⟩).name, .str (l.getD i ⟨[], []⟩).value] := rfl
/-- an answer -/
structure Ans where
  st : Int
  re : List UInt8
  hd : List Hd
  bd : List UInt8
deriving DecidableEq
def decAns : V → Ans
  | .agg [.int _ st, .str re, .sl n f, .sl m g] => ⟨st, re, lsOf cHd n f, bytesOf m g⟩
  | _ => ⟨0, [], [], []⟩
def cAns : Cod Ans := ⟨fun a => .agg [.int .i64 a.st, .str a.re, .sl a.hd.length (lsF cHd a.hd), .sl a.bd.length (byF a.bd)], decAns, ⟨0, [], [], []⟩, fun a => by simp [decAns, lsOf_ls, bytesOf_by]⟩
@[push_cast] theorem enc_ans (a : Ans) : cAns.enc a = .agg [.int .i64 a.st, .str a.re, .sl a.hd.length (lsF cHd a.hd), .sl a.bd.length (byF a.bd)] := rfl
@[push_cast] theorem dec_ans (k : IntKind) (st : Int) (re : List UInt8) (n m : Nat) (f g : Nat → V) : cAns.dec (.agg [.int k st, .str re, .sl n f, .sl m g]) = ⟨st, re, lsOf cHd n f, bytesOf m g⟩ := rfl
theorem isC_ans {st : Int} {re : List UInt8} {n m : Nat} {f g : Nat → V} (h1 : isLs cHd n f) (h2 : isBy m g) : isC cAns (.agg [.int .i64 st, .str re, .sl n f, .sl m g]) :=
  VLe.agg ⟨VLe.refl _, VLe.refl _, isLs.vle h1, isBy.vle h2, trivial⟩
def ansOk (a : Ans) : Prop := hdsOk a.hd ∧ a.re.length ≤ 140737488355328 ∧ a.hd.length ≤ 140737488355328 ∧ a.bd.length ≤ 140737488355328
theorem reach_le : reachBytes ≤ 140737488355328 := by unfold reachBytes; omega
theorem hasL_cons {s : Sh} {ss : List Sh} {ms : List Nat} {vs : List V} (h : Sh.hasL (s :: ss) ms vs) : ∃ m v ms' vs', vs = v :: vs' ∧ s.has m v ∧ Sh.hasL ss ms' vs' := by
  cases ms with
  | nil => simp [Sh.hasL] at h
  | cons m ms => cases vs with
    | nil => simp [Sh.hasL] at h
    | cons v vs => exact ⟨m, v, ms, vs, rfl, h.1, h.2⟩
theorem hasL_nil {ms : List Nat} {vs : List V} (h : Sh.hasL [] ms vs) : vs = [] := by
  cases ms with
  | nil => cases vs with
    | nil => rfl
    | cons _ _ => simp [Sh.hasL] at h
  | cons _ _ => simp [Sh.hasL] at h
theorem shHead {m : Nat} {v : V} (h : Sh.has (.tup [.str, .str]) m v) : ∃ a, v = cHd.enc a ∧ a.name.length ≤ 140737488355328 ∧ a.value.length ≤ 140737488355328 := by
  obtain ⟨l, ms, rfl, -, hl⟩ := h
  obtain ⟨m1, v1, ms, l, rfl, h1, hl⟩ := hasL_cons hl
  obtain ⟨m2, v2, ms, l, rfl, h2, hl⟩ := hasL_cons hl
  obtain rfl := hasL_nil hl
  obtain ⟨s, rfl, -, b1⟩ := h1
  obtain ⟨t, rfl, -, b2⟩ := h2
  have := reach_le
  exact ⟨⟨s, t⟩, rfl, by show s.length ≤ _; omega, by show t.length ≤ _; omega⟩
theorem shList {α : Type} {c : Cod α} {s : Sh} {p : α → Prop} (hs : ∀ m v, s.has m v → ∃ a, v = c.enc a ∧ p a) {m : Nat} {v : V} (h : Sh.has (.list s) m v) : ∃ (n : Nat) (f : Nat → V), v = .sl n f ∧ isLs c n f ∧ n ≤ 140737488355328 ∧ ∀ a ∈ lsOf c n f, p a := by
  obtain ⟨l, ms, rfl, h1, h2, h3, h4⟩ := h
  have at' : ∀ i, i < l.length → ∃ a, litF l i = c.enc a ∧ p a := fun i hi => hs _ _ (h4 i hi)
  have := reach_le
  refine ⟨_, _, rfl, ⟨by simp [lsOf], fun i hi => ?_⟩, by omega, fun a ha => ?_⟩
  · obtain ⟨a, e, _⟩ := at' i hi
    unfold lsF lsOf
    rw [List.getD_eq_getElem?_getD, List.getElem?_map, List.getElem?_range hi]
    simp only [Option.map_some, Option.getD_some]
    rw [e, c.ok]
  · simp only [lsOf, List.mem_map, List.mem_range] at ha
    obtain ⟨i, hi, rfl⟩ := ha
    obtain ⟨a, e, hp⟩ := at' i hi
    rw [e, c.ok]; exact hp
theorem shStr {m : Nat} {v : V} (h : Sh.has .str m v) : ∃ a, v = cStr.enc a ∧ a.length ≤ 140737488355328 := by
  obtain ⟨s, rfl, -, b⟩ := h
  have := reach_le
  exact ⟨s, rfl, by omega⟩
theorem shAns {m : Nat} {v : V} (h : Sh.has (.tup [.int .i64, .str, .list (.tup [.str, .str]), .list (.int .u8)]) m v) : isC cAns v ∧ ansOk (cAns.dec v) := by
  obtain ⟨l, ms, rfl, -, hl⟩ := h
  obtain ⟨m1, v1, ms, l, rfl, h1, hl⟩ := hasL_cons hl
  obtain ⟨m2, v2, ms, l, rfl, h2, hl⟩ := hasL_cons hl
  obtain ⟨m3, v3, ms, l, rfl, h3, hl⟩ := hasL_cons hl
  obtain ⟨m4, v4, ms, l, rfl, h4, hl⟩ := hasL_cons hl
  obtain rfl := hasL_nil hl
  obtain ⟨st, rfl, _⟩ := shInt h1
  obtain ⟨re, rfl, b2⟩ := shStr h2
  obtain ⟨n, f, rfl, i3, b3, k3⟩ := shList (c := cHd) (fun m v h => shHead h) h3
  obtain ⟨k, g, rfl, i4, b4⟩ := shBytes h4
  have := reach_le
  refine ⟨isC_ans i3 i4, ?_⟩
  show ansOk ⟨st, re, lsOf cHd n f, bytesOf k g⟩
  refine ⟨k3, b2, ?_, ?_⟩
  · show (lsOf cHd n f).length ≤ _
    rw [lsOf_len]; exact b3
  · show (bytesOf k g).length ≤ _
    rw [bytesOf_len]; omega
theorem hasD2 {H : Type} {s1 s2 : Sh} {ds : List (DataW H)} (h : hasD [s1, s2] ds) : ∃ a b, ds = [a, b] ∧ s1.has (bulkD a) (toV a) ∧ s2.has (bulkD b) (toV b) := by
  match ds, h with
  | [a, b], ⟨h1, h2, _⟩ => exact ⟨a, b, rfl, h1, h2⟩
theorem hasD1 {H : Type} {s1 : Sh} {ds : List (DataW H)} (h : hasD [s1] ds) : ∃ a, ds = [a] ∧ s1.has (bulkD a) (toV a) := by
  match ds, h with
  | [a], ⟨h1, _⟩ => exact ⟨a, rfl, h1⟩
theorem hasD4 {H : Type} {s1 s2 s3 s4 : Sh} {ds : List (DataW H)} (h : hasD [s1, s2, s3, s4] ds) : ∃ a b c d, ds = [a, b, c, d] ∧ s1.has (bulkD a) (toV a) ∧ s2.has (bulkD b) (toV b) ∧ s3.has (bulkD c) (toV c) ∧ s4.has (bulkD d) (toV d) := by
  match ds, h with
  | [a, b, c, d], ⟨h1, h2, h3, h4, _⟩ => exact ⟨a, b, c, d, rfl, h1, h2, h3, h4⟩
@[push_cast] theorem isC_ansT (a : Ans) : isC cAns (.agg [.int .i64 a.st, .str a.re, .sl a.hd.length (lsF cHd a.hd), .sl a.bd.length (byF a.bd)]) = True := eq_true (isC_enc cAns a)
@[push_cast] theorem ans_eta (a : Ans) : (⟨a.st, a.re, a.hd, a.bd⟩ : Ans) = a := rfl

/- a list of a site as an argument -/
def entOk (e : Ent) : Prop := e.loc.length ≤ 140737488355328 ∧ -9223372036854775808 ≤ e.day ∧ e.day ≤ 9223372036854775807 ∧ -9223372036854775808 ≤ e.wt ∧ e.wt ≤ 9223372036854775807
abbrev sEnt : Sh := .tup [.str, .int .i64, .int .i64]
abbrev sSMp : Sh := .tup [.bool, .list sEnt]
theorem shEnt {m : Nat} {v : V} (h : Sh.has sEnt m v) : ∃ a, v = cEnt.enc a ∧ entOk a := by
  obtain ⟨l, ms, rfl, -, hl⟩ := h
  obtain ⟨m1, v1, ms, l, rfl, h1, hl⟩ := hasL_cons hl
  obtain ⟨m2, v2, ms, l, rfl, h2, hl⟩ := hasL_cons hl
  obtain ⟨m3, v3, ms, l, rfl, h3, hl⟩ := hasL_cons hl
  obtain rfl := hasL_nil hl
  obtain ⟨s, rfl, b1⟩ := shStr h1
  obtain ⟨d, rfl, c2⟩ := shInt h2
  obtain ⟨w, rfl, c3⟩ := shInt h3
  simp only [Lit.wf, Bool.and_eq_true, decide_eq_true_eq] at c2 c3
  exact ⟨⟨s, d, w⟩, rfl, b1, c2.1, c2.2, c3.1, c3.2⟩
theorem shSMp {m : Nat} {v : V} (h : Sh.has sSMp m v) : ∃ b n f, v = .agg [.bool b, .sl n f] ∧ isLs cEnt n f ∧ n ≤ 140737488355328 ∧ ∀ e ∈ lsOf cEnt n f, entOk e := by
  obtain ⟨l, ms, rfl, -, hl⟩ := h
  obtain ⟨m1, v1, ms, l, rfl, h1, hl⟩ := hasL_cons hl
  obtain ⟨m2, v2, ms, l, rfl, h2, hl⟩ := hasL_cons hl
  obtain rfl := hasL_nil hl
  obtain ⟨b, rfl, _⟩ := h1
  obtain ⟨n, f, rfl, i1, b1, k1⟩ := shList (c := cEnt) (fun m v h => shEnt h) h2
  exact ⟨b, n, f, rfl, i1, b1, k1⟩

def ckLawSL : Ck
  | [.agg [.bool b, .sl n f], .str base, .int .i64 most] => some (isLs cEnt n f ∧ n ≤ 140737488355328 ∧ base.length ≤ 140737488355328, .bool true)
  | _ => none
theorem conLawSL : Con pg 3 ckLawSL := by
  have hct := (ctA_ok conSplM (ctA_ok conJoined (ctA_ok conEqEnt (ctA_ok conAwake4 (ctN_ok _)))))
  intro args q r h hq
  unfold ckLawSL at h
  split at h
  · cases h
    rename_i b n f base most
    obtain ⟨h0, hn, hb⟩ := hq
    rw [← lsOf_len (c := cEnt) n f] at hn
    refine pcall_args (args' := [.agg [.bool b, .sl (lsOf cEnt n f).length (lsF cEnt (lsOf cEnt n f))], .str base, .int .i64 most]) ⟨VLe.agg ⟨VLe.refl _, h0.vle, trivial⟩, VLe.refl _, VLe.refl _, trivial⟩ ?_
    generalize lsOf cEnt n f = l at hn ⊢
    refine w3 (fun _ => false) [] rfl hct rfl rfl ?_
    push_cast (config := { maxSteps := 10000000 })
    refine ⟨⟨by omega, hb⟩, fun h => by unfold splO; rw [if_neg h]; rfl, fun h => ?_⟩
    have hO : splO ⟨b, l⟩ base most = partsL l most.toNat := by unfold splO; rw [if_pos h]
    have hI : splI ⟨b, l⟩ base most = ⟨true, idxL l base most.toNat⟩ := by unfold splI; rw [if_pos h]
    rw [hO, hI]
    have h0 : chkM ⟨b, l⟩ = 0 ∧ b = false ∧ 1 ≤ most ∧ most ≤ 1000 := by
      unfold splE at h
      split at h
      · rename_i z; exact absurd h z
      · rename_i z
        split at h
        · cases h
        · rename_i z2
          split at h
          · cases h
          · exact ⟨by simpa using z, by simpa using z2, by omega, by omega⟩
    obtain ⟨hc, -, hm1, hm2⟩ := h0
    have hl1 : l.length ≤ 1000 := by
      unfold chkM at hc
      split at hc
      · cases hc
      · rename_i z; exact Nat.le_of_not_lt z
    obtain ⟨k, rfl⟩ : ∃ k : Nat, most = k := ⟨most.toNat, by omega⟩
    simp only [Int.toNat_natCast] at *
    have hk : 1 ≤ k := by omega
    have hcl := cntP_le (n := l.length) hk
    have hpl := partsL_len l k
    have hil := idxL_len l base k
    have hJ : joinM (partsL l k) = l := by
      unfold joinM partsL
      rw [List.map_map]
      exact parts_all l hk
    refine LoopW.adj ⟨hct, fol⟩ (by kernel_rfl) [] (fun i : Nat => [(2, .int .i64 (k : Int)), (3, .ptr 3 0), (7, .sl (partsL l k).length (lsF cSMp (partsL l k))), (8, .ptr 8 0), (28, .sl (partsL l k).length (lsF cSMp (partsL l k))), (29, .int .i64 (partsL l k).length), (30, .int .i64 i)]) (fun _ => [(3, .cells [.bool b, .sl l.length (lsF cEnt l)]), (8, .cells [.bool true, .sl (idxL l base k).length (lsF cEnt (idxL l base k))])]) (fun i => i ≤ (partsL l k).length) (fun i => (partsL l k).length - i) 0 ?_ fun i hi => ?_
    · push_cast (config := { maxSteps := 10000000 })
      exact Nat.zero_le _
    · have hat := fun h => partsL_at l (k := k) (j := i) h
      have hlen := partL_len l k i
      have hci := cntP_iff (n := l.length) (k := k) (j := i) hk
      push_cast (config := { maxSteps := 10000000 })
      refine ⟨fun h => ⟨h, fun z => ?_, fun z => ⟨⟨by omega, by omega⟩, i + 1, by omega, by omega, by omega⟩⟩, fun h => ⟨⟨by omega, by rw [hJ]; omega⟩, by rw [hJ]; omega, hJ, by omega⟩⟩
      have h' : i < cntP l.length k := by omega
      rw [hat h'] at z
      have := hci.1 h'
      rcases z with (z | z) | z
      · have z : ((partL l k i).length : Int) = 0 := z
        omega
      · have z : k < (partL l k i).length := z
        omega
      · cases z
  · cases h
attribute [push_cast] ckLawSL
theorem allLawSL {H : Type} (ds : List (DataW H)) (hh : hasD [sSMp, .str, .int .i64] ds) : PCall pg 3 (ds.map toV) (.bool true) := by
  obtain ⟨d1, d2, d3, rfl, x, y, z⟩ := hasD3 hh
  obtain ⟨b, n, f, e1, i1, b1, -⟩ := shSMp x
  obtain ⟨s, e2, b2⟩ := shStr y
  obtain ⟨m, e3, _⟩ := shInt z
  simp only [List.map_cons, List.map_nil, e1, e2, e3]
  exact conLawSL _ _ _ rfl ⟨i1, b1, b2⟩

end Go.Abs
