/- what functions of this program compute: contracts, each a function's own -/
import Derived.Test.YtmnokccdnjokoaaDoorAbsK2
import Derived.Test.YtmnokccdnjokoaaDoorAbsFacts
import Derived.Test.YtmnokccdnjokoaaDoorAbsF3
import Derived.Test.YtmnokccdnjokoaaDoorAbsShelf
import Derived.Lib.SlTrimSet
import Derived.Lib.Atoi
import Derived.Lib.Itoa
import Derived.Lib.ItoaNum
import Derived.Lib.AtoiErrMem
import Derived.Lib.ItoaLen
namespace Go.Abs
open Go Go.Proofs
set_option maxHeartbeats 4000000
set_option maxRecDepth 100000
set_option linter.unusedVariables false
set_option linter.unusedSimpArgs false
theorem ncall_argsW {f : FuncId} {args args' : List V} {r : V} {nb : Blk} (hv : vleL args args') (h : NCall pg f args' r nb) : NCall pg f args r nb := by
  intro S vals hs hh hlen hr
  exact h S vals hs hh (hlen.trans (vleL_len hv)) fun i hi => vleL_at hv i _ _ _ _ (hr i (by rw [vleL_len hv]; exact hi))
@[push_cast] theorem vle1_mapT (i : Nat) : vle1 (.map i) (.map i) = True := eq_true rfl
/- the closure: its map lies in a block of the caller's -/
def goneB (h : MK → Option V) (r : Rcd) : Bool := asB false (h (.str r.id))
def ckWAK : List V → List Blk → Option (Prop × V × List Blk)
  | [.agg [.int .i64 ki, .str id, .str ow, .int .i64 ti, .str ke, x, y], .ptr 9007 0], [.cells [.map 9023], .mp .str h] => some (∀ k, okB (h k), .bool (asB false (h (.str id))), [.cells [.map 9023], .mp .str h])
  | _, _ => none
def ckWA : Cf := ⟨fun | [_, .ptr 9007 _] => [9007, 9023] | _ => [], ckWAK⟩
theorem conWA : FCon pg 20 ckWA := by
  have hct := ctN_ok pg
  intro args bs q r bs' h hq
  replace h : ckWAK args bs = some (q, r, bs') := h
  unfold ckWAK at h
  split at h
  · cases h
    rename_i ki id ow ti ke x y h
    refine ⟨rfl, by first | exact Nat.le_refl _ | exact Nat.zero_le _, ?_⟩
    show FCall pg 20 [.agg [.int .i64 ki, .str id, .str ow, .int .i64 ti, .str ke, x.shift, y.shift], .ptr 18007 0] [(18007, .cells [.map 18023]), (18023, .mp .str h)] (.bool (asB false (h (.str id)))) [(18007, .cells [.map 18023]), (18023, .mp .str h)]
    refine fw20 (fun _ => false) [] rfl hct rfl (by simp) (by simp [hlIn, idsIn, Blk.menIn, V.menInL, V.menIn, V.flat, byF, lsF]) (by simp [V.menIn, V.menInL, idsIn]) ?_
    push_cast (config := { maxSteps := 10000000 })
    exact hq _
  · cases h
attribute [push_cast] ckWAK
@[push_cast] theorem wa_ids (x : V) (o : Nat) : ckWA.ids [x, .ptr 9007 o] = [9007, 9023] := rfl
@[push_cast] theorem wa_k {id ow ke : List UInt8} {ki ti : Int} {x y : V} {h : MK → Option V} : ckWA.k [.agg [.int .i64 ki, .str id, .str ow, .int .i64 ti, .str ke, x, y], .ptr 9007 0] [.cells [.map 9023], .mp .str h] = some (∀ k, okB (h k), .bool (asB false (h (.str id))), [.cells [.map 9023], .mp .str h]) := rfl
/- the same, one call deeper -/
def ckWBK : List V → List Blk → Option (Prop × V × List Blk)
  | [.agg [.int .i64 ki, .str id, .str ow, .int .i64 ti, .str ke, x, y], .ptr 18007 0], [.cells [.map 18023], .mp .str h] => some (∀ k, okB (h k), .bool (asB false (h (.str id))), [.cells [.map 18023], .mp .str h])
  | _, _ => none
def ckWB : Cf := ⟨fun | [_, .ptr 18007 _] => [18007, 18023] | _ => [], ckWBK⟩
theorem conWB : FCon pg 20 ckWB := by
  have hct := ctN_ok pg
  intro args bs q r bs' h hq
  replace h : ckWBK args bs = some (q, r, bs') := h
  unfold ckWBK at h
  split at h
  · cases h
    rename_i ki id ow ti ke x y h
    refine ⟨rfl, by first | exact Nat.le_refl _ | exact Nat.zero_le _, ?_⟩
    show FCall pg 20 [.agg [.int .i64 ki, .str id, .str ow, .int .i64 ti, .str ke, x.shift, y.shift], .ptr 27007 0] [(27007, .cells [.map 27023]), (27023, .mp .str h)] (.bool (asB false (h (.str id)))) [(27007, .cells [.map 27023]), (27023, .mp .str h)]
    refine fw20 (fun _ => false) [] rfl hct rfl (by simp) (by simp [hlIn, idsIn, Blk.menIn, V.menInL, V.menIn, V.flat, byF, lsF]) (by simp [V.menIn, V.menInL, idsIn]) ?_
    push_cast (config := { maxSteps := 10000000 })
    exact hq _
  · cases h
attribute [push_cast] ckWBK
@[push_cast] theorem wb_ids (x : V) (o : Nat) : ckWB.ids [x, .ptr 18007 o] = [18007, 18023] := rfl
@[push_cast] theorem wb_k {id ow ke : List UInt8} {ki ti : Int} {x y : V} {h : MK → Option V} : ckWB.k [.agg [.int .i64 ki, .str id, .str ow, .int .i64 ti, .str ke, x, y], .ptr 18007 0] [.cells [.map 18023], .mp .str h] = some (∀ k, okB (h k), .bool (asB false (h (.str id))), [.cells [.map 18023], .mp .str h]) := rfl
/-- the first record that is gone -/
def fstG (h : MK → Option V) (l : List Rcd) : Int := match l.findIdx? (goneB h) with
  | some k => k
  | none => -1
theorem fstG_at {h : MK → Option V} {l : List Rcd} {i : Nat} (hi : i < l.length) (hg : goneB h (l.getD i noRec) = true) (hn : ∀ j, j < i → goneB h (l.getD j noRec) = false) : fstG h l = i := by
  unfold fstG
  have : l.findIdx? (goneB h) = some i := by
    rw [List.findIdx?_eq_some_iff_getElem]
    refine ⟨hi, ?_, fun j hj => ?_⟩
    · rw [List.getD_eq_getElem?_getD, List.getElem?_eq_getElem hi] at hg; exact hg
    · have h1 := hn j hj
      rw [List.getD_eq_getElem?_getD, List.getElem?_eq_getElem (by omega)] at h1
      simpa using h1
  rw [this]
theorem fstG_no {h : MK → Option V} {l : List Rcd} (hn : ∀ j, j < l.length → goneB h (l.getD j noRec) = false) : fstG h l = -1 := by
  unfold fstG
  have : l.findIdx? (goneB h) = none := by
    rw [List.findIdx?_eq_none_iff]
    intro x hx
    obtain ⟨j, hj, rfl⟩ := List.getElem_of_mem hx
    have h1 := hn j hj
    rw [List.getD_eq_getElem?_getD, List.getElem?_eq_getElem hj] at h1
    exact h1
  rw [this]
theorem fstG_b (h : MK → Option V) (l : List Rcd) : (fstG h l = -1 ∧ ∀ x ∈ l, goneB h x = false) ∨ ∃ k : Nat, fstG h l = k ∧ k < l.length ∧ ∀ x ∈ l.take k, goneB h x = false := by
  unfold fstG
  cases e : l.findIdx? (goneB h) with
  | none => exact .inl ⟨rfl, List.findIdx?_eq_none_iff.1 e⟩
  | some k =>
    rw [List.findIdx?_eq_some_iff_getElem] at e
    obtain ⟨hk, h1, h2⟩ := e
    refine .inr ⟨k, rfl, hk, fun x hx => ?_⟩
    obtain ⟨j, hj, rfl⟩ := List.getElem_of_mem hx
    rw [List.length_take] at hj
    have := h2 j (by omega)
    rw [List.getElem_take]
    simpa using this
def ckIxWK : List V → List Blk → Option (Prop × V × List Blk)
  | [.vec 9067 n, .fn (.func 20) [] [.ptr 9007 0]], [.vec 7 k f, .cells [.map 9023], .mp .str h] => some (k = n ∧ isLs cRec n f ∧ n ≤ 1000000 ∧ ∀ k, okB (h k), .int .i64 (fstG h (lsOf cRec n f)), [.vec 7 k (lsF cRec (lsOf cRec n f)), .cells [.map 9023], .mp .str h])
  | _, _ => none
def ckIxW : Cf := ⟨fun | [.vec 9067 _, .fn _ _ [.ptr 9007 _]] => [9067, 9007, 9023] | _ => [], ckIxWK⟩
theorem conIxW : FCon pg 34 ckIxW := by
  have hct := (ctF_ok conWB (ctN_ok _))
  intro args bs q r bs' h hq
  replace h : ckIxWK args bs = some (q, r, bs') := h
  unfold ckIxWK at h
  split at h
  · cases h
    rename_i n k f h
    refine ⟨rfl, by first | exact Nat.le_refl _ | exact Nat.zero_le _, ?_⟩
    obtain ⟨rfl, hf, hn, ho⟩ := hq
    have hk := lsOf_len (c := cRec) k f
    show FCall pg 34 [.vec 18067 k, .fn (.func 20) [] [.ptr 18007 0]] [(18067, .vec 7 k fun j => V.shift (f j)), (18007, .cells [.map 18023]), (18023, .mp .str h)] (.int .i64 (fstG h (lsOf cRec k f))) [(18067, .vec 7 k fun j => V.shift (lsF cRec (lsOf cRec k f) j)), (18007, .cells [.map 18023]), (18023, .mp .str h)]
    refine fcall_blk (hm := [(18067, .vec 7 (lsOf cRec k f).length (lsF cRec (lsOf cRec k f))), (18007, .cells [.map 18023]), (18023, .mp .str h)]) ⟨rfl, ⟨rfl, hk.symm, fun j hj => by show V.shift (f j) = _; rw [hf.2 j hj]; rfl⟩, rfl, ⟨rfl, trivial⟩, rfl, ⟨rfl, fun _ => rfl⟩, trivial⟩ ?_
    generalize lsOf cRec k f = l at hk ⊢
    subst hk
    show FCall pg 34 [.vec 18067 l.length, .fn (.func 20) [] [.ptr 18007 0]] [(18067, .vec 7 l.length (lsF cRec l)), (18007, .cells [.map 18023]), (18023, .mp .str h)] (.int .i64 (fstG h l)) [(18067, .vec 7 l.length (lsF cRec l)), (18007, .cells [.map 18023]), (18023, .mp .str h)]
    refine fw34 (fun _ => false) [] rfl hct rfl (by simp) ?_ rfl ?_
    · have hm : ∀ j, V.menInL (idsIn [(18067, Blk.vec 7 l.length (lsF cRec l)), (18007, Blk.cells [V.map 18023]), (18023, Blk.mp MD.str h)]) (lsF cRec l j).flat = true := fun j => rfl
      simp [hlIn, Blk.menIn, hm]
      exact ⟨rfl, rfl, rfl, rfl⟩
    push_cast (config := { maxSteps := 10000000 })
    refine LoopW.adj ⟨hct, fol⟩ (by kernel_rfl) [] (fun k : Nat => [(0, .vec 18067 l.length), (1, .fn (.func 20) [] [.ptr 18007 0]), (7, .int .i64 l.length), (8, .int .i64 k)]) (fun _ => [(18067, .vec 7 l.length (lsF cRec l)), (18007, .cells [.map 18023]), (18023, .mp .str h)]) (fun k => k ≤ l.length ∧ ∀ j, j < k → goneB h (l.getD j noRec) = false) (fun k => l.length - k) 0 ?_ fun k hk => ?_
    · push_cast (config := { maxSteps := 10000000 })
      exact Nat.zero_le _
    · push_cast (config := { maxSteps := 10000000 })
      obtain ⟨h1, h2⟩ := hk
      refine ⟨fun h3 => ⟨h3, h3, ho, fun h4 => (fstG_at h3 h4 h2).symm, fun h4 => ⟨⟨by omega, by omega⟩, k + 1, ⟨by omega, fun j hj => ?_⟩, by omega, by omega⟩⟩, fun h3 => (fstG_no fun j hj => h2 j (by omega)).symm⟩
      by_cases e : j = k
      · subst e; exact h4
      · exact h2 j (by omega)
  · cases h
attribute [push_cast] ckIxWK
@[push_cast] theorem ixW_ids (n o : Nat) (f : Fn) : ckIxW.ids [.vec 9067 n, .fn f [] [.ptr 9007 o]] = [9067, 9007, 9023] := rfl
@[push_cast] theorem ixW_k {n k : Nat} {f : Nat → V} {h : MK → Option V} : ckIxW.k [.vec 9067 n, .fn (.func 20) [] [.ptr 9007 0]] [.vec 7 k f, .cells [.map 9023], .mp .str h] = some (k = n ∧ isLs cRec n f ∧ n ≤ 1000000 ∧ ∀ k, okB (h k), .int .i64 (fstG h (lsOf cRec n f)), [.vec 7 k (lsF cRec (lsOf cRec n f)), .cells [.map 9023], .mp .str h]) := rfl
/-- what is kept -/
def keepH (h : MK → Option V) (l : List Rcd) : List Rcd := l.filter fun r => !goneB h r
/-- the row, when so many are done -/
def delR (h : MK → Option V) (l : List Rcd) (j : Nat) : List Rcd := keepH h (l.take j) ++ l.drop (keepH h (l.take j)).length
theorem keep_le (h : MK → Option V) (l : List Rcd) (j : Nat) (hj : j ≤ l.length) : (keepH h (l.take j)).length ≤ j := by
  have := List.length_filter_le (fun r => !goneB h r) (l.take j)
  rw [List.length_take] at this
  unfold keepH; omega
theorem delR_len (h : MK → Option V) (l : List Rcd) (j : Nat) (hj : j ≤ l.length) : (delR h l j).length = l.length := by
  have := keep_le h l j hj
  unfold delR
  rw [List.length_append, List.length_drop]; omega
theorem delR_at {h : MK → Option V} {l : List Rcd} {j : Nat} (hj : j < l.length) : (delR h l j).getD j noRec = l.getD j noRec := by
  have := keep_le h l j (by omega)
  unfold delR
  rw [List.getD_eq_getElem?_getD, List.getD_eq_getElem?_getD, List.getElem?_append_right this, List.getElem?_drop]
  congr 2; omega
theorem keep_succ {h : MK → Option V} {l : List Rcd} {j : Nat} (hj : j < l.length) : keepH h (l.take (j + 1)) = if goneB h (l.getD j noRec) = true then keepH h (l.take j) else keepH h (l.take j) ++ [l.getD j noRec] := by
  rw [takeG (d := noRec) hj]
  unfold keepH
  rw [List.filter_append, List.filter_cons]
  cases goneB h (l.getD j noRec) <;> simp
theorem delR_gone {h : MK → Option V} {l : List Rcd} {j : Nat} (hj : j < l.length) (hg : goneB h (l.getD j noRec) = true) : delR h l (j + 1) = delR h l j := by
  unfold delR; rw [keep_succ hj, if_pos hg]
theorem delR_put {h : MK → Option V} {l : List Rcd} {j : Nat} (hj : j < l.length) (hg : ¬ goneB h (l.getD j noRec) = true) (i : Nat) : setF (lsF cRec (delR h l j)) (keepH h (l.take j)).length (cRec.enc (l.getD j noRec)) i = lsF cRec (delR h l (j + 1)) i := by
  have hk := keep_le h l j (by omega)
  unfold delR
  rw [keep_succ hj, if_neg hg]
  generalize keepH h (l.take j) = a at hk ⊢
  generalize l.getD j noRec = r
  unfold setF lsF
  show _ = cRec.enc _
  by_cases e : i = a.length
  · rw [decide_eq_true e, cond_true]; subst e; simp
  · rw [decide_eq_false e, cond_false]
    show cRec.enc _ = cRec.enc _
    congr 1
    rw [List.getD_eq_getElem?_getD, List.getD_eq_getElem?_getD, List.length_append, List.length_singleton]
    by_cases e2 : i < a.length
    · rw [List.getElem?_append_left e2, List.getElem?_append_left (by simp; omega), List.getElem?_append_left e2]
    · rw [List.getElem?_append_right (by omega), List.getElem?_append_right (by simp; omega), List.getElem?_drop, List.getElem?_drop, List.length_append, List.length_singleton]
      congr 2; omega
theorem keep_none {h : MK → Option V} {l : List Rcd} (hn : ∀ x ∈ l, goneB h x = false) : keepH h l = l := by
  unfold keepH
  rw [List.filter_eq_self]
  intro x hx; rw [hn x hx]; rfl
theorem delR_begin {h : MK → Option V} {l : List Rcd} {k : Nat} (hk : k ≤ l.length) (hn : ∀ x ∈ l.take k, goneB h x = false) : delR h l k = l ∧ (keepH h (l.take k)).length = k := by
  have e := keep_none hn
  unfold delR
  rw [e, List.length_take, Nat.min_eq_left hk, List.take_append_drop]
  exact ⟨rfl, rfl⟩
theorem delR_end {h : MK → Option V} {l : List Rcd} (i : Nat) (hi : i < (keepH h l).length) : lsF cRec (delR h l l.length) i = lsF cRec (keepH h l) i := by
  unfold lsF delR
  rw [List.take_length]
  show cRec.enc _ = cRec.enc _
  rw [List.getD_eq_getElem?_getD, List.getD_eq_getElem?_getD, List.getElem?_append_left hi]
def ckDelWK : List V → List Blk → Option (Prop × V × List Blk)
  | [.vec 67 n, .fn (.func 20) [] [.ptr 7 0]], [.vec 7 k f, .cells [.map 23], .mp .str h] => some (k = n ∧ isLs cRec n f ∧ n ≤ 1000000 ∧ ∀ k, okB (h k), .sl (keepH h (lsOf cRec n f)).length (lsF cRec (keepH h (lsOf cRec n f))), [])
  | _, _ => none
def ckDelW : Cf := ⟨fun | [.vec 67 _, .fn _ _ [.ptr 7 _]] => [67, 7, 23] | _ => [], ckDelWK⟩
theorem conDelW : FCon pg 19 ckDelW := by
  have hct := (ctF_ok conIxW (ctF_ok conWA (ctN_ok _)))
  intro args bs q r bs' h hq
  replace h : ckDelWK args bs = some (q, r, bs') := h
  unfold ckDelWK at h
  split at h
  · cases h
    rename_i n k f h
    refine ⟨rfl, by first | exact Nat.le_refl _ | exact Nat.zero_le _, ?_⟩
    obtain ⟨rfl, hf, hn, ho⟩ := hq
    have hk := lsOf_len (c := cRec) k f
    show FCall pg 19 [.vec 9067 k, .fn (.func 20) [] [.ptr 9007 0]] [(9067, .vec 7 k fun j => V.shift (f j)), (9007, .cells [.map 9023]), (9023, .mp .str h)] (.sl (keepH h (lsOf cRec k f)).length (lsF cRec (keepH h (lsOf cRec k f)))) []
    refine fcall_blk (hm := [(9067, .vec 7 (lsOf cRec k f).length (lsF cRec (lsOf cRec k f))), (9007, .cells [.map 9023]), (9023, .mp .str h)]) ⟨rfl, ⟨rfl, hk.symm, fun j hj => by show V.shift (f j) = _; rw [hf.2 j hj]; rfl⟩, rfl, ⟨rfl, trivial⟩, rfl, ⟨rfl, fun _ => rfl⟩, trivial⟩ ?_
    generalize lsOf cRec k f = l at hk ⊢
    subst hk
    refine fw19 (fun _ => false) [.frz 9067] rfl hct rfl (by simp) trivial rfl ?_
    push_cast (config := { maxSteps := 10000000 })
    refine ⟨⟨hn, ho⟩, fun h1 => ?_, fun h1 => ?_⟩
    · rcases fstG_b h l with ⟨_, e⟩ | ⟨k, e, _⟩
      · rw [keep_none e]; exact ⟨rfl, fun _ _ => rfl⟩
      · omega
    rcases fstG_b h l with ⟨e, _⟩ | ⟨k, e, hk, hg⟩
    · exact absurd e h1
    rw [e]
    obtain ⟨b1, b2⟩ := delR_begin (by omega : k ≤ l.length) hg
    have hg1 : goneB h (l.getD k noRec) = true := by
      unfold fstG at e
      cases e2 : l.findIdx? (goneB h) with
      | none => rw [e2] at e; have e : (-1 : Int) = k := e; omega
      | some k' =>
        rw [e2] at e
        have e : (k' : Int) = k := e
        obtain rfl : k' = k := by omega
        rw [List.findIdx?_eq_some_iff_getElem] at e2
        rw [List.getD_eq_getElem?_getD, List.getElem?_eq_getElem hk]; exact e2.2.1
    refine ⟨⟨by omega, by omega⟩, ?_⟩
    refine LoopW.adj ⟨hct, fol⟩ (by kernel_rfl) [] (fun j : Nat => [(0, .vec 9067 l.length), (1, .fn (.func 20) [] [.ptr 9007 0]), (5, .int .i64 (keepH h (l.take j)).length), (6, .int .i64 j)]) (fun j => [(9067, .vec 7 l.length (lsF cRec (delR h l j))), (9007, .cells [.map 9023]), (9023, .mp .str h)]) (fun j => j ≤ l.length) (fun j => l.length - j) (k + 1) ?_ fun j hj => ?_
    · push_cast (config := { maxSteps := 10000000 })
      have e1 : delR h l (k + 1) = l := (delR_gone hk hg1).trans b1
      rw [e1, keep_succ hk, if_pos hg1]
      exact ⟨by omega, b2.symm, fun _ _ => rfl⟩
    · have hj : j ≤ l.length := hj
      push_cast (config := { maxSteps := 10000000 })
      have hkl := keep_le h l j hj
      refine ⟨fun hlt => ⟨hlt, hlt, ho, fun hc => ?_, fun hc => ?_⟩, fun hge => ?_⟩
      · rw [delR_at hlt] at hc
        have hg : ¬ goneB h (l.getD j noRec) = true := by unfold goneB; rw [hc]; simp
        refine ⟨by omega, by omega, ⟨by omega, by omega⟩, ⟨by omega, by omega⟩, j + 1, by omega, by omega, ⟨?_, by omega⟩, fun i hi => ?_⟩
        · rw [keep_succ hlt, if_neg hg]; simp
        · refine Eq.trans ?_ (delR_put hlt hg i)
          rw [delR_at hlt]; rfl
      · rw [delR_at hlt] at hc
        have hg : goneB h (l.getD j noRec) = true := hc
        refine ⟨⟨by omega, by omega⟩, j + 1, by omega, by omega, ⟨?_, by omega⟩, fun i hi => ?_⟩
        · rw [keep_succ hlt, if_pos hg]
        · rw [delR_gone hlt hg]
      · obtain rfl : j = l.length := by omega
        rw [List.take_length] at hkl ⊢
        refine ⟨hkl, hkl, fun i hi => ?_, rfl, fun i hi => ?_⟩
        · unfold insF
          cases decide ((keepH h l).length ≤ i ∧ i < (keepH h l).length + (l.length - (keepH h l).length)) <;> rfl
        · unfold shF insF
          rw [decide_eq_false (by omega)]
          exact delR_end i hi
  · cases h
attribute [push_cast] ckDelWK
@[push_cast] theorem delW_ids (n : Nat) (o : Nat) (f : Fn) : ckDelW.ids [.vec 67 n, .fn f [] [.ptr 7 o]] = [67, 7, 23] := rfl
@[push_cast] theorem delW_k {n k : Nat} {f : Nat → V} {h : MK → Option V} : ckDelW.k [.vec 67 n, .fn (.func 20) [] [.ptr 7 0]] [.vec 7 k f, .cells [.map 23], .mp .str h] = some (k = n ∧ isLs cRec n f ∧ n ≤ 1000000 ∧ ∀ k, okB (h k), .sl (keepH h (lsOf cRec n f)).length (lsF cRec (keepH h (lsOf cRec n f))), []) := rfl
def ckCopiesN : List V → Option (Prop × V × Blk)
  | [.sl n f] => some (isLs cRec n f ∧ recsOk (lsOf cRec n f) ∧ (∀ r ∈ lsOf cRec n f, r.hd.length ≤ 1000000) ∧ n ≤ 1000000, .vec 8999 n, .vec 7 n (lsF cRec (lsOf cRec n f)))
  | _ => none
theorem conCopiesN : NCon pg 13 ckCopiesN := by
  have hct := (ctA_ok conCloneHd (ctA_ok conCloneBy (ctW_ok conCloneRec (ctN_ok _))))
  intro args q r nb h hq
  unfold ckCopiesN at h
  split at h
  · cases h
    rename_i n f
    refine ncall_argsW (args' := [.sl (lsOf cRec n f).length (lsF cRec (lsOf cRec n f))]) ⟨isLs.vle hq.1, trivial⟩ ?_
    obtain ⟨-, hl, hh, hn⟩ := hq
    have hk := lsOf_len (c := cRec) n f
    generalize lsOf cRec n f = l at hl hh hk ⊢
    subst hk
    refine nw13 (fun _ => false) [.ren 6 8999] rfl hct rfl rfl ?_ ?_
    · intro i hi; rfl
    push_cast (config := { maxSteps := 10000000 })
    refine ⟨hn, ?_⟩
    refine LoopW.adj ⟨hct, fol⟩ (by kernel_rfl) [] (fun i : Nat => [(3, .vec 6 l.length), (8, .int .i64 l.length), (9, .int .i64 i)]) (fun _ => [(6, .vec 7 l.length (lsF cRec l))]) (fun i => i ≤ l.length) (fun i => l.length - i) 0 ?_ fun i hi => ?_
    · push_cast (config := { maxSteps := 10000000 })
      exact Nat.zero_le _
    · push_cast (config := { maxSteps := 10000000 })
      intro h
      have ok := recsOk_at hl h
      have h30 : (l.getD i noRec).hd.length ≤ 1000000 := hh _ (by rw [List.getD_eq_getElem?_getD, List.getElem?_eq_getElem h]; exact List.getElem_mem h)
      refine ⟨h, h, by omega, h, h, ok.2.2.2.2.2.1, h, h, h, h, ⟨by omega, by omega⟩, i + 1, by omega, by omega, by omega, fun k hk => ?_⟩
      have e := setF_self (lsF cRec l) i
      show setF (setF (lsF cRec l) i (lsF cRec l i)) i (reV (setF (lsF cRec l) i (lsF cRec l i) i) (setR (setF (lsF cRec l) i (lsF cRec l i) i).flat 6 [V.sl (l.getD i noRec).bd.length (byF (l.getD i noRec).bd)])) k = lsF cRec l k
      rw [e]
      exact congrFun e k
  · cases h
attribute [push_cast] ckCopiesN
/- seen names -/
theorem goneB_seen (s : List (List UInt8)) (r : Rcd) : goneB (seenM s) r = s.contains r.id := asB_seen s r.id
theorem keep_seen (s : List (List UInt8)) (l : List Rcd) : keepH (seenM s) l = woK l s := by
  unfold keepH woK
  congr 1
  funext r
  rw [goneB_seen]
def ckWithout : Ck
  | [.sl n f, .sl m g] => some (isLs cRec n f ∧ recsOk (lsOf cRec n f) ∧ isLs cStr m g ∧ (∀ x ∈ lsOf cStr m g, x.length ≤ 140737488355328), .tup [.sl (woL (lsOf cRec n f) (lsOf cStr m g)).length (lsF cRec (woL (lsOf cRec n f) (lsOf cStr m g))), .int .i64 (woErr (lsOf cRec n f) (lsOf cStr m g))])
  | _ => none
theorem conWithout : Con pg 9 ckWithout := by
  have hct := (ctA_ok conCheckFile (ctA_ok conIsName (ctA_ok conFind6 (ctW_ok conCopiesN (ctF_ok conDelW (ctN_ok _))))))
  intro args q r h hq
  unfold ckWithout at h
  split at h
  · cases h
    rename_i n f m g
    refine pcall_args (args' := [.sl (lsOf cRec n f).length (lsF cRec (lsOf cRec n f)), .sl (lsOf cStr m g).length (lsF cStr (lsOf cStr m g))]) ⟨isLs.vle hq.1, isLs.vle hq.2.2.1, trivial⟩ ?_
    obtain ⟨-, hl, -, hs⟩ := hq
    generalize lsOf cRec n f = l at hl ⊢
    generalize lsOf cStr m g = s at hs ⊢
    refine w9 (fun _ => false) [] rfl hct rfl rfl ?_
    push_cast (config := { maxSteps := 10000000 })
    refine ⟨hl, fun h => ?_, fun h => ⟨fun h1 => ?_, fun h1 => ?_⟩⟩
    · have eE : woErr l s = checkFileL l := by unfold woErr; rw [if_neg h]
      unfold woL
      rw [eE, if_neg h]
      exact ⟨rfl, rfl⟩
    · have eE : woErr l s = 2 := by unfold woErr; rw [if_pos h, if_pos (by omega)]
      unfold woL
      rw [eE]
      exact ⟨rfl, rfl⟩
    have eE : woErr l s = woE l s := by unfold woErr; rw [if_pos h, if_neg (by omega)]
    unfold woL
    rw [eE]
    obtain ⟨c1, c2, c3⟩ := file_ok h
    refine ⟨rfl, ?_⟩
    refine LoopW.adj ⟨hct, fol⟩ (by kernel_rfl) [] (fun i : Nat => [(0, .sl l.length (lsF cRec l)), (1, .sl s.length (lsF cStr s)), (7, .ptr 7 0), (24, .sl s.length (lsF cStr s)), (25, .int .i64 s.length), (26, .int .i64 i)]) (fun i => [(7, .cells [.map 23]), (23, .mp .str (seenM (s.take i)))]) (fun i => i ≤ s.length ∧ woE l (s.drop i) = woE l s) (fun i => s.length - i) 0 ?_ fun i hi => ?_
    · push_cast (config := { maxSteps := 10000000 })
      exact ⟨Nat.zero_le _, seen_nil⟩
    · push_cast (config := { maxSteps := 10000000 })
      obtain ⟨i1, i2⟩ := hi
      refine ⟨fun hlt => ?_, fun hge => ?_⟩
      · rw [dropG (d := []) hlt, woE] at i2
        have et := takeG (d := []) hlt
        have hx := hs (s.getD i []) (by rw [List.getD_eq_getElem?_getD, List.getElem?_eq_getElem hlt]; exact List.getElem_mem hlt)
        refine ⟨hlt, by omega, fun g1 => ?_, fun g1 => ⟨by omega, fun g2 => ?_, fun g2 => ?_⟩⟩
        · rw [if_neg (by rw [g1]; simp)] at i2
          rw [← i2]; exact ⟨rfl, rfl⟩
        · rw [if_pos g1, if_neg g2] at i2
          rw [← i2]; exact ⟨rfl, rfl⟩
        · rw [if_pos g1, if_pos g2] at i2
          exact ⟨⟨by omega, by omega⟩, i + 1, ⟨by omega, i2⟩, by omega, by omega, fun k => by rw [putM_seen, et]⟩
      rw [List.drop_eq_nil_of_le (by omega), woE] at i2
      rw [← i2, if_pos rfl]
      refine LoopW.adj ⟨hct, fol⟩ (by kernel_rfl) [] (fun t : List (List UInt8) × Bool => [(0, .sl l.length (lsF cRec l)), (7, .ptr 7 0), (12, .bool t.2)]) (fun t => [(7, .cells [.map 23]), (23, .mp .str (seenM t.1))]) (fun t => woA l t.1 = woA l s ∧ (t.2 = false → woP t.1 l = t.1)) (fun t => 2 * woC l t.1 + t.2.toNat) (s, true) ?_ fun t ht => ?_
      · push_cast (config := { maxSteps := 10000000 })
        rw [List.take_of_length_le (by omega)]
        exact fun _ => rfl
      · obtain ⟨s1, more⟩ := t
        obtain ⟨j1, j2⟩ : woA l s1 = woA l s ∧ (more = false → woP s1 l = s1) := ht
        push_cast (config := { maxSteps := 10000000 })
        refine ⟨fun hm => ?_, fun hm => ?_⟩
        · subst hm
          refine LoopW.adj ⟨hct, fol⟩ (by kernel_rfl) [] (fun i : Nat => [(0, .sl l.length (lsF cRec l)), (7, .ptr 7 0), (12, .bool (decide ((woP s1 (l.take i)).length ≠ s1.length))), (45, .sl l.length (lsF cRec l)), (46, .int .i64 l.length), (47, .int .i64 i)]) (fun i => [(7, .cells [.map 23]), (23, .mp .str (seenM (woP s1 (l.take i))))]) (fun i => i ≤ l.length) (fun i => l.length - i) 0 ?_ fun i hi => ?_
          · push_cast (config := { maxSteps := 10000000 })
            refine ⟨Nat.zero_le _, ?_, fun _ => rfl⟩
            exact (decide_eq_false (fun x => x rfl)).symm
          · have hi : i ≤ l.length := hi
            push_cast (config := { maxSteps := 10000000 })
            refine ⟨fun hlt => ⟨hlt, fun g => ?_, fun g => ?_⟩, fun hge => ?_⟩
            · have e : woP s1 (l.take (i + 1)) = woP s1 (l.take i) ++ [(l.getD i noRec).id] := by rw [woP_take hlt]; unfold woS; rw [if_pos g]
              refine ⟨⟨by omega, by omega⟩, i + 1, by omega, by omega, ⟨?_, by omega⟩, fun k => by rw [putM_seen, e]⟩
              have := woP_len (l.take i) s1
              rw [e, List.length_append, List.length_singleton]
              exact (decide_eq_true (by omega)).symm
            · have e : woP s1 (l.take (i + 1)) = woP s1 (l.take i) := by
                rw [woP_take hlt]; unfold woS; rw [if_neg (fun x => by rw [g x.1] at x; exact absurd x.2 (by simp))]
              exact ⟨⟨by omega, by omega⟩, i + 1, by omega, by omega, ⟨by rw [e], by omega⟩, fun k => by rw [e]⟩
            · rw [List.take_of_length_le (by omega)]
              by_cases e : (woP s1 l).length = s1.length
              · have e2 := (woP_same l s1 e).1
                refine ⟨((s1, false) : List (List UInt8) × Bool), ⟨j1, fun _ => e2⟩, by show 2 * woC l s1 + 0 < 2 * woC l s1 + 1; omega, ?_, fun k => by rw [e2]⟩
                exact decide_eq_false (fun x => x e)
              · have := woP_dec e
                refine ⟨((woP s1 l, true) : List (List UInt8) × Bool), ⟨by show woA l (woP s1 l) = _; rw [woA_step]; exact j1, fun h => by cases h⟩, by show 2 * woC l (woP s1 l) + 1 < 2 * woC l s1 + 1; omega, ?_, fun k => rfl⟩
                exact decide_eq_true e
        · have e := woN_fix (j2 hm) l.length
          have e : woA l s1 = s1 := e
          rw [keep_seen, ← j1, e]
          exact ⟨⟨hl, fun r hr => by have := (rec_ok (c1 r hr)).2.2.2.2.2.2.2.1; omega, by omega⟩, by omega, rfl, fun _ _ => rfl⟩
  · cases h
attribute [push_cast] ckWithout

def ckLawWN : Ck
  | [.sl n f, .sl k g] => some ((isLv cRec n f ∧ recsOk (lsOf cRec n f)) ∧ isLs cStr k g ∧ (∀ x ∈ lsOf cStr k g, x.length ≤ 140737488355328), .bool true)
  | _ => none
theorem conLawWN : Con pg 4 ckLawWN := by
  have hct := (ctA_ok conWithout (ctA_ok conFind (ctA_ok conHasStr (ctA_ok conAwake6 (ctN_ok _)))))
  intro args q r h hq
  unfold ckLawWN at h
  split at h
  · cases h
    rename_i n f k g
    refine pcall_args (args' := [.sl (lsOf cRec n f).length (lsF cRec (lsOf cRec n f)), .sl (lsOf cStr k g).length (lsF cStr (lsOf cStr k g))]) ⟨hq.1.1, isLs.vle hq.2.1, trivial⟩ ?_
    obtain ⟨⟨-, ha⟩, -, hs⟩ := hq
    generalize lsOf cRec n f = l at ha ⊢
    generalize lsOf cStr k g = s at hs ⊢
    refine w4 (fun _ => false) [] rfl hct rfl rfl ?_
    push_cast (config := { maxSteps := 10000000 })
    refine ⟨⟨ha, hs⟩, fun h => ?_, fun h => ?_⟩
    · unfold woL; rw [if_neg h]; rfl
    have eL : woL l s = woK l (woA l s) := by unfold woL; rw [if_pos h]
    obtain ⟨w1, w2⟩ := woL_ok l s
    rw [eL] at w1 w2 ⊢
    have hin := fun x hx => wo_none (l := l) (ids := s) (x := x) hx
    have hof := fun x hx => wo_of (l := l) (ids := s) (x := x) hx
    have hle := woK_len l (woA l s)
    generalize woK l (woA l s) = L at w1 w2 hin hof hle ⊢
    have hc : checkFileL l = 0 := by
      unfold woErr at h
      split at h
      · assumption
      · exact h
    have hlt : s.length ≤ 1000 := by
      unfold woErr at h
      rw [if_pos hc] at h
      split at h
      · cases h
      · omega
    obtain ⟨c1, c2, c3⟩ := file_ok hc
    refine LoopW.adj ⟨hct, fol⟩ (by kernel_rfl) [] (fun t : Nat => [(0, .sl l.length (lsF cRec l)), (1, .sl s.length (lsF cStr s)), (5, .sl L.length (lsF cRec L)), (7, .int .i64 t)]) (fun t => []) (fun t => t ≤ L.length) (fun t => L.length - t) 0 ?_ fun t ht => ?_
    · push_cast (config := { maxSteps := 10000000 })
      exact Nat.zero_le _
    · have ht : t ≤ L.length := ht
      push_cast (config := { maxSteps := 10000000 })
      refine ⟨fun h3 => ?_, fun h3 => hle⟩
      have hm : L.getD t noRec ∈ L := by rw [List.getD_eq_getElem?_getD, List.getElem?_eq_getElem h3]; exact List.getElem_mem h3
      have g1 := hin _ hm
      have g2 := hof _ hm
      refine ⟨h3, by omega, fun h => ⟨h, h3⟩, fun h => ⟨h, by omega⟩, fun h => ⟨h, h3⟩, fun h => ⟨h, by omega⟩, fun h => ⟨h, fun h' => ⟨h, h'⟩⟩, fun h => ?_, fun h => ⟨⟨by omega, by omega⟩, t + 1, by omega, by omega, by omega⟩⟩
      rcases h with h | h
      · rw [g1] at h; cases h
      · have := g2 h.1; omega
  · cases h
attribute [push_cast] ckLawWN
theorem allLawWN {H : Type} (ds : List (DataW H)) (hh : hasD [.list (.tup [.int .i64, .str, .str, .int .i64, .str, .list (.tup [.str, .str]), .list (.int .u8)]), .list .str] ds) : PCall pg 4 (ds.map toV) (.bool true) := by
  obtain ⟨d1, d3, rfl, a, c⟩ := hasD2 hh
  obtain ⟨n, f, e1, i1, b1, k1⟩ := shRecs a
  obtain ⟨k, g, e3, i3, b3, k3⟩ := shList (c := cStr) (fun m v h => shStr h) c
  simp only [List.map_cons, List.map_nil, e1, e3]
  exact conLawWN _ _ _ rfl ⟨⟨i1, k1⟩, i3, k3⟩

end Go.Abs
