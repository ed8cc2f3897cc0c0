import Derived.Test.YtppjlnagihefoaaDoorAbsA12
import Derived.Laws.Tables
namespace Go.Abs
open Go
variable {G : PG}
variable {P : Program} {d : Nat} {S : Sv}

theorem setR_len {cs : List V} {off : Nat} {new : List V} (h : off + new.length ≤ cs.length) : (setR cs off new).length = cs.length := by
  simp [setR]; omega
theorem setR_getD {cs : List V} {off : Nat} {new : List V} (h : off + new.length ≤ cs.length) (k : Nat) :
    (setR cs off new).getD k .any = if off ≤ k ∧ k < off + new.length then new.getD (k - off) .any else cs.getD k .any := by
  simp only [setR, List.getD_eq_getElem?_getD]
  rw [List.append_assoc, List.getElem?_append]
  have hl : (List.take off cs).length = off := by simp; omega
  rw [hl]
  by_cases h1 : k < off
  · simp [h1, show ¬ off ≤ k by omega]
  · simp only [h1, if_false]
    rw [List.getElem?_append]
    by_cases h2 : k < off + new.length
    · rw [if_pos (by omega), if_pos ⟨by omega, h2⟩]
    · rw [if_neg (by omega), if_neg (by omega), List.getElem?_drop]
      congr 2; omega

/-- cells laid one behind the other from a place on -/
theorem lay_cells (l : List Value) : ∀ (off j0 : Nat) (arr : Array Value), off + j0 + l.length ≤ arr.size →
    ((l.zipIdx j0).foldl (fun cs (p : Value × Nat) => cs.setIfInBounds (off + p.2) p.1) arr).size = arr.size ∧
    ∀ k, ((l.zipIdx j0).foldl (fun cs (p : Value × Nat) => cs.setIfInBounds (off + p.2) p.1) arr).getD k undef = if off + j0 ≤ k ∧ k < off + j0 + l.length then l.getD (k - (off + j0)) undef else arr.getD k undef := by
  induction l with
  | nil =>
    intro off j0 arr h
    refine ⟨rfl, fun k => ?_⟩
    rw [if_neg (by simp only [List.length_nil]; omega)]
    rfl
  | cons x l ih =>
    intro off j0 arr h
    simp only [List.zipIdx_cons, List.foldl_cons]
    simp only [List.length_cons] at h ⊢
    have := ih off (j0 + 1) (arr.setIfInBounds (off + j0) x) (by rw [Array.size_setIfInBounds]; omega)
    refine ⟨by rw [this.1, Array.size_setIfInBounds], fun k => ?_⟩
    rw [this.2 k]
    by_cases h1 : k = off + j0
    · subst h1
      rw [if_neg (by omega), if_pos (by omega)]
      have : off + j0 < arr.size := by omega
      simp [Array.getD, this]
    · by_cases h2 : off + (j0 + 1) ≤ k ∧ k < off + (j0 + 1) + l.length
      · rw [if_pos h2, if_pos (by omega)]
        rw [show k - (off + j0) = (k - (off + (j0 + 1))) + 1 by omega]
        simp
      · rw [if_neg h2, if_neg (by omega)]
        simp only [Array.getD_eq_getD_getElem?]
        rw [Array.getElem?_setIfInBounds_ne (by omega)]

theorem fold_cells (v : Value) (off : Nat) (arr : Array Value) (h : off + v.cells.size ≤ arr.size) :
    (v.cells.zipIdx.foldl (fun cs (c, j) => cs.setIfInBounds (off + j) c) arr).size = arr.size ∧
    ∀ k, (v.cells.zipIdx.foldl (fun cs (c, j) => cs.setIfInBounds (off + j) c) arr).getD k undef = if off ≤ k ∧ k < off + v.cells.size then v.cells.getD (k - off) undef else arr.getD k undef := by
  have := lay_cells v.cells.toList off 0 arr (by simpa using h)
  have e : v.cells.zipIdx.foldl (fun cs (c, j) => cs.setIfInBounds (off + j) c) arr = (v.cells.toList.zipIdx 0).foldl (fun cs (p : Value × Nat) => cs.setIfInBounds (off + p.2) p.1) arr := by
    rw [← Array.foldl_toList, Array.toList_zipIdx]
  rw [e]
  refine ⟨this.1, fun k => ?_⟩
  rw [this.2 k]
  simp only [Nat.add_zero, Array.length_toList]
  congr 1
  rw [List.getD_eq_getElem?_getD, Array.getD_eq_getD_getElem?, Array.getElem?_toList]

/-- cells that read as said -/
def RepL (S : Sv) (cs : List V) (arr : Array Value) : Prop := arr.size = cs.length ∧ (∀ i, i < cs.length → S.rep (cs.getD i .any) (arr.getD i undef)) ∧ ∀ i, i < cs.length → one (arr.getD i undef)

theorem RepL.set {cs : List V} {arr : Array Value} (h : RepL S cs arr) {x : V} {v : Value} (hx : S.rep x v) (ho : okCells x = true) {off : Nat} (hle : off + x.flat.length ≤ cs.length) :
    RepL S (setR cs off x.flat) (v.cells.zipIdx.foldl (fun cs (c, j) => cs.setIfInBounds (off + j) c) arr) := by
  obtain ⟨h1, h2, h3⟩ := h
  obtain ⟨c1, c2, c3⟩ := cells_ok hx ho
  have := fold_cells v off arr (by rw [c1, h1]; exact hle)
  refine ⟨by rw [this.1, setR_len hle, h1], fun i hi => ?_, fun i hi => ?_⟩
  all_goals rw [setR_len hle] at hi
  · rw [setR_getD hle, this.2 i, c1]
    split
    · exact c2 _ (by omega)
    · exact h2 i hi
  · rw [this.2 i, c1]
    split
    · exact c3 _ (by omega)
    · exact h3 i hi

theorem fill_ok {fs : List (Nat × TypeId)} {places : Nat → Option (Nat × Nat)} (hpl : ∀ (i : Nat) (o : Nat) (t : TypeId), fs[i]? = some (o, t) → places i = some (o, (ti P t).size)) :
    ∀ (parts : List (Nat × V)) (vals : List (Nat × Value)) (cs : List V) (arr : Array Value), vals.length = parts.length → (∀ k, k < parts.length → ∃ i x v, parts[k]? = some (i, x) ∧ vals[k]? = some (i, v) ∧ S.rep x v) →
      RepL S cs arr → (buildS P fs parts cs).1 → ∃ arr', Instr.fill places arr vals = some arr' ∧ RepL S (buildS P fs parts cs).2 arr'
  | [], [], cs, arr, _, _, hr, _ => ⟨arr, rfl, hr⟩
  | [], _ :: _, _, _, h, _, _, _ => by simp at h
  | _ :: _, [], _, _, h, _, _, _ => by simp at h
  | (i, x) :: parts, (i', v) :: vals, cs, arr, hl, hv, hr, hp => by
    obtain ⟨i0, x0, v0, e1, e2, hx⟩ := hv 0 (by simp)
    simp only [List.getElem?_cons_zero, Option.some.injEq, Prod.mk.injEq] at e1 e2
    obtain ⟨rfl, rfl⟩ := e1
    obtain ⟨rfl, rfl⟩ := e2
    unfold buildS at hp ⊢
    cases hf : fs[i']? with
    | none => rw [hf] at hp; exact hp.elim
    | some ot =>
      obtain ⟨o, t⟩ := ot
      rw [hf] at hp
      simp only at hp ⊢
      obtain ⟨q1, q2, q3, q4⟩ := hp
      obtain ⟨c1, _, _⟩ := cells_ok hx q3
      have ih := fill_ok hpl parts vals (setR cs o x.flat) _ (by simpa using hl) (fun k hk => by simpa using hv (k + 1) (by simpa using hk)) (hr.set hx q3 q2) q4
      obtain ⟨arr', h1, h2⟩ := ih
      refine ⟨arr', ?_, h2⟩
      unfold Instr.fill
      rw [hpl _ _ _ hf]
      simp only
      rw [if_neg (by rw [c1, q1, hr.1]; simp only [ne_eq, not_true_eq_false, decide_false, Bool.false_or, decide_eq_true_eq]; omega)]
      exact h1

theorem places_ok : ∀ (gs : List Field), sizedL P (gs.map fun f => (f.offset, f.type)) → ∃ pl, gs.mapM (fun f => (P.info? f.type).map fun i => (f.offset, i.size)) = some pl ∧ ∀ (i : Nat) (o : Nat) (t : TypeId), (gs.map fun f => (f.offset, f.type))[i]? = some (o, t) → pl[i]? = some (o, (ti P t).size)
  | [], _ => ⟨[], rfl, fun i o t h => by simp at h⟩
  | f :: gs, h => by
    obtain ⟨h1, h2⟩ := h
    obtain ⟨pl, e, hp⟩ := places_ok gs h2
    obtain ⟨ie, hi, hi'⟩ := ti_size (P := P) h1
    refine ⟨(f.offset, ie.size) :: pl, by simp [List.mapM_cons, hi, e], fun i o t hh => ?_⟩
    cases i with
    | zero =>
      simp only [List.map_cons, List.getElem?_cons_zero, Option.some.injEq, Prod.mk.injEq] at hh
      obtain ⟨rfl, rfl⟩ := hh
      simp [hi']
    | succ i => simpa using hp i o t (by simpa using hh)

theorem ok_build (hs : Sim G S) (t : TypeId) (parts : List (Nat × V)) (vals : List (Nat × Value)) (hl : vals.length = parts.length) (hv : ∀ k, k < parts.length → ∃ i x v, parts[k]? = some (i, x) ∧ vals[k]? = some (i, v) ∧ S.rep x v) :
    OkO G P d S (VS (Instr.build t vals.toArray)) (vBuild P t parts) := by
  unfold vBuild
  split
  · rename_i fs z hd hz
    obtain ⟨gs, hu, rfl⟩ := und_struct hd
    obtain ⟨i, zv, hi, hzv, hze, _⟩ := ti_zero hz
    refine OkO.still hs fun ⟨h1, h2⟩ => ?_
    obtain ⟨pl, e, hp⟩ := places_ok gs.toList h1
    have hzr : RepL S z zv.cells := by
      have hr := ofV_rep S.imm S.w zv
      rw [← hze] at hr
      have := cells_ok (S := S) (.pure hr) rfl
      exact this
    obtain ⟨arr', f1, f2⟩ := fill_ok (P := P) (fs := gs.toList.map fun f => (f.offset, f.type)) (places := (pl.toArray[·]?)) (fun i o t h => by simpa using hp i o t h) parts vals z zv.cells hl hv hzr h2
    refine ⟨.agg arr', run_VS (run_build S.w t vals.toArray arr' ?_), ?_⟩
    · simp only [Program.built, hi, hu, hzv, e]
      exact f1
    · have := RepV.agg (γ := S.γ) (imm := S.imm) (w := S.w) (buildS P (gs.toList.map fun f => (f.offset, f.type)) parts z).2 arr'.toList (by simpa using f2.1)
        (fun i hi => by have := f2.2.1 i hi; rwa [← toArray_getD, Array.toArray_toList]) (fun i hi => by have := f2.2.2 i hi; rwa [← toArray_getD, Array.toArray_toList])
      simpa using this
  · trivial

theorem evL_ok {e : Env} {a : Act} (h : RepE S e a.tmps) (l : List Operand) (hg : gdL (l.map (ev e))) : (l.map a.eval).length = (l.map fun x => (ev e x).strip).length ∧ ∀ i, i < l.length → S.rep ((l.map fun x => (ev e x).strip).getD i .any) ((l.map a.eval).getD i undef) := by
  refine ⟨by simp, fun i hi => ?_⟩
  induction l generalizing i with
  | nil => simp at hi
  | cons x l ih =>
    simp only [List.map_cons, gdL] at hg
    cases i with
    | zero => simpa using rep_strip (rep_ev h x) hg.1
    | succ i => simpa using ih hg.2 i (by simpa using hi)

theorem ok_makeFunc (hs : Sim G S) (f : Fn) (x y : List V) (p q : List Value) (h1 : p.length = x.length) (h2 : ∀ i, i < x.length → S.rep (x.getD i .any) (p.getD i undef)) (h3 : q.length = y.length) (h4 : ∀ i, i < y.length → S.rep (y.getD i .any) (q.getD i undef)) :
    OkO G P d S (VS (Instr.makeFunc f p.toArray q.toArray)) (.val True (.fn f x y)) :=
  OkO.still hs fun _ => ⟨_, run_VS rfl, .fn f x y p q h1 h3 h2 h4⟩

theorem app_rep {x y : List V} {p q : List Value} (h1 : p.length = x.length) (h2 : ∀ i, i < x.length → S.rep (x.getD i .any) (p.getD i undef)) (h3 : q.length = y.length) (h4 : ∀ i, i < y.length → S.rep (y.getD i .any) (q.getD i undef)) :
    (p ++ q).length = (x ++ y).length ∧ ∀ i, i < (x ++ y).length → S.rep ((x ++ y).getD i .any) ((p ++ q).getD i undef) := by
  refine ⟨by simp [h1, h3], fun i hi => ?_⟩
  simp only [List.getD_eq_getElem?_getD] at h2 h4 ⊢
  rw [List.getElem?_append, List.getElem?_append]
  simp only [List.length_append] at hi
  by_cases hc : i < x.length
  · rw [if_pos hc, if_pos (by omega)]; exact h2 i hc
  · rw [if_neg hc, if_neg (by omega), h1]; exact h4 _ (by omega)

theorem ok_callV (x : V) (v : Value) (hx : S.rep x v) (args : List V) (vals : List Value) (hl : vals.length = args.length) (hr : ∀ i, i < args.length → S.rep (args.getD i .any) (vals.getD i undef)) :
    OkO G P d S (do let dd ← Deferred.ofValue v vals.toArray; invoke dd.target dd.args) (vCallV args x) := by
  unfold vCallV
  split
  · rename_i f a c
    intro _
    obtain ⟨p, q, rfl, h1, h2, h3, h4⟩ := inv_fn hx
    obtain ⟨g1, g2⟩ := app_rep h1 h3 hl hr
    obtain ⟨g3, g4⟩ := app_rep g1 g2 h2 h4
    refine ⟨p ++ vals ++ q, ?_, g3, g4⟩
    simp [Deferred.ofValue, invoke]
  · trivial
end Go.Abs
