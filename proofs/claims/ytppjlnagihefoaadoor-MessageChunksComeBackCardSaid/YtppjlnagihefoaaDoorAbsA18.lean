import Derived.Test.YtppjlnagihefoaaDoorAbsA17
namespace Go.Abs
open Go
variable {G : PG}
variable {P : Program} {d : Nat} {S : Sv}

theorem optRep_map {e : Env} {a : Act} (h : RepE S e a.tmps) (o : Option Operand) (hg : gdL (o.toList.map (ev e))) : OptRep S (o.map fun x => (ev e x).strip) (o.map a.eval) := by
  cases o with
  | none => exact .inl ⟨rfl, rfl⟩
  | some x =>
    simp only [Option.toList_some, List.map_cons, List.map_nil, gdL] at hg
    exact .inr ⟨_, _, rfl, rfl, rep_strip (rep_ev h x) hg.1⟩
theorem gdL_app {a b : List V} (h : gdL (a ++ b)) : gdL a ∧ gdL b := by
  induction a with
  | nil => exact ⟨trivial, h⟩
  | cons x a ih => exact ⟨⟨h.1, (ih h.2).1⟩, (ih h.2).2⟩

theorem parts_ok {e : Env} {a : Act} (h : RepE S e a.tmps) (ps : List (Nat × Operand)) (hg : gdL (ps.map fun p => ev e p.2)) :
    (ps.map fun p => (p.1, a.eval p.2)).length = (ps.map fun p => (p.1, (ev e p.2).strip)).length ∧ ∀ k, k < (ps.map fun p => (p.1, (ev e p.2).strip)).length → ∃ i x v, (ps.map fun p => (p.1, (ev e p.2).strip))[k]? = some (i, x) ∧ (ps.map fun p => (p.1, a.eval p.2))[k]? = some (i, v) ∧ S.rep x v := by
  refine ⟨by simp, fun k hk => ?_⟩
  induction ps generalizing k with
  | nil => simp at hk
  | cons p ps ih =>
    simp only [List.map_cons, gdL] at hg
    cases k with
    | zero => exact ⟨_, _, _, rfl, rfl, rep_strip (rep_ev h p.2) hg.1⟩
    | succ k => simpa using ih hg.2 k (by simpa using hk)

theorem arr_map {α β : Type} (f : α → β) (xs : Array α) : (xs.toList.map f).toArray = xs.map f := by apply Array.ext'; simp
theorem ok_move (hs : Sim G S) {x : V} {v : Value} (h : S.rep x v) : OkO G P d S (pure (.value v)) (.val x.gd x.strip) :=
  OkO.still hs fun hg => ⟨v, rfl, rep_strip h hg⟩

theorem opO_sound (hs : Sim G S) (ow : Nat → Bool) {e : Env} {a : Act} (h : RepE S e a.tmps) (o : Oper) : OkO G P d S (execOp a.eval o) (opO P ow d S.h e o.op) := by
  obtain ⟨dst, op, type, pos, after, guard⟩ := o
  cases op <;> simp only [opO, execOp] <;> try trivial
  case move x => exact ok_move hs (rep_ev h x)
  case assign x => exact ok_move hs (rep_ev h x)
  case pick c x y => exact OkO.and fun hg => ok_pick hs _ _ _ _ _ _ (rep_strip (rep_ev h c) hg) (rep_ev h x) (rep_ev h y)
  case alloc t => exact ok_alloc hs t _
  case box t x => exact OkO.and fun hg => ok_box hs t _ _ (rep_strip (rep_ev h x) hg)
  case build t ps =>
    refine OkO.and fun hg => ?_
    obtain ⟨h1, h2⟩ := parts_ok h ps.toList hg
    have e1 := arr_map (fun (x : Nat × Operand) => (x.1, a.eval x.2)) ps
    have := ok_build (P := P) (d := d) hs t _ _ h1 h2
    rw [e1] at this
    exact this
  case buildSlice t n ps =>
    refine OkO.and fun hg => ?_
    obtain ⟨h1, h2⟩ := parts_ok h ps.toList hg
    have e1 := arr_map (fun (x : Nat × Operand) => (x.1, a.eval x.2)) ps
    have := ok_buildSlice (P := P) (d := d) hs (ow d) t n _ _ h1 h2
    rw [e1] at this
    exact this
  case load t x => exact OkO.and fun hg => ok_load hs t _ _ (rep_strip (rep_ev h x) hg)
  case store t x y => exact OkO.and fun hg => ok_store hs t _ _ _ _ (rep_strip (rep_ev h x) hg.1) (rep_strip (rep_ev h y) hg.2)
  case nilCheck x => exact OkO.and fun hg => ok_nil hs _ _ (rep_strip (rep_ev h x) hg)
  case binOp op t x y u => exact OkO.and fun hg => ok_bin hs op t _ _ _ _ x y (rep_strip (rep_ev h x) hg.1) (rep_strip (rep_ev h y) hg.2)
  case unOp op t x => exact OkO.and fun hg => ok_un hs op _ _ (rep_strip (rep_ev h x) hg)
  case convert s t x =>
    refine OkO.and fun hg => ?_
    have hx := rep_strip (rep_ev h x) hg
    by_cases hq : ∃ q, (ev e x).strip = .str q
    · obtain ⟨q, hq⟩ := hq
      rw [hq] at hx ⊢
      have hv := inv_str hx
      rw [hv]
      unfold vConv
      simp only
      split
      · rename_i h1 h2
        refine OkO.still hs fun _ => ⟨_, run_VS ?_, .pure (.str _)⟩
        simp only [convert, Sem.run_bind, run_und (und_str h1), run_und (und_str h2), Result.andThen_ok, Sem.run_pure]
      · rename_i el h1 h2
        split
        · rename_i h3
          exact ok_conv_bytesOf hs s t el q h1 h2 h3
        · trivial
      · trivial
    · exact ok_conv_bytes hs s t _ _ hx fun q hh => hq ⟨q, hh⟩
  case makeFunc f x y =>
    intro hg
    obtain ⟨h1, h2⟩ := evL_ok h x.toList hg.1
    obtain ⟨h3, h4⟩ := evL_ok h y.toList hg.2
    have := ok_makeFunc (P := P) (d := d) hs f _ _ _ _ h1 (fun i hi => h2 i (by simpa using hi)) h3 (fun i hi => h4 i (by simpa using hi)) trivial
    rw [arr_map, arr_map] at this
    exact this
  case makeSlice t l c => exact OkO.and fun hg => ok_make hs t _ _ _ _ (rep_strip (rep_ev h l) hg.1) (rep_strip (rep_ev h c) hg.2)
  case slice t x lo hi mx =>
    refine OkO.and fun hg => ?_
    have hg2 := hg.2
    simp only [List.map_append] at hg2
    obtain ⟨g1, g3⟩ := gdL_app hg2
    obtain ⟨g1, g2⟩ := gdL_app g1
    exact ok_slice hs t _ _ _ _ _ _ _ _ (rep_strip (rep_ev h x) hg.1) (optRep_map h lo g1) (optRep_map h hi g2) (optRep_map h mx g3)
  case fieldAddr s x f => exact OkO.and fun hg => ok_fieldAddr hs s f _ _ (rep_strip (rep_ev h x) hg)
  case field s x f => exact OkO.and fun hg => ok_field hs s f _ _ (rep_strip (rep_ev h x) hg)
  case indexAddr t x i => exact OkO.and fun hg => ok_indexAddr hs t _ _ _ _ (rep_strip (rep_ev h x) hg.1) (rep_strip (rep_ev h i) hg.2)
  case index t x i => exact OkO.and fun hg => ok_index hs t _ _ _ _ (rep_strip (rep_ev h x) hg.1) (rep_strip (rep_ev h i) hg.2)
  case extract x i => exact OkO.and fun hg => ok_extract hs i _ _ (rep_strip (rep_ev h x) hg)
  case call c =>
    obtain ⟨callee, args, ts⟩ := c
    cases callee with
    | invoke r m => trivial
    | value f =>
      refine OkO.and fun hg => ?_
      obtain ⟨h1, h2⟩ := evL_ok h args.toList hg.1
      have := ok_callV (G := G) (P := P) (d := d) (S := S) _ _ (rep_strip (rep_ev h f) hg.2) _ _ h1 (fun i hi => h2 i (by simpa using hi))
      have e1 := arr_map a.eval args
      rw [e1] at this
      exact this
    | builtin b =>
      refine OkO.and fun hg => ?_
      obtain ⟨h1, h2⟩ := evL_ok h args.toList hg
      have e1 := arr_map a.eval args
      simp only [resolve]
      generalize hA : (args.toList.map fun x => (ev e x).strip) = A at h1 h2 ⊢
      generalize hV : args.toList.map a.eval = vals at h1 h2 e1
      have hlen : args.toList.length = A.length := by rw [← hA]; simp
      rw [← e1]
      unfold vCall
      cases b <;> simp only <;> try trivial
      case append =>
        split
        · rename_i t u s x hts
          obtain ⟨v0, v1, rfl⟩ : ∃ v0 v1, vals = [v0, v1] := by
            match vals, h1 with
            | [v0, v1], _ => exact ⟨v0, v1, rfl⟩
          have ht : ts = #[t, u] := by rw [← Array.toArray_toList (xs := ts), hts]
          subst ht
          exact ok_append hs t u type _ _ _ _ (h2 0 (by rw [hlen]; simp)) (h2 1 (by rw [hlen]; simp))
        · trivial
      case len =>
        split
        · rename_i t x hts
          obtain ⟨v0, rfl⟩ : ∃ v0, vals = [v0] := by
            match vals, h1 with
            | [v0], _ => exact ⟨v0, rfl⟩
          have ht : ts = #[t] := by rw [← Array.toArray_toList (xs := ts), hts]
          subst ht
          exact ok_len hs t type _ _ (h2 0 (by rw [hlen]; simp))
        · trivial
      case max =>
        split
        · obtain ⟨v0, v1, rfl⟩ : ∃ v0 v1, vals = [v0, v1] := by
            match vals, h1 with
            | [v0, v1], _ => exact ⟨v0, v1, rfl⟩
          exact ok_max hs ts type _ _ _ _ (h2 0 (by rw [hlen]; simp)) (h2 1 (by rw [hlen]; simp))
        · trivial
      case min =>
        split
        · obtain ⟨v0, v1, rfl⟩ : ∃ v0 v1, vals = [v0, v1] := by
            match vals, h1 with
            | [v0, v1], _ => exact ⟨v0, v1, rfl⟩
          exact ok_min hs ts type _ _ _ _ (h2 0 (by rw [hlen]; simp)) (h2 1 (by rw [hlen]; simp))
        · trivial
end Go.Abs
