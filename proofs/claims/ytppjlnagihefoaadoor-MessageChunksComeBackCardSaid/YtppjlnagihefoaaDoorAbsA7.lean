import Derived.Test.YtppjlnagihefoaaDoorAbsA6
namespace Go.Abs
open Go
variable {G : PG}
variable {P : Program} {d : Nat} {S : Sv}

theorem isAgg_run {t : TypeId} {i : TypeInfo} (hi : P.info? t = some i) (hp : 0 < (ti P t).size) (w : World) : (isAgg t).run P w = .ok (ti P t).isAgg w := by
  have hi0 := hi
  unfold ti at hp ⊢
  rw [hi] at hp ⊢
  cases hu : P.underlying t with
  | none => rw [hu] at hp; simp at hp
  | some dsc =>
    simp only [isAgg, Sem.run_bind, run_und hu, Result.andThen_ok, TI.isAgg]
    cases dsc <;> simp [tdOf]

theorem getD_take_drop {cs : List V} {off n j : Nat} (hj : j < n) : ((cs.drop off).take n).getD j .any = cs.getD (off + j) .any := by
  simp [List.getD_eq_getElem?_getD, hj, List.getElem?_drop]
theorem getD_take_drop' {cs : List Value} {off n j : Nat} (hj : j < n) : ((cs.drop off).take n).getD j undef = cs.getD (off + j) undef := by
  simp [List.getD_eq_getElem?_getD, hj, List.getElem?_drop]
theorem getD_some {cs : List Value} {i : Nat} (h : i < cs.length) : cs[i]? = some (cs.getD i undef) := by
  rw [List.getD_eq_getElem?_getD, List.getElem?_eq_getElem h]; rfl

theorem part_ok {ft : TypeId} (hp : 0 < (ti P ft).size) {cs : List V} {vs : List Value} {off : Nat} (hl : vs.length = cs.length) (hle : off + (ti P ft).size ≤ cs.length)
    (hr : ∀ i, i < cs.length → S.rep (cs.getD i .any) (vs.getD i undef)) (ho : ∀ i, i < cs.length → one (vs.getD i undef)) :
    ∃ u, (part ft vs.toArray off).run P S.w = .ok u S.w ∧ S.rep (sub (ti P ft).isAgg cs off (ti P ft).size) u := by
  obtain ⟨ie, hie, hie'⟩ := ti_size (P := P) hp
  cases hg : (ti P ft).isAgg with
  | true =>
    refine ⟨.agg ((vs.drop off).take (ti P ft).size).toArray, ?_, ?_⟩
    · simp only [part, Sem.run_bind, isAgg_run hie hp, hg, Result.andThen_ok, if_true, run_size hie, Sem.run_pure]
      congr 2
      rw [hie']
      simp [List.extract_toArray, List.take_drop]
    · simp only [sub, cond_true]
      refine .agg _ _ (by simp only [List.length_take, List.length_drop]; omega) (fun i hi => ?_) (fun i hi => ?_)
      all_goals simp only [List.length_take, List.length_drop] at hi
      · rw [getD_take_drop (by omega), getD_take_drop' (by omega)]; exact hr _ (by omega)
      · rw [getD_take_drop' (by omega)]; exact ho _ (by omega)
  | false =>
    refine ⟨vs.getD off undef, ?_, hr _ (by omega)⟩
    have : vs.toArray[off]? = some (vs.getD off undef) := by rw [List.getElem?_toArray]; exact getD_some (by omega)
    simp [part, isAgg_run hie hp, hg, this]

theorem ok_field (hs : Sim G S) (t : TypeId) (f : Nat) (x : V) (a : Value) (ha : S.rep x a) : OkO G P d S (VS (Instr.field t a f)) (vField P t f x) := by
  unfold vField
  split
  · rename_i cs
    obtain ⟨vs, rfl, h1, h2, h3⟩ := inv_agg ha
    split
    · rename_i o ft hf
      unfold fieldOff at hf
      split at hf
      · rename_i fs hd
        obtain ⟨gs, hu, rfl⟩ := und_struct hd
        simp only [List.getElem?_map, Option.map_eq_some_iff] at hf
        obtain ⟨fd, hfd, he⟩ := hf
        obtain ⟨rfl, rfl⟩ : fd.offset = o ∧ fd.type = ft := by simpa using he
        refine OkO.still hs fun ⟨hle, hp⟩ => ?_
        obtain ⟨u, hr, hrep⟩ := part_ok hp h1 hle h2 h3
        have hg : gs[f]? = some fd := by simpa using hfd
        exact ⟨u, run_VS (by simp [Instr.field, run_und hu, hg, asAgg, hr]), hrep⟩
      · cases hf
    · trivial
  · trivial

/-- loading from known cells -/
theorem load_ok {t : TypeId} (hp : 0 < (ti P t).size) {cs : List V} {b off o : Nat} (u : Nat → Value) (hle : o + (ti P t).size ≤ cs.length)
    (hc : ∀ j, j < (ti P t).size → S.w.cell? ⟨b, off + j, none⟩ = some (u j)) (hr : ∀ j, j < (ti P t).size → S.rep (cs.getD (o + j) .any) (u j)) (ho : ∀ j, j < (ti P t).size → one (u j)) :
    ∃ v, (Instr.loadAt t (.pointer (some ⟨b, off, none⟩))).run P S.w = .ok v S.w ∧ S.rep (sub (ti P t).isAgg cs o (ti P t).size) v := by
  obtain ⟨ie, hie, hie'⟩ := ti_size (P := P) hp
  have hcell : ∀ j, j < (ti P t).size → S.w.cell? ((⟨b, off, none⟩ : Addr).add j) = some (u j) := fun j hj => by rw [addr_add]; exact hc j hj
  cases hg : (ti P t).isAgg with
  | true =>
    refine ⟨.agg ((List.range (ti P t).size).map u).toArray, ?_, ?_⟩
    · have := run_loadCells (P := P) (w := S.w) ⟨b, off, none⟩ (ti P t).size u hcell
      simp only [Instr.loadAt, Instr.sureAddr, loadVar, Sem.run_bind, Sem.run_pure, Result.andThen_ok, isAgg_run hie hp, hg, if_true, run_size hie, ← hie', this]
    · simp only [sub, cond_true]
      refine .agg _ _ (by simp; omega) (fun i hi => ?_) (fun i hi => ?_)
      all_goals simp only [List.length_take, List.length_drop] at hi
      · rw [getD_take_drop (by omega)]
        have : ((List.range (ti P t).size).map u).getD i undef = u i := by simp [List.getD_eq_getElem?_getD, List.getElem?_map, List.getElem?_range (show i < (ti P t).size by omega)]
        rw [this]; exact hr i (by omega)
      · have : ((List.range (ti P t).size).map u).getD i undef = u i := by simp [List.getD_eq_getElem?_getD, List.getElem?_map, List.getElem?_range (show i < (ti P t).size by omega)]
        rw [this]; exact ho i (by omega)
  | false =>
    refine ⟨u 0, ?_, by simpa [sub] using hr 0 hp⟩
    have := hc 0 hp
    simp only [Nat.add_zero] at this
    simp [Instr.loadAt, Instr.sureAddr, loadVar, isAgg_run hie hp, hg, this]

theorem ok_load (hs : Sim G S) (t : TypeId) (x : V) (a : Value) (ha : S.rep x a) : OkO G P d S (VS (Instr.loadAt t a)) (vLoad P S.h t x) := by
  unfold vLoad
  split
  · rename_i id off
    obtain ⟨b, g1, rfl⟩ := inv_ptr ha
    split
    · rename_i cs hh
      obtain ⟨b', arr, tt, lo, hi, k1, k2, k3, k4, k5⟩ := hs.blk _ _ hh
      rw [g1] at k1; cases k1
      refine OkO.stillRd hs fun ⟨hle, hp⟩ => ?_
      obtain ⟨v, h1, h2⟩ := load_ok (P := P) (S := S) hp (cs := cs) (b := b) (off := off) (o := off) (fun j => arr.getD (off + j) undef) hle
        (fun j hj => by
          rw [cell_of_heap k2]
          have : off + j < arr.size := by omega
          simp [Array.getD, this])
        (fun j hj => (k5 _ (by omega)).1) (fun j hj => (k5 _ (by omega)).2)
      exact ⟨v, run_VS h1, h2⟩
    · trivial
  · rename_i id n sz i off
    obtain ⟨va, vm, vc, g1, g2, g3⟩ := inv_eptr ha
    split
    · rename_i sz' m f hh
      refine OkO.stillRd hs fun ⟨hm, hz, hi, hle, hp⟩ => ?_
      subst hm hz
      have em : vm = m := vec_len hs hh g1
      subst em
      obtain ⟨k1, k2, ⟨k3, _⟩ | ⟨b, cap, arr, tt, lo, hi', k3, k4, kc, k5, k6, k7, k8⟩⟩ := hs.blk _ _ hh
      · omega
      · obtain ⟨b', rfl, rfl⟩ := g3 rfl
        rw [g1] at k3; cases k3
        have hfl := k2 i hi
        obtain ⟨v, h1, h2⟩ := load_ok (P := P) (S := S) hp (cs := (f i).flat) (b := b) (off := i * sz' + off) (o := off) (fun j => arr.getD (i * sz' + (off + j)) undef) (by omega)
          (fun j hj => by
            rw [cell_of_heap k5]
            have h0 : (i + 1) * sz' ≤ vm * sz' := Nat.mul_le_mul_right _ (by omega)
            have h1 : vm * sz' ≤ vc * sz' := Nat.mul_le_mul_right _ k4
            have h2 : (i + 1) * sz' = i * sz' + sz' := by rw [Nat.add_mul, Nat.one_mul]
            have : i * sz' + (off + j) < arr.size := by omega
            simp [Array.getD, this, Nat.add_assoc])
          (fun j hj => (k8 i (off + j) hi (by omega)).1) (fun j hj => (k8 i (off + j) hi (by omega)).2)
        exact ⟨v, run_VS h1, h2⟩
    · trivial
  · rename_i cs
    obtain ⟨b, off, u, rfl, h1, h2, h3, h4⟩ := inv_iptr ha
    refine OkO.still hs fun ⟨hle, hp⟩ => ?_
    obtain ⟨v, h5, h6⟩ := load_ok (P := P) (S := S) hp (cs := cs) (b := b) (off := off) (o := 0) u (by omega) (fun j hj => h2 j (by omega)) (fun j hj => by rw [Nat.zero_add]; exact .pure (h4 j (by omega))) (fun j hj => h3 j (by omega))
    exact ⟨v, run_VS h5, h6⟩
  · trivial
end Go.Abs
