import Derived.Test.YtppjlnagihefoaaDoorAbsA13
namespace Go.Abs
open Go
variable {G : PG}
variable {P : Program} {d : Nat} {S : Sv}

theorem inOrder_get : ∀ (parts : List (Nat × V)) (k : Nat), inOrder k parts = true → ∀ i, i < parts.length → ∃ x, parts[i]? = some (k + i, x)
  | [], _, _, i, hi => by simp at hi
  | (n, x) :: r, k, h, i, hi => by
    simp only [inOrder, Bool.and_eq_true, beq_iff_eq] at h
    obtain ⟨rfl, h2⟩ := h
    cases i with
    | zero => exact ⟨x, rfl⟩
    | succ i =>
      obtain ⟨y, hy⟩ := inOrder_get r (k + 1) h2 i (by simpa using hi)
      exact ⟨y, by simpa [show k + 1 + i = k + (i + 1) by omega] using hy⟩

theorem fillS_ok {sz N : Nat} : ∀ (vals : List (Nat × Value)) (k : Nat) (arr : Array Value), (∀ i, i < vals.length → ∃ v, vals[i]? = some (k + i, v) ∧ v.cells.size = sz) → arr.size = N * sz → k + vals.length ≤ N →
    ∃ arr', Instr.fill (fun i => some (i * sz, sz)) arr vals = some arr' ∧ arr'.size = arr.size ∧ ∀ i j, i < N → j < sz →
      arr'.getD (i * sz + j) undef = if k ≤ i ∧ i < k + vals.length then ((vals.getD (i - k) (0, undef)).2).cells.getD j undef else arr.getD (i * sz + j) undef
  | [], k, arr, _, _, _ => ⟨arr, rfl, rfl, fun i j hi hj => by rw [if_neg (by simp only [List.length_nil]; omega)]⟩
  | (n, v) :: vals, k, arr, hv, hs, hk => by
    obtain ⟨v0, e, hc⟩ := hv 0 (by simp)
    simp only [List.getElem?_cons_zero, Option.some.injEq, Prod.mk.injEq, Nat.add_zero] at e
    obtain ⟨rfl, rfl⟩ := e
    simp only [List.length_cons] at hk
    have hle : n * sz + v.cells.size ≤ arr.size := by
      rw [hc, hs]
      have : (n + 1) * sz ≤ N * sz := Nat.mul_le_mul_right _ (by omega)
      rw [Nat.add_mul, Nat.one_mul] at this
      exact this
    have hf := fold_cells v (n * sz) arr hle
    obtain ⟨arr', h1, h2, h3⟩ := fillS_ok (sz := sz) (N := N) vals (n + 1) _ (fun i hi => by
      obtain ⟨u, hu, hu'⟩ := hv (i + 1) (by simpa using hi)
      exact ⟨u, by simpa [show n + (i + 1) = n + 1 + i by omega] using hu, hu'⟩) (hf.1.trans hs) (by omega)
    refine ⟨arr', ?_, h2.trans hf.1, fun i j hi hj => ?_⟩
    · unfold Instr.fill
      simp only
      rw [if_neg (by simp only [hc, ne_eq, not_true_eq_false, decide_false, Bool.false_or, decide_eq_true_eq]; omega)]
      exact h1
    · rw [h3 i j hi hj, hf.2]
      simp only [List.length_cons]
      by_cases c1 : n + 1 ≤ i ∧ i < n + 1 + vals.length
      · rw [if_pos c1, if_pos (by omega)]
        rw [show i - n = (i - (n + 1)) + 1 by omega]
        simp
      · rw [if_neg c1]
        by_cases c2 : i = n
        · subst c2
          rw [if_pos (by omega), if_pos (by omega)]
          rw [show i * sz + j - i * sz = j by omega]
          simp
        · rw [if_neg (show ¬ (n ≤ i ∧ i < n + (vals.length + 1)) by omega), if_neg]
          intro ⟨h4, h5⟩
          rcases Nat.lt_or_gt_of_ne c2 with h6 | h6
          · have := mul_lt (i := i) (n := n) h6 hj; omega
          · have : (n + 1) * sz ≤ i * sz := Nat.mul_le_mul_right _ (by omega)
            rw [Nat.add_mul, Nat.one_mul] at this
            omega

/-- what a slice literal lays -/
theorem buildSlice_run (t e : TypeId) (len : Nat) (parts : List (Nat × V)) (vals : List (Nat × Value)) (ht : (ti P t).d = .slice e) (hio : inOrder 0 parts = true) (hl : vals.length = parts.length)
    (hv : ∀ k, k < parts.length → ∃ i x v, parts[k]? = some (i, x) ∧ vals[k]? = some (i, v) ∧ S.rep x v)
    (h1 : len = parts.length) (h2 : 0 < (ti P e).size) (h3 : len * (ti P e).size ≤ 16777216) (h4 : (ti P e).zero.isSome = true) (h5 : ∀ x ∈ parts.map Prod.snd, x.flat.length = (ti P e).size ∧ okCells x = true) :
    ∃ arr : Array Value, (Instr.buildSlice t len vals.toArray).run P S.w = .ok (.slice (some ⟨S.w.heap.size, 0, none⟩) len len) { S.w with heap := S.w.heap.push (.cells arr e) } ∧ arr.size = len * (ti P e).size ∧
      ∀ i, i < len → ∃ v, S.rep ((parts.map Prod.snd).getD i V.any) v ∧ okCells ((parts.map Prod.snd).getD i V.any) = true ∧ ((parts.map Prod.snd).getD i V.any).flat.length = (ti P e).size ∧ ∀ j, j < (ti P e).size → arr.getD (i * (ti P e).size + j) undef = v.cells.getD j undef := by
  subst h1
  obtain ⟨z, hz⟩ := Option.isSome_iff_exists.1 h4
  obtain ⟨ie, zv, hi, hzv, _, e1, _⟩ := ti_zero hz
  have hpart : ∀ k, k < parts.length → ∃ x v, parts[k]? = some (k, x) ∧ vals[k]? = some (k, v) ∧ S.rep x v ∧ x.flat.length = (ti P e).size ∧ okCells x = true := by
    intro k hk
    obtain ⟨i, x, v, p1, p2, p3⟩ := hv k hk
    obtain ⟨y, hy⟩ := inOrder_get parts 0 hio k hk
    rw [p1] at hy
    simp only [Nat.zero_add, Option.some.injEq, Prod.mk.injEq] at hy
    obtain ⟨rfl, rfl⟩ := hy
    have hm : x ∈ parts.map Prod.snd := List.mem_map.2 ⟨(i, x), List.mem_of_getElem? p1, rfl⟩
    exact ⟨x, v, p1, p2, p3, (h5 x hm).1, (h5 x hm).2⟩
  let arr0 : Array Value := (Array.range (parts.length * (ti P e).size)).map ((if parts.length * (ti P e).size = 0 then #[] else zv.cells)[· % (if parts.length * (ti P e).size = 0 then (#[] : Array Value) else zv.cells).size]!)
  obtain ⟨arr, f1, f2, f3⟩ := fillS_ok (sz := (ti P e).size) (N := parts.length) vals 0 arr0 (fun i hi => by
      obtain ⟨x, v, p1, p2, p3, p4, p5⟩ := hpart i (by omega)
      exact ⟨v, by simpa using p2, by rw [(cells_ok p3 p5).1, p4]⟩) (by simp [arr0]) (by omega)
  refine ⟨arr, ?_, by rw [f2]; simp [arr0], fun i hi' => ?_⟩
  · have hsz : (sizeOf e).run P S.w = .ok (ti P e).size S.w := by rw [e1]; exact run_size hi _
    have h30 : ¬ (16777216 < parts.length * (ti P e).size) := by omega
    by_cases h0 : parts.length * (ti P e).size = 0
    · have hn : parts.length = 0 := (Nat.mul_eq_zero.1 h0).resolve_right (by omega)
      have hv0 : vals = [] := List.eq_nil_of_length_eq_zero (by omega)
      have h00 : Array.range 0 = #[] := rfl
      subst hv0
      have f1' := f1
      simp only [arr0, h0, if_true, Instr.fill, Option.some.injEq, h00] at f1'
      have : arr = #[] := by rw [← f1']; simp
      subst this
      simp [Instr.buildSlice, run_und (und_slice ht), hsz, hn, newRow, Instr.fill, h00]
    · have f1' := f1
      simp only [arr0, h0, if_false] at f1'
      simp [Instr.buildSlice, run_und (und_slice ht), hsz, h0, newRow, run_zero hi hzv, h30, f1']
  · obtain ⟨x, v, p1, p2, p3, p4, p5⟩ := hpart i hi'
    have ex : (parts.map Prod.snd).getD i V.any = x := by simp [List.getD_eq_getElem?_getD, p1]
    rw [ex]
    refine ⟨v, p3, p5, p4, fun j hj => ?_⟩
    rw [f3 i j hi' hj, if_pos (by omega)]
    simp [List.getD_eq_getElem?_getD, p2]

theorem isPure_rep : ∀ {x : V} {v : Value}, S.rep x v → x.isPure = true → RepP S.imm S.w x v := by
  intro x v h hp
  have atom : ∀ {x : V} {v : Value}, S.rep x v → (match x with | .int _ _ | .bool _ | .str _ | .nilsl | .sl _ _ | .con _ => true | _ => false) = true → RepP S.imm S.w x v := by
    intro x v h hx
    cases h with
    | pure h => exact h
    | _ => simp at hx
  cases x with
  | agg cs =>
    obtain ⟨vs, rfl, h1, h2, h3⟩ := inv_agg h
    simp only [V.isPure, List.all_eq_true] at hp
    refine .agg cs vs h1 (fun i hi => atom (h2 i hi) ?_) h3
    have : cs.getD i .any = cs[i] := by simp [List.getD_eq_getElem?_getD, hi]
    rw [this]
    exact hp _ (List.getElem_mem hi)
  | _ => exact atom h hp

theorem pure_cells {x : V} {v : Value} (h : RepP S.imm S.w x v) (ho : okCells x = true) : ∀ j, j < x.flat.length → RepP S.imm S.w (x.flat.getD j .any) (v.cells.getD j undef) := by
  intro j hj
  cases h with
  | agg cs vs h1 h2 h3 =>
    show RepP S.imm S.w (cs.getD j .any) (vs.toArray.getD j undef)
    rw [toArray_getD]; exact h2 j hj
  | int k n => obtain rfl : j = 0 := by simpa [V.flat] using hj
               exact .int k n
  | bool b => obtain rfl : j = 0 := by simpa [V.flat] using hj
              exact .bool b
  | str s => obtain rfl : j = 0 := by simpa [V.flat] using hj
             exact .str s
  | con v =>
    obtain rfl : j = 0 := by simpa [V.flat] using hj
    simp only [okCells, V.one] at ho
    have : v.cells = #[v] := by cases v <;> first | rfl | (simp [Value.oneCell'] at ho)
    rw [this]; exact .con v
  | nilsl a => obtain rfl : j = 0 := by simpa [V.flat] using hj
               exact .nilsl a
  | sl0 f a c => obtain rfl : j = 0 := by simpa [V.flat] using hj
                 exact .sl0 f a c
  | sl n f b off c sz u hb hnc hs hf hc ho' hp => obtain rfl : j = 0 := by simpa [V.flat] using hj
                                                  exact .sl n f b off c sz u hb hnc hs hf hc ho' hp

theorem RepP.push {w' : World} {o : Obj} (hs : Sim G S) (hp : Pushed S.w w' o) {x : V} {v : Value} (h : RepP S.imm S.w x v) : RepP (fun b => S.imm b ∨ b = S.w.heap.size) w' x v :=
  h.mono (fun _ h => .inl h) fun b hb => hp.old (hs.immLt b hb)

theorem ok_buildSlice (hs : Sim G S) (ow : Bool) (t : TypeId) (len : Nat) (parts : List (Nat × V)) (vals : List (Nat × Value)) (hl : vals.length = parts.length)
    (hv : ∀ k, k < parts.length → ∃ i x v, parts[k]? = some (i, x) ∧ vals[k]? = some (i, v) ∧ S.rep x v) :
    OkO G P d S (VS (Instr.buildSlice t len vals.toArray)) (vBuildSlice P ow d t len parts) := by
  unfold vBuildSlice
  split
  · rename_i e ht
    split
    · rename_i hio
      cases ow with
      | true =>
        simp only [cond_true]
        rintro ⟨h1, h2, h3, h4, h5⟩
        obtain ⟨arr, r1, r2, r3⟩ := buildSlice_run (S := S) t e len parts vals ht hio hl hv h1 h2 h3 h4 h5
        obtain ⟨g1, g2, g3⟩ := new_vec (d := d) (n := len) (cap := len) (f := litF (parts.map Prod.snd)) hs (Pushed.mk' S.w (.cells arr e)) h2 (Nat.le_refl _) r2 (.inl (Nat.le_refl _))
          (fun i hi => by obtain ⟨v, _, _, q, _⟩ := r3 i hi; exact q)
          (fun i j hi hj => by
            obtain ⟨v, q1, q2, q3, q4⟩ := r3 i hi
            rw [q4 j hj]; exact (cells_ok q1 q2).2.1 j (by omega))
          (fun i j hi hj => by
            obtain ⟨v, q1, q2, q3, q4⟩ := r3 i hi
            rw [q4 j hj]; exact (cells_ok q1 q2).2.2 j (by omega))
        exact ⟨_, _, _, .inl (run_VS r1), g1, g2, g3⟩
      | false =>
        simp only [cond_false]
        rintro ⟨h1, h2, h3, h4, h5⟩
        obtain ⟨arr, r1, r2, r3⟩ := buildSlice_run (S := S) t e len parts vals ht hio hl hv h1 h2 h3 h4 (fun x hx => ⟨(h5 x hx).1, (h5 x hx).2.1⟩)
        have hp := Pushed.mk' S.w (.cells arr e)
        have hgrow := Sim.grow hs (fun _ => False) { S.w with heap := S.w.heap.push (.cells arr e) } (fun b => S.imm b ∨ b = S.w.heap.size)
          ⟨rfl, rfl, rfl, by rw [hp.size]; exact Nat.le_succ _, fun b hb => hp.old hb⟩ (fun _ h => .inl h) (fun b hb => by
            rcases hb with h | h
            · exact .inl h
            · subst h; exact .inr ⟨Nat.le_refl _, by rw [hp.size]; exact Nat.lt_succ_self _⟩)
        refine ⟨_, _, _, .inl (run_VS r1), hgrow.1, hgrow.2, .pure ?_⟩
        refine .sl len _ S.w.heap.size 0 len (ti P e).size (fun i j => arr.getD (i * (ti P e).size + j) undef) (.inr rfl) (Nat.le_refl _) h2
          (fun i hi => by obtain ⟨v, _, _, q, _⟩ := r3 i hi; exact q) (fun i j hi hj => ?_) (fun i j hi hj => ?_) (fun i j hi hj => ?_)
        · rw [Nat.zero_add, cell_of_heap hp.new]
          have := mul_lt hi hj
          rw [← r2] at this
          simp [Array.getD, this]
        · obtain ⟨v, q1, q2, q3, q4⟩ := r3 i hi
          rw [q4 j hj]; exact (cells_ok q1 q2).2.2 j (by omega)
        · obtain ⟨v, q1, q2, q3, q4⟩ := r3 i hi
          rw [q4 j hj]
          refine RepP.push hs hp (pure_cells (isPure_rep q1 ?_) q2 j (by omega))
          have hm : (parts.map Prod.snd).getD i .any ∈ parts.map Prod.snd := by
            have : i < (parts.map Prod.snd).length := by simp; omega
            rw [List.getD_eq_getElem?_getD, List.getElem?_eq_getElem this]
            exact List.getElem_mem this
          exact (h5 _ hm).2.2
    · trivial
  · trivial
end Go.Abs
