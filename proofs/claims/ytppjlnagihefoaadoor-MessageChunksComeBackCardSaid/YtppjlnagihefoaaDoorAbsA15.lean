import Derived.Test.YtppjlnagihefoaaDoorAbsA14
namespace Go.Abs
open Go
variable {G : PG}
variable {P : Program} {d : Nat} {S : Sv}

theorem store_run (b o : Nat) (t : TypeId) (lo hi : Nat) : ∀ (vs : List Value) (i : Nat) (arr : Array Value) (w : World), w.heap[b]? = some (.cells arr t (lo, hi)) → (hi ≤ lo ∨ arr.size ≤ lo) → o + i + vs.length ≤ arr.size → (∀ v ∈ vs, one v) →
    (storeCells ⟨b, o, none⟩ vs i).run P w = .ok () (w.setRow b ((vs.zipIdx i).foldl (fun cs (p : Value × Nat) => cs.setIfInBounds (o + p.2) p.1) arr))
  | [], i, arr, w, hg, _, _, _ => by
    simp only [storeCells, List.zipIdx_nil, List.foldl_nil]
    rw [setRow_self w b arr t (lo, hi) hg]
    rfl
  | v :: vs, i, arr, w, hg, hfz, hl, h1 => by
    simp only [List.length_cons] at hl
    have hi' : o + i < arr.size := by omega
    have hcell : w.cell? ⟨b, o + i, none⟩ = some arr[o + i] := by rw [cell_of_heap hg]; simp [hi']
    have hfro : w.frozen? ⟨b, o + i, none⟩ = false := by
      simp only [World.frozen?, hg, Bool.and_eq_false_iff, decide_eq_false_iff_not]
      omega
    have hst : (store ((⟨b, o, none⟩ : Addr).add i) v).run P w = .ok () (w.setRow b (arr.setIfInBounds (o + i) v)) := by
      rw [addr_add, run_store P w _ v _ (h1 v (by simp)), hcell]
      simp [hfro, setCell_eq_setRow w b (o + i) arr t (lo, hi) v hg]
    have ih := store_run b o t lo hi vs (i + 1) (arr.setIfInBounds (o + i) v) (w.setRow b (arr.setIfInBounds (o + i) v)) (setRow_heap w b arr _ t _ hg) (by rw [Array.size_setIfInBounds]; exact hfz) (by rw [Array.size_setIfInBounds]; omega) (fun x hx => h1 x (by simp [hx]))
    simp only [storeCells, Sem.run_bind, hst, Result.andThen_ok, ih, setRow_setRow, List.zipIdx_cons, List.foldl_cons]

theorem storeAt_run {t : TypeId} {b off : Nat} {arr : Array Value} {tt : TypeId} {lo hi : Nat} {v : Value} (hsz : v.cells.size = (ti P t).size) (hpos : 0 < (ti P t).size) (hg : S.w.heap[b]? = some (.cells arr tt (lo, hi))) (hfz : hi ≤ lo ∨ arr.size ≤ lo)
    (hle : off + v.cells.size ≤ arr.size) (ho : ∀ i, i < v.cells.size → one (v.cells.getD i undef)) :
    (Instr.storeAt t (.pointer (some ⟨b, off, none⟩)) v).run P S.w = .ok () (S.w.setRow b (v.cells.zipIdx.foldl (fun cs (c, j) => cs.setIfInBounds (off + j) c) arr)) := by
  obtain ⟨ie, h1, h2⟩ := ti_size (P := P) hpos
  have e : v.cells.zipIdx.foldl (fun cs (c, j) => cs.setIfInBounds (off + j) c) arr = (v.cells.toList.zipIdx 0).foldl (fun cs (p : Value × Nat) => cs.setIfInBounds (off + p.2) p.1) arr := by
    rw [← Array.foldl_toList, Array.toList_zipIdx]
  have hr := store_run (P := P) b off tt lo hi v.cells.toList 0 arr S.w hg hfz (by simpa using hle) (fun x hx => by
    obtain ⟨i, hi, rfl⟩ := List.mem_iff_getElem.1 hx
    have := ho i (by simpa using hi)
    simp only [Array.length_toList] at hi
    simpa [Array.getD, hi] using this)
  rw [e, ← hr]
  simp [Instr.storeAt, Instr.sureAddr, storeVar, run_size h1, hsz, h2]

theorem flat_of_one {c : V} {u : Value} (h : S.rep c u) (ho : one u) : c.flat = [c] := by
  cases c with
  | agg cs => obtain ⟨vs, rfl, _⟩ := inv_agg h; simp [one, Value.oneCell'] at ho
  | _ => rfl
theorem ok_store (hs : Sim G S) (t : TypeId) (x y : V) (a v : Value) (ha : S.rep y a) (hv : S.rep x v) : OkO G P d S (do Instr.storeAt t a v; pure .skip) (vStore P S.h t x y) := by
  have skip : ∀ {a v : Value} {w' : World}, (Instr.storeAt t a v).run P S.w = .ok () w' → runs (P := P) (do Instr.storeAt t a v; pure .skip) S.w undef w' := fun h => .inr ⟨by simp [h], rfl⟩
  unfold vStore
  split
  · rename_i id off
    obtain ⟨b, g1, rfl⟩ := inv_ptr ha
    split
    · rename_i cs hh
      rintro ⟨h1, h2, h3, h4⟩
      obtain ⟨b', arr, tt, lo, hi, k1, k2, k3, k4, k5⟩ := hs.blk _ _ hh
      rw [g1] at k1; cases k1
      obtain ⟨c1, c2, c3⟩ := cells_ok hv h2
      have hle : off + x.flat.length ≤ cs.length := by omega
      have hset := RepL.set (S := S) (cs := cs) (arr := arr) ⟨k3, fun i hi => (k5 i hi).1, fun i hi => (k5 i hi).2⟩ hv h2 hle
      have hrun := storeAt_run (P := P) (S := S) (t := t) (b := b) (off := off) (v := v) (by omega) h4 k2 k4 (by omega) (fun i hi => c3 i (by omega))
      generalize hA : v.cells.zipIdx.foldl (fun cs (c, j) => cs.setIfInBounds (off + j) c) arr = arr' at hrun hset
      have hγ : upd S.γ id (S.γ id) = S.γ := by funext j; by_cases e : j = id <;> simp [upd, e]
      have hsame : ∀ c, S.imm c → (S.w.setRow b arr').heap[c]? = S.w.heap[c]? := fun c hc => setRow_other _ _ _ _ (fun e => by
        subst e; exact hs.disj c ⟨id, by rw [hh]; rfl, by simp [g1, blkOf]⟩ hc)
      have := Sim.upd hs (fun _ => False) id (S.γ id) (.cells (setR cs off x.flat)) (S.w.setRow b arr') rfl rfl rfl (by simp)
        (fun c hc hn => setRow_other _ _ _ _ (fun e => hn ⟨by rw [hh]; rfl, by simp [g1, blkOf, e]⟩)) (fun c hc => .inl ⟨by rw [hh]; rfl, hc⟩)
        ⟨b, arr', tt, lo, hi, by rw [hγ]; exact g1, setRow_heap _ _ _ _ _ _ k2, hset.1, by rw [hset.1, setR_len hle, ← k3]; exact k4, fun i hi => by
          rw [hγ]
          exact ⟨(hset.2.1 i hi).mono (fun _ h => h) hsame fun _ _ => .refl _, hset.2.2 i hi⟩⟩
        (.inr (.refl _))
      rw [hγ] at this
      exact ⟨_, _, _, skip hrun, this.1, this.2, .any _⟩
    · trivial
  · rename_i id n sz i off
    obtain ⟨va, vm, vc, g1, g2, g3⟩ := inv_eptr ha
    split
    · rename_i sz' m f hh
      rintro ⟨hm, hz, hi, hle, h1, h2, h3⟩
      subst hm hz
      obtain ⟨k1, k2, ⟨k3, _⟩ | ⟨b, cap, arr, tt, lo, hi', k3, k4, kc, k5, k6, k7, k8⟩⟩ := hs.blk _ _ hh
      · omega
      have em := vec_len hs hh g1
      subst em
      obtain ⟨b', rfl, rfl⟩ := g3 rfl
      rw [g1] at k3
      cases k3
      obtain ⟨c1, c2, c3⟩ := cells_ok hv h2
      have hfl := k2 i hi
      have hsub : off + x.flat.length ≤ (f i).flat.length := by omega
      have m1 : (i + 1) * sz' ≤ vm * sz' := Nat.mul_le_mul_right _ (by omega)
      have m2 : vm * sz' ≤ vc * sz' := Nat.mul_le_mul_right _ k4
      have m3 : (i + 1) * sz' = i * sz' + sz' := by rw [Nat.add_mul, Nat.one_mul]
      have hbound : i * sz' + off + v.cells.size ≤ arr.size := by omega
      have hrun := storeAt_run (P := P) (S := S) (t := t) (b := b) (off := i * sz' + off) (v := v) (by omega) h3 k5 k7 hbound (fun i hi => c3 i (by omega))
      have hfold := fold_cells v (i * sz' + off) arr hbound
      generalize hA : v.cells.zipIdx.foldl (fun cs (c, j) => cs.setIfInBounds (i * sz' + off + j) c) arr = arr' at hrun hfold
      have hγ : upd S.γ id (S.γ id) = S.γ := by funext j; by_cases e : j = id <;> simp [upd, e]
      have hown : (S.h id).isSome = true ∧ blkOf (S.γ id) = some b := ⟨by rw [hh]; rfl, by simp [g1, blkOf]; omega⟩
      have hsame : ∀ c, S.imm c → (S.w.setRow b arr').heap[c]? = S.w.heap[c]? := fun c hc => setRow_other _ _ _ _ (fun e => by
        subst e; exact hs.disj c ⟨id, hown⟩ hc)
      -- the element that turns
      have hcell : ∀ j, j < sz' → S.rep ((setR (f i).flat off x.flat).getD j .any) (arr'.getD (i * sz' + j) undef) ∧ one (arr'.getD (i * sz' + j) undef) := by
        intro j hj
        rw [setR_getD hsub, hfold.2, c1]
        by_cases hc : off ≤ j ∧ j < off + x.flat.length
        · rw [if_pos hc, if_pos (by omega)]
          rw [show i * sz' + j - (i * sz' + off) = j - off by omega]
          exact ⟨c2 _ (by omega), c3 _ (by omega)⟩
        · rw [if_neg hc, if_neg (by omega)]
          exact k8 i j hi hj
      have hre : (reV (f i) (setR (f i).flat off x.flat)).flat.length = sz' ∧ ∀ j, j < sz' → (reV (f i) (setR (f i).flat off x.flat)).flat.getD j .any = (setR (f i).flat off x.flat).getD j .any := by
        have hlen := setR_len hsub
        rw [hfl] at hlen
        cases hfi : f i with
        | agg cs => exact ⟨by simpa [reV, V.flat, hfi] using hlen, fun j hj => rfl⟩
        | _ =>
          have hz1 : sz' = 1 := by rw [← hfl, hfi]; rfl
          subst hz1
          have h0 := hcell 0 (by omega)
          rw [hfi] at h0
          have hf := flat_of_one h0.1 h0.2
          refine ⟨?_, fun j hj => ?_⟩
          · simp only [reV]; rw [hf]; rfl
          · obtain rfl : j = 0 := by omega
            simp only [reV]; rw [hf]; rfl
      have := Sim.upd hs (fun _ => False) id (S.γ id) (.vec sz' vm (setF f i (reV (f i) (setR (f i).flat off x.flat)))) (S.w.setRow b arr') rfl rfl rfl (by simp)
        (fun c hc hn => setRow_other _ _ _ _ (fun e => hn ⟨hown.1, by rw [hown.2, e]⟩)) (fun c hc => .inl ⟨hown.1, hc⟩)
        ⟨k1, fun k hk => by
          simp only [setF]
          by_cases e : k = i
          · simp only [e, decide_true, cond_true]; exact hre.1
          · simp only [e, decide_false, cond_false]; exact k2 k hk, .inr ⟨b, vc, arr', tt, lo, hi', by rw [hγ]; exact g1, k4, kc, setRow_heap _ _ _ _ _ _ k5, hfold.1.trans k6, by rw [hfold.1]; exact k7, fun k j hk hj => by
          rw [hγ]
          have : S.rep ((setF f i (reV (f i) (setR (f i).flat off x.flat)) k).flat.getD j .any) (arr'.getD (k * sz' + j) undef) ∧ one (arr'.getD (k * sz' + j) undef) := by
            simp only [setF]
            by_cases e : k = i
            · subst e
              simp only [decide_true, cond_true]
              rw [hre.2 j hj]; exact hcell j hj
            · simp only [e, decide_false, cond_false]
              rw [hfold.2, if_neg]
              · exact k8 k j hk hj
              · intro ⟨q1, q2⟩
                rcases Nat.lt_or_gt_of_ne e with h6 | h6
                · have := mul_lt (i := k) (n := i) h6 hj; omega
                · have : (i + 1) * sz' ≤ k * sz' := Nat.mul_le_mul_right _ (by omega)
                  omega
          exact ⟨this.1.mono (fun _ h => h) hsame fun _ _ => .refl _, this.2⟩⟩⟩
        (.inr (.refl _))
      rw [hγ] at this
      exact ⟨_, _, _, skip hrun, this.1, this.2, .any _⟩
    · trivial
  · trivial
end Go.Abs
