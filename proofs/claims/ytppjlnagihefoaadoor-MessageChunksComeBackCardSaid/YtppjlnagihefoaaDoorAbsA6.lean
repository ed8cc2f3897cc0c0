import Derived.Test.YtppjlnagihefoaaDoorAbsA5
namespace Go.Abs
open Go
variable {G : PG}
variable {P : Program} {d : Nat} {S : Sv}

theorem ok_bin (hs : Sim G S) (op : BinOp) (t : TypeId) (x y : V) (a b : Value) (xo yo : Operand) (ha : S.rep x a) (hb : S.rep y b) :
    OkO G P d S (VS (do eqGuard op t xo yo a b; binOp op t a b)) (vBin P op t x y) := by
  have guard : ∀ (r : OR), (∀ cs, a ≠ .agg cs) → a ≠ .nilIface → OkO G P d S (VS (binOp op t a b)) r → OkO G P d S (VS (do eqGuard op t xo yo a b; binOp op t a b)) r := by
    intro r h1 h2 h
    have e : (VS (do eqGuard op t xo yo a b; binOp op t a b)).run P S.w = (VS (binOp op t a b)).run P S.w := by
      have : (eqGuard op t xo yo a b).run P S.w = .ok () S.w := by
        cases op <;> cases a <;> first | rfl | (exact absurd rfl (h1 _)) | (exact absurd rfl h2)
      simp only [VS, Sem.run_bind, this, Result.andThen_ok]
    cases r <;> simp only [OkO, runs, e] at h ⊢ <;> exact h
  unfold vBin
  split
  · obtain rfl := inv_int ha
    obtain rfl := inv_int hb
    refine guard _ (by simp) (by simp) ?_
    cases hsh : isSh op with
    | true =>
      simp only [vBinI]
      cases op <;> simp [isSh] at hsh
      · exact OkO.still hs fun hp => ⟨_, run_VS (by simp [binOp, Op.shift, Int.not_lt.2 hp]), .pure (.int _ _)⟩
      · exact OkO.still hs fun hp => ⟨_, run_VS (by simp [binOp, Op.shift, Int.not_lt.2 hp]), .pure (.int _ _)⟩
    | false =>
      simp only [vBinI]
      refine OkO.and fun hk => ?_
      subst hk
      exact ok_int hs _ _ _ _ _
  · obtain rfl := inv_str ha
    obtain rfl := inv_str hb
    exact guard _ (by simp) (by simp) (ok_str hs _ _ _ _)
  · obtain rfl := inv_bool ha
    obtain rfl := inv_bool hb
    exact guard _ (by simp) (by simp) (ok_bool hs _ _ _ _)
  · trivial

theorem ok_un (hs : Sim G S) (op : UnOp) (x : V) (a : Value) (ha : S.rep x a) : OkO G P d S (VS (Op.unary op a)) (vUn op x) := by
  unfold vUn
  split
  · obtain rfl := inv_bool ha
    split
    · exact OkO.still hs fun _ => ⟨_, run_VS rfl, .pure (.bool _)⟩
    · trivial
  · obtain rfl := inv_int ha
    split
    · exact ok_arith hs _ _ (by simp [Op.unary, Op.intArith])
    · trivial
  · trivial

theorem ok_pick (hs : Sim G S) (c x y : V) (u a b : Value) (hc : S.rep c u) (ha : S.rep x a) (hb : S.rep y b) :
    OkO G P d S (do pure (.value (if ← asBool u then a else b))) (vPick x y c) := by
  unfold vPick
  split
  · rename_i cc
    obtain rfl := inv_bool hc
    split
    · rename_i xa xb hxa hxb
      refine OkO.still hs fun ⟨h1, h2⟩ => ?_
      cases cc with
      | true =>
        have := rep_strip ha (h1 rfl)
        rw [hxa] at this
        obtain rfl := inv_bool this
        exact ⟨_, by simp [asBool], .pure (.bool _)⟩
      | false =>
        have := rep_strip hb (h2 rfl)
        rw [hxb] at this
        obtain rfl := inv_bool this
        exact ⟨_, by simp [asBool], .pure (.bool _)⟩
    · trivial
  · trivial

theorem ok_extract (hs : Sim G S) (i : Nat) (x : V) (a : Value) (ha : S.rep x a) : OkO G P d S (VS (Instr.extract a i)) (vExtract i x) := by
  unfold vExtract
  split
  · rename_i vs
    obtain ⟨us, rfl, h1, h2⟩ := inv_tup ha
    refine OkO.still hs fun hi => ⟨us.getD i undef, run_VS ?_, h2 i hi⟩
    have : us.toArray[i]? = some (us.getD i undef) := by rw [List.getElem?_toArray, List.getD_eq_getElem?_getD, List.getElem?_eq_getElem (by omega)]; rfl
    simp only [Instr.extract, this]
    rfl
  · trivial

theorem ok_index (hs : Sim G S) (t : TypeId) (x y : V) (a b : Value) (ha : S.rep x a) (hb : S.rep y b) : OkO G P d S (VS (Instr.index t a b)) (vIndex P t x y) := by
  unfold vIndex
  split
  · rename_i s k n
    obtain rfl := inv_str ha
    obtain rfl := inv_int hb
    split
    · rename_i ht
      refine OkO.still hs fun ⟨h0, h1⟩ => ⟨_, run_VS ?_, .pure (.int _ _)⟩
      have hlt : n.toNat < s.length := by omega
      have e : (⟨s.toArray⟩ : ByteArray)[n.toNat]? = some (s.getD n.toNat 0) := by
        rw [List.getD_eq_getElem?_getD, List.getElem?_eq_getElem hlt]
        have : n.toNat < ByteArray.size ⟨s.toArray⟩ := by rw [size_mk]; exact hlt
        rw [getElem?_pos (⟨s.toArray⟩ : ByteArray) n.toNat this]
        rfl
      simp [Instr.index, asIntOf, run_und (und_str ht), h0, e]
    · trivial
  · trivial

theorem cell_of_heap {w : World} {b : Nat} {arr : Array Value} {t : TypeId} {fz : Nat × Nat} (h : w.heap[b]? = some (.cells arr t fz)) (o : Nat) : w.cell? ⟨b, o, none⟩ = arr[o]? := by
  simp [World.cell?, h]
theorem addr_add (b o n : Nat) : (⟨b, o, none⟩ : Addr).add n = ⟨b, o + n, none⟩ := by
  unfold Addr.add; split <;> simp_all

theorem ok_indexAddr (hs : Sim G S) (t : TypeId) (x y : V) (a b : Value) (ha : S.rep x a) (hb : S.rep y b) : OkO G P d S (VS (Instr.indexAt t a b)) (vIndexAddr P S.h t x y) := by
  unfold vIndexAddr
  split
  · rename_i n f k i
    obtain rfl := inv_int hb
    have hsl := inv_sl ha
    split
    · rename_i e ht
      refine OkO.still hs fun ⟨h0, h1, h2⟩ => ?_
      have hit : i.toNat < n := by omega
      cases hsl with
      | sl0 => omega
      | sl _ _ b off c sz u hb hnc hsz hf hc ho hp =>
        have hz : sz = (ti P e).size := by rw [← h2, hf _ hit]
        obtain ⟨ie, hie, hie'⟩ := ti_size (P := P) (t := e) (by omega)
        refine ⟨.pointer (some ⟨b, off + i.toNat * sz, none⟩), run_VS ?_, ?_⟩
        · simp [Instr.indexAt, asIntOf, run_und (und_slice ht), h0, h1, run_size hie, addr_add, ← hie', ← hz]
        · refine .iptr _ b _ (u i.toNat) hb (fun j hj => ?_) (fun j hj => ?_) (fun j hj => ?_)
          · rw [Nat.add_assoc]; exact hc _ _ hit (by rw [hf _ hit] at hj; exact hj)
          · exact ho _ _ hit (by rw [hf _ hit] at hj; exact hj)
          · exact hp _ _ hit (by rw [hf _ hit] at hj; exact hj)
    · trivial
  · rename_i id n k i
    obtain rfl := inv_int hb
    obtain ⟨va, vm, vc, g1, g2, g3⟩ := inv_vec ha
    split
    · rename_i e sz m f ht hh
      refine OkO.stillRd hs fun ⟨h0, h1, h2, h3⟩ => ?_
      subst h2
      have hbk := hs.blk _ _ hh
      obtain ⟨k1, k2, ⟨k3, _⟩ | ⟨b, cap, arr, tt, lo, hi, k3, k4, kc, k5, k6, k7, k8⟩⟩ := hbk
      · omega
      · obtain ⟨ie, hie, hie'⟩ := ti_size (P := P) (t := e) (by omega)
        have em : vm = m := by rw [k3] at g1; cases g1; rfl
        have ev := g3 em.symm
        rw [k3] at ev
        subst ev
        refine ⟨.pointer (some ⟨b, i.toNat * sz + 0, none⟩), run_VS ?_, ?_⟩
        · simp [Instr.indexAt, asIntOf, run_und (und_slice ht), h0, h1, run_size hie, addr_add, ← hie', ← h3]
        · refine .eptr id m sz _ 0 _ _ _ _ k3 (Nat.le_refl _) (fun _ => ⟨b, rfl, rfl⟩) rfl
    · trivial
  · rename_i id off k i
    obtain rfl := inv_int hb
    obtain ⟨b, g1, rfl⟩ := inv_ptr ha
    split
    · rename_i len e ht
      refine OkO.still hs fun ⟨h0, h1, h2⟩ => ?_
      have hu := und_arr ht
      obtain ⟨ie, hie, hie'⟩ := ti_size (P := P) (t := e) (by omega)
      refine ⟨.pointer (some ⟨b, off + i.toNat * (ti P e).size, none⟩), run_VS ?_, .ptr id _ b g1⟩
      simp [Instr.indexAt, asIntOf, run_und hu, h0, h1, run_size hie, addr_add, ← hie', Instr.sureAddr]
    · trivial
  · trivial

theorem vec_len (hs : Sim G S) {id sz m : Nat} {f : Nat → V} (h : S.h id = some (.vec sz m f)) {a : Option Addr} {vm vc : Nat} (g : S.γ id = .slice a vm vc) : vm = m := by
  obtain ⟨k1, k2, ⟨k3, va, k4⟩ | ⟨b, cap, arr, tt, lo, hi, k3, _⟩⟩ := hs.blk _ _ h
  · rw [k4] at g; cases g; exact k3.symm
  · rw [k3] at g; cases g; rfl
theorem ok_fieldAddr (hs : Sim G S) (t : TypeId) (f : Nat) (x : V) (a : Value) (ha : S.rep x a) : OkO G P d S (VS (Instr.fieldAt t a f)) (vFieldAddr P S.h t f x) := by
  unfold vFieldAddr
  split
  · rename_i o ft hf
    unfold fieldOff at hf
    split at hf
    · rename_i fs hd
      obtain ⟨gs, hu, rfl⟩ := und_struct hd
      simp only [List.getElem?_map, Option.map_eq_some_iff] at hf
      obtain ⟨fd, hfd, he⟩ := hf
      obtain ⟨rfl, rfl⟩ : fd.offset = o ∧ fd.type = ft := by simpa using he
      have run : ∀ b off, 0 < (ti P fd.type).size → (Instr.fieldAt t (.pointer (some ⟨b, off, none⟩)) f).run P S.w = .ok (.pointer (some ⟨b, off + fd.offset, none⟩)) S.w := by
        intro b off hpos
        obtain ⟨ie, hie, hie'⟩ := ti_size (P := P) (t := fd.type) hpos
        have hg : gs[f]? = some fd := by simpa using hfd
        simp [Instr.fieldAt, run_und hu, hg, Instr.sureAddr, fieldPlace, run_size hie, show ¬ ie.size = 0 by omega, addr_add]
      split
      · obtain ⟨b, g1, rfl⟩ := inv_ptr ha
        exact OkO.still hs fun hp => ⟨_, run_VS (run _ _ hp), .ptr _ _ b g1⟩
      · rename_i id n sz i off
        obtain ⟨va, vm, vc, g1, g2, g3⟩ := inv_eptr ha
        split
        · rename_i z m ff hh
          refine OkO.stillRd hs fun ⟨hm, hp⟩ => ?_
          subst hm
          have em : vm = m := vec_len hs hh g1
          subst em
          obtain ⟨b, rfl, rfl⟩ := g3 rfl
          exact ⟨_, run_VS (run _ _ hp), .eptr _ _ _ _ _ _ _ _ _ g1 (Nat.le_refl _) (fun _ => ⟨b, rfl, by rw [Nat.add_assoc]⟩) rfl⟩
        · trivial
      · rename_i cs
        obtain ⟨b, off, u, rfl, h1, h2, h3, h4⟩ := inv_iptr ha
        refine OkO.still hs fun ⟨hp, hle⟩ => ⟨_, run_VS (run _ _ hp), .iptr _ b _ (fun j => u (fd.offset + j)) h1 (fun j hj => ?_) (fun j hj => ?_) (fun j hj => ?_)⟩
        · simp only [List.length_drop] at hj
          rw [Nat.add_assoc]; exact h2 _ (by omega)
        · simp only [List.length_drop] at hj
          exact h3 _ (by omega)
        · simp only [List.length_drop] at hj
          have := h4 (fd.offset + j) (by omega)
          simpa [List.getD_eq_getElem?_getD, List.getElem?_drop] using this
      · trivial
    · cases hf
  · trivial
end Go.Abs
