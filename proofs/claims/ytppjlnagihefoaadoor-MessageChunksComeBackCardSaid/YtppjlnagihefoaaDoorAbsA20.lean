import Derived.Test.YtppjlnagihefoaaDoorAbsA19
namespace Go.Abs
open Go
variable {G : PG}
variable {P : Program} {S : Sv}

theorem BlkOk.toShift {γ γ' : Gh} {imm : Nat → Prop} {w : World} {id : Nat} {k : Blk} (hγ : ∀ id, γ' (id + 9000) = γ id) (h : BlkOk γ imm w id k) : BlkOk γ' imm w (id + 9000) k.shift := by
  cases k with
  | cells cs =>
    obtain ⟨b, arr, t, lo, hi, h1, h2, h3, h4, h5⟩ := h
    refine ⟨b, arr, t, lo, hi, (hγ id).trans h1, h2, by rw [shiftL_len]; exact h3, h4, fun i hlt => ?_⟩
    rw [shiftL_len] at hlt
    rw [shiftL_getD]
    exact ⟨rep_shift hγ (h5 i hlt).1, (h5 i hlt).2⟩
  | vec sz n f =>
    obtain ⟨h1, h2, h3⟩ := h
    refine ⟨h1, fun i hi => by rw [flat_shift, shiftL_len]; exact h2 i hi, ?_⟩
    rcases h3 with ⟨h3, a, h4⟩ | ⟨b, cap, arr, t, lo, hi', h3, h4, hc, h5, h6, h7, h8⟩
    · exact .inl ⟨h3, a, (hγ id).trans h4⟩
    · refine .inr ⟨b, cap, arr, t, lo, hi', (hγ id).trans h3, h4, hc, h5, h6, h7, fun i j hlt hj => ?_⟩
      rw [flat_shift, shiftL_getD]
      exact ⟨rep_shift hγ (h8 i j hlt hj).1, (h8 i j hlt hj).2⟩
theorem BlkOk.ofShift {γ γ' : Gh} {imm : Nat → Prop} {w : World} {id : Nat} {k : Blk} (hγ : ∀ id, γ' (id + 9000) = γ id) (h : BlkOk γ' imm w (id + 9000) k.shift) : BlkOk γ imm w id k := by
  cases k with
  | cells cs =>
    obtain ⟨b, arr, t, lo, hi, h1, h2, h3, h4, h5⟩ := h
    rw [shiftL_len] at h3 h5
    exact ⟨b, arr, t, lo, hi, (hγ id).symm.trans h1, h2, h3, h4, fun i hlt => ⟨rep_unshift hγ (by have := (h5 i hlt).1; rwa [shiftL_getD] at this), (h5 i hlt).2⟩⟩
  | vec sz n f =>
    obtain ⟨h1, h2, h3⟩ := h
    refine ⟨h1, fun i hi => by have := h2 i hi; rwa [flat_shift, shiftL_len] at this, ?_⟩
    rcases h3 with ⟨h3, a, h4⟩ | ⟨b, cap, arr, t, lo, hi', h3, h4, hc, h5, h6, h7, h8⟩
    · exact .inl ⟨h3, a, (hγ id).symm.trans h4⟩
    · refine .inr ⟨b, cap, arr, t, lo, hi', (hγ id).symm.trans h3, h4, hc, h5, h6, h7, fun i j hlt hj => ?_⟩
      have := (h8 i j hlt hj).1
      rw [flat_shift, shiftL_getD] at this
      exact ⟨rep_unshift hγ this, (h8 i j hlt hj).2⟩

def entB (P : Program) (f : FuncId) : Bool := match P.funcs[f]? with
  | some fn => !(fn.name == "runtime.NumGoroutine") && fn.body.isSome
  | none => false
theorem entB_run {f : FuncId} (h : entB P f = true) (args : Array Value) (w : World) : (callFunc f args).run P w = .ok (.enter f args) w := by
  unfold entB at h
  cases hf : P.funcs[f]? with
  | none => rw [hf] at h; cases h
  | some fn =>
    rw [hf] at h
    simp only [Bool.and_eq_true, Bool.not_eq_true'] at h
    obtain ⟨h1, h2⟩ := h
    have h3 : fn.body.isNone = false := by cases hb : fn.body <;> simp_all
    simp only [callFunc, Sem.run_bind, run_program, Result.andThen_ok, hf, h1, h3, Bool.false_eq_true, if_false, Sem.run_pure]

/-- a call that goes into a body, or is answered at once -/
def CallsX (P : Program) (f : FuncId) (args : Array Value) (w : World) (R : Ending → World → Prop) : Prop :=
  (entB P f = true ∧ Calls P f args w R) ∨ ∃ v w', (callFunc f args).run P w = .ok (.value v) w' ∧ R (.returned v) w'
theorem CallsX.mono {f : FuncId} {args : Array Value} {w : World} {R R' : Ending → World → Prop} (h : CallsX P f args w R) (hr : ∀ e w', R e w' → R' e w') : CallsX P f args w R' := by
  rcases h with ⟨h1, h2⟩ | ⟨v, w', h1, h2⟩
  · exact .inl ⟨h1, h2.mono hr⟩
  · exact .inr ⟨v, w', h1, hr _ _ h2⟩
/-- WHAT A CALL DOES, said of abstract values: it is handed 'args' and the blocks 'hl', and hands back r; behind it the blocks are hl'. -/
def FCall (G : PG) (f : FuncId) (args : List V) (hl : HL) (r : V) (hl' : HL) : Prop :=
  ∀ (S : Sv) (vals : List Value), Sim G S → S.h = hOf hl → vals.length = args.length → (∀ i, i < args.length → S.rep (args.getD i .any) (vals.getD i undef)) →
    CallsX G.prog f vals.toArray S.w fun e w' => ∃ v γ' imm', e = .returned v ∧ Sim G ⟨γ', imm', hOf hl', w'⟩ ∧ Ext (fun _ => False) S ⟨γ', imm', hOf hl', w'⟩ ∧ (∀ id, hOf hl id = none → γ' id = S.γ id) ∧ RepV γ' imm' w' r v
abbrev PCall (G : PG) (f : FuncId) (args : List V) (r : V) : Prop := FCall G f args [] r []

def ovr (hl hl' : HL) (H : Heap) : Heap := fun id => if (hOf hl id).isSome then hOf hl' id else H id
def CallA (G : PG) (f : FuncId) (args : List V) (H : Heap) (k : V → Heap → Prop) : Prop :=
  ∃ hl r hl', (∀ id b, hOf hl id = some b → H id = some b) ∧ (∀ id, (hOf hl' id).isSome = true → (hOf hl id).isSome = true) ∧ FCall G f (args.map V.shift) hl.shift r.shift hl'.shift ∧ k r (ovr hl hl' H)

/-- What a call leaves, for the caller. -/
def After (G : PG) (S : Sv) (k : V → Heap → Prop) (e : Ending) (w' : World) : Prop :=
  ∃ v γ' imm' r h', e = .returned v ∧ Sim G ⟨γ', imm', h', w'⟩ ∧ Ext (fun _ => False) S ⟨γ', imm', h', w'⟩ ∧ RepV γ' imm' w' r v ∧ k r h'

theorem hOf_shift_some {l : HL} {id : Nat} {b : Blk} (h : hOf l.shift id = some b) : ∃ i k, id = i + 9000 ∧ hOf l i = some k ∧ b = k.shift := by
  by_cases hlt : id < 9000
  · rw [hOf_shift_low l id hlt] at h; cases h
  · obtain ⟨i, rfl⟩ : ∃ i, id = i + 9000 := ⟨id - 9000, by omega⟩
    rw [hOf_shift] at h
    obtain ⟨k, hk, rfl⟩ := Option.map_eq_some_iff.1 h
    exact ⟨i, k, rfl, hk, rfl⟩

theorem callA_sound (hs : Sim G S) {f : FuncId} {args : List V} {vals : List Value} {k : V → Heap → Prop} (hl : vals.length = args.length) (hr : ∀ i, i < args.length → S.rep (args.getD i .any) (vals.getD i undef))
    (h : CallA G f args S.h k) : CallsX G.prog f vals.toArray S.w (After G S k) := by
  obtain ⟨l, r, l', h1, h2, hc, hk⟩ := h
  have own1 : ∀ b, Sv.own ⟨shG S.γ, S.imm, hOf l.shift, S.w⟩ b → ∃ i, (hOf l i).isSome = true ∧ blkOf (S.γ i) = some b := by
    rintro b ⟨id, hid, hb⟩
    obtain ⟨kk, hkk⟩ := Option.isSome_iff_exists.1 hid
    obtain ⟨i, k0, rfl, hi, _⟩ := hOf_shift_some hkk
    exact ⟨i, by rw [hi]; rfl, by rwa [show (Sv.γ ⟨shG S.γ, S.imm, hOf l.shift, S.w⟩) (i + 9000) = S.γ i from shG_shift _ _] at hb⟩
  have isS : ∀ i, (hOf l i).isSome = true → (S.h i).isSome = true := fun i hi => by
    obtain ⟨b, hb⟩ := Option.isSome_iff_exists.1 hi
    rw [h1 i b hb]; rfl
  have own1S : ∀ b, Sv.own ⟨shG S.γ, S.imm, hOf l.shift, S.w⟩ b → S.own b := fun b hb => by
    obtain ⟨i, hi, hb⟩ := own1 b hb
    exact ⟨i, isS i hi, hb⟩
  have S1 : Sim G ⟨shG S.γ, S.imm, hOf l.shift, S.w⟩ := by
    refine ⟨fun id b hb => ?_, fun i j b hi hj hbi hbj => ?_, hs.immLt, fun b hb => hs.disj b (own1S b hb), hs.tab.of (fun _ h => h) fun _ _ => rfl⟩
    · obtain ⟨i, k0, rfl, hi, rfl⟩ := hOf_shift_some hb
      exact (hs.blk i k0 (h1 i k0 hi)).toShift (shG_shift _)
    · obtain ⟨ki, hki⟩ := Option.isSome_iff_exists.1 hi
      obtain ⟨kj, hkj⟩ := Option.isSome_iff_exists.1 hj
      obtain ⟨i, _, rfl, hi', _⟩ := hOf_shift_some hki
      obtain ⟨j, _, rfl, hj', _⟩ := hOf_shift_some hkj
      simp only [shG_shift] at hbi hbj
      rw [hs.inj i j b (isS i (by rw [hi']; rfl)) (isS j (by rw [hj']; rfl)) hbi hbj]
  have hcall := hc ⟨shG S.γ, S.imm, hOf l.shift, S.w⟩ vals S1 rfl (by simpa using hl) (fun i hi => by
    simp only [List.length_map] at hi
    have : (args.map V.shift).getD i .any = V.shift (args.getD i .any) := by simp [List.getD_eq_getElem?_getD, hi]
    rw [this]
    exact rep_shift (shG_shift _) (hr i hi))
  refine hcall.mono fun e w' ⟨v, γ1, imm1, he, q1, q2, q3, q4⟩ => ?_
  refine ⟨v, unG γ1, imm1, r, ovr l l' S.h, he, ?_, ?_, rep_unshift (fun _ => rfl) q4, hk⟩
  · -- the whole
    have keepB : ∀ i b, (hOf l i).isSome = false → (S.h i).isSome = true → blkOf (S.γ i) = some b → ¬ Sv.own ⟨shG S.γ, S.imm, hOf l.shift, S.w⟩ b := by
      intro i b hi hS hb ho
      obtain ⟨j, hj, hb'⟩ := own1 b ho
      have := hs.inj i j b hS (isS j hj) hb hb'
      subst this
      rw [hj] at hi; cases hi
    have gam : ∀ i, (hOf l i).isSome = false → unG γ1 i = S.γ i := by
      intro i hi
      have : hOf l.shift (i + 9000) = none := by rw [hOf_shift]; cases hh : hOf l i <;> simp_all
      have := q3 _ this
      exact this.trans (shG_shift _ _)
    have own' : ∀ i b, (hOf l i).isSome = true → (hOf l' i).isSome = true → blkOf (unG γ1 i) = some b → Sv.own ⟨γ1, imm1, hOf l'.shift, w'⟩ b := by
      intro i b hi hi' hb
      exact ⟨i + 9000, by show (hOf l'.shift (i + 9000)).isSome = true; rw [hOf_shift]; cases hh : hOf l' i <;> simp_all, hb⟩
    refine ⟨fun i b hb => ?_, fun i j b hi hj hbi hbj => ?_, q1.immLt, fun b ⟨i, hi, hb⟩ him => ?_, q1.tab.of (fun _ h => h) fun _ _ => rfl⟩
    · simp only [ovr] at hb
      cases hli : (hOf l i).isSome with
      | true =>
        rw [hli, if_pos rfl] at hb
        exact (q1.blk (i + 9000) b.shift (by show hOf l'.shift (i + 9000) = _; rw [hOf_shift, hb]; rfl)).ofShift (fun _ => rfl)
      | false =>
        rw [hli, if_neg (by simp)] at hb
        refine (hs.blk i b hb).mono q2.imm (fun c hc' => q2.keep c (hs.immLt c hc') fun ho => hs.disj c (own1S c ho) hc') (fun c hc' => q2.keep c (hs.ownLt ⟨i, by rw [hb]; rfl, hc'⟩) (keepB i c hli (by rw [hb]; rfl) hc')) (gam i hli) fun j _ => ?_
        have := q2.evo (j + 9000) (by simp)
        rwa [show (Sv.γ ⟨shG S.γ, S.imm, hOf l.shift, S.w⟩) (j + 9000) = S.γ j from shG_shift _ _] at this
    · simp only [ovr] at hi hj
      cases hli : (hOf l i).isSome <;> cases hlj : (hOf l j).isSome <;> rw [hli] at hi <;> rw [hlj] at hj
      · simp only [Bool.false_eq_true, if_false] at hi hj
        simp only [gam i hli, gam j hlj] at hbi hbj
        exact hs.inj i j b hi hj hbi hbj
      · exfalso
        simp only [Bool.false_eq_true, if_false, if_true] at hi hj
        simp only [gam i hli] at hbi
        rcases q2.own b (own' j b hlj hj hbj) with ho | ho
        · exact keepB i b hli hi hbi ho
        · have := hs.ownLt (b := b) ⟨i, hi, hbi⟩; simp only at ho; omega
      · exfalso
        simp only [Bool.false_eq_true, if_false, if_true] at hi hj
        simp only [gam j hlj] at hbj
        rcases q2.own b (own' i b hli hi hbi) with ho | ho
        · exact keepB j b hlj hj hbj ho
        · have := hs.ownLt (b := b) ⟨j, hj, hbj⟩; simp only at ho; omega
      · simp only [if_true] at hi hj
        have := q1.inj (i + 9000) (j + 9000) b (by show (hOf l'.shift (i + 9000)).isSome = true; rw [hOf_shift]; cases hh : hOf l' i <;> simp_all) (by show (hOf l'.shift (j + 9000)).isSome = true; rw [hOf_shift]; cases hh : hOf l' j <;> simp_all) hbi hbj
        omega
    · simp only [ovr] at hi
      cases hli : (hOf l i).isSome <;> rw [hli] at hi
      · simp only [Bool.false_eq_true, if_false] at hi
        simp only [gam i hli] at hb
        rcases q2.immNew b him with hh | hh | hh
        · exact hs.disj b ⟨i, hi, hb⟩ hh
        · exact keepB i b hli hi hb hh
        · have := hs.ownLt (b := b) ⟨i, hi, hb⟩; simp only at hh; omega
      · simp only [if_true] at hi
        exact q1.disj b (own' i b hli hi hb) him
  · refine ⟨q2.os, q2.tape, q2.output, q2.size, fun b hb ho => q2.keep b hb fun h => ho (own1S b h), q2.imm, fun b hb => ?_, fun b ⟨i, hi, hb⟩ => ?_, fun j _ => ?_⟩
    · rcases q2.immNew b hb with hh | hh | hh
      · exact .inl hh
      · exact .inr (.inl (own1S b hh))
      · exact .inr (.inr hh)
    · simp only [ovr] at hi
      cases hli : (hOf l i).isSome <;> rw [hli] at hi
      · simp only [Bool.false_eq_true, if_false] at hi
        have : unG γ1 i = S.γ i := by
          have : hOf l.shift (i + 9000) = none := by rw [hOf_shift]; cases hh : hOf l i <;> simp_all
          exact (q3 _ this).trans (shG_shift _ _)
        simp only [this] at hb
        exact .inl ⟨i, hi, hb⟩
      · simp only [if_true] at hi
        rcases q2.own b ⟨i + 9000, by show (hOf l'.shift (i + 9000)).isSome = true; rw [hOf_shift]; cases hh : hOf l' i <;> simp_all, hb⟩ with ho | ho
        · exact .inl (own1S b ho)
        · exact .inr ho
    · have := q2.evo (j + 9000) (by simp)
      rwa [show (Sv.γ ⟨shG S.γ, S.imm, hOf l.shift, S.w⟩) (j + 9000) = S.γ j from shG_shift _ _] at this
end Go.Abs
