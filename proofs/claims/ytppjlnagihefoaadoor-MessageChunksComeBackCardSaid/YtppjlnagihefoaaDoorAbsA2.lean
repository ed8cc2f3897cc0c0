import Derived.Test.YtppjlnagihefoaaDoorAbsA1
namespace Go.Abs
open Go
variable {G : PG}

def upd {α : Type} (f : Nat → α) (i : Nat) (v : α) : Nat → α := fun t => if t = i then v else f t
@[simp] theorem upd_same {α : Type} (f : Nat → α) (i : Nat) (v : α) : upd f i v i = v := by simp [upd]
theorem upd_ne {α : Type} (f : Nat → α) {i j : Nat} (v : α) (h : j ≠ i) : upd f i v j = f j := by simp [upd, h]

/-- A change at one identity. -/
theorem Sim.upd {S : Sv} (hs : Sim G S) (A : Nat → Prop) (id : Nat) (val : Value) (k : Blk) (w' : World)
    (hos : w'.os = S.w.os) (htape : w'.tape = S.w.tape) (hout : w'.output = S.w.output) (hsize : S.w.heap.size ≤ w'.heap.size)
    (hkeep : ∀ b, b < S.w.heap.size → ¬ ((S.h id).isSome = true ∧ blkOf (S.γ id) = some b) → w'.heap[b]? = S.w.heap[b]?)
    (hval : ∀ b, blkOf val = some b → ((S.h id).isSome = true ∧ blkOf (S.γ id) = some b) ∨ S.w.heap.size ≤ b)
    (hk : BlkOk (Abs.upd S.γ id val) S.imm w' id k)
    (hevo : (A id ∧ ∀ j b, S.h j = some b → j ≠ id → ¬ b.men id) ∨ Evo (S.γ id) val) :
    Sim G ⟨Abs.upd S.γ id val, S.imm, Abs.upd S.h id (some k), w'⟩ ∧ Ext A S ⟨Abs.upd S.γ id val, S.imm, Abs.upd S.h id (some k), w'⟩ := by
  have himm : ∀ b, S.imm b → w'.heap[b]? = S.w.heap[b]? := fun b hb =>
    hkeep b (hs.immLt b hb) fun ⟨h1, h2⟩ => hs.disj b ⟨id, h1, h2⟩ hb
  refine ⟨⟨fun j b hj => ?_, fun i j b hi hj h1 h2 => ?_, fun b hb => Nat.lt_of_lt_of_le (hs.immLt b hb) hsize, fun b hb him => ?_, hs.tab.of (fun _ h => h) himm⟩, ⟨hos, htape, hout, hsize, fun b hb ho => ?_, fun b h => h, fun b h => .inl h, fun b hb => ?_, fun j hA => ?_⟩⟩
  · by_cases e : j = id
    · subst e; simp at hj; subst hj; exact hk
    · simp only [upd_ne _ _ e] at hj
      have hj' := hs.blk j b hj
      refine hj'.mono (fun _ h => h) himm (fun c hc => ?_) (upd_ne _ _ e) (fun i hi => ?_)
      · have hoj : S.own c := ⟨j, by rw [hj]; rfl, hc⟩
        exact hkeep c (hs.ownLt hoj) fun ⟨h1, h2⟩ => e (hs.inj j id c (by rw [hj]; rfl) h1 hc h2)
      · by_cases e' : i = id
        · subst e'
          rcases hevo with ⟨_, h⟩ | h
          · exact absurd hi (h j b hj e)
          · simpa using h
        · simp only [upd_ne _ _ e']; exact .refl _
  · by_cases e1 : i = id <;> by_cases e2 : j = id
    · rw [e1, e2]
    · subst e1
      simp only [upd_same] at h1
      simp only [upd_ne _ _ e2] at h2 hj
      rcases hval b h1 with ⟨h3, h4⟩ | h3
      · exact hs.inj i j b h3 hj h4 h2
      · have := hs.ownLt (b := b) ⟨j, hj, h2⟩; omega
    · subst e2
      simp only [upd_same] at h2
      simp only [upd_ne _ _ e1] at h1 hi
      rcases hval b h2 with ⟨h3, h4⟩ | h3
      · exact hs.inj i j b hi h3 h1 h4
      · have := hs.ownLt (b := b) ⟨i, hi, h1⟩; omega
    · simp only [upd_ne _ _ e1] at h1 hi
      simp only [upd_ne _ _ e2] at h2 hj
      exact hs.inj i j b hi hj h1 h2
  · obtain ⟨i, hi, hb⟩ := hb
    by_cases e : i = id
    · subst e
      simp only [upd_same] at hb
      rcases hval b hb with ⟨h3, h4⟩ | h3
      · exact hs.disj b ⟨i, h3, h4⟩ him
      · have := hs.immLt b him; omega
    · simp only [upd_ne _ _ e] at hb hi
      exact hs.disj b ⟨i, hi, hb⟩ him
  · exact hkeep b hb fun ⟨h1, h2⟩ => ho ⟨id, h1, h2⟩
  · obtain ⟨i, hi, hb⟩ := hb
    by_cases e : i = id
    · subst e
      simp only [upd_same] at hb
      rcases hval b hb with ⟨h3, h4⟩ | h3
      · exact .inl ⟨i, h3, h4⟩
      · exact .inr h3
    · simp only [upd_ne _ _ e] at hb hi
      exact .inl ⟨i, hi, hb⟩
  · by_cases e : j = id
    · subst e
      rcases hevo with ⟨h, _⟩ | h
      · exact absurd h hA
      · simpa using h
    · show Evo (S.γ j) (Abs.upd S.γ id val j)
      rw [upd_ne _ _ e]; exact .refl _

/-- Blocks may be forgotten, and what they are said to hold may be weakened. -/
theorem Sim.weaken {S : Sv} (hs : Sim G S) (A : Nat → Prop) (h' : Heap) (hh : ∀ id k, h' id = some k → (S.h id).isSome = true ∧ BlkOk S.γ S.imm S.w id k) :
    Sim G { S with h := h' } ∧ Ext A S { S with h := h' } := by
  have hsub : ∀ id, (h' id).isSome = true → (S.h id).isSome = true := fun id hi => by
    obtain ⟨k, hk⟩ := Option.isSome_iff_exists.1 hi
    exact (hh id k hk).1
  refine ⟨⟨fun id b hb => (hh id b hb).2, fun i j b hi hj => hs.inj i j b (hsub i hi) (hsub j hj), hs.immLt, fun b ⟨i, hi, hb⟩ => hs.disj b ⟨i, hsub i hi, hb⟩, hs.tab.of (fun _ h => h) fun _ _ => rfl⟩, ⟨rfl, rfl, rfl, Nat.le_refl _, fun _ _ _ => rfl, fun _ h => h, fun _ h => .inl h, fun b ⟨i, hi, hb⟩ => .inl ⟨i, hsub i hi, hb⟩, fun _ _ => .refl _⟩⟩

theorem flat_kill (id : Nat) (x : V) : (V.kill id x).flat = V.killL id x.flat := by
  cases x <;> simp only [V.kill, V.flat, V.killL]
  case ptr i o => by_cases h : (i == id) = true <;> simp [h]
  case vec i o => by_cases h : (i == id) = true <;> simp [h]
  case eptr i _ _ _ _ => by_cases h : (i == id) = true <;> simp [h]
  case vw i _ _ => by_cases h : (i == id) = true <;> simp [h]
  case map i => by_cases h : (i == id) = true <;> simp [h]
theorem RepC.kill {γ : Gh} {imm : Nat → Prop} {w : World} {x : V} {v : Value} (id : Nat) (h : RepC γ imm w x v) : RepC γ imm w (V.kill id x) v := ⟨h.1.kill id, h.2⟩
theorem BlkOk.kill {γ : Gh} {imm : Nat → Prop} {w : World} {i : Nat} {k : Blk} (id : Nat) (h : BlkOk γ imm w i k) : BlkOk γ imm w i (k.kill id) := by
  cases k with
  | cells cs =>
    obtain ⟨b, arr, t, lo, hi, h1, h2, h3, h4, h5⟩ := h
    refine ⟨b, arr, t, lo, hi, h1, h2, by rw [killL_len]; exact h3, h4, fun i hlt => ?_⟩
    rw [killL_len] at hlt
    rw [killL_getD]
    exact (h5 i hlt).kill id
  | vec sz n f =>
    obtain ⟨h1, h2, h3⟩ := h
    refine ⟨h1, fun i hi => by rw [flat_kill, killL_len]; exact h2 i hi, ?_⟩
    rcases h3 with h3 | ⟨b, cap, arr, t, lo, hi', h3, h4, hc, h5, h6, h7, h8⟩
    · exact .inl h3
    · refine .inr ⟨b, cap, arr, t, lo, hi', h3, h4, hc, h5, h6, h7, fun i j hlt hj => ?_⟩
      rw [flat_kill, killL_getD]
      exact (h8 i j hlt hj).kill id
theorem Blk.men_kill (id : Nat) (k : Blk) : ¬ (k.kill id).men id := by
  cases k with
  | cells cs => rintro ⟨i, _, h⟩; rw [killL_getD, men_kill_aux] at h; cases h
  | vec sz n f => rintro ⟨i, j, _, h⟩; rw [flat_kill, killL_getD, men_kill_aux] at h; cases h

def killH (id : Nat) (h : Heap) : Heap := fun j => if j = id then none else (h j).map (Blk.kill id)
theorem Sim.killH {S : Sv} (hs : Sim G S) (A : Nat → Prop) (id : Nat) : Sim G { S with h := Abs.killH id S.h } ∧ Ext A S { S with h := Abs.killH id S.h } := by
  refine hs.weaken A _ fun i k hk => ?_
  simp only [Abs.killH] at hk
  split at hk
  · cases hk
  · obtain ⟨b, hb, rfl⟩ := Option.map_eq_some_iff.1 hk
    exact ⟨by rw [hb]; rfl, (hs.blk i b hb).kill id⟩

/-- The world goes on by new blocks and draws alone: a new block that is for good. -/
def World.grow (w w' : World) : Prop := w'.os = w.os ∧ w'.tape = w.tape ∧ w'.output = w.output ∧ w.heap.size ≤ w'.heap.size ∧ ∀ b, b < w.heap.size → w'.heap[b]? = w.heap[b]?

theorem Sim.grow {S : Sv} (hs : Sim G S) (A : Nat → Prop) (w' : World) (imm' : Nat → Prop) (hg : World.grow S.w w') (h1 : ∀ b, S.imm b → imm' b)
    (h2 : ∀ b, imm' b → S.imm b ∨ (S.w.heap.size ≤ b ∧ b < w'.heap.size)) : Sim G ⟨S.γ, imm', S.h, w'⟩ ∧ Ext A S ⟨S.γ, imm', S.h, w'⟩ := by
  obtain ⟨g1, g2, g3, g4, g5⟩ := hg
  have own' : ∀ b, Sv.own ⟨S.γ, imm', S.h, w'⟩ b → S.own b := fun b h => h
  refine ⟨⟨fun id b hb => ?_, hs.inj, fun b hb => ?_, fun b hb him => ?_, hs.tab.of h1 fun b hb => g5 b (hs.immLt b hb)⟩, ⟨g1, g2, g3, g4, fun b hb _ => g5 b hb, h1, fun b hb => ?_, fun b hb => .inl hb, fun _ _ => .refl _⟩⟩
  · refine (hs.blk id b hb).mono h1 (fun c hc => g5 c (hs.immLt c hc)) (fun c hc => g5 c (hs.ownLt ⟨id, by rw [hb]; rfl, hc⟩)) rfl fun _ _ => .refl _
  · rcases h2 b hb with h | h
    · exact Nat.lt_of_lt_of_le (hs.immLt b h) g4
    · exact h.2
  · rcases h2 b him with h | h
    · exact hs.disj b hb h
    · have := hs.ownLt (S := S) hb; omega
  · rcases h2 b hb with h | h
    · exact .inl h
    · exact .inr (.inr h.1)

end Go.Abs
