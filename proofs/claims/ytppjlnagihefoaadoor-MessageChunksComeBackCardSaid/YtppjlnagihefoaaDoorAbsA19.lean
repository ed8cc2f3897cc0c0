import Derived.Test.YtppjlnagihefoaaDoorAbsA18
namespace Go.Abs
open Go

/- identities, as a callee sees them: 9000 further on -/
mutual
def V.shift : V → V
  | .agg cs => .agg (V.shiftL cs)
  | .tup vs => .tup (V.shiftL vs)
  | .ptr i o => .ptr (i + 9000) o
  | .vec i n => .vec (i + 9000) n
  | .eptr i n s j o => .eptr (i + 9000) n s j o
  | .vw i o n => .vw (i + 9000) o n
  | .map i => .map (i + 9000)
  | .fn f a b => .fn f (V.shiftL a) (V.shiftL b)
  | .opt g v => .opt g (V.shift v)
  | v => v
def V.shiftL : List V → List V
  | [] => []
  | v :: r => V.shift v :: V.shiftL r
end
theorem shiftL_len (l : List V) : (V.shiftL l).length = l.length := by
  induction l with
  | nil => rfl
  | cons v r ih => simp [V.shiftL, ih]
theorem shiftL_getD (l : List V) (i : Nat) : (V.shiftL l).getD i .any = V.shift (l.getD i .any) := by
  induction l generalizing i with
  | nil => simp [V.shiftL, V.shift]
  | cons v r ih => cases i <;> simp [V.shiftL] ; simpa using ih _
def Blk.shift : Blk → Blk
  | .cells cs => .cells (V.shiftL cs)
  | .vec sz n f => .vec sz n fun i => V.shift (f i)
theorem flat_shift (x : V) : (V.shift x).flat = V.shiftL x.flat := by
  cases x <;> simp only [V.shift, V.flat, V.shiftL]

abbrev HL := List (Nat × Blk)
def hOf : HL → Heap
  | [] => fun _ => none
  | (i, b) :: r => upd (hOf r) i (some b)
def HL.shift : HL → HL
  | [] => []
  | (i, b) :: r => (i + 9000, b.shift) :: HL.shift r
theorem hOf_shift (l : HL) (id : Nat) : hOf l.shift (id + 9000) = (hOf l id).map Blk.shift := by
  induction l with
  | nil => rfl
  | cons p r ih =>
    obtain ⟨i, b⟩ := p
    simp only [HL.shift, hOf]
    by_cases h : id = i
    · subst h; simp
    · rw [upd_ne _ _ h, upd_ne _ _ (by omega)]; exact ih
theorem hOf_shift_low (l : HL) (id : Nat) (h : id < 9000) : hOf l.shift id = none := by
  induction l with
  | nil => rfl
  | cons p r ih =>
    obtain ⟨i, b⟩ := p
    simp only [HL.shift, hOf]
    rw [upd_ne _ _ (by omega)]; exact ih

def unG (γ : Gh) : Gh := fun id => γ (id + 9000)
def shG (γ : Gh) : Gh := fun id => γ (id - 9000)
theorem shG_shift (γ : Gh) (id : Nat) : shG γ (id + 9000) = γ id := by simp [shG]
attribute [irreducible] shG
theorem rep_shift {γ γ' : Gh} {imm : Nat → Prop} {w : World} (hγ : ∀ id, γ' (id + 9000) = γ id) {x : V} {v : Value} (h : RepV γ imm w x v) : RepV γ' imm w (V.shift x) v := by
  induction h with
  | any v => exact .any v
  | pure h =>
    induction h with
    | agg cs vs hl hp ho ih =>
      simp only [V.shift]
      refine .agg _ vs (by rw [shiftL_len]; exact hl) (fun i hi => ?_) (fun i hi => ho i (by rw [shiftL_len] at hi; exact hi))
      rw [shiftL_len] at hi
      rw [shiftL_getD]
      exact ih i hi
    | int k n => exact .pure (.int k n)
    | bool b => exact .pure (.bool b)
    | str s => exact .pure (.str s)
    | con v => exact .pure (x := .con _) (.con _)
    | nilsl a => exact .pure (.nilsl a)
    | sl0 f a c => exact .pure (.sl0 f a c)
    | sl n f b off c sz u hb hnc hs hf hc ho hp => exact .pure (.sl n f b off c sz u hb hnc hs hf hc ho hp)
  | agg cs vs hl _ ho ih =>
    simp only [V.shift]
    refine .agg _ vs (by rw [shiftL_len]; exact hl) (fun i hi => ?_) (fun i hi => ho i (by rw [shiftL_len] at hi; exact hi))
    rw [shiftL_len] at hi
    rw [shiftL_getD]
    exact ih i hi
  | tup cs vs hl _ ih =>
    simp only [V.shift]
    refine .tup _ vs (by rw [shiftL_len]; exact hl) (fun i hi => ?_)
    rw [shiftL_len] at hi
    rw [shiftL_getD]
    exact ih i hi
  | iptr cs b off u h1 h2 h3 h4 => exact .iptr cs b off u h1 h2 h3 h4
  | ptr i off b h => exact .ptr _ off b ((hγ i).trans h)
  | vec i n v a m c h1 h2 h3 h4 => exact .vec _ n v a m c ((hγ i).trans h1) h2 (fun h => (h3 h).trans (hγ i).symm) h4
  | eptr i n sz j off v a m c h1 h2 h3 h4 => exact .eptr _ n sz j off v a m c ((hγ i).trans h1) h2 h3 h4
  | fn f x y p q h1 h2 _ _ ih1 ih2 =>
    simp only [V.shift]
    refine .fn f _ _ p q (by rw [shiftL_len]; exact h1) (by rw [shiftL_len]; exact h2) (fun i hi => ?_) (fun i hi => ?_)
    · rw [shiftL_len] at hi; rw [shiftL_getD]; exact ih1 i hi
    · rw [shiftL_len] at hi; rw [shiftL_getD]; exact ih2 i hi
  | vw i off n b a c h h1 h2 => exact .vw _ off n b a c ((hγ i).trans h) h1 h2
  | map i r h => exact .map _ r ((hγ i).trans h)
  | opt g x v _ hf ih => simp only [V.shift]; exact .opt g _ v ih hf

/-- ... and back -/
theorem shift_con {x : V} {v : Value} (h : V.shift x = .con v) : x = .con v := by cases x <;> simp_all [V.shift]
theorem rep_unshift {γ γ' : Gh} {imm : Nat → Prop} {w : World} (hγ : ∀ id, γ' (id + 9000) = γ id) {x : V} {v : Value} (h : RepV γ' imm w (V.shift x) v) : RepV γ imm w x v := by
  have main : ∀ x : V, ∀ v, RepV γ' imm w (V.shift x) v → RepV γ imm w x v := by
    intro x
    refine V.rec (motive_1 := fun x => ∀ v, RepV γ' imm w (V.shift x) v → RepV γ imm w x v) (motive_2 := fun l => ∀ i v, RepV γ' imm w (V.shift (l.getD i .any)) v → RepV γ imm w (l.getD i .any) v)
      ?_ ?_ ?_ ?_ ?_ ?_ ?_ ?_ ?_ ?_ ?_ ?_ ?_ ?_ ?_ ?_ ?_ ?_ ?_ x
    · intro v _; exact .any v
    · intro k n v h; cases h with | pure h => exact .pure h
    · intro b v h; cases h with | pure h => exact .pure h
    · intro s v h; cases h with | pure h => exact .pure h
    · intro u v h; simp only [V.shift] at h; cases h with | pure h => exact .pure h
    · intro v h; cases h with | pure h => exact .pure h
    · intro cs ih v h
      simp only [V.shift] at h
      obtain ⟨vs, rfl, h1, h2, h3⟩ := inv_agg (S := ⟨γ', imm, fun _ => none, w⟩) h
      rw [shiftL_len] at h1 h2 h3
      exact .agg cs vs h1 (fun i hi => ih i _ (by have := h2 i hi; rwa [shiftL_getD] at this)) h3
    · intro cs ih v h
      simp only [V.shift] at h
      obtain ⟨vs, rfl, h1, h2⟩ := inv_tup (S := ⟨γ', imm, fun _ => none, w⟩) h
      rw [shiftL_len] at h1 h2
      exact .tup cs vs h1 (fun i hi => ih i _ (by have := h2 i hi; rwa [shiftL_getD] at this))
    · intro n f _ v h; simp only [V.shift] at h; cases h with | pure h => exact .pure h
    · intro cs _ v h
      simp only [V.shift] at h
      obtain ⟨b, off, u, rfl, h1, h2, h3, h4⟩ := inv_iptr (S := ⟨γ', imm, fun _ => none, w⟩) h
      exact .iptr cs b off u h1 h2 h3 h4
    · intro i off v h
      simp only [V.shift] at h
      obtain ⟨b, h1, rfl⟩ := inv_ptr (S := ⟨γ', imm, fun _ => none, w⟩) h
      exact .ptr i off b ((hγ i).symm.trans h1)
    · intro i n v h
      simp only [V.shift] at h
      cases h with
      | pure h => cases h
      | vec _ _ _ a m c h1 h2 h3 h4 => exact .vec i n v a m c ((hγ i).symm.trans h1) h2 (fun h => (h3 h).trans (hγ i)) h4
    · intro i n sz j off v h
      simp only [V.shift] at h
      cases h with
      | pure h => cases h
      | eptr _ _ _ _ _ _ a m c h1 h2 h3 h4 => exact .eptr i n sz j off v a m c ((hγ i).symm.trans h1) h2 h3 h4
    · intro i off n v h
      simp only [V.shift] at h
      obtain ⟨b, a, c, h1, rfl, h2, h3⟩ := inv_vw (S := ⟨γ', imm, fun _ => none, w⟩) h
      exact .vw i off n b a c ((hγ i).symm.trans h1) h2 h3
    · intro f a b ih1 ih2 v h
      simp only [V.shift] at h
      obtain ⟨p, q, rfl, h1, h2, h3, h4⟩ := inv_fn (S := ⟨γ', imm, fun _ => none, w⟩) h
      rw [shiftL_len] at h1 h2 h3 h4
      exact .fn f a b p q h1 h2 (fun i hi => ih1 i _ (by have := h3 i hi; rwa [shiftL_getD] at this)) (fun i hi => ih2 i _ (by have := h4 i hi; rwa [shiftL_getD] at this))
    · intro i v h
      simp only [V.shift] at h
      cases h with
      | pure h => cases h
      | map _ r h => exact .map i r ((hγ i).symm.trans h)
    · intro g x ih v h
      simp only [V.shift] at h
      obtain ⟨h1, h2⟩ := inv_opt (S := ⟨γ', imm, fun _ => none, w⟩) h
      exact .opt g x v (fun hg => ih v (h1 hg)) h2
    · intro i v _; simp only [List.getD_nil]; exact .any v
    · intro x l ih1 ih2 i v h
      cases i with
      | zero => simpa using ih1 v (by simpa using h)
      | succ i => simpa using ih2 i v (by simpa using h)
  exact main x v h
end Go.Abs
