import Derived.Test.YtppjlnagihefoaaDoorAbsA35
namespace Go.Abs
open Go
variable {G : PG}

/- another name for an identity -/
mutual
def V.ren (a b : Nat) : V → V
  | .agg cs => .agg (V.renL a b cs)
  | .tup vs => .tup (V.renL a b vs)
  | .ptr i o => .ptr (bif i == a then b else i) o
  | .vec i n => .vec (bif i == a then b else i) n
  | .eptr i n s j o => .eptr (bif i == a then b else i) n s j o
  | .vw i o n => .vw (bif i == a then b else i) o n
  | .map i => .map (bif i == a then b else i)
  | .fn f x y => .fn f (V.renL a b x) (V.renL a b y)
  | .opt g v => .opt g (V.ren a b v)
  | v => v
def V.renL (a b : Nat) : List V → List V
  | [] => []
  | v :: r => V.ren a b v :: V.renL a b r
end
theorem renL_len (a b : Nat) (l : List V) : (V.renL a b l).length = l.length := by
  induction l with
  | nil => rfl
  | cons v r ih => simp [V.renL, ih]
theorem renL_getD (a b : Nat) (l : List V) (i : Nat) : (V.renL a b l).getD i .any = V.ren a b (l.getD i .any) := by
  induction l generalizing i with
  | nil => simp [V.renL, V.ren]
  | cons v r ih => cases i <;> simp [V.renL] ; simpa using ih _
def Blk.ren (a b : Nat) : Blk → Blk
  | .cells cs => .cells (V.renL a b cs)
  | .vec sz n f => .vec sz n fun i => V.ren a b (f i)
theorem flat_ren (a b : Nat) (x : V) : (V.ren a b x).flat = V.renL a b x.flat := by
  cases x <;> simp only [V.ren, V.flat, V.renL]
/-- γ' says at the new name what γ said at the old one -/
theorem rep_ren {γ γ' : Gh} {imm : Nat → Prop} {w : World} {a b : Nat} (hγ : ∀ i, γ' (bif i == a then b else i) = γ i ∨ i = b) {x : V} {v : Value} (h : RepV γ imm w x v) (hb : V.men b x = false) : RepV γ' imm w (V.ren a b x) v := by
  have name : ∀ i, (i == b) = false → γ' (bif i == a then b else i) = γ i := fun i hi => (hγ i).resolve_right (fun e => by subst e; simp at hi)
  induction h with
  | any v => exact .any v
  | pure h =>
    clear hb
    induction h with
    | agg cs vs hl hp ho ih =>
      simp only [V.ren]
      refine .agg _ vs (by rw [renL_len]; exact hl) (fun i hi => ?_) (fun i hi => ho i (by rw [renL_len] at hi; exact hi))
      rw [renL_len] at hi
      rw [renL_getD]
      exact ih i hi
    | int k n => exact .pure (.int k n)
    | bool b => exact .pure (.bool b)
    | str s => exact .pure (.str s)
    | con v => exact .pure (x := .con _) (.con _)
    | nilsl a => exact .pure (.nilsl a)
    | sl0 f a c => exact .pure (.sl0 f a c)
    | sl n f b off c sz u hb hnc hs hf hc ho hp => exact .pure (.sl n f b off c sz u hb hnc hs hf hc ho hp)
  | agg cs vs hl _ ho ih =>
    simp only [V.ren]
    refine .agg _ vs (by rw [renL_len]; exact hl) (fun i hi => ?_) (fun i hi => ho i (by rw [renL_len] at hi; exact hi))
    rw [renL_len] at hi
    rw [renL_getD]
    exact ih i hi (menL_getD _ _ (by simpa [V.men] using hb) i)
  | tup cs vs hl _ ih =>
    simp only [V.ren]
    refine .tup _ vs (by rw [renL_len]; exact hl) (fun i hi => ?_)
    rw [renL_len] at hi
    rw [renL_getD]
    exact ih i hi (menL_getD _ _ (by simpa [V.men] using hb) i)
  | iptr cs b off u h1 h2 h3 h4 => exact .iptr cs b off u h1 h2 h3 h4
  | ptr i off c h => exact .ptr _ off c ((name i (by simpa [V.men] using hb)).trans h)
  | vec i n v a1 m c h1 h2 h3 h4 =>
    have := name i (by simpa [V.men] using hb)
    exact .vec _ n v a1 m c (this.trans h1) h2 (fun e => (h3 e).trans this.symm) h4
  | eptr i n s j o v a1 m c h1 h2 h3 h4 =>
    have := name i (by simpa [V.men] using hb)
    exact .eptr _ n s j o v a1 m c (this.trans h1) h2 h3 h4
  | fn f x y p q h1 h2 _ _ ih1 ih2 =>
    simp only [V.men, Bool.or_eq_false_iff] at hb
    simp only [V.ren]
    refine .fn f _ _ p q (by rw [renL_len]; exact h1) (by rw [renL_len]; exact h2) (fun i hi => ?_) (fun i hi => ?_)
    · rw [renL_len] at hi; rw [renL_getD]; exact ih1 i hi (menL_getD _ _ hb.1 i)
    · rw [renL_len] at hi; rw [renL_getD]; exact ih2 i hi (menL_getD _ _ hb.2 i)
  | vw i off n b1 a1 c h h1 h2 => exact .vw _ off n b1 a1 c ((name i (by simpa [V.men] using hb)).trans h) h1 h2
  | map i r h => exact .map _ r ((name i (by simpa [V.men] using hb)).trans h)
  | opt g x v _ hf ih =>
    simp only [V.ren]
    exact .opt g _ v (fun e => ih e (by simpa [V.men] using hb)) hf
/-- the block of a gets the name b -/
def renH (a b : Nat) (h : Heap) : Heap := fun i => if i = b then (h a).map (Blk.ren a b) else if i = a then none else (h i).map (Blk.ren a b)
def renSt (a b : Nat) (s : St) : St := ⟨fun t => V.ren a b (killE b s.env t), renH a b (killH b s.heap)⟩
theorem BlkOk.ren {γ γ' : Gh} {imm : Nat → Prop} {w : World} {a b i i' : Nat} {k : Blk} (hγ : ∀ i, γ' (bif i == a then b else i) = γ i ∨ i = b) (hi : γ' i' = γ i) (hb : BN b k) (h : BlkOk γ imm w i k) : BlkOk γ' imm w i' (k.ren a b) := by
  cases k with
  | cells cs =>
    obtain ⟨bl, arr, t, lo, hi', h1, h2, h3, h4, h5⟩ := h
    refine ⟨bl, arr, t, lo, hi', hi.trans h1, h2, by rw [renL_len]; exact h3, h4, fun j hlt => ?_⟩
    rw [renL_len] at hlt
    rw [renL_getD]
    exact ⟨rep_ren hγ (h5 j hlt).1 (menL_getD _ _ hb j), (h5 j hlt).2⟩
  | vec sz n f =>
    obtain ⟨h1, h2, h3⟩ := h
    refine ⟨h1, fun j hj => by rw [flat_ren, renL_len]; exact h2 j hj, ?_⟩
    rcases h3 with ⟨h3, x, h4⟩ | ⟨bl, cap, arr, t, lo, hi', h3, h4, hc, h5, h6, h7, h8⟩
    · exact .inl ⟨h3, x, hi.trans h4⟩
    · refine .inr ⟨bl, cap, arr, t, lo, hi', hi.trans h3, h4, hc, h5, h6, h7, fun m j hlt hj => ?_⟩
      rw [flat_ren, renL_getD]
      have hm := hb m
      have : V.men b ((f m).flat.getD j .any) = false := by
        cases hf : f m with
        | agg cs => rw [hf] at hm; exact menL_getD _ _ (show V.menL b cs = false by simpa [V.men] using hm) j
        | _ =>
          rw [hf] at hm
          cases j with
          | zero => exact hm
          | succ j => rfl
      exact ⟨rep_ren hγ (h8 m j hlt hj).1 this, (h8 m j hlt hj).2⟩
theorem Le.ren {s : St} {a b : Nat} (hab : a ≠ b) (hb : b < 9000) : Le s (renSt a b s) := by
  intro G N S0 ac w ⟨γ, imm, hs, hx, he, rest⟩
  obtain ⟨k1, k2⟩ := hs.killH (· < 9000) b
  let γ' : Gh := upd γ b (γ a)
  have gb : γ' b = γ a := by simp [γ']
  have go : ∀ i, i ≠ b → γ' i = γ i := fun i h => upd_ne _ _ h
  have hγ : ∀ i, γ' (bif i == a then b else i) = γ i ∨ i = b := by
    intro i
    by_cases h1 : i = a
    · subst h1; left; simp [gb]
    · by_cases h2 : i = b
      · exact .inr h2
      · left
        have : (i == a) = false := by simpa using h1
        rw [this]; exact go i h2
  have old : ∀ i k, renH a b (killH b s.heap) i = some k → ∃ o k0, killH b s.heap o = some k0 ∧ k = k0.ren a b ∧ γ' i = γ o ∧ ((i = b ∧ o = a) ∨ (i ≠ b ∧ i ≠ a ∧ o = i)) := by
    intro i k hk
    simp only [renH] at hk
    by_cases h1 : i = b
    · rw [if_pos h1] at hk
      obtain ⟨k0, h2, rfl⟩ := Option.map_eq_some_iff.1 hk
      exact ⟨a, k0, h2, rfl, by rw [h1]; exact gb, .inl ⟨h1, rfl⟩⟩
    · rw [if_neg h1] at hk
      by_cases h2 : i = a
      · rw [if_pos h2] at hk; cases hk
      · rw [if_neg h2] at hk
        obtain ⟨k0, h3, rfl⟩ := Option.map_eq_some_iff.1 hk
        exact ⟨i, k0, h3, rfl, go i h1, .inr ⟨h1, h2, rfl⟩⟩
  have bn : ∀ o k0, killH b s.heap o = some k0 → BN b k0 := by
    intro o k0 h
    simp only [killH] at h
    split at h
    · cases h
    · obtain ⟨k, _, rfl⟩ := Option.map_eq_some_iff.1 h
      exact BN.self b k
  have s1 : Sim G ⟨γ', imm, renH a b (killH b s.heap), w⟩ := by
    refine ⟨fun i k hk => ?_, fun i j bl hi hj h1 h2 => ?_, hs.immLt, fun bl ⟨i, hi, hbi⟩ => ?_, hs.tab.of (fun _ h => h) fun _ _ => rfl⟩
    · obtain ⟨o, k0, h1, rfl, h3, _⟩ := old i k hk
      exact (k1.blk o k0 h1).ren hγ h3 (bn o k0 h1)
    · obtain ⟨ki, hki⟩ := Option.isSome_iff_exists.1 hi
      obtain ⟨kj, hkj⟩ := Option.isSome_iff_exists.1 hj
      obtain ⟨o, k0, a1, _, a3, a4⟩ := old i ki hki
      obtain ⟨o', k0', b1, _, b3, b4⟩ := old j kj hkj
      have e1 : blkOf (γ o) = some bl := a3 ▸ h1
      have e2 : blkOf (γ o') = some bl := b3 ▸ h2
      have := k1.inj o o' bl (by show (killH b s.heap o).isSome = true; rw [a1]; rfl) (by show (killH b s.heap o').isSome = true; rw [b1]; rfl) e1 e2
      rcases a4 with ⟨c1, c2⟩ | ⟨c1, c2, c3⟩ <;> rcases b4 with ⟨d1, d2⟩ | ⟨d1, d2, d3⟩ <;> omega
    · obtain ⟨ki, hki⟩ := Option.isSome_iff_exists.1 hi
      obtain ⟨o, k0, a1, _, a3, _⟩ := old i ki hki
      have e1 : blkOf (γ o) = some bl := by rw [← a3]; exact hbi
      exact k1.disj bl ⟨o, by show (killH b s.heap o).isSome = true; rw [a1]; rfl, e1⟩
  have e1 : Ext (· < 9000) ⟨γ, imm, killH b s.heap, w⟩ ⟨γ', imm, renH a b (killH b s.heap), w⟩ := by
    refine ⟨rfl, rfl, rfl, Nat.le_refl _, fun _ _ _ => rfl, fun _ h => h, fun _ h => .inl h, fun bl ⟨i, hi, hbi⟩ => ?_, fun i hi => ?_⟩
    · obtain ⟨ki, hki⟩ := Option.isSome_iff_exists.1 hi
      obtain ⟨o, k0, a1, _, a3, _⟩ := old i ki hki
      have e1 : blkOf (γ o) = some bl := by rw [← a3]; exact hbi
      exact .inl ⟨o, by show (killH b s.heap o).isSome = true; rw [a1]; rfl, e1⟩
    · show Evo (γ i) (γ' i)
      rw [go i (fun h => hi (by subst h; exact hb))]; exact .refl _
  exact ⟨γ', imm, s1, (hx.trans k2).trans e1, fun t => rep_ren hγ ((he t).kill b) (men_kill_aux b _), rest⟩
end Go.Abs
