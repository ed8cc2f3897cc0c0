import Derived.Test.YtppjlnagihefoaaDoorAbsA36
namespace Go.Abs
open Go
variable {G : PG}

/-- what is done to a state before it is compared -/
inductive Adj where
  | ren (a b : Nat)
  | nv (t d sz : Nat) (f : Nat → V)
  | frz (id : Nat)
def renO (a b : Nat) (s : St) : Option Blk → St
  | some _ => renSt a b s
  | none => s
def nvO (t d sz : Nat) (f : Nat → V) (s : St) : V → St
  | .nilsl => nvSt t d sz f s
  | _ => s
def frzO (id : Nat) (s : St) (K : St → Prop) : Option Blk → Prop
  | some (.vec _ n f) => (∀ i, i < n → (f i).isPure = true) ∧ K (frzSt id n f s)
  | _ => K s
def adjP : List Adj → (St → Prop) → St → Prop
  | [], K, s => K s
  | .ren a b :: r, K, s => (a ≠ b ∧ b < 9000) ∧ adjP r K (renO a b s (s.heap a))
  | .nv t d sz f :: r, K, s => (d < 9000 ∧ 0 < sz) ∧ adjP r K (nvO t d sz f s (s.env t))
  | .frz id :: r, K, s => frzO id s (adjP r K) (s.heap id)
theorem adjP_ok {K : St → Prop} : ∀ {l : List Adj} {s : St}, adjP l K s → ∃ s', Le s s' ∧ K s'
  | [], s, h => ⟨s, Le.refl s, h⟩
  | .ren a b :: r, s, h => by
    obtain ⟨h1, h2⟩ := h
    obtain ⟨s', h3, h4⟩ := adjP_ok h2
    refine ⟨s', Le.trans ?_ h3, h4⟩
    cases s.heap a with
    | none => exact Le.refl s
    | some _ => exact Le.ren h1.1 h1.2
  | .nv t d sz f :: r, s, h => by
    obtain ⟨h1, h2⟩ := h
    obtain ⟨s', h3, h4⟩ := adjP_ok h2
    refine ⟨s', Le.trans ?_ h3, h4⟩
    cases hv : s.env t with
    | nilsl => exact Le.nilvec f h1.1 h1.2 hv
    | _ => exact Le.refl s
  | .frz id :: r, s, h => by
    simp only [adjP] at h
    unfold frzO at h
    split at h
    · rename_i sz n f hh
      obtain ⟨s', h3, h4⟩ := adjP_ok h.2
      exact ⟨s', Le.trans (Le.frz hh h.1) h3, h4⟩
    · exact adjP_ok h
def levS (l : List (Nat × V)) (hl : HL) (s : St) : Prop := levE s l ∧ levH s hl
theorem levS_le {l : List (Nat × V)} {hl : HL} {ad : List Adj} {s : St} (h : adjP ad (levS l hl) s) : Le s ⟨al l, hOf hl⟩ := by
  obtain ⟨s', h1, h2⟩ := adjP_ok h
  exact Le.trans h1 (Le.lev h2)
def loopA {T : Type} (ad : List Adj) (l : T → List (Nat × V)) (hl : T → HL) (I : T → Prop) (μ : T → Nat) (t : T) (K : Exit → St → Prop) : Exit → St → Prop := thn (fun s' => ∃ t', I t' ∧ μ t' < μ t ∧ adjP ad (levS (l t') (hl t')) s') K
section
variable {T : Type} (ad : List Adj) (l : T → List (Nat × V)) (hl : T → HL) (I : T → Prop) (μ : T → Nat) (t : T) (K : Exit → St → Prop) (s : St)
@[push_cast] theorem loopA_n : loopA ad l hl I μ t K .normal s = ∃ t', I t' ∧ μ t' < μ t ∧ adjP ad (levS (l t') (hl t')) s := rfl
@[push_cast] theorem loopA_r : loopA ad l hl I μ t K .ret s = K .ret s := rfl
@[push_cast] theorem loopA_e (i : Nat) : loopA ad l hl I μ t K (.exit i) s = K (.exit i) s := rfl
end
/-- A LOOP whose own blocks may change their names from round to round. -/
theorem LoopW.adj {c : Cfg} (hc : CfgOk c) {b : Code} (hok : codeOk c.an b = true) {s : St} {K : Exit → St → Prop} {T : Type} (ad : List Adj) (l : T → List (Nat × V)) (hl : T → HL) (I : T → Prop) (μ : T → Nat) (t0 : T) (h0 : I t0 ∧ adjP ad (levS (l t0) (hl t0)) s)
    (body : ∀ t, I t → exec c b ⟨al (l t), hOf (hl t)⟩ (loopA ad l hl I μ t K)) : LoopW c b s K := by
  refine LoopW.rule' hc hok (fun t => ⟨al (l t), hOf (hl t)⟩) I μ t0 h0.1 (levS_le h0.2) (fun t => loopA ad l hl I μ t K) (fun t e s' hk => ?_) body
  cases e with
  | normal =>
    obtain ⟨t', h1, h2, h3⟩ := hk
    exact ⟨t', h1, h2, levS_le h3⟩
  | _ => exact hk
/- by lists -/
def renAl (a b : Nat) : List (Nat × V) → List (Nat × V)
  | [] => []
  | (k, v) :: r => (k, V.ren a b v) :: renAl a b r
def frzAl (id n : Nat) (f : Nat → V) : List (Nat × V) → List (Nat × V)
  | [] => []
  | (k, v) :: r => (k, frzV id n f v) :: frzAl id n f r
def frzHL (id n : Nat) (f : Nat → V) : HL → HL
  | [] => []
  | (k, b) :: r => bif Nat.beq k id then frzHL id n f r else (k, frzB id n f b) :: frzHL id n f r
theorem hOf_frz (l : HL) (id n : Nat) (f : Nat → V) : frzH id n f (hOf l) = hOf (frzHL id n f l) := by
  funext t
  induction l with
  | nil => simp only [frzH, hOf, frzHL]; split <;> rfl
  | cons p l ih =>
    obtain ⟨k, b⟩ := p
    simp only [frzH, hOf, frzHL] at ih ⊢
    by_cases h : t = id
    · subst h
      simp only [if_true] at ih ⊢
      cases hb : Nat.beq k t with
      | true => exact ih
      | false =>
        simp only [cond_false, hOf]
        rw [upd_ne _ _ (fun e => by subst e; simp at hb)]
        exact ih
    · simp only [if_neg h] at ih ⊢
      cases hb : Nat.beq k id with
      | true =>
        have := Nat.eq_of_beq_eq_true hb
        subst this
        rw [upd_ne _ _ h]
        exact ih
      | false =>
        simp only [cond_false, hOf]
        by_cases e : t = k
        · subst e; simp
        · rw [upd_ne _ _ e, upd_ne _ _ e]; exact ih
@[push_cast] theorem frzHL_nil (id n : Nat) (f : Nat → V) : frzHL id n f [] = [] := rfl
@[push_cast] theorem frzHL_cons (id n : Nat) (f : Nat → V) (k : Nat) (b : Blk) (hl : HL) : frzHL id n f ((k, b) :: hl) = if k = id then frzHL id n f hl else (k, frzB id n f b) :: frzHL id n f hl := by
  simp only [frzHL]
  by_cases h : k = id
  · subst h; simp
  · have : Nat.beq k id = false := by
      cases hb : Nat.beq k id with
      | false => rfl
      | true => exact absurd (Nat.eq_of_beq_eq_true hb) h
    rw [this, if_neg h]; rfl
def renHL (a b : Nat) : HL → HL
  | [] => []
  | (k, x) :: r => ((if k = a then b else k), x.ren a b) :: renHL a b r
theorem al_ren (a b : Nat) (l : List (Nat × V)) : (fun t => V.ren a b (al l t)) = al (renAl a b l) := by
  funext t
  induction l with
  | nil => rfl
  | cons p l ih => obtain ⟨k, v⟩ := p; simp only [al, renAl] at ih ⊢; cases Nat.beq k t <;> first | exact ih | rfl
theorem al_frz (id n : Nat) (f : Nat → V) (l : List (Nat × V)) : (fun t => frzV id n f (al l t)) = al (frzAl id n f l) := by
  funext t
  induction l with
  | nil => rfl
  | cons p l ih => obtain ⟨k, v⟩ := p; simp only [al, frzAl] at ih ⊢; cases Nat.beq k t <;> first | exact ih | rfl
theorem hOf_killb (b : Nat) (hl : HL) : ∀ p ∈ killHL b hl, p.1 ≠ b := by
  induction hl with
  | nil => intro p hp; cases hp
  | cons q r ih =>
    obtain ⟨k, x⟩ := q
    intro p hp
    simp only [killHL] at hp
    cases hb : Nat.beq k b with
    | true => rw [hb] at hp; exact ih p hp
    | false =>
      rw [hb] at hp
      rcases List.mem_cons.1 hp with h | h
      · subst h; intro e; simp only at e; subst e; simp at hb
      · exact ih p h
theorem hOf_ren {a b : Nat} (hab : a ≠ b) : ∀ (hl : HL), (∀ p ∈ hl, p.1 ≠ b) → renH a b (hOf hl) = hOf (renHL a b hl) := by
  intro hl
  induction hl with
  | nil => intro _; funext i; simp only [renH, hOf, renHL]; (repeat' split) <;> rfl
  | cons p r ih =>
    obtain ⟨k, x⟩ := p
    intro h
    have hk : k ≠ b := h (k, x) (by simp)
    have ih' := ih fun p hp => h p (by simp [hp])
    funext i
    have ihi := congrFun ih' i
    simp only [renH] at ihi
    simp only [renH, hOf, renHL]
    by_cases h1 : i = b
    · subst h1
      rw [if_pos rfl] at ihi ⊢
      by_cases h2 : a = k
      · subst h2; simp
      · rw [upd_ne _ _ h2, if_neg (fun e => h2 e.symm), upd_ne _ _ (fun e => hk e.symm)]; exact ihi
    · rw [if_neg h1] at ihi ⊢
      by_cases h2 : i = a
      · subst h2
        rw [if_pos rfl] at ihi ⊢
        by_cases h3 : k = i
        · rw [if_pos h3, upd_ne _ _ h1]; exact ihi
        · rw [if_neg h3, upd_ne _ _ (fun e => h3 e.symm)]; exact ihi
      · rw [if_neg h2] at ihi ⊢
        by_cases h3 : i = k
        · subst h3
          rw [if_neg h2]; simp
        · rw [upd_ne _ _ h3]
          by_cases h4 : k = a
          · rw [if_pos h4, upd_ne _ _ h1]; exact ihi
          · rw [if_neg h4, upd_ne _ _ h3]; exact ihi
section
variable (a b t d sz id n : Nat) (f : Nat → V) (s : St) (l : List (Nat × V)) (hl : HL) (r : List Adj) (K : St → Prop) (x : Blk)
theorem renSt_at (hab : a ≠ b) : renSt a b ⟨al l, hOf hl⟩ = ⟨al (renAl a b (killAl b l)), hOf (renHL a b (killHL b hl))⟩ := by
  simp only [renSt, al_kill, hOf_kill, al_ren, hOf_ren hab _ (hOf_killb b hl)]
@[push_cast] theorem adjP_nil : adjP [] K s = K s := rfl
@[push_cast] theorem adjP_frz : adjP (.frz id :: r) K s = frzO id s (adjP r K) (s.heap id) := rfl
@[push_cast] theorem adjP_nv : adjP (.nv t d sz f :: r) K s = ((d < 9000 ∧ 0 < sz) ∧ adjP r K (nvO t d sz f s (s.env t))) := rfl
def renQ (r : List Adj) (K : St → Prop) (l : List (Nat × V)) (hl : HL) : Option Blk → Prop
  | some _ => adjP r K ⟨al (renAl a b (killAl b l)), hOf (renHL a b (killHL b hl))⟩
  | none => adjP r K ⟨al l, hOf hl⟩
attribute [push_cast] renQ
@[push_cast] theorem adjP_ren : adjP (.ren a b :: r) K ⟨al l, hOf hl⟩ = ((a ≠ b ∧ b < 9000) ∧ renQ a b r K l hl (hOf hl a)) := by
  simp only [adjP]
  refine propext ⟨fun h => ⟨h.1, ?_⟩, fun h => ⟨h.1, ?_⟩⟩
  · have h2 := h.2
    cases hh : hOf hl a with
    | none => rw [hh] at h2; exact h2
    | some x => rw [hh] at h2; simp only [renO, renSt_at a b l hl h.1.1] at h2; exact h2
  · have h2 := h.2
    cases hh : hOf hl a with
    | none => rw [hh] at h2; exact h2
    | some x => rw [hh] at h2; simp only [renO, renSt_at a b l hl h.1.1]; exact h2
@[push_cast] theorem nvO_nil : nvO t d sz f ⟨al l, hOf hl⟩ .nilsl = ⟨al ((t, .vec d 0) :: killAl d l), hOf ((d, .vec sz 0 f) :: killHL d hl)⟩ := by
  simp only [nvO, nvSt, al_kill, hOf_kill, al_upd, hOf_put]
@[push_cast] theorem nvO_vec (i m : Nat) : nvO t d sz f s (.vec i m) = s := rfl
@[push_cast] theorem nvO_sl (m : Nat) (g : Nat → V) : nvO t d sz f s (.sl m g) = s := rfl
@[push_cast] theorem frzO_some (z m : Nat) (g : Nat → V) : frzO id ⟨al l, hOf hl⟩ K (some (.vec z m g)) = ((∀ i, i < m → (g i).isPure = true) ∧ K ⟨al (frzAl id m g l), hOf (frzHL id m g hl)⟩) := by
  simp only [frzO, frzSt, al_frz, hOf_frz]
@[push_cast] theorem frzO_none : frzO id s K none = K s := rfl
@[push_cast] theorem frzO_cells (cs : List V) : frzO id s K (some (.cells cs)) = K s := rfl
@[push_cast] theorem levS_at : levS l hl s = (levE s l ∧ levH s hl) := rfl
end
attribute [push_cast] renAl frzAl renHL frzV frzL frzB V.ren V.renL Blk.ren
end Go.Abs
