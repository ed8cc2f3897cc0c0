import Derived.Test.YtppjlnagihefoaaDoorAbsA28
namespace Go.Abs
open Go
variable {G : PG}

def liftE (G : PG) (n : Nat) (S0 : Sv) (K : Exit → St → Prop) (e : Exit) (a : Act) (w : World) : Prop := ∃ s, Rel G n S0 s a w ∧ K e s
/-- a loop, as it is met -/
def LoopW (c : Cfg) (b : Code) (s : St) (K : Exit → St → Prop) : Prop := ∀ S0 a w, Rel c.G c.n S0 s a w → (Code.loop b).wp c.P (liftE c.G c.n S0 K) a w
def thn (k : St → Prop) (K : Exit → St → Prop) : Exit → St → Prop
  | .normal, s => k s
  | e, s => K e s
def blkK (id : Nat) (K : Exit → St → Prop) : Exit → St → Prop
  | .exit i, s => bif Nat.beq i id then K .normal s else K (.exit i) s
  | e, s => K e s
def cndV (A B : Prop) : V → Prop
  | .bool t => (t = true → A) ∧ (t = false → B)
  | .opt g (.bool t) => g = true ∧ (t = true → A) ∧ (t = false → B)
  | _ => False
def exec (c : Cfg) : Code → St → (Exit → St → Prop) → Prop
  | .skip, s, K => K .normal s
  | .label _, s, K => K .normal s
  | .seq x y, s, K => exec c x s (thn (fun s => exec c y s K) K)
  | .region id ops d, s, K => match d with
    | true => anyRun (c.an id) c ops.toList s (K .normal)
    | false => opsRun c ops.toList ops.toList s (K .normal)
  | .cond x a b, s, K => cndV (exec c a s K) (exec c b s K) (ev s.env x)
  | .block id b, s, K => exec c b s (blkK id K)
  | .exit i, s, K => K (.exit i) s
  | .ret, s, K => K .ret s
  | .loop b, s, K => LoopW c b s K
  | _, _, _ => False
def listEq : List Nat → List Nat → Bool
  | [], [] => true
  | x :: r, y :: s => Nat.beq x y && listEq r s
  | _, _ => false
theorem listEq_ok : ∀ {l m : List Nat}, listEq l m = true → l = m
  | [], [], _ => rfl
  | x :: r, y :: s, h => by
    simp only [listEq, Bool.and_eq_true] at h
    rw [Nat.eq_of_beq_eq_true h.1, listEq_ok h.2]
def codeOk (an : Nat → List Nat) : Code → Bool
  | .seq x y => codeOk an x && codeOk an y
  | .region id ops d => match d with
    | true => statOk ops.toList && listEq (ancs ops.toList) (an id)
    | false => true
  | .cond _ a b => codeOk an a && codeOk an b
  | .block _ b => codeOk an b
  | .loop b => codeOk an b
  | _ => true
structure CfgOk (c : Cfg) : Prop where
  ct : CtOk c.G c.ct
  fol : c.P.follows .mixedOrders = true

theorem rep_at {γ imm w} {e : Env} {a : Act} {h : Heap} (he : RepE ⟨γ, imm, h, w⟩ e a.tmps) (x : Operand) : RepV γ imm w (ev e x) (a.eval x) := rep_ev he x

theorem exec_sound {c : Cfg} (hc : CfgOk c) : ∀ (code : Code), codeOk c.an code = true → ∀ (S0 : Sv) (s : St) (a : Act) (w : World) (K : Exit → St → Prop), Rel c.G c.n S0 s a w → exec c code s K → code.wp c.P (liftE c.G c.n S0 K) a w := by
  intro code
  induction code with
  | skip => intro _ S0 s a w K hr h; exact wp_skip ⟨s, hr, h⟩
  | label l => intro _ S0 s a w K hr h; exact wp_label ⟨s, hr, h⟩
  | exit i => intro _ S0 s a w K hr h; exact wp_exit ⟨s, hr, h⟩
  | ret => intro _ S0 s a w K hr h; exact wp_ret ⟨s, hr, h⟩
  | seq x y ihx ihy =>
    intro hok S0 s a w K hr h
    simp only [codeOk, Bool.and_eq_true] at hok
    refine wp_seq (wp_mono (ihx hok.1 S0 s a w _ hr h) fun e a w he => ?_)
    obtain ⟨s', hr', hk⟩ := he
    cases e with
    | normal => exact ihy hok.2 S0 s' a w K hr' hk
    | _ => exact ⟨s', hr', hk⟩
  | cond x p q ihp ihq =>
    intro hok S0 s a w K hr h
    simp only [codeOk, Bool.and_eq_true] at hok
    have hv : ∃ γ imm, RepV γ imm w (ev s.env x) (a.eval x) := by
      obtain ⟨γ, imm, _, _, he, _⟩ := hr
      exact ⟨γ, imm, rep_at he x⟩
    obtain ⟨γ, imm, hv⟩ := hv
    simp only [exec] at h
    have go : ∀ t, a.eval x = .bool t → (t = true → exec c p s K) → (t = false → exec c q s K) → (Code.cond x p q).wp c.P (liftE c.G c.n S0 K) a w := fun t ht h1 h2 =>
      wp_cond_split ht (fun e => ihp hok.1 S0 s a w K hr (h1 e)) fun e => ihq hok.2 S0 s a w K hr (h2 e)
    unfold cndV at h
    split at h
    · rename_i t e
      rw [e] at hv
      exact go t (inv_bool (S := ⟨γ, imm, s.heap, w⟩) hv) h.1 h.2
    · rename_i g t e
      rw [e] at hv
      exact go t (inv_bool (S := ⟨γ, imm, s.heap, w⟩) ((inv_opt (S := ⟨γ, imm, s.heap, w⟩) hv).1 h.1)) h.2.1 h.2.2
    · exact h.elim
  | block id b ih =>
    intro hok S0 s a w K hr h
    refine wp_block (wp_mono (ih hok S0 s a w _ hr h) fun e a w he => ?_)
    obtain ⟨s', hr', hk⟩ := he
    cases e with
    | exit i =>
      simp only [Exit.inBlock, blkK] at hk ⊢
      by_cases e : i = id
      · subst e
        rw [if_pos rfl]
        simp only [Nat.beq_refl, cond_true] at hk
        exact ⟨s', hr', hk⟩
      · rw [if_neg e]
        have : Nat.beq i id = false := by
          cases hb : Nat.beq i id with
          | false => rfl
          | true => exact absurd (Nat.eq_of_beq_eq_true hb) e
        rw [this, cond_false] at hk
        exact ⟨s', hr', hk⟩
    | _ => exact ⟨s', hr', hk⟩
  | loop b ih => intro hok S0 s a w K hr h; exact h S0 a w hr
  | region id ops d =>
    intro hok S0 s a w K hr h
    cases d with
    | true =>
      simp only [codeOk, Bool.and_eq_true] at hok
      exact anyRun_sound hc.ct hc.fol hok.1 (listEq_ok hok.2) (fun a w h => h) hr h id
    | false =>
      refine wp_region ?_
      rw [List.range_eq_range']
      exact opsRun_sound hc.ct (fun a w h => h) ops.size 0 hr (by omega) (by simpa [exec] using h)
  | _ => intro _ S0 s a w K hr h; exact h.elim

/-- s says all that t says -/
def Le (s t : St) : Prop := ∀ (G : PG) n S0 a w, Rel G n S0 s a w → Rel G n S0 t a w
theorem Le.refl (s : St) : Le s s := fun _ _ _ _ _ h => h
theorem Le.trans {s t u : St} (h : Le s t) (k : Le t u) : Le s u := fun G n S0 a w hr => k G n S0 a w (h G n S0 a w hr)

theorem wp_loop_rel {P : Program} {Q : Exit → Act → World → Prop} {a : Act} {w : World} {c : Code} (I : Nat → Act → World → Prop) (m : Nat) (h₀ : I m a w)
    (round : ∀ m a w, I m a w → c.wp P (Exit.then (fun a' w' => ∃ m', m' < m ∧ I m' a' w') Q) a w) : (Code.loop c).wp P Q a w := by
  intro b k cs
  have key : ∀ m a w, I m a w → ∃ e a' w', Q e a' w' ∧ Arrives P (lone (b.at a (.code c :: .inLoop c :: k)) cs w) b k cs e a' w' := by
    intro m
    induction m using Nat.strongRecOn with
    | _ m ih =>
      intro a w hI
      obtain ⟨e, a₁, w₁, hq, harr⟩ := round m a w hI b (.inLoop c :: k) cs
      cases e with
      | normal =>
        obtain ⟨m', hlt, hI₁⟩ := hq
        obtain ⟨e₂, a₂, w₂, hq₂, harr₂⟩ := ih m' hlt a₁ w₁ hI₁
        exact ⟨e₂, a₂, w₂, hq₂, .of_steps (Steps.trans harr (.one step_inLoop)) harr₂⟩
      | outgrown => exact ⟨_, a₁, w₁, hq, .pass (x := .inLoop c) rfl (fun _ _ => .inl (by simp)) harr⟩
      | _ => exact ⟨_, a₁, w₁, hq, .pass (x := .inLoop c) rfl (fun _ _ => .inl (by simp)) harr⟩
  obtain ⟨e, a', w', hq, harr⟩ := key m a w h₀
  exact ⟨e, a', w', hq, .of_steps (.one step_loop) harr⟩

/-- A LOOP: what holds of t at its head, what is then there (mk t), and how far it is yet to go. -/
theorem LoopW.rule' {c : Cfg} (hc : CfgOk c) {b : Code} (hok : codeOk c.an b = true) {s : St} {K : Exit → St → Prop} {T : Type} (mk : T → St) (I : T → Prop) (μ : T → Nat) (t0 : T) (h0 : I t0) (hle : Le s (mk t0))
    (KL : T → Exit → St → Prop) (hKL : ∀ t e s', KL t e s' → thn (fun s' => ∃ t', I t' ∧ μ t' < μ t ∧ Le s' (mk t')) K e s') (body : ∀ t, I t → exec c b (mk t) (KL t)) : LoopW c b s K := by
  intro S0 a w hr
  refine wp_loop_rel (fun m a w => ∃ t, μ t = m ∧ I t ∧ Rel c.G c.n S0 (mk t) a w) (μ t0) ⟨t0, rfl, h0, hle _ _ _ _ _ hr⟩ fun m a w ⟨t, ht, hI, hr⟩ => ?_
  refine wp_mono (exec_sound hc b hok S0 (mk t) a w _ hr (body t hI)) fun e a w he => ?_
  obtain ⟨s', hr', hk0⟩ := he
  have hk := hKL t e s' hk0
  cases e with
  | normal =>
    obtain ⟨t', h1, h2, h3⟩ := hk
    exact ⟨μ t', ht ▸ h2, t', rfl, h1, h3 _ _ _ _ _ hr'⟩
  | _ => exact ⟨s', hr', hk⟩
theorem LoopW.rule {c : Cfg} (hc : CfgOk c) {b : Code} (hok : codeOk c.an b = true) {s : St} {K : Exit → St → Prop} {T : Type} (mk : T → St) (I : T → Prop) (μ : T → Nat) (t0 : T) (h0 : I t0) (hle : Le s (mk t0))
    (body : ∀ t, I t → exec c b (mk t) (thn (fun s' => ∃ t', I t' ∧ μ t' < μ t ∧ Le s' (mk t')) K)) : LoopW c b s K :=
  LoopW.rule' hc hok mk I μ t0 h0 hle _ (fun _ _ _ h => h) body
end Go.Abs
