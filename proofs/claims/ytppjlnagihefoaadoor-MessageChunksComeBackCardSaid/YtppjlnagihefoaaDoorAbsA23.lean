import Derived.Test.YtppjlnagihefoaaDoorAbsA22
namespace Go.Abs
open Go
variable {G : PG}
abbrev Ct := FuncId → List V → Option (Prop × V)
structure Cfg where
  G : PG
  ct : Ct
  ow : Nat → Bool
  n : Nat
  an : Nat → List Nat

abbrev Cfg.P (c : Cfg) : Program := c.G.prog
variable {P : Program}

/-- contracts of calls that leave no trace: what must hold, and what comes back -/
def CtOk (G : PG) (ct : Ct) : Prop := ∀ f args q r, ct f args = some (q, r) → q → PCall G f args r
mutual
def V.isVec : V → Bool
  | .vec _ _ => true
  | .agg cs => V.isVecL cs
  | _ => false
def V.isVecL : List V → Bool
  | [] => false
  | v :: r => V.isVec v || V.isVecL r
end
/-- what a callee that owns nothing must be handed, and may hand back -/
def lent (H : Heap) (args : List V) (r : V) : Prop := match args.any V.isVec with
  | true => borPL H args ∧ r.noSl = true
  | false => r.noId = true
def killE (d : Nat) (e : Env) : Env := fun t => V.kill d (e t)
theorem killE_rep {S : Sv} {e : Env} {tmps : Array Value} (d : Nat) (h : RepE S e tmps) : RepE S (killE d e) tmps := fun t => (h t).kill d

/-- an operation that is run -/
def alw (c : Cfg) (dst : Option Nat) (s : St) (K : St → Prop) : OR → Prop
  | .val p v | .rd _ p v => p ∧ K (s.put dst v)
  | .wr _ id p v b => p ∧ K (St.put ⟨s.env, upd s.heap id (some b)⟩ dst v)
  | .new p v b => p ∧ K (St.put ⟨killE (dOf dst) s.env, upd (killH (dOf dst) s.heap) (dOf dst) (some (b.kill (dOf dst)))⟩ dst v)
  | .call p f args => p ∧ match c.ct f (args.map (bor s.heap)) with
    | some (q, r) => q ∧ lent s.heap args r ∧ K (s.put dst r)
    | none => (CallK c.G f args s.heap fun r h => K (St.put ⟨s.env, h⟩ dst r)) ∨ CallN c.G f args s.heap (dOf dst) fun r h => K (St.put ⟨killE (dOf dst) s.env, h⟩ dst r)
  | .bad => False
/-- an operation that is run if g -/
def gdo (c : Cfg) (dst : Option Nat) (s : St) (K : St → Prop) (g : Bool) : OR → Prop
  | .val p v | .rd _ p v => (g = true → p) ∧ K (s.put dst (.opt g v))
  | .wr l id p v b => (g = true → alw c dst s K (.wr l id p v b)) ∧ (g = false → K (s.put dst .any))
  | .new p v b => (g = true → alw c dst s K (.new p v b)) ∧ (g = false → K (s.put dst .any))
  | .call p f args => match c.ct f (args.map (bor s.heap)) with
    | some (q, r) => (g = true → p ∧ q ∧ lent s.heap args r) ∧ K (s.put dst (.opt g r))
    | none => (g = true → alw c dst s K (.call p f args)) ∧ (g = false → K (s.put dst .any))
  | .bad => False
def oneOp (c : Cfg) (ops : List Oper) (s : St) (o : Oper) (K : St → Prop) : Prop :=
  inN c.n o.dst ∧ match gst s.env ops o.guard with
  | .always => alw c o.dst s K (opO c.P c.ow (dOf o.dst) s.heap s.env o.op)
  | .ifb g => gdo c o.dst s K g (opO c.P c.ow (dOf o.dst) s.heap s.env o.op)
  | .bad => False

def lift (G : PG) (n : Nat) (S0 : Sv) (K : St → Prop) (a : Act) (w : World) : Prop := ∃ s, Rel G n S0 s a w ∧ K s

mutual
theorem bor_shift (H : Heap) : (x : V) → x.isVec = false → bor H x = V.shift x
  | .vec _ _, h => by simp [V.isVec] at h
  | .agg cs, h => by
    simp only [V.isVec] at h
    simp only [bor, V.shift, borL_shift H cs h]
  | .any, _ => by simp only [bor, V.shift]
  | .int _ _, _ => by simp only [bor, V.shift]
  | .bool _, _ => by simp only [bor, V.shift]
  | .str _, _ => by simp only [bor, V.shift]
  | .con _, _ => by simp only [bor, V.shift]
  | .nilsl, _ => by simp only [bor, V.shift]
  | .tup _, _ => by simp only [bor]
  | .sl _ _, _ => by simp only [bor, V.shift]
  | .iptr _, _ => by simp only [bor, V.shift]
  | .ptr _ _, _ => by simp only [bor]
  | .eptr _ _ _ _ _, _ => by simp only [bor]
  | .fn _ _ _, _ => by simp only [bor]
  | .vw _ _ _, _ => by simp only [bor]
  | .map _, _ => by simp only [bor]
  | .opt _ _, _ => by simp only [bor]
theorem borL_shift (H : Heap) : (l : List V) → V.isVecL l = false → borL H l = V.shiftL l
  | [], _ => rfl
  | x :: l, h => by
    simp only [V.isVecL, Bool.or_eq_false_iff] at h
    simp only [borL, V.shiftL, bor_shift H x h.1, borL_shift H l h.2]
end
theorem not_any_bor {l : List V} (h : l.any V.isVec = false) (H : Heap) : l.map (bor H) = l.map V.shift := by
  induction l with
  | nil => rfl
  | cons x l ih =>
    simp only [List.any_cons, Bool.or_eq_false_iff] at h
    simp only [List.map_cons, ih h.2, bor_shift H x h.1]
theorem ct_call {c : Cfg} (hc : CtOk c.G c.ct) {f : FuncId} {args : List V} {H : Heap} {q : Prop} {r : V} (h : c.ct f (args.map (bor H)) = some (q, r)) (hq : q) (hl : lent H args r) {k : V → Heap → Prop} (hk : k r H) :
    CallK c.G f args H k := by
  have hp := hc _ _ _ _ h hq
  unfold lent at hl
  cases hv : args.any V.isVec with
  | true => rw [hv] at hl; exact .inr ⟨r, hl.1, hp, hl.2, hk⟩
  | false =>
    rw [hv] at hl
    rw [not_any_bor hv] at hp
    refine .inl ⟨[], r, [], fun id b h => (by cases h), fun id h => h, ?_, ?_⟩
    · rw [noId_shift r hl]; exact hp
    · have : ovr [] [] H = H := by funext id; rfl
      rw [this]; exact hk

theorem upon_of_runs {o : Oper} {a : Act} {w w' : World} {u : Value} {K : Act → World → Prop} {Q : Exit → Act → World → Prop} (h : runs (P := P) (execOp a.eval o) w u w') (hk : K (a.put o.dst u) w') : o.wp P a w K Q := by
  unfold Oper.wp
  rcases h with h | ⟨h, rfl⟩
  · rw [h]; exact hk
  · rw [h]; exact hk

theorem alw_sound {c : Cfg} (hc : CtOk c.G c.ct) {S0 : Sv} {s : St} {a : Act} {w : World} {o : Oper} {K : St → Prop} {Q : Exit → Act → World → Prop} (hr : Rel c.G c.n S0 s a w) (hd : inN c.n o.dst)
    (h : alw c o.dst s K (opO c.P c.ow (dOf o.dst) s.heap s.env o.op)) : o.wp c.P a w (lift c.G c.n S0 K) Q := by
  obtain ⟨γ, imm, hs, hx, he, hdef, hsz, hn⟩ := hr
  have hd' : inN a.tmps.size o.dst := by rw [hsz]; exact hd
  have hso := opO_sound (P := c.P) (d := dOf o.dst) hs c.ow he o
  have fin : ∀ (γ' : Gh) (imm' : Nat → Prop) (e' : Env) (h' : Heap) (v : V) (u : Value) (w' : World), Sim c.G ⟨γ', imm', h', w'⟩ → Ext (· < 9000) ⟨γ, imm, s.heap, w⟩ ⟨γ', imm', h', w'⟩ → RepE ⟨γ', imm', h', w'⟩ e' a.tmps → RepV γ' imm' w' v u →
      K (St.put ⟨e', h'⟩ o.dst v) → lift c.G c.n S0 K (a.put o.dst u) w' := by
    intro γ' imm' e' h' v u w' h1 h2 h3 h4 h5
    have hh : (St.put ⟨e', h'⟩ o.dst v).heap = h' := by cases o.dst <;> rfl
    exact ⟨_, ⟨γ', imm', by rw [hh]; exact h1, by rw [hh]; exact hx.trans h2, by rw [hh]; exact rep_put h3 hd' h4 _, by rw [put_defers]; exact hdef, by rw [put_size]; exact hsz, hn⟩, h5⟩
  have keepE : ∀ (S' : Sv), Ext (fun _ => False) ⟨γ, imm, s.heap, w⟩ S' → RepE S' s.env a.tmps := fun S' h t => h.rep hs (he t) fun _ h => h.elim
  cases hR : opO c.P c.ow (dOf o.dst) s.heap s.env o.op with
  | val p v =>
    rw [hR] at hso h
    obtain ⟨hp, hk⟩ := h
    obtain ⟨u, w', imm', h1, h2, h3, h4⟩ := hso hp
    exact upon_of_runs h1 (fin _ _ _ _ _ _ _ h2 (h3.mono fun _ h => h.elim) (keepE _ h3) h4 hk)
  | rd i p v =>
    rw [hR] at hso h
    obtain ⟨hp, hk⟩ := h
    obtain ⟨u, w', imm', h1, h2, h3, h4⟩ := hso hp
    exact upon_of_runs h1 (fin _ _ _ _ _ _ _ h2 (h3.mono fun _ h => h.elim) (keepE _ h3) h4 hk)
  | wr l i p v b =>
    rw [hR] at hso h
    obtain ⟨hp, hk⟩ := h
    obtain ⟨u, w', γ', h1, h2, h3, h4⟩ := hso hp
    exact upon_of_runs h1 (fin _ _ _ _ _ _ _ h2 (h3.mono fun _ h => h.elim) (keepE _ h3) h4 hk)
  | new p v b =>
    rw [hR] at hso h
    obtain ⟨hp, hk⟩ := h
    obtain ⟨u, w', val, h1, h2, h3, h4⟩ := hso hp
    refine upon_of_runs h1 (fin _ _ _ _ _ _ _ h2 (h3.mono fun id h => ?_) ?_ h4 hk)
    · subst h
      cases hdd : o.dst with
      | none => simp [dOf]
      | some d => rw [hdd] at hd; simp only [inN] at hd; simp only [dOf, Option.getD_some]; omega
    · intro t
      exact h3.rep hs (killE_rep _ he t) fun id hid => by subst hid; exact men_kill_aux _ _
  | call p f args =>
    rw [hR] at hso h
    obtain ⟨hp, hk⟩ := h
    obtain ⟨vals, h1, h2, h3⟩ := hso hp
    have hck : (CallK c.G f args s.heap fun r h => K (St.put ⟨s.env, h⟩ o.dst r)) ∨ CallN c.G f args s.heap (dOf o.dst) fun r h => K (St.put ⟨killE (dOf o.dst) s.env, h⟩ o.dst r) := by
      cases hct : c.ct f (args.map (bor s.heap)) with
      | none => rw [hct] at hk; exact hk
      | some qr =>
        obtain ⟨q, r⟩ := qr
        rw [hct] at hk
        exact .inl (ct_call hc hct hk.1 hk.2.1 hk.2.2)
    have fin2 : ∀ v w', After c.G ⟨γ, imm, s.heap, w⟩ (fun r h => K (St.put ⟨s.env, h⟩ o.dst r)) (.returned v) w' → lift c.G c.n S0 K (a.put o.dst v) w' := by
      intro v w' ⟨v', γ', imm', r, h', e1, e2, e3, e4, e5⟩
      cases e1
      exact fin _ _ _ _ _ _ _ e2 (e3.mono fun _ h => h.elim) (keepE _ e3) e4 e5
    have fin3 : ∀ v w', AfterN c.G ⟨γ, imm, s.heap, w⟩ (dOf o.dst) (fun r h => K (St.put ⟨killE (dOf o.dst) s.env, h⟩ o.dst r)) (.returned v) w' → lift c.G c.n S0 K (a.put o.dst v) w' := by
      intro v w' ⟨v', γ', imm', r, h', e1, e2, e3, e4, e5⟩
      cases e1
      refine fin _ _ _ _ _ _ _ e2 (e3.mono fun id h => ?_) (fun t => e3.rep hs (killE_rep _ he t) fun id hid => by subst hid; exact men_kill_aux _ _) e4 e5
      subst h
      cases hdd : o.dst with
      | none => simp [dOf]
      | some d => rw [hdd] at hd; simp only [inN] at hd; simp only [dOf, Option.getD_some]; omega
    have go : ∀ (R : Ending → World → Prop), (∀ e w', R e w' → ∃ v, e = .returned v ∧ lift c.G c.n S0 K (a.put o.dst v) w') → CallsX c.P f vals.toArray w R → o.wp c.P a w (lift c.G c.n S0 K) Q := by
      intro R hR2 hcx
      rcases hcx with ⟨hent, hcalls⟩ | ⟨v, w', hv, haft⟩
      · have hrun := h1.trans (entB_run hent vals.toArray w)
        unfold Oper.wp
        rw [show (execOp a.eval o).run c.P w = _ from hrun, Oper.upon_enter]
        refine hcalls.mono fun e w' haft => ?_
        obtain ⟨v, rfl, hl⟩ := hR2 e w' haft
        exact hl
      · obtain ⟨v0, e0, hl⟩ := hR2 _ _ haft
        cases e0
        unfold Oper.wp
        rw [show (execOp a.eval o).run c.P w = _ from h1.trans hv]
        exact hl
    rcases hck with hck | hck
    · exact go _ (fun e w' haft => by
        have haft' := haft
        obtain ⟨v', _, _, _, _, e1, _⟩ := haft
        subst e1
        exact ⟨v', rfl, fin2 _ _ haft'⟩) (callK_sound hs h2 h3 hck)
    · exact go _ (fun e w' haft => by
        have haft' := haft
        obtain ⟨v', _, _, _, _, e1, _⟩ := haft
        subst e1
        exact ⟨v', rfl, fin3 _ _ haft'⟩) (callN_sound hs h2 h3 hck)
  | bad => rw [hR] at h; exact h.elim

theorem rel_put {n : Nat} {S0 : Sv} {s : St} {a : Act} {w : World} {d : Option Nat} {v : V} {u : Value} (hr : Rel G n S0 s a w) (hd : inN n d) (hv : ∀ γ imm, RepV γ imm w v u) : Rel G n S0 (s.put d v) (a.put d u) w := by
  obtain ⟨γ, imm, hs, hx, he, hdef, hsz, hn⟩ := hr
  have hd' : inN a.tmps.size d := by rw [hsz]; exact hd
  have hh : (s.put d v).heap = s.heap := by cases d <;> rfl
  exact ⟨γ, imm, by rw [hh]; exact hs, by rw [hh]; exact hx, by rw [hh]; exact rep_put he hd' (hv _ _) _, by rw [put_defers]; exact hdef, by rw [put_size]; exact hsz, hn⟩

theorem rep_optV {γ : Gh} {imm : Nat → Prop} {w : World} {v : V} {u : Value} (h : RepV γ imm w v u) : RepV γ imm w (.opt true v) u := .opt _ _ _ (fun _ => h) (fun h => by cases h)
/-- a value is an optional one, with its guard true -/
theorem lift_opt {n : Nat} {S0 : Sv} {K : St → Prop} {a : Act} {w : World} {d : Option Nat} {e : Env} {h : Heap} {v : V} (hl : Rel G n S0 (St.put ⟨e, h⟩ d v) a w) (hk : K (St.put ⟨e, h⟩ d (.opt true v))) : lift G n S0 K a w := by
  refine ⟨_, ?_, hk⟩
  obtain ⟨γ, imm, hs, hx, he, rest⟩ := hl
  have hh : ∀ v, (St.put ⟨e, h⟩ d v).heap = h := fun v => by cases d <;> rfl
  rw [hh] at hs hx he
  refine ⟨γ, imm, by rw [hh]; exact hs, by rw [hh]; exact hx, ?_, rest⟩
  rw [hh]
  intro t
  have := he t
  cases d with
  | none => exact this
  | some d =>
    simp only [St.put] at this ⊢
    by_cases e' : t = d
    · subst e'; rw [upd_same] at this ⊢; exact rep_optV this
    · rw [upd_ne _ _ e'] at this ⊢; exact this

theorem gdo_sound {c : Cfg} (hc : CtOk c.G c.ct) {S0 : Sv} {s : St} {a : Act} {w : World} {o : Oper} {K : St → Prop} {Q : Exit → Act → World → Prop} (hr : Rel c.G c.n S0 s a w) (hd : inN c.n o.dst) {g : Bool}
    (h : gdo c o.dst s K g (opO c.P c.ow (dOf o.dst) s.heap s.env o.op)) : (g = true → o.wp c.P a w (lift c.G c.n S0 K) Q) ∧ (g = false → lift c.G c.n S0 K (a.put o.dst undef) w) := by
  have no : ∀ v, K (s.put o.dst (.opt false v)) → lift c.G c.n S0 K (a.put o.dst undef) w := fun v hk =>
    ⟨_, rel_put hr hd fun _ _ => .opt _ _ _ (fun h => by cases h) fun _ => rfl, hk⟩
  have no' : K (s.put o.dst .any) → lift c.G c.n S0 K (a.put o.dst undef) w := fun hk => ⟨_, rel_put hr hd fun _ _ => .any _, hk⟩
  have yes : ∀ (R : OR), opO c.P c.ow (dOf o.dst) s.heap s.env o.op = R → alw c o.dst s K R → o.wp c.P a w (lift c.G c.n S0 K) Q := fun R e hk => alw_sound hc hr hd (e ▸ hk)
  have yes' : ∀ (R : OR) (v : V), opO c.P c.ow (dOf o.dst) s.heap s.env o.op = R → alw c o.dst s (fun x => x = s.put o.dst v) R → K (s.put o.dst (.opt true v)) → o.wp c.P a w (lift c.G c.n S0 K) Q := fun R v e hk hK => by
    refine Oper.wp_mono (fun a w hl => ?_) (alw_sound hc hr hd (e ▸ hk))
    obtain ⟨x, hx, rfl⟩ := hl
    exact lift_opt hx hK
  cases hR : opO c.P c.ow (dOf o.dst) s.heap s.env o.op with
  | val p v =>
    rw [hR] at h
    refine ⟨fun e => ?_, fun e => ?_⟩
    · subst e; exact yes' _ v hR ⟨h.1 rfl, rfl⟩ h.2
    · subst e; exact no _ h.2
  | rd i p v =>
    rw [hR] at h
    refine ⟨fun e => ?_, fun e => ?_⟩
    · subst e; exact yes' _ v hR ⟨h.1 rfl, rfl⟩ h.2
    · subst e; exact no _ h.2
  | wr l i p v b => rw [hR] at h; exact ⟨fun e => yes _ hR (h.1 e), fun e => no' (h.2 e)⟩
  | new p v b => rw [hR] at h; exact ⟨fun e => yes _ hR (h.1 e), fun e => no' (h.2 e)⟩
  | call p f args =>
    rw [hR] at h
    simp only [gdo] at h
    cases hct : c.ct f (args.map (bor s.heap)) with
    | none => rw [hct] at h; exact ⟨fun e => yes _ hR (h.1 e), fun e => no' (h.2 e)⟩
    | some qr =>
      obtain ⟨q, r⟩ := qr
      rw [hct] at h
      refine ⟨fun e => ?_, fun e => ?_⟩
      · subst e
        obtain ⟨h1, h2, h3⟩ := h.1 rfl
        refine yes' _ r hR ⟨h1, ?_⟩ h.2
        rw [hct]
        exact ⟨h2, h3, rfl⟩
      · subst e; exact no _ h.2
  | bad => rw [hR] at h; exact h.elim

theorem oneOp_sound {c : Cfg} (hc : CtOk c.G c.ct) {S0 : Sv} {s : St} {a : Act} {w : World} {ops : Array Oper} {i : Nat} {o : Oper} {K : St → Prop} {Q : Exit → Act → World → Prop} (hr : Rel c.G c.n S0 s a w) (ho : ops[i]? = some o)
    (h : oneOp c ops.toList s o K) : wpOp c.P ops Q i (lift c.G c.n S0 K) a w := by
  obtain ⟨hd, h⟩ := h
  have hw := gst_wanted (S := ⟨hr.choose, hr.choose_spec.choose, s.heap, w⟩) hr.choose_spec.choose_spec.2.2.1 ops o
  unfold wpOp
  simp only [ho]
  cases hg : gst s.env ops.toList o.guard with
  | always =>
    rw [hg] at h hw
    simp only at hw
    rw [if_pos hw]
    exact .inl (alw_sound hc hr hd h)
  | ifb g =>
    rw [hg] at h hw
    simp only at hw
    have := gdo_sound (Q := Q) hc hr hd h
    rw [hw]
    cases g with
    | true => exact .inl (this.1 rfl)
    | false => exact this.2 rfl
  | bad => rw [hg] at h; exact h.elim

/-- the operations one after the other -/
def opsRun (c : Cfg) (all : List Oper) : List Oper → St → (St → Prop) → Prop
  | [], s, K => K s
  | o :: r, s, K => oneOp c all s o fun s' => opsRun c all r s' K

theorem opsRun_sound {c : Cfg} (hc : CtOk c.G c.ct) {S0 : Sv} {ops : Array Oper} {K : St → Prop} {Q : Exit → Act → World → Prop} (hQ : ∀ a w, lift c.G c.n S0 K a w → Q .normal a w) (m : Nat) : ∀ (k : Nat) {s : St} {a : Act} {w : World}, Rel c.G c.n S0 s a w → k + m = ops.size →
    opsRun c ops.toList (ops.toList.drop k) s K → wpOps c.P ops Q (List.range' k m) a w := by
  induction m with
  | zero =>
    intro k s a w hr hk h
    have : ops.toList.drop k = [] := by simp; omega
    rw [this] at h
    exact hQ _ _ ⟨s, hr, h⟩
  | succ m ih =>
    intro k s a w hr hk h
    have hlt : k < ops.size := by omega
    have hdrop : ops.toList.drop k = ops[k] :: ops.toList.drop (k + 1) := by
      rw [List.drop_eq_getElem_cons (by simpa using hlt)]; simp
    rw [hdrop] at h
    rw [List.range'_succ, wpOps_cons]
    refine wpOp_mono (fun a w hl => ?_) (oneOp_sound hc hr (by simp [hlt]) h)
    obtain ⟨s', hr', h'⟩ := hl
    exact ih (k + 1) hr' (by omega) h'
end Go.Abs
