import Derived.Test.YtppjlnagihefoaaDoorAbsA27
import Derived.Tactics
import Derived.OwnWalk
namespace Go.Abs
open Go
variable {G : PG}

/- the region's own shape -/
def statOne (A : List Nat) (ops : List Oper) (o : Oper) (j : Nat) : List Oper → Nat → Bool
  | [], _ => true
  | p :: r, i => (Nat.beq i j || (match p.dst with
      | some t => (match o.dst with | some u => !(Nat.beq t u) | none => true) && (anc A i j || anc A j i || !((lkOf ops o).any fun x => Nat.beq t x))
      | none => true)) && statOne A ops o j r (i + 1)
def statAll (A : List Nat) (ops : List Oper) : List Oper → Nat → Bool
  | [], _ => true
  | o :: r, j => ((edges o).all fun e => Nat.blt e j) && statOne A ops o j ops 0 && statAll A ops r (j + 1)
def statOk (ops : List Oper) : Bool := statAll (ancs ops) ops ops 0
theorem statOne_ok {A : List Nat} {ops : List Oper} {o : Oper} {j : Nat} : ∀ (l : List Oper) (k : Nat), statOne A ops o j l k = true → ∀ i p t, l[i]? = some p → k + i ≠ j → p.dst = some t → o.dst ≠ some t ∧ (t ∈ lkOf ops o → anc A (k + i) j = true ∨ anc A j (k + i) = true) := by
  intro l
  induction l with
  | nil => intro k _ i p t h; simp at h
  | cons x l ih =>
    intro k h i p t hp hne hd
    simp only [statOne, Bool.and_eq_true] at h
    cases i with
    | succ i => have := ih (k + 1) h.2 i p t (by simpa using hp) (by omega) hd; rwa [show k + 1 + i = k + (i + 1) by omega] at this
    | zero =>
      simp only [List.getElem?_cons_zero, Option.some.injEq] at hp
      subst hp
      have h1 := h.1
      rw [hd] at h1
      have hb : Nat.beq k j = false := by
        cases hbb : Nat.beq k j with
        | false => rfl
        | true => exact absurd (Nat.eq_of_beq_eq_true hbb) hne
      rw [Nat.add_zero] at hne ⊢
      simp only [hb, Bool.false_or, Bool.and_eq_true, Bool.or_eq_true, Bool.not_eq_true'] at h1
      refine ⟨fun ho => ?_, fun ht => ?_⟩
      · rw [ho] at h1; simp at h1
      · rcases h1.2 with (h2 | h2) | h2
        · exact .inl h2
        · exact .inr h2
        · exfalso
          have : ((lkOf ops o).any fun x => Nat.beq t x) = true := List.any_eq_true.2 ⟨t, ht, by simp⟩
          rw [this] at h2; cases h2
theorem statAll_ok {A : List Nat} {ops : List Oper} : ∀ (l : List Oper) (k : Nat), statAll A ops l k = true → ∀ j o, l[j]? = some o → (∀ e ∈ edges o, e < k + j) ∧ statOne A ops o (k + j) ops 0 = true := by
  intro l
  induction l with
  | nil => intro k _ i p h; simp at h
  | cons x l ih =>
    intro k h j o hp
    simp only [statAll, Bool.and_eq_true, List.all_eq_true] at h
    cases j with
    | succ j => have := ih (k + 1) h.2 j o (by simpa using hp); rwa [show k + 1 + j = k + (j + 1) by omega] at this
    | zero =>
      simp only [List.getElem?_cons_zero, Option.some.injEq] at hp
      subst hp
      exact ⟨fun e he => by have := h.1.1 e he; simpa using this, h.1.2⟩
theorem statOk_stat {ops : List Oper} (h : statOk ops = true) : Stat ops := by
  have h' := statAll_ok ops 0 h
  refine ⟨fun j o ho e he => by have := (h' j o ho).1 e he; omega, fun i j p o t hp ho hne hd => ?_, fun i j p o t hp ho hne hd ht => ?_⟩
  · have := (h' j o ho).2
    rw [Nat.zero_add] at this
    exact (statOne_ok ops 0 this i p t hp (by omega) hd).1
  · have := (h' j o ho).2
    rw [Nat.zero_add] at this
    have := (statOne_ok ops 0 this i p t hp (by omega) hd).2 ht
    rwa [Nat.zero_add] at this

/- what was done -/
def nwOne (nw : Option Nat) (x : Rec) : Prop := match nw with
  | none => True
  | some d => NMR d x
def rowE (A : List Nat) (j : Nat) (nw : Option Nat) (w : Nat) : List Rec → Nat → Prop
  | [], _ => True
  | x :: r, i => (i = j ∨ anc A j i = true ∨ ((anc A i j = true ∨ (w ∉ x.ids ∧ wid x ≠ some w)) ∧ nwOne nw x)) ∧ rowE A j nw w r (i + 1)
def wrE (A : List Nat) (j : Nat) (y : Rec) (all : List Rec) : Prop := match y.hw with
  | none => True
  | some q => rowE A j y.nw q.1 all 0
def dynE (A : List Nat) (all : List Rec) : List Rec → Nat → Prop
  | [], _ => True
  | y :: r, j => wrE A j y all ∧ dynE A all r (j + 1)
theorem rowE_ok {A : List Nat} {j : Nat} {nw : Option Nat} {w : Nat} : ∀ (l : List Rec) (k : Nat), rowE A j nw w l k → ∀ i x, l[i]? = some x → k + i = j ∨ anc A j (k + i) = true ∨ ((anc A (k + i) j = true ∨ (w ∉ x.ids ∧ wid x ≠ some w)) ∧ nwOne nw x) := by
  intro l
  induction l with
  | nil => intro k _ i p h; simp at h
  | cons x l ih =>
    intro k h i y hp
    cases i with
    | succ i => have := ih (k + 1) h.2 i y (by simpa using hp); rwa [show k + 1 + i = k + (i + 1) by omega] at this
    | zero =>
      simp only [List.getElem?_cons_zero, Option.some.injEq] at hp
      subst hp
      exact h.1
theorem dynE_ok {A : List Nat} {all : List Rec} : ∀ (l : List Rec) (k : Nat), dynE A all l k → ∀ j y, l[j]? = some y → wrE A (k + j) y all := by
  intro l
  induction l with
  | nil => intro k _ i p h; simp at h
  | cons x l ih =>
    intro k h i y hp
    cases i with
    | succ i => have := ih (k + 1) h.2 i y (by simpa using hp); rwa [show k + 1 + i = k + (i + 1) by omega] at this
    | zero =>
      simp only [List.getElem?_cons_zero, Option.some.injEq] at hp
      subst hp
      exact h.1
theorem dynE_dyn {A : List Nat} {rs : List Rec} (h : dynE A rs rs 0) : Dyn A rs := by
  intro j y hy q hq i x hx hne
  have h1 := dynE_ok rs 0 h j y hy
  rw [Nat.zero_add] at h1
  unfold wrE at h1
  rw [hq] at h1
  have h2 := rowE_ok rs 0 h1 i x hx
  rw [Nat.zero_add] at h2
  rcases h2 with h2 | h2 | ⟨h2, h3⟩
  · exact absurd h2 hne
  · exact ⟨.inl h2, fun _ _ => .inl h2⟩
  · refine ⟨.inr h2, fun d hd => .inr ?_⟩
    unfold nwOne at h3
    rw [hd] at h3
    exact h3
/- new blocks -/
def killSt (d : Nat) (s : St) : St := ⟨killE d s.env, killH d s.heap⟩
theorem killSt_rel {n : Nat} {S0 : Sv} {s : St} {a : Act} {w : World} (d : Nat) (h : Rel G n S0 s a w) : Rel G n S0 (killSt d s) a w := by
  obtain ⟨γ, imm, hs, hx, he, rest⟩ := h
  obtain ⟨k1, k2⟩ := hs.killH (· < 9000) d
  exact ⟨γ, imm, k1, hx.trans k2, killE_rep d he, rest⟩
def preL : List Nat → St → St
  | [], s => s
  | d :: r, s => match s.heap d with
    | none => preL r (killSt d s)
    | some _ => preL r s
theorem preL_rel {n : Nat} {S0 : Sv} : ∀ (l : List Nat) {s : St} {a : Act} {w : World}, Rel G n S0 s a w → Rel G n S0 (preL l s) a w := by
  intro l
  induction l with
  | nil => intro s a w h; exact h
  | cons d l ih =>
    intro s a w h
    unfold preL
    split
    · exact ih (killSt_rel d h)
    · exact ih h
theorem men_kill_keep (d e : Nat) (x : V) : V.men d x = false → V.men d (V.kill e x) = false := by
  refine V.rec (motive_1 := fun x => V.men d x = false → V.men d (V.kill e x) = false) (motive_2 := fun l => V.menL d l = false → V.menL d (V.killL e l) = false)
    ?_ ?_ ?_ ?_ ?_ ?_ ?_ ?_ ?_ ?_ ?_ ?_ ?_ ?_ ?_ ?_ ?_ ?_ ?_ x
  all_goals intros
  all_goals first
    | (simp only [V.kill, V.killL, V.men, V.menL]; done)
    | (simp_all [V.kill, V.killL, V.men, V.menL]; done)
    | (rename_i h; simp only [V.men] at h; simp only [V.kill]; cases (_ == e) <;> simp_all [V.men])
theorem menL_kill_self (d : Nat) (l : List V) : V.menL d (V.killL d l) = false := by
  induction l with
  | nil => rfl
  | cons x l ih => simp only [V.killL, V.menL, men_kill_aux, ih, Bool.or_false]
theorem menL_kill_keep (d e : Nat) (l : List V) (h : V.menL d l = false) : V.menL d (V.killL e l) = false := by
  induction l with
  | nil => rfl
  | cons x l ih =>
    simp only [V.menL, Bool.or_eq_false_iff] at h
    simp only [V.killL, V.menL, men_kill_keep d e x h.1, ih h.2, Bool.or_false]
theorem BN.self (d : Nat) (b : Blk) : BN d (b.kill d) := by
  cases b with
  | cells cs => exact menL_kill_self d cs
  | vec sz n f => exact fun i => men_kill_aux d _
theorem BN.keep {d : Nat} (e : Nat) {b : Blk} (h : BN d b) : BN d (b.kill e) := by
  cases b with
  | cells cs => exact menL_kill_keep d e cs h
  | vec sz n f => exact fun i => men_kill_keep d e _ (h i)
theorem killSt_noMen (d : Nat) (s : St) : NoMen d (killSt d s) := by
  refine ⟨fun t => men_kill_aux d _, by simp [killSt, killH], fun id b hb => ?_⟩
  simp only [killSt, killH] at hb
  split at hb
  · cases hb
  · obtain ⟨k, _, rfl⟩ := Option.map_eq_some_iff.1 hb
    exact BN.self d k
theorem NoMen.keep {d : Nat} {s : St} (e : Nat) (h : NoMen d s) : NoMen d (killSt e s) := by
  refine ⟨fun t => men_kill_keep d e _ (h.env t), ?_, fun id b hb => ?_⟩
  · simp only [killSt, Abs.killH, h.no]; split <;> rfl
  · simp only [killSt, Abs.killH] at hb
    split at hb
    · cases hb
    · obtain ⟨k, hk, rfl⟩ := Option.map_eq_some_iff.1 hb
      exact (h.heap id k hk).keep e
theorem preL_noMen (d : Nat) : ∀ (l : List Nat) (s : St), (NoMen d s ∨ (d ∈ l ∧ s.heap d = none)) → NoMen d (preL l s) := by
  intro l
  induction l with
  | nil => intro s h; exact h.resolve_right (fun h => by cases h.1)
  | cons e l ih =>
    intro s h
    unfold preL
    split
    · refine ih _ ?_
      rcases h with h | ⟨h1, h2⟩
      · exact .inl (h.keep e)
      · by_cases hde : d = e
        · subst hde; exact .inl (killSt_noMen d s)
        · refine .inr ⟨(List.mem_cons.1 h1).resolve_left hde, ?_⟩
          simp only [killSt, Abs.killH, h2]; split <;> rfl
    · rename_i b hb
      refine ih _ ?_
      rcases h with h | ⟨h1, h2⟩
      · exact .inl h
      · refine .inr ⟨(List.mem_cons.1 h1).resolve_left (fun e => ?_), h2⟩
        subst e; rw [h2] at hb; cases hb
def mayNew : Op → Bool
  | .alloc _ | .box _ _ | .makeSlice _ _ _ | .buildSlice _ _ _ | .convert _ _ _ => true
  | .call c => match c.callee with
    | .builtin b => match b with
      | .append => true
      | _ => false
    | _ => false
  | _ => false
def cands : List Oper → List Nat
  | [] => []
  | o :: r => match mayNew o.op with
    | true => dOf o.dst :: cands r
    | false => cands r
def nwE (ds : List Nat) (s : St) : List Rec → Prop
  | [] => True
  | y :: r => (match y.nw with
    | none => True
    | some d => y.hw ≠ none ∧ d ∈ ds ∧ s.heap d = none) ∧ nwE ds s r
theorem nwE_ok {ds : List Nat} {s : St} : ∀ (l : List Rec), nwE ds s l → NwOk l (preL ds s) := by
  intro l
  induction l with
  | nil => intro _ j y h; simp at h
  | cons x l ih =>
    intro h j y hy d hd
    cases j with
    | succ j => exact ih h.2 j y (by simpa using hy) d hd
    | zero =>
      simp only [List.getElem?_cons_zero, Option.some.injEq] at hy
      subst hy
      have h1 := h.1
      rw [hd] at h1
      exact ⟨h1.1, preL_noMen d ds s (.inr h1.2)⟩
/-- a region whose order is drawn -/
def anyRun (A : List Nat) (c : Cfg) (ops : List Oper) (s : St) (K : St → Prop) : Prop :=
  recRun c ops ops (preL (cands ops) s) [] fun rs s' => dynE A rs rs 0 ∧ nwE (cands ops) s rs ∧ K s'

theorem anyRun_sound {A : List Nat} {c : Cfg} (hc : CtOk c.G c.ct) (hfol : c.P.follows .mixedOrders = true) {S0 : Sv} {ops : Array Oper} (hst : statOk ops.toList = true) (hA : ancs ops.toList = A) {s : St} {a : Act} {w : World} {K : St → Prop} {Q : Exit → Act → World → Prop}
    (hQ : ∀ a w, lift c.G c.n S0 K a w → Q .normal a w) (hr : Rel c.G c.n S0 s a w) (h : anyRun A c ops.toList s K) (id : Nat) : (Code.region id ops true).wp c.P Q a w := by
  subst hA
  refine wp_region_any hfol ?_
  obtain ⟨rs, h1, ⟨h2, h3, h4⟩, h5⟩ := recRun_facts _ _ _ h
  rw [List.nil_append] at h2 h3
  have hr' : Rel c.G c.n S0 (preL (cands ops.toList) s) a { w with drawn := w.drawn + 1 } := by
    obtain ⟨γ, imm, hs, hx, he, rest⟩ := preL_rel (cands ops.toList) hr
    obtain ⟨g1, g2⟩ := hs.grow (fun _ => False) { w with drawn := w.drawn + 1 } imm ⟨rfl, rfl, rfl, Nat.le_refl _, fun _ _ => rfl⟩ (fun _ h => h) (fun _ h => .inl h)
    exact ⟨γ, imm, g1, hx.trans (g2.mono fun _ h => h.elim), fun t => g2.rep hs (he t) fun _ hid => hid.elim, rest⟩
  have e0 : ∀ (rs : List Rec) (k : Nat) (s : St), mrg rs k (fun _ => false) s = s := by
    intro rs
    induction rs with
    | nil => intro k s; rfl
    | cons r rs ih => intro k s; exact ih _ _
  have eL : (fun i => (Array.replicate ops.size false).getD i false) = fun _ => false := by
    funext i
    by_cases hi : i < ops.size <;> simp [hi]
  refine any_sound hc hQ (statOk_stat hst) (by simpa using h1) h5 (dynE_dyn h2) (nwE_ok _ h3) h4 ops.size _ a _ (by simp) (by simp [List.countP_replicate]) ?_ ?_
  · rw [eL]; intro j o _ h; cases h
  · rw [eL, e0]; exact hr'
end Go.Abs
