import Derived.Test.YtbbfmiinpdaajaaAbsA29
namespace Go.Abs
open Go

def al : List (Nat × V) → Env
  | [], _ => .any
  | (k, v) :: r, t => bif Nat.beq k t then v else al r t
theorem al_upd (l : List (Nat × V)) (d : Nat) (v : V) : upd (al l) d v = al ((d, v) :: l) := by
  funext t
  simp only [upd, al]
  by_cases h : t = d
  · subst h; simp
  · have : Nat.beq d t = false := by
      cases hb : Nat.beq d t with
      | false => rfl
      | true => exact absurd (Nat.eq_of_beq_eq_true hb).symm h
    simp [h, this]
def killAl (d : Nat) : List (Nat × V) → List (Nat × V)
  | [] => []
  | (k, v) :: r => (k, V.kill d v) :: killAl d r
theorem al_kill (l : List (Nat × V)) (d : Nat) : killE d (al l) = al (killAl d l) := by
  funext t
  induction l with
  | nil => rfl
  | cons p l ih =>
    obtain ⟨k, v⟩ := p
    simp only [killE, al, killAl] at ih ⊢
    cases Nat.beq k t
    · exact ih
    · rfl
def killHL (d : Nat) : HL → HL
  | [] => []
  | (k, b) :: r => bif Nat.beq k d then killHL d r else (k, b.kill d) :: killHL d r
theorem hOf_upd (l : HL) (d : Nat) (b : Blk) : upd (hOf l) d (some b) = hOf ((d, b) :: l) := rfl
theorem hOf_kill (l : HL) (d : Nat) : killH d (hOf l) = hOf (killHL d l) := by
  funext t
  induction l with
  | nil => simp only [killH, hOf, killHL]; split <;> rfl
  | cons p l ih =>
    obtain ⟨k, b⟩ := p
    simp only [killH, hOf, killHL] at ih ⊢
    by_cases h : t = d
    · subst h
      simp only [if_true] at ih ⊢
      cases hb : Nat.beq k t with
      | true => exact ih
      | false =>
        simp only [cond_false, hOf]
        rw [upd_ne _ _ (fun e => by subst e; simp at hb)]
        exact ih
    · simp only [if_neg h] at ih ⊢
      cases hb : Nat.beq k d with
      | true =>
        have := Nat.eq_of_beq_eq_true hb
        subst this
        rw [upd_ne _ _ h]
        exact ih
      | false =>
        simp only [cond_false, hOf]
        by_cases e : t = k
        · subst e; simp
        · rw [upd_ne _ _ e, upd_ne _ _ e]; exact ih

/- weaker values -/
def VLe (x y : V) : Prop := ∀ γ imm w v, RepV γ imm w x v → RepV γ imm w y v
theorem VLe.refl (x : V) : VLe x x := fun _ _ _ _ h => h
theorem VLe.of_eq {x y : V} (h : x = y) : VLe x y := h ▸ VLe.refl x
theorem VLe.any (x : V) : VLe x .any := fun _ _ _ _ _ => .any _
theorem VLe.sl {n m : Nat} {f g : Nat → V} (h : n = m) (hf : ∀ i, i < n → f i = g i) : VLe (.sl n f) (.sl m g) := by
  subst h
  intro γ imm w v h
  have h' := inv_sl (S := ⟨γ, imm, fun _ => none, w⟩) h
  refine .pure ?_
  cases h' with
  | sl0 => exact .sl0 _ _ _
  | sl _ _ b off c sz u h1 h2 h3 h4 h5 h6 h7 =>
    exact .sl n g b off c sz u h1 h2 h3 (fun i hi => by rw [← hf i hi]; exact h4 i hi) h5 h6 (fun i j hi hj => by rw [← hf i hi]; exact h7 i j hi hj)
theorem VLe.nilsl (f : Nat → V) : VLe .nilsl (.sl 0 f) := by
  intro γ imm w _ h
  obtain ⟨a, rfl⟩ := inv_nil (S := ⟨γ, imm, fun _ => none, w⟩) h
  exact .pure (.sl0 _ _ _)
theorem VLe.opt {g : Bool} {x y : V} (hg : g = true) (h : VLe x y) : VLe (.opt g x) y := fun γ imm w _ hr => h _ _ _ _ ((inv_opt (S := ⟨γ, imm, fun _ => none, w⟩) hr).1 hg)
def vleL : List V → List V → Prop
  | [], [] => True
  | x :: r, y :: s => VLe x y ∧ vleL r s
  | _, _ => False
theorem vleL_len : ∀ {l m : List V}, vleL l m → l.length = m.length
  | [], [], _ => rfl
  | _ :: _, _ :: _, h => by simp [vleL_len h.2]
theorem vleL_at : ∀ {l m : List V}, vleL l m → ∀ i, VLe (l.getD i .any) (m.getD i .any)
  | [], [], _, i => VLe.refl _
  | _ :: _, _ :: _, h, 0 => h.1
  | _ :: _, _ :: _, h, i + 1 => by simpa using vleL_at h.2 i
theorem VLe.tup {l m : List V} (h : vleL l m) : VLe (.tup l) (.tup m) := by
  intro γ imm w v hr
  obtain ⟨vs, rfl, h1, h2⟩ := inv_tup (S := ⟨γ, imm, fun _ => none, w⟩) hr
  exact .tup m vs (h1.trans (vleL_len h)) fun i hi => vleL_at h i _ _ _ _ (h2 i (by rw [vleL_len h]; exact hi))
theorem VLe.agg {l m : List V} (h : vleL l m) : VLe (.agg l) (.agg m) := by
  intro γ imm w v hr
  obtain ⟨vs, rfl, h1, h2, h3⟩ := inv_agg (S := ⟨γ, imm, fun _ => none, w⟩) hr
  exact .agg m vs (h1.trans (vleL_len h)) (fun i hi => vleL_at h i _ _ _ _ (h2 i (by rw [vleL_len h]; exact hi))) fun i hi => h3 i (by rw [vleL_len h]; exact hi)
/-- how it is looked at: one cell -/
def vle1 : V → V → Prop
  | _, .any => True
  | .int k n, .int k' n' => k = k' ∧ n = n'
  | .bool b, .bool b' => b = b'
  | .str s, .str s' => s = s'
  | .sl n f, .sl m g => n = m ∧ ∀ i, i < n → f i = g i
  | .nilsl, .sl m _ => m = 0
  | .vec i n, .vec j m => i = j ∧ n = m
  | x, y => x = y
theorem vle1_ok {x y : V} (h : vle1 x y) : VLe x y := by
  unfold vle1 at h
  split at h
  · exact VLe.any _
  · obtain ⟨rfl, rfl⟩ := h; exact VLe.refl _
  · subst h; exact VLe.refl _
  · subst h; exact VLe.refl _
  · exact VLe.sl h.1 h.2
  · subst h; exact VLe.nilsl _
  · obtain ⟨rfl, rfl⟩ := h; exact VLe.refl _
  · exact VLe.of_eq h
def vleR (R : V → V → Prop) : List V → List V → Prop
  | [], [] => True
  | x :: r, y :: s => R x y ∧ vleR R r s
  | _, _ => False
theorem vleR_ok {R : V → V → Prop} (hR : ∀ x y, R x y → VLe x y) : ∀ {l m : List V}, vleR R l m → vleL l m
  | [], [], _ => trivial
  | _ :: _, _ :: _, h => ⟨hR _ _ h.1, vleR_ok hR h.2⟩
def vle2 : V → V → Prop
  | .agg l, .agg m => vleR vle1 l m
  | x, y => vle1 x y
theorem vle2_ok {x y : V} (h : vle2 x y) : VLe x y := by
  unfold vle2 at h
  split at h
  · exact VLe.agg (vleR_ok (fun _ _ => vle1_ok) h)
  · exact vle1_ok h
def vle : V → V → Prop
  | .tup l, .tup m => vleR vle2 l m
  | .opt g x, y => (g = true ∧ vle2 x y) ∨ .opt g x = y
  | x, y => vle2 x y
theorem vle_ok {x y : V} (h : vle x y) : VLe x y := by
  unfold vle at h
  split at h
  · exact VLe.tup (vleR_ok (fun _ _ => vle2_ok) h)
  · rcases h with h | h
    · exact VLe.opt h.1 (vle2_ok h.2)
    · exact VLe.of_eq h
  · exact vle2_ok h
def BLe : Blk → Blk → Prop
  | .cells l, .cells m => vleL l m
  | .vec sz n f, .vec sz' m g => sz = sz' ∧ n = m ∧ ∀ i, i < n → f i = g i
  | _, _ => False
theorem BLe.ok {b b' : Blk} (h : BLe b b') {γ imm w id} (hb : BlkOk γ imm w id b) : BlkOk γ imm w id b' := by
  cases b <;> cases b' <;> simp only [BLe] at h
  · rename_i l m
    obtain ⟨b, arr, t, lo, hi, h1, h2, h3, h4, h5⟩ := hb
    refine ⟨b, arr, t, lo, hi, h1, h2, h3.trans (vleL_len h), h4, fun i hlt => ?_⟩
    rw [← vleL_len h] at hlt
    exact ⟨vleL_at h i _ _ _ _ (h5 i hlt).1, (h5 i hlt).2⟩
  · obtain ⟨rfl, rfl, hf⟩ := h
    rename_i sz n f g
    obtain ⟨h1, h2, h3⟩ := hb
    refine ⟨h1, fun i hi => by rw [← hf i hi]; exact h2 i hi, ?_⟩
    rcases h3 with h3 | ⟨b, cap, arr, t, lo, hi', h3, h4, hc, h5, h6, h7, h8⟩
    · exact .inl h3
    · exact .inr ⟨b, cap, arr, t, lo, hi', h3, h4, hc, h5, h6, h7, fun i j hi hj => by rw [← hf i hi]; exact h8 i j hi hj⟩
def leE (s : St) : List (Nat × V) → Prop
  | [] => True
  | (k, v) :: r => VLe (s.env k) v ∧ leE s r
def leH (s : St) : HL → Prop
  | [] => True
  | (k, b) :: r => (match s.heap k with
    | some b' => BLe b' b
    | none => False) ∧ leH s r
theorem leE_ok {s : St} : ∀ {l : List (Nat × V)}, leE s l → ∀ t, VLe (s.env t) (al l t)
  | [], _, _ => VLe.any _
  | (k, v) :: r, h, t => by
    simp only [al]
    cases hb : Nat.beq k t with
    | false => exact leE_ok h.2 t
    | true => have := Nat.eq_of_beq_eq_true hb; subst this; exact h.1
theorem leH_ok {s : St} : ∀ {l : HL}, leH s l → ∀ id b, hOf l id = some b → ∃ b', s.heap id = some b' ∧ BLe b' b
  | [], _, _, _, h => by cases h
  | (k, b) :: r, h, id, b1, hb => by
    simp only [hOf] at hb
    by_cases e : id = k
    · subst e
      rw [upd_same] at hb; cases hb
      have := h.1
      split at this
      · rename_i b' hb'; exact ⟨b', hb', this⟩
      · exact this.elim
    · rw [upd_ne _ _ e] at hb; exact leH_ok h.2 id b1 hb
theorem Le.of {s : St} {l : List (Nat × V)} {hl : HL} (h1 : leE s l) (h2 : leH s hl) : Le s ⟨al l, hOf hl⟩ := by
  intro n S0 a w ⟨γ, imm, hs, hx, he, rest⟩
  obtain ⟨k1, k2⟩ := hs.weaken (· < 9000) (hOf hl) fun id b hb => by
    obtain ⟨b', hb', hle⟩ := leH_ok h2 id b hb
    exact ⟨by show (s.heap id).isSome = true; rw [hb']; rfl, hle.ok (hs.blk id b' hb')⟩
  exact ⟨γ, imm, k1, hx.trans k2, fun t => leE_ok h1 t _ _ _ _ (he t), rest⟩

/- an own slice that is written no more -/
def frz1 (id n : Nat) (f : Nat → V) : V → V
  | .vec i m => bif Nat.beq i id && Nat.beq m n then .sl n f else V.kill id (.vec i m)
  | v => V.kill id v
def frzV (id n : Nat) (f : Nat → V) : V → V
  | .agg cs => .agg (cs.map (frz1 id n f))
  | .tup cs => .tup (cs.map (frz1 id n f))
  | v => frz1 id n f v
def frzSt (id n : Nat) (f : Nat → V) (s : St) : St := ⟨fun t => frzV id n f (s.env t), killH id s.heap⟩
theorem Le.frz {s : St} {id sz n : Nat} {f : Nat → V} (hh : s.heap id = some (.vec sz n f)) (hp : ∀ i, i < n → (f i).isPure = true) : Le s (frzSt id n f s) := by
  intro N S0 a w ⟨γ, imm, hs, hx, he, rest⟩
  obtain ⟨k1, k2⟩ := hs.killH (· < 9000) id
  have hblk := hs.blk id _ hh
  let imm' : Nat → Prop := fun b => imm b ∨ blkOf (γ id) = some b
  have own : ∀ b, blkOf (γ id) = some b → Sv.own ⟨γ, imm, s.heap, w⟩ b := fun b hb => ⟨id, by show (s.heap id).isSome = true; rw [hh]; rfl, hb⟩
  have him : ∀ b, imm b → imm' b := fun b h => .inl h
  have up : ∀ {x : V} {v : Value}, RepV γ imm w x v → RepV γ imm' w x v := fun h => h.mono him (fun _ _ => rfl) fun _ _ => .refl _
  have s1 : Sim ⟨γ, imm', killH id s.heap, w⟩ := by
    refine ⟨fun i b hb => (k1.blk i b hb).mono him (fun _ _ => rfl) (fun _ _ => rfl) rfl fun _ _ => .refl _, k1.inj, fun b hb => ?_, fun b hb hi => ?_⟩
    · rcases hb with hb | hb
      · exact hs.immLt b hb
      · exact hs.ownLt (own b hb)
    · obtain ⟨i, hi1, hi2⟩ := hb
      have hne : i ≠ id := fun e => by subst e; simp [killH] at hi1
      have hi1' : (s.heap i).isSome = true := by
        simp only [killH, if_neg hne] at hi1
        cases hhh : s.heap i with
        | none => rw [hhh] at hi1; cases hi1
        | some _ => rfl
      rcases hi with hi | hi
      · exact hs.disj b ⟨i, hi1', hi2⟩ hi
      · exact hne (hs.inj i id b hi1' (by show (s.heap id).isSome = true; rw [hh]; rfl) hi2 hi)
  have e1 : Ext (· < 9000) ⟨γ, imm, s.heap, w⟩ ⟨γ, imm', killH id s.heap, w⟩ := by
    refine ⟨rfl, rfl, rfl, Nat.le_refl _, fun _ _ _ => rfl, him, fun b hb => ?_, k2.own, fun _ _ => .refl _⟩
    rcases hb with hb | hb
    · exact .inl hb
    · exact .inr (.inl (own b hb))
  refine ⟨γ, imm', s1, hx.trans e1, fun t => ?_, rest⟩
  have r1 : ∀ {x : V} {v : Value}, RepV γ imm w x v → RepV γ imm' w (frz1 id n f x) v := by
    intro x v h
    cases x
    case vec i m =>
      simp only [frz1]
      cases hb : (Nat.beq i id && Nat.beq m n) with
      | false => exact up (h.kill id)
      | true =>
        simp only [Bool.and_eq_true] at hb
        have e1 := Nat.eq_of_beq_eq_true hb.1
        have e2 := Nat.eq_of_beq_eq_true hb.2
        subst e1; subst e2
        exact .pure (vec_as_sl hs him h hh hp fun b hb => .inr hb)
    all_goals exact up (h.kill id)
  have ht := he t
  show RepV γ imm' w (frzV id n f (s.env t)) _
  revert ht
  generalize s.env t = x
  generalize a.tmps.getD t undef = v
  intro ht
  have mapD : ∀ (cs : List V) i, (cs.map (frz1 id n f)).getD i .any = frz1 id n f (cs.getD i .any) ∨ cs.length ≤ i := by
    intro cs i
    by_cases hi : i < cs.length
    · left; simp [List.getD_eq_getElem?_getD, hi]
    · right; omega
  cases x
  case agg cs =>
    obtain ⟨vs, rfl, h1, h2, h3⟩ := inv_agg ht
    refine .agg _ vs (by simpa using h1) (fun i hi => ?_) (fun i hi => h3 i (by simpa using hi))
    rcases mapD cs i with h | h
    · rw [h]; exact r1 (h2 i (by simpa using hi))
    · simp at hi; omega
  case tup cs =>
    obtain ⟨vs, rfl, h1, h2⟩ := inv_tup ht
    refine .tup _ vs (by simpa using h1) (fun i hi => ?_)
    rcases mapD cs i with h | h
    · rw [h]; exact r1 (h2 i (by simpa using hi))
    · simp at hi; omega
  all_goals exact r1 ht

/-- nil, as the beginning of an own slice -/
def nvSt (t d sz : Nat) (f : Nat → V) (s : St) : St := ⟨upd (killE d s.env) t (.vec d 0), upd (killH d s.heap) d (some (.vec sz 0 f))⟩
theorem Le.nilvec {s : St} {t d sz : Nat} (f : Nat → V) (hd : d < 9000) (hsz : 0 < sz) (ht : s.env t = .nilsl) : Le s (nvSt t d sz f s) := by
  intro N S0 a w ⟨γ, imm, hs, hx, he, rest⟩
  obtain ⟨k1, k2⟩ := hs.killH (· < 9000) d
  have htt := he t
  rw [ht] at htt
  obtain ⟨aa, hv⟩ := inv_nil htt
  have nb : ∀ b, blkOf (.slice aa 0 0) = some b → False := fun b h => by cases aa <;> simp [blkOf] at h
  obtain ⟨m1, m2⟩ := k1.upd (· < 9000) d (.slice aa 0 0) (.vec sz 0 f) w rfl rfl rfl (Nat.le_refl _) (fun _ _ _ => rfl) (fun b hb => (nb b hb).elim)
    ⟨hsz, fun i hi => by omega, .inl ⟨rfl, aa, by simp⟩⟩ (.inl ⟨hd, fun j b hj hne => by
      simp only [killH, if_neg hne] at hj
      obtain ⟨k, _, rfl⟩ := Option.map_eq_some_iff.1 hj
      exact Blk.men_kill d k⟩)
  refine ⟨_, _, m1, (hx.trans k2).trans m2, fun u => ?_, rest⟩
  show RepV (upd γ d (.slice aa 0 0)) imm w (upd (killE d s.env) t (.vec d 0) u) _
  by_cases e : u = t
  · subst e
    rw [upd_same, hv]
    exact .vec d 0 _ aa 0 0 (by simp) (Nat.le_refl _) (fun _ => by simp) rfl
  · rw [upd_ne _ _ e]
    refine RepV.mono (fun _ h => h) (fun _ _ => rfl) ((he u).kill d) fun id hid => ?_
    by_cases hdd : id = d
    · subst hdd; simp only [killE, men_kill_aux] at hid; cases hid
    · rw [upd_ne _ _ hdd]; exact .refl _
end Go.Abs
