import Derived.Test.YtppjlnagihefoaaDoorAbsA29
namespace Go.Abs
open Go
variable {G : PG}

def al : List (Nat × V) → Env
  | [], _ => .any
  | (k, v) :: r, t => bif Nat.beq k t then v else al r t
theorem al_upd (l : List (Nat × V)) (d : Nat) (v : V) : upd (al l) d v = al ((d, v) :: l) := by
  funext t
  simp only [upd, al]
  by_cases h : t = d
  · subst h; simp
  · have : Nat.beq d t = false := by
      cases hb : Nat.beq d t with
      | false => rfl
      | true => exact absurd (Nat.eq_of_beq_eq_true hb).symm h
    simp [h, this]
def killAl (d : Nat) : List (Nat × V) → List (Nat × V)
  | [] => []
  | (k, v) :: r => (k, V.kill d v) :: killAl d r
theorem al_kill (l : List (Nat × V)) (d : Nat) : killE d (al l) = al (killAl d l) := by
  funext t
  induction l with
  | nil => rfl
  | cons p l ih =>
    obtain ⟨k, v⟩ := p
    simp only [killE, al, killAl] at ih ⊢
    cases Nat.beq k t
    · exact ih
    · rfl
def killHL (d : Nat) : HL → HL
  | [] => []
  | (k, b) :: r => bif Nat.beq k d then killHL d r else (k, b.kill d) :: killHL d r
theorem hOf_upd (l : HL) (d : Nat) (b : Blk) : upd (hOf l) d (some b) = hOf ((d, b) :: l) := rfl
theorem hOf_kill (l : HL) (d : Nat) : killH d (hOf l) = hOf (killHL d l) := by
  funext t
  induction l with
  | nil => simp only [killH, hOf, killHL]; split <;> rfl
  | cons p l ih =>
    obtain ⟨k, b⟩ := p
    simp only [killH, hOf, killHL] at ih ⊢
    by_cases h : t = d
    · subst h
      simp only [if_true] at ih ⊢
      cases hb : Nat.beq k t with
      | true => exact ih
      | false =>
        simp only [cond_false, hOf]
        rw [upd_ne _ _ (fun e => by subst e; simp at hb)]
        exact ih
    · simp only [if_neg h] at ih ⊢
      cases hb : Nat.beq k d with
      | true =>
        have := Nat.eq_of_beq_eq_true hb
        subst this
        rw [upd_ne _ _ h]
        exact ih
      | false =>
        simp only [cond_false, hOf]
        by_cases e : t = k
        · subst e; simp
        · rw [upd_ne _ _ e, upd_ne _ _ e]; exact ih

/- weaker values -/
def VLe (x y : V) : Prop := ∀ γ imm w v, RepV γ imm w x v → RepV γ imm w y v
theorem VLe.refl (x : V) : VLe x x := fun _ _ _ _ h => h
theorem VLe.of_eq {x y : V} (h : x = y) : VLe x y := h ▸ VLe.refl x
theorem VLe.any (x : V) : VLe x .any := fun _ _ _ _ _ => .any _
theorem VLe.sl {n m : Nat} {f g : Nat → V} (h : n = m) (hf : ∀ i, i < n → f i = g i) : VLe (.sl n f) (.sl m g) := by
  subst h
  intro γ imm w v h
  have h' := inv_sl (S := ⟨γ, imm, fun _ => none, w⟩) h
  refine .pure ?_
  cases h' with
  | sl0 => exact .sl0 _ _ _
  | sl _ _ b off c sz u h1 h2 h3 h4 h5 h6 h7 =>
    exact .sl n g b off c sz u h1 h2 h3 (fun i hi => by rw [← hf i hi]; exact h4 i hi) h5 h6 (fun i j hi hj => by rw [← hf i hi]; exact h7 i j hi hj)
theorem VLe.nilsl (f : Nat → V) : VLe .nilsl (.sl 0 f) := by
  intro γ imm w _ h
  obtain ⟨a, rfl⟩ := inv_nil (S := ⟨γ, imm, fun _ => none, w⟩) h
  exact .pure (.sl0 _ _ _)
theorem VLe.opt {g : Bool} {x y : V} (hg : g = true) (h : VLe x y) : VLe (.opt g x) y := fun γ imm w _ hr => h _ _ _ _ ((inv_opt (S := ⟨γ, imm, fun _ => none, w⟩) hr).1 hg)
def vleL : List V → List V → Prop
  | [], [] => True
  | x :: r, y :: s => VLe x y ∧ vleL r s
  | _, _ => False
theorem vleL_len : ∀ {l m : List V}, vleL l m → l.length = m.length
  | [], [], _ => rfl
  | _ :: _, _ :: _, h => by simp [vleL_len h.2]
theorem vleL_at : ∀ {l m : List V}, vleL l m → ∀ i, VLe (l.getD i .any) (m.getD i .any)
  | [], [], _, i => VLe.refl _
  | _ :: _, _ :: _, h, 0 => h.1
  | _ :: _, _ :: _, h, i + 1 => by simpa using vleL_at h.2 i
theorem VLe.tup {l m : List V} (h : vleL l m) : VLe (.tup l) (.tup m) := by
  intro γ imm w v hr
  obtain ⟨vs, rfl, h1, h2⟩ := inv_tup (S := ⟨γ, imm, fun _ => none, w⟩) hr
  exact .tup m vs (h1.trans (vleL_len h)) fun i hi => vleL_at h i _ _ _ _ (h2 i (by rw [vleL_len h]; exact hi))
theorem VLe.agg {l m : List V} (h : vleL l m) : VLe (.agg l) (.agg m) := by
  intro γ imm w v hr
  obtain ⟨vs, rfl, h1, h2, h3⟩ := inv_agg (S := ⟨γ, imm, fun _ => none, w⟩) hr
  exact .agg m vs (h1.trans (vleL_len h)) (fun i hi => vleL_at h i _ _ _ _ (h2 i (by rw [vleL_len h]; exact hi))) fun i hi => h3 i (by rw [vleL_len h]; exact hi)
/-- how it is looked at: one cell -/
def vle1 : V → V → Prop
  | _, .any => True
  | .int k n, .int k' n' => k = k' ∧ n = n'
  | .bool b, .bool b' => b = b'
  | .str s, .str s' => s = s'
  | .sl n f, .sl m g => n = m ∧ ∀ i, i < n → f i = g i
  | .nilsl, .sl m _ => m = 0
  | .vec i n, .vec j m => i = j ∧ n = m
  | x, y => x = y
theorem vle1_ok {x y : V} (h : vle1 x y) : VLe x y := by
  unfold vle1 at h
  split at h
  · exact VLe.any _
  · obtain ⟨rfl, rfl⟩ := h; exact VLe.refl _
  · subst h; exact VLe.refl _
  · subst h; exact VLe.refl _
  · exact VLe.sl h.1 h.2
  · subst h; exact VLe.nilsl _
  · obtain ⟨rfl, rfl⟩ := h; exact VLe.refl _
  · exact VLe.of_eq h
def vleR (R : V → V → Prop) : List V → List V → Prop
  | [], [] => True
  | x :: r, y :: s => R x y ∧ vleR R r s
  | _, _ => False
theorem vleR_ok {R : V → V → Prop} (hR : ∀ x y, R x y → VLe x y) : ∀ {l m : List V}, vleR R l m → vleL l m
  | [], [], _ => trivial
  | _ :: _, _ :: _, h => ⟨hR _ _ h.1, vleR_ok hR h.2⟩
def vle2 : V → V → Prop
  | .agg l, .agg m => vleR vle1 l m
  | x, y => vle1 x y
theorem vle2_ok {x y : V} (h : vle2 x y) : VLe x y := by
  unfold vle2 at h
  split at h
  · exact VLe.agg (vleR_ok (fun _ _ => vle1_ok) h)
  · exact vle1_ok h
def vle : V → V → Prop
  | .tup l, .tup m => vleR vle2 l m
  | .opt g x, y => (g = true ∧ vle2 x y) ∨ .opt g x = y
  | x, y => vle2 x y
theorem vle_ok {x y : V} (h : vle x y) : VLe x y := by
  unfold vle at h
  split at h
  · exact VLe.tup (vleR_ok (fun _ _ => vle2_ok) h)
  · rcases h with h | h
    · exact VLe.opt h.1 (vle2_ok h.2)
    · exact VLe.of_eq h
  · exact vle2_ok h
def BLe : Blk → Blk → Prop
  | .cells l, .cells m => vleR vle1 l m
  | .vec sz n f, .vec sz' m g => sz = sz' ∧ n = m ∧ ∀ i, i < n → f i = g i
  | _, _ => False
theorem BLe.ok {b b' : Blk} (h : BLe b b') {γ imm w id} (hb : BlkOk γ imm w id b) : BlkOk γ imm w id b' := by
  cases b <;> cases b' <;> simp only [BLe] at h
  · rename_i l m
    have h := vleR_ok (fun _ _ => vle1_ok) h
    obtain ⟨b, arr, t, lo, hi, h1, h2, h3, h4, h5⟩ := hb
    refine ⟨b, arr, t, lo, hi, h1, h2, h3.trans (vleL_len h), h4, fun i hlt => ?_⟩
    rw [← vleL_len h] at hlt
    exact ⟨vleL_at h i _ _ _ _ (h5 i hlt).1, (h5 i hlt).2⟩
  · obtain ⟨rfl, rfl, hf⟩ := h
    rename_i sz n f g
    obtain ⟨h1, h2, h3⟩ := hb
    refine ⟨h1, fun i hi => by rw [← hf i hi]; exact h2 i hi, ?_⟩
    rcases h3 with h3 | ⟨b, cap, arr, t, lo, hi', h3, h4, hc, h5, h6, h7, h8⟩
    · exact .inl h3
    · exact .inr ⟨b, cap, arr, t, lo, hi', h3, h4, hc, h5, h6, h7, fun i j hi hj => by rw [← hf i hi]; exact h8 i j hi hj⟩
def leE (s : St) : List (Nat × V) → Prop
  | [] => True
  | (k, v) :: r => VLe (s.env k) v ∧ leE s r
def leH (s : St) : HL → Prop
  | [] => True
  | (k, b) :: r => (match s.heap k with
    | some b' => BLe b' b
    | none => False) ∧ leH s r
theorem leE_ok {s : St} : ∀ {l : List (Nat × V)}, leE s l → ∀ t, VLe (s.env t) (al l t)
  | [], _, _ => VLe.any _
  | (k, v) :: r, h, t => by
    simp only [al]
    cases hb : Nat.beq k t with
    | false => exact leE_ok h.2 t
    | true => have := Nat.eq_of_beq_eq_true hb; subst this; exact h.1
theorem leH_ok {s : St} : ∀ {l : HL}, leH s l → ∀ id b, hOf l id = some b → ∃ b', s.heap id = some b' ∧ BLe b' b
  | [], _, _, _, h => by cases h
  | (k, b) :: r, h, id, b1, hb => by
    simp only [hOf] at hb
    by_cases e : id = k
    · subst e
      rw [upd_same] at hb; cases hb
      have := h.1
      split at this
      · rename_i b' hb'; exact ⟨b', hb', this⟩
      · exact this.elim
    · rw [upd_ne _ _ e] at hb; exact leH_ok h.2 id b1 hb
theorem Le.of {s : St} {l : List (Nat × V)} {hl : HL} (h1 : leE s l) (h2 : leH s hl) : Le s ⟨al l, hOf hl⟩ := by
  intro G n S0 a w ⟨γ, imm, hs, hx, he, rest⟩
  obtain ⟨k1, k2⟩ := hs.weaken (· < 9000) (hOf hl) fun id b hb => by
    obtain ⟨b', hb', hle⟩ := leH_ok h2 id b hb
    exact ⟨by show (s.heap id).isSome = true; rw [hb']; rfl, hle.ok (hs.blk id b' hb')⟩
  exact ⟨γ, imm, k1, hx.trans k2, fun t => leE_ok h1 t _ _ _ _ (he t), rest⟩

/- an own slice that is written no more -/
mutual
def frzV (id n : Nat) (f : Nat → V) : V → V
  | .agg cs => .agg (frzL id n f cs)
  | .tup cs => .tup (frzL id n f cs)
  | .vec i m => bif Nat.beq i id && Nat.beq m n then .sl n f else V.kill id (.vec i m)
  | .any => .any
  | .int k n => .int k n
  | .bool b => .bool b
  | .str s => .str s
  | .con v => .con v
  | .nilsl => .nilsl
  | .sl n f => .sl n f
  | .iptr cs => .iptr cs
  | .ptr i o => V.kill id (.ptr i o)
  | .eptr i n s k o => V.kill id (.eptr i n s k o)
  | .fn g a b => V.kill id (.fn g a b)
  | .vw i o n => V.kill id (.vw i o n)
  | .map i => V.kill id (.map i)
  | .opt g v => V.kill id (.opt g v)
def frzL (id n : Nat) (f : Nat → V) : List V → List V
  | [] => []
  | v :: r => frzV id n f v :: frzL id n f r
end
def frzB (id n : Nat) (f : Nat → V) : Blk → Blk
  | .cells cs => .cells (frzL id n f cs)
  | .vec sz m g => .vec sz m fun i => frzV id n f (g i)
def frzH (id n : Nat) (f : Nat → V) (h : Heap) : Heap := fun j => if j = id then none else (h j).map (frzB id n f)
def frzSt (id n : Nat) (f : Nat → V) (s : St) : St := ⟨fun t => frzV id n f (s.env t), frzH id n f s.heap⟩
theorem frzL_len (id n : Nat) (f : Nat → V) (l : List V) : (frzL id n f l).length = l.length := by
  induction l with
  | nil => rfl
  | cons v r ih => simp [frzL, ih]
theorem frzL_getD (id n : Nat) (f : Nat → V) (l : List V) (i : Nat) : (frzL id n f l).getD i .any = frzV id n f (l.getD i .any) := by
  induction l generalizing i with
  | nil => simp [frzL, frzV]
  | cons v r ih => cases i <;> simp [frzL]; simpa using ih _
theorem flat_frz (id n : Nat) (f : Nat → V) (x : V) : (frzV id n f x).flat = frzL id n f x.flat := by
  cases x <;> simp only [frzV, V.flat, frzL]
  case vec i m => cases (Nat.beq i id && Nat.beq m n) <;> simp only [cond_true, cond_false, V.kill] <;> first | rfl | (cases (i == id) <;> rfl)
  case ptr i o => simp only [V.kill]; cases (i == id) <;> rfl
  case eptr i a b c d => simp only [V.kill]; cases (i == id) <;> rfl
  case fn g a b => simp only [V.kill]
  case vw i _ _ => simp only [V.kill]; cases (i == id) <;> rfl
  case map i => simp only [V.kill]; cases (i == id) <;> rfl
  case opt g v => simp only [V.kill]
mutual
theorem frz_rep {γ : Gh} {imm imm' : Nat → Prop} {w : World} {id n : Nat} {f : Nat → V} (up : ∀ {x : V} {v : Value}, RepV γ imm w x v → RepV γ imm' w x v) (hv : ∀ v, RepV γ imm w (.vec id n) v → RepP imm' w (.sl n f) v) :
    (x : V) → ∀ v, RepV γ imm w x v → RepV γ imm' w (frzV id n f x) v
  | .agg cs, v, h => by
    obtain ⟨vs, rfl, h1, h2, h3⟩ := inv_agg (S := ⟨γ, imm, fun _ => none, w⟩) h
    simp only [frzV]
    refine .agg _ vs (by rw [frzL_len]; exact h1) (fun i hi => ?_) (fun i hi => h3 i (by rw [frzL_len] at hi; exact hi))
    rw [frzL_len] at hi
    exact frz_repL up hv cs i _ (h2 i hi)
  | .tup cs, v, h => by
    obtain ⟨vs, rfl, h1, h2⟩ := inv_tup (S := ⟨γ, imm, fun _ => none, w⟩) h
    simp only [frzV]
    refine .tup _ vs (by rw [frzL_len]; exact h1) (fun i hi => ?_)
    rw [frzL_len] at hi
    exact frz_repL up hv cs i _ (h2 i hi)
  | .vec i m, v, h => by
    simp only [frzV]
    cases hb : (Nat.beq i id && Nat.beq m n) with
    | false => exact up (h.kill id)
    | true =>
      simp only [Bool.and_eq_true] at hb
      have e1 := Nat.eq_of_beq_eq_true hb.1
      have e2 := Nat.eq_of_beq_eq_true hb.2
      subst e1; subst e2
      exact .pure (hv v h)
  | .any, v, h => up h
  | .int _ _, v, h => up h
  | .bool _, v, h => up h
  | .str _, v, h => up h
  | .con _, v, h => up h
  | .nilsl, v, h => up h
  | .sl _ _, v, h => up h
  | .iptr _, v, h => up h
  | .ptr _ _, v, h => up (h.kill id)
  | .eptr _ _ _ _ _, v, h => up (h.kill id)
  | .fn _ _ _, v, h => up (h.kill id)
  | .vw _ _ _, v, h => up (h.kill id)
  | .map _, v, h => up (h.kill id)
  | .opt _ _, v, h => up (h.kill id)
theorem frz_repL {γ : Gh} {imm imm' : Nat → Prop} {w : World} {id n : Nat} {f : Nat → V} (up : ∀ {x : V} {v : Value}, RepV γ imm w x v → RepV γ imm' w x v) (hv : ∀ v, RepV γ imm w (.vec id n) v → RepP imm' w (.sl n f) v) :
    (l : List V) → ∀ i v, RepV γ imm w (l.getD i .any) v → RepV γ imm' w ((frzL id n f l).getD i .any) v
  | [], i, v, _ => by simp only [frzL, List.getD_nil]; exact .any v
  | x :: l, 0, v, h => frz_rep up hv x v h
  | x :: l, i + 1, v, h => by
    simp only [frzL, List.getD_cons_succ] at h ⊢
    exact frz_repL up hv l i v h
end
theorem Le.frz {s : St} {id sz n : Nat} {f : Nat → V} (hh : s.heap id = some (.vec sz n f)) (hp : ∀ i, i < n → (f i).isPure = true) : Le s (frzSt id n f s) := by
  intro G N S0 a w ⟨γ, imm, hs, hx, he, rest⟩
  let imm' : Nat → Prop := fun b => imm b ∨ blkOf (γ id) = some b
  have own : ∀ b, blkOf (γ id) = some b → Sv.own ⟨γ, imm, s.heap, w⟩ b := fun b hb => ⟨id, by show (s.heap id).isSome = true; rw [hh]; rfl, hb⟩
  have him : ∀ b, imm b → imm' b := fun b h => .inl h
  have up : ∀ {x : V} {v : Value}, RepV γ imm w x v → RepV γ imm' w x v := fun h => h.mono him (fun _ _ => rfl) fun _ _ => .refl _
  have hv : ∀ v, RepV γ imm w (.vec id n) v → RepP imm' w (.sl n f) v := fun v h => vec_as_sl hs him h hh hp fun b hb => .inr hb
  have old : ∀ i b, frzH id n f s.heap i = some b → i ≠ id ∧ ∃ b0, s.heap i = some b0 ∧ b = frzB id n f b0 := by
    intro i b hb
    simp only [frzH] at hb
    split at hb
    · cases hb
    · rename_i hne
      obtain ⟨b0, h0, rfl⟩ := Option.map_eq_some_iff.1 hb
      exact ⟨hne, b0, h0, rfl⟩
  have oldS : ∀ i, (frzH id n f s.heap i).isSome = true → i ≠ id ∧ (s.heap i).isSome = true := by
    intro i hi
    obtain ⟨b, hb⟩ := Option.isSome_iff_exists.1 hi
    obtain ⟨h1, b0, h2, _⟩ := old i b hb
    exact ⟨h1, by rw [h2]; rfl⟩
  have idS : (s.heap id).isSome = true := by rw [hh]; rfl
  have s1 : Sim G ⟨γ, imm', frzH id n f s.heap, w⟩ := by
    refine ⟨fun i b hb => ?_, fun i j b hi hj => hs.inj i j b (oldS i hi).2 (oldS j hj).2, fun b hb => ?_, fun b hb hi => ?_, hs.tab.of him fun _ _ => rfl⟩
    · obtain ⟨hne, b0, h0, rfl⟩ := old i b hb
      have hk := hs.blk i b0 h0
      cases b0 with
      | cells cs =>
        obtain ⟨bb, arr, t, lo, hi, h1, h2, h3, h4, h5⟩ := hk
        refine ⟨bb, arr, t, lo, hi, h1, h2, by rw [frzL_len]; exact h3, h4, fun k hlt => ?_⟩
        rw [frzL_len] at hlt
        exact ⟨frz_repL up hv cs k _ (h5 k hlt).1, (h5 k hlt).2⟩
      | vec sz m g =>
        obtain ⟨h1, h2, h3⟩ := hk
        refine ⟨h1, fun k hk => by rw [flat_frz, frzL_len]; exact h2 k hk, ?_⟩
        rcases h3 with h3 | ⟨bb, cap, arr, t, lo, hi', h3, h4, hc, h5, h6, h7, h8⟩
        · exact .inl h3
        · refine .inr ⟨bb, cap, arr, t, lo, hi', h3, h4, hc, h5, h6, h7, fun k j hlt hj => ?_⟩
          rw [flat_frz]
          exact ⟨frz_repL up hv _ j _ (h8 k j hlt hj).1, (h8 k j hlt hj).2⟩
    · rcases hb with hb | hb
      · exact hs.immLt b hb
      · exact hs.ownLt (own b hb)
    · obtain ⟨i, hi1, hi2⟩ := hb
      obtain ⟨hne, hi1'⟩ := oldS i hi1
      rcases hi with hi | hi
      · exact hs.disj b ⟨i, hi1', hi2⟩ hi
      · exact hne (hs.inj i id b hi1' idS hi2 hi)
  have e1 : Ext (· < 9000) ⟨γ, imm, s.heap, w⟩ ⟨γ, imm', frzH id n f s.heap, w⟩ := by
    refine ⟨rfl, rfl, rfl, Nat.le_refl _, fun _ _ _ => rfl, him, fun b hb => ?_, fun b ⟨i, hi, hb⟩ => .inl ⟨i, (oldS i hi).2, hb⟩, fun _ _ => .refl _⟩
    rcases hb with hb | hb
    · exact .inl hb
    · exact .inr (.inl (own b hb))
  exact ⟨γ, imm', s1, hx.trans e1, fun t => frz_rep up hv _ _ (he t), rest⟩

/-- nil, as the beginning of an own slice -/
def nvSt (t d sz : Nat) (f : Nat → V) (s : St) : St := ⟨upd (killE d s.env) t (.vec d 0), upd (killH d s.heap) d (some (.vec sz 0 f))⟩
theorem Le.nilvec {s : St} {t d sz : Nat} (f : Nat → V) (hd : d < 9000) (hsz : 0 < sz) (ht : s.env t = .nilsl) : Le s (nvSt t d sz f s) := by
  intro G N S0 a w ⟨γ, imm, hs, hx, he, rest⟩
  obtain ⟨k1, k2⟩ := hs.killH (· < 9000) d
  have htt := he t
  rw [ht] at htt
  obtain ⟨aa, hv⟩ := inv_nil htt
  have nb : ∀ b, blkOf (.slice aa 0 0) = some b → False := fun b h => by cases aa <;> simp [blkOf] at h
  obtain ⟨m1, m2⟩ := k1.upd (· < 9000) d (.slice aa 0 0) (.vec sz 0 f) w rfl rfl rfl (Nat.le_refl _) (fun _ _ _ => rfl) (fun b hb => (nb b hb).elim)
    ⟨hsz, fun i hi => by omega, .inl ⟨rfl, aa, by simp⟩⟩ (.inl ⟨hd, fun j b hj hne => by
      simp only [killH, if_neg hne] at hj
      obtain ⟨k, _, rfl⟩ := Option.map_eq_some_iff.1 hj
      exact Blk.men_kill d k⟩)
  refine ⟨_, _, m1, (hx.trans k2).trans m2, fun u => ?_, rest⟩
  show RepV (upd γ d (.slice aa 0 0)) imm w (upd (killE d s.env) t (.vec d 0) u) _
  by_cases e : u = t
  · subst e
    rw [upd_same, hv]
    exact .vec d 0 _ aa 0 0 (by simp) (Nat.le_refl _) (fun _ => by simp) rfl
  · rw [upd_ne _ _ e]
    refine RepV.mono (fun _ h => h) (fun _ _ => rfl) ((he u).kill d) fun id hid => ?_
    by_cases hdd : id = d
    · subst hdd; simp only [killE, men_kill_aux] at hid; cases hid
    · rw [upd_ne _ _ hdd]; exact .refl _
end Go.Abs
