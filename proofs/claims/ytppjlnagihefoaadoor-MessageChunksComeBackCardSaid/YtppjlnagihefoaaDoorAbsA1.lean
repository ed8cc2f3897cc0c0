import Derived.Calls
import Derived.Orders
import Derived.Laws.AppendOwn
import Derived.Laws.IdiomCopy
import Derived.KernelRfl
namespace Go.Abs
open Go

/-- Abstract values. -/
inductive V where
  | any
  | int (k : IntKind) (n : Int)
  | bool (b : Bool)
  | str (s : List UInt8)
  | con (v : Value)
  | nilsl
  | agg (cs : List V)
  | tup (vs : List V)
  | sl (n : Nat) (f : Nat → V)
  | iptr (cs : List V)
  | ptr (id off : Nat)
  | vec (id n : Nat)
  | eptr (id n sz i off : Nat)
  | vw (id off n : Nat)
  | fn (f : Fn) (first cap : List V)
  | map (id : Nat)
  | opt (g : Bool) (v : V)

def V.flat : V → List V
  | .agg cs => cs
  | v => [v]

mutual
/-- mentions -/
def V.men (id : Nat) : V → Bool
  | .agg cs => V.menL id cs
  | .tup vs => V.menL id vs
  | .ptr i _ => i == id
  | .vec i _ => i == id
  | .eptr i _ _ _ _ => i == id
  | .vw i _ _ => i == id
  | .map i => i == id
  | .fn _ a b => V.menL id a || V.menL id b
  | .opt _ v => V.men id v
  | _ => false
def V.menL (id : Nat) : List V → Bool
  | [] => false
  | v :: r => V.men id v || V.menL id r
end
mutual
def V.kill (id : Nat) : V → V
  | .agg cs => .agg (V.killL id cs)
  | .tup vs => .tup (V.killL id vs)
  | .ptr i o => bif i == id then .any else .ptr i o
  | .vec i n => bif i == id then .any else .vec i n
  | .eptr i n s j o => bif i == id then .any else .eptr i n s j o
  | .vw i o n => bif i == id then .any else .vw i o n
  | .map i => bif i == id then .any else .map i
  | .fn f a b => .fn f (V.killL id a) (V.killL id b)
  | .opt g v => .opt g (V.kill id v)
  | v => v
def V.killL (id : Nat) : List V → List V
  | [] => []
  | v :: r => V.kill id v :: V.killL id r
end
inductive Blk where
  | cells (cs : List V)
  | vec (sz n : Nat) (f : Nat → V)
def Blk.kill (id : Nat) : Blk → Blk
  | .cells cs => .cells (V.killL id cs)
  | .vec sz n f => .vec sz n fun i => V.kill id (f i)
abbrev Heap := Nat → Option Blk
abbrev Env := Nat → V
structure St where
  env : Env
  heap : Heap

theorem killL_len (id : Nat) (l : List V) : (V.killL id l).length = l.length := by
  induction l with
  | nil => rfl
  | cons v r ih => simp [V.killL, ih]
theorem killL_getD (id : Nat) (l : List V) (i : Nat) : (V.killL id l).getD i .any = V.kill id (l.getD i .any) := by
  induction l generalizing i with
  | nil => simp [V.killL, V.kill]
  | cons v r ih => cases i <;> simp [V.killL] ; simpa using ih _
theorem menL_getD (id : Nat) (l : List V) (h : V.menL id l = false) (i : Nat) : V.men id (l.getD i .any) = false := by
  induction l generalizing i with
  | nil => simp [V.men]
  | cons v r ih =>
    simp only [V.menL, Bool.or_eq_false_iff] at h
    cases i with
    | zero => simpa using h.1
    | succ i => simpa using ih h.2 i

def one (v : Value) : Prop := v.oneCell' = true

/-- What is in memory for good: 'imm' says which blocks nobody writes to any more. -/
inductive RepP (imm : Nat → Prop) (w : World) : V → Value → Prop
  | int (k n) : RepP imm w (.int k n) (.int k n)
  | bool (b) : RepP imm w (.bool b) (.bool b)
  | str (s) : RepP imm w (.str s) (.string ⟨s.toArray⟩)
  | con (v) : RepP imm w (.con v) v
  | nilsl (a) : RepP imm w .nilsl (.slice a 0 0)
  | agg (cs) (vs : List Value) : vs.length = cs.length → (∀ i, i < cs.length → RepP imm w (cs.getD i .any) (vs.getD i undef)) →
      (∀ i, i < cs.length → one (vs.getD i undef)) → RepP imm w (.agg cs) (.agg vs.toArray)
  | sl0 (f a c) : RepP imm w (.sl 0 f) (.slice a 0 c)
  | sl (n f b off c sz) (u : Nat → Nat → Value) : imm b → n ≤ c → 0 < sz → (∀ i, i < n → (f i).flat.length = sz) →
      (∀ i j, i < n → j < sz → w.cell? ⟨b, off + (i * sz + j), none⟩ = some (u i j)) → (∀ i j, i < n → j < sz → one (u i j)) →
      (∀ i j, i < n → j < sz → RepP imm w ((f i).flat.getD j .any) (u i j)) →
      RepP imm w (.sl n f) (.slice (some ⟨b, off, none⟩) n c)

theorem cell_same {w w' : World} {b : Nat} (h : w'.heap[b]? = w.heap[b]?) (o : Nat) : w'.cell? ⟨b, o, none⟩ = w.cell? ⟨b, o, none⟩ := by
  simp [World.cell?, h]

theorem RepP.mono {imm imm' : Nat → Prop} {w w' : World} {x : V} {v : Value} (hi : ∀ b, imm b → imm' b) (hw : ∀ b, imm b → w'.heap[b]? = w.heap[b]?)
    (h : RepP imm w x v) : RepP imm' w' x v := by
  induction h with
  | int k n => exact .int k n
  | bool b => exact .bool b
  | str s => exact .str s
  | con v => exact .con v
  | nilsl a => exact .nilsl a
  | agg cs vs hl _ ho ih => exact .agg cs vs hl ih ho
  | sl0 f a c => exact .sl0 f a c
  | sl n f b off c sz u hb hnc hs hf hc ho _ ih =>
    exact .sl n f b off c sz u (hi b hb) hnc hs hf (fun i j h1 h2 => by rw [cell_same (hw b hb)]; exact hc i j h1 h2) ho ih

/-- Ghost valuation. -/
abbrev Gh := Nat → Value
def blkOf : Value → Option Nat
  | .pointer (some a) => some a.block
  | .slice (some a) _ c => if c = 0 then none else some a.block
  | .map (some r) => some r
  | _ => none
/-- How a ghost may change while its identity lives: a slice may grow. -/
def Evo (v v' : Value) : Prop := v' = v ∨ ∃ a m c a' m' c', v = .slice a m c ∧ v' = .slice a' m' c' ∧ m < m'
theorem Evo.refl (v : Value) : Evo v v := .inl rfl
theorem Evo.trans {a b c : Value} (h : Evo a b) (k : Evo b c) : Evo a c := by
  rcases h with rfl | ⟨a1, m1, c1, a2, m2, c2, rfl, rfl, hlt⟩
  · exact k
  · rcases k with rfl | ⟨a3, m3, c3, a4, m4, c4, h1, rfl, hlt'⟩
    · exact .inr ⟨_, _, _, _, _, _, rfl, rfl, hlt⟩
    · cases h1; exact .inr ⟨_, _, _, _, _, _, rfl, rfl, by omega⟩

inductive RepV (γ : Gh) (imm : Nat → Prop) (w : World) : V → Value → Prop
  | any (v) : RepV γ imm w .any v
  | pure {x v} : RepP imm w x v → RepV γ imm w x v
  | agg (cs) (vs : List Value) : vs.length = cs.length → (∀ i, i < cs.length → RepV γ imm w (cs.getD i .any) (vs.getD i undef)) →
      (∀ i, i < cs.length → one (vs.getD i undef)) → RepV γ imm w (.agg cs) (.agg vs.toArray)
  | tup (cs) (vs : List Value) : vs.length = cs.length → (∀ i, i < cs.length → RepV γ imm w (cs.getD i .any) (vs.getD i undef)) →
      RepV γ imm w (.tup cs) (.tuple vs.toArray)
  | iptr (cs b off) (u : Nat → Value) : imm b → (∀ j, j < cs.length → w.cell? ⟨b, off + j, none⟩ = some (u j)) → (∀ j, j < cs.length → one (u j)) →
      (∀ j, j < cs.length → RepP imm w (cs.getD j .any) (u j)) → RepV γ imm w (.iptr cs) (.pointer (some ⟨b, off, none⟩))
  | ptr (id off b) : γ id = .pointer (some ⟨b, 0, none⟩) → RepV γ imm w (.ptr id off) (.pointer (some ⟨b, off, none⟩))
  | vec (id n v a m c) : γ id = .slice a m c → n ≤ m → (n = m → v = γ id) → one v → RepV γ imm w (.vec id n) v
  | eptr (id n sz i off v a m c) : γ id = .slice a m c → n ≤ m → (n = m → ∃ b, a = some ⟨b, 0, none⟩ ∧ v = .pointer (some ⟨b, i * sz + off, none⟩)) → one v →
      RepV γ imm w (.eptr id n sz i off) v
  | vw (id off n b a c) : γ id = .pointer (some ⟨b, 0, none⟩) → n ≤ c → (0 < n → a = ⟨b, off, none⟩) → RepV γ imm w (.vw id off n) (.slice (some a) n c)
  | fn (f) (x y) (p q : List Value) : p.length = x.length → q.length = y.length → (∀ i, i < x.length → RepV γ imm w (x.getD i .any) (p.getD i undef)) →
      (∀ i, i < y.length → RepV γ imm w (y.getD i .any) (q.getD i undef)) → RepV γ imm w (.fn f x y) (.func f p.toArray q.toArray)
  | map (id r) : γ id = .map (some r) → RepV γ imm w (.map id) (.map (some r))
  | opt (g x v) : (g = true → RepV γ imm w x v) → (g = false → v = undef) → RepV γ imm w (.opt g x) v

theorem RepV.mono {γ γ' : Gh} {imm imm' : Nat → Prop} {w w' : World} {x : V} {v : Value} (hi : ∀ b, imm b → imm' b) (hw : ∀ b, imm b → w'.heap[b]? = w.heap[b]?)
    (h : RepV γ imm w x v) (hg : ∀ id, V.men id x = true → Evo (γ id) (γ' id)) : RepV γ' imm' w' x v := by
  induction h with
  | any v => exact .any v
  | pure h => exact .pure (h.mono hi hw)
  | agg cs vs hl _ ho ih =>
    refine .agg cs vs hl (fun i h => ih i h fun id hid => hg id ?_) ho
    simp only [V.men]
    cases hm : V.menL id cs with
    | true => rfl
    | false => rw [menL_getD id cs hm i] at hid; exact hid
  | tup cs vs hl _ ih =>
    refine .tup cs vs hl (fun i h => ih i h fun id hid => hg id ?_)
    simp only [V.men]
    cases hm : V.menL id cs with
    | true => rfl
    | false => rw [menL_getD id cs hm i] at hid; exact hid
  | iptr cs b off u hb hc ho hp => exact .iptr cs b off u (hi b hb) (fun j h => by rw [cell_same (hw b hb)]; exact hc j h) ho (fun j h => (hp j h).mono hi hw)
  | ptr id off b h =>
    rcases hg id (by simp [V.men]) with e | ⟨a, m, c, a', m', c', e, _⟩
    · exact .ptr id off b (e.trans h)
    · rw [h] at e; cases e
  | vec id n v a m c h1 h2 h3 h4 =>
    rcases hg id (by simp [V.men]) with e | ⟨a1, m1, c1, a', m', c', e, e', hlt⟩
    · exact .vec id n v a m c (e.trans h1) h2 (fun h => (h3 h).trans e.symm) h4
    · rw [h1] at e; cases e
      exact .vec id n v a' m' c' e' (by omega) (fun h => by omega) h4
  | eptr id n sz i off v a m c h1 h2 h3 h4 =>
    rcases hg id (by simp [V.men]) with e | ⟨a1, m1, c1, a', m', c', e, e', hlt⟩
    · exact .eptr id n sz i off v a m c (e.trans h1) h2 h3 h4
    · rw [h1] at e; cases e
      exact .eptr id n sz i off v a' m' c' e' (by omega) (fun h => by omega) h4
  | vw id off n b a c h h1 h2 =>
    rcases hg id (by simp [V.men]) with e | ⟨a, m, c, a', m', c', e, _⟩
    · exact .vw id off n b _ _ (e.trans h) h1 h2
    · rw [h] at e; cases e
  | fn f x y p q h1 h2 _ _ ih1 ih2 =>
    refine .fn f x y p q h1 h2 (fun i h => ih1 i h fun id hid => hg id ?_) (fun i h => ih2 i h fun id hid => hg id ?_)
    all_goals simp only [V.men, Bool.or_eq_true]
    · left
      cases hm : V.menL id x with
      | true => rfl
      | false => rw [menL_getD id x hm i] at hid; exact hid
    · right
      cases hm : V.menL id y with
      | true => rfl
      | false => rw [menL_getD id y hm i] at hid; exact hid
  | map id r h =>
    rcases hg id (by simp [V.men]) with e | ⟨a1, m1, c1, a', m', c', e, e', hlt⟩
    · exact .map id r (e.trans h)
    · rw [h] at e; cases e
  | opt g x v h hf ih => exact .opt g x v (fun hgt => ih hgt fun id hid => hg id (by simpa [V.men] using hid)) hf


theorem men_kill_aux (id : Nat) (x : V) : V.men id (V.kill id x) = false := by
  refine V.rec (motive_1 := fun x => V.men id (V.kill id x) = false) (motive_2 := fun l => V.menL id (V.killL id l) = false)
    ?_ ?_ ?_ ?_ ?_ ?_ ?_ ?_ ?_ ?_ ?_ ?_ ?_ ?_ ?_ ?_ ?_ ?_ ?_ x
  all_goals intros
  all_goals first
    | (simp only [V.kill, V.men, V.killL, V.menL, Bool.or_eq_false_iff]; done)
    | (simp only [V.kill, V.men, V.killL, V.menL, Bool.or_eq_false_iff]; first | assumption | (constructor <;> assumption))
    | (rename_i i _ _ _ _; by_cases h : (i == id) = true <;> simp [V.kill, V.men, h]; done)
    | (rename_i i _ _; by_cases h : (i == id) = true <;> simp [V.kill, V.men, h]; done)
    | (rename_i i _; by_cases h : (i == id) = true <;> simp [V.kill, V.men, h]; done)
    | (rename_i i; by_cases h : (i == id) = true <;> simp [V.kill, V.men, h]; done)
theorem RepV.kill {γ : Gh} {imm : Nat → Prop} {w : World} {x : V} {v : Value} (id : Nat) (h : RepV γ imm w x v) : RepV γ imm w (V.kill id x) v := by
  induction h with
  | any v => exact .any v
  | pure h => cases h with
    | agg cs vs hl hp ho =>
      have : ∀ (x : V) (v : Value), RepP imm w x v → RepV γ imm w (V.kill id x) v := by
        intro x v h
        induction h with
        | agg cs vs hl hp ho ih =>
          simp only [V.kill]
          refine .agg _ vs (by rw [killL_len]; exact hl) (fun i hi => ?_) (fun i hi => ho i (by rw [killL_len] at hi; exact hi))
          rw [killL_len] at hi
          rw [killL_getD]
          exact ih i hi
        | int k n => exact .pure (.int k n)
        | bool b => exact .pure (.bool b)
        | str s => exact .pure (.str s)
        | con v => exact .pure (x := .con v) (.con v)
        | nilsl a => exact .pure (.nilsl a)
        | sl0 f a c => exact .pure (.sl0 f a c)
        | sl n f b off c sz u hb hnc hs hf hc ho hp => exact .pure (.sl n f b off c sz u hb hnc hs hf hc ho hp)
      exact this _ _ (.agg cs vs hl hp ho)
    | int k n => exact .pure (.int k n)
    | bool b => exact .pure (.bool b)
    | str s => exact .pure (.str s)
    | con v => exact .pure (x := .con _) (.con _)
    | nilsl a => exact .pure (.nilsl a)
    | sl0 f a c => exact .pure (.sl0 f a c)
    | sl n f b off c sz u hb hnc hs hf hc ho hp => exact .pure (.sl n f b off c sz u hb hnc hs hf hc ho hp)
  | agg cs vs hl _ ho ih =>
    simp only [V.kill]
    refine .agg _ vs (by rw [killL_len]; exact hl) (fun i hi => ?_) (fun i hi => ho i (by rw [killL_len] at hi; exact hi))
    rw [killL_len] at hi
    rw [killL_getD]
    exact ih i hi
  | tup cs vs hl _ ih =>
    simp only [V.kill]
    refine .tup _ vs (by rw [killL_len]; exact hl) (fun i hi => ?_)
    rw [killL_len] at hi
    rw [killL_getD]
    exact ih i hi
  | iptr cs b off u h1 h2 h3 h4 => exact .iptr cs b off u h1 h2 h3 h4
  | ptr i off b h =>
    simp only [V.kill]
    by_cases e : (i == id) = true
    · simp only [e, cond_true]; exact .any _
    · simp only [e, cond_false]; exact .ptr i off b h
  | vec i n v a m c h1 h2 h3 h4 =>
    simp only [V.kill]
    by_cases e : (i == id) = true
    · simp only [e, cond_true]; exact .any _
    · simp only [e, cond_false]; exact .vec i n v a m c h1 h2 h3 h4
  | eptr i n sz j off v a m c h1 h2 h3 h4 =>
    simp only [V.kill]
    by_cases e : (i == id) = true
    · simp only [e, cond_true]; exact .any _
    · simp only [e, cond_false]; exact .eptr i n sz j off v a m c h1 h2 h3 h4
  | vw i off n b a c h h1 h2 =>
    simp only [V.kill]
    by_cases e : (i == id) = true
    · simp only [e, cond_true]; exact .any _
    · simp only [e, cond_false]; exact .vw i off n b a c h h1 h2
  | fn f x y p q h1 h2 _ _ ih1 ih2 =>
    simp only [V.kill]
    refine .fn f _ _ p q (by rw [killL_len]; exact h1) (by rw [killL_len]; exact h2) (fun i hi => ?_) (fun i hi => ?_)
    · rw [killL_len] at hi; rw [killL_getD]; exact ih1 i hi
    · rw [killL_len] at hi; rw [killL_getD]; exact ih2 i hi
  | map i r h =>
    simp only [V.kill]
    by_cases e : (i == id) = true
    · simp only [e, cond_true]; exact .any _
    · simp only [e, cond_false]; exact .map i r h
  | opt g x v _ hf ih => simp only [V.kill]; exact .opt g _ v ih hf

def RepC (γ : Gh) (imm : Nat → Prop) (w : World) (x : V) (v : Value) : Prop := RepV γ imm w x v ∧ one v

/-- A block of the call's own, as it is said to be. -/
def BlkOk (γ : Gh) (imm : Nat → Prop) (w : World) (id : Nat) : Blk → Prop
  | .cells cs => ∃ b arr t lo hi, γ id = .pointer (some ⟨b, 0, none⟩) ∧ w.heap[b]? = some (.cells arr t (lo, hi)) ∧ arr.size = cs.length ∧ (hi ≤ lo ∨ arr.size ≤ lo) ∧
      ∀ i, i < cs.length → RepC γ imm w (cs.getD i .any) (arr.getD i undef)
  | .vec sz n f => 0 < sz ∧ (∀ i, i < n → (f i).flat.length = sz) ∧ ((n = 0 ∧ ∃ a, γ id = .slice a 0 0) ∨
      ∃ b cap arr t lo hi, γ id = .slice (some ⟨b, 0, none⟩) n cap ∧ n ≤ cap ∧ 0 < cap ∧ w.heap[b]? = some (.cells arr t (lo, hi)) ∧ arr.size = cap * sz ∧ (hi ≤ lo ∨ arr.size ≤ lo) ∧
        ∀ i j, i < n → j < sz → RepC γ imm w ((f i).flat.getD j .any) (arr.getD (i * sz + j) undef))

def Blk.men (id : Nat) : Blk → Prop
  | .cells cs => ∃ i, i < cs.length ∧ V.men id (cs.getD i .any) = true
  | .vec _ n f => ∃ i j, i < n ∧ V.men id ((f i).flat.getD j .any) = true

structure Sv where
  γ : Gh
  imm : Nat → Prop
  h : Heap
  w : World

def Sv.own (S : Sv) (b : Nat) : Prop := ∃ id, (S.h id).isSome = true ∧ blkOf (S.γ id) = some b

theorem BlkOk.mono {γ γ' : Gh} {imm imm' : Nat → Prop} {w w' : World} {id : Nat} {k : Blk} (h : BlkOk γ imm w id k) (hi : ∀ b, imm b → imm' b) (hw : ∀ b, imm b → w'.heap[b]? = w.heap[b]?)
    (hb : ∀ b, blkOf (γ id) = some b → w'.heap[b]? = w.heap[b]?) (he : γ' id = γ id) (hg : ∀ j, k.men j → Evo (γ j) (γ' j)) : BlkOk γ' imm' w' id k := by
  cases k with
  | cells cs =>
    obtain ⟨b, arr, t, lo, hi', h1, h2, h3, h4, h5⟩ := h
    refine ⟨b, arr, t, lo, hi', he.trans h1, ?_, h3, h4, fun i hlt => ⟨(h5 i hlt).1.mono hi hw fun j hj => hg j ⟨i, hlt, hj⟩, (h5 i hlt).2⟩⟩
    rw [hb b (by simp [h1, blkOf])]; exact h2
  | vec sz n f =>
    obtain ⟨h1, h2, h3⟩ := h
    refine ⟨h1, h2, ?_⟩
    rcases h3 with ⟨h3, a, h4⟩ | ⟨b, cap, arr, t, lo, hi', h3, h4, hc, h5, h6, h7, h8⟩
    · exact .inl ⟨h3, a, he.trans h4⟩
    · refine .inr ⟨b, cap, arr, t, lo, hi', he.trans h3, h4, hc, ?_, h6, h7, fun i j hlt hj => ⟨(h8 i j hlt hj).1.mono hi hw fun id hid => hg id ⟨i, j, hlt, hid⟩, (h8 i j hlt hj).2⟩⟩
      rw [hb b (by simp [h3, blkOf]; omega)]; exact h5

/-- a program, and what its package-level variables are known to hold (they are never written) -/
structure PG where
  prog : Program
  n : Nat
  ok : World → Prop
  stab : ∀ w w' : World, (∀ b, b < n → w'.heap[b]? = w.heap[b]?) → ok w → ok w'
def TabS (G : PG) (S : Sv) : Prop := G.ok S.w ∧ ∀ b, b < G.n → S.imm b
theorem TabS.of {G : PG} {S T : Sv} (h : TabS G S) (hi : ∀ b, S.imm b → T.imm b) (hw : ∀ b, S.imm b → T.w.heap[b]? = S.w.heap[b]?) : TabS G T :=
  ⟨G.stab _ _ (fun b hb => hw b (h.2 b hb)) h.1, fun b hb => hi b (h.2 b hb)⟩
structure Sim (G : PG) (S : Sv) : Prop where
  blk : ∀ id b, S.h id = some b → BlkOk S.γ S.imm S.w id b
  inj : ∀ i j b, (S.h i).isSome = true → (S.h j).isSome = true → blkOf (S.γ i) = some b → blkOf (S.γ j) = some b → i = j
  immLt : ∀ b, S.imm b → b < S.w.heap.size
  disj : ∀ b, S.own b → ¬ S.imm b
  tab : TabS G S
variable {G : PG}

theorem Sim.ownLt {S : Sv} (h : Sim G S) {b : Nat} (hb : S.own b) : b < S.w.heap.size := by
  obtain ⟨id, h1, h2⟩ := hb
  obtain ⟨k, hk⟩ := Option.isSome_iff_exists.1 h1
  have := h.blk id k hk
  have aux : ∀ o, S.w.heap[b]? = some o → b < S.w.heap.size := fun o ho => (Array.getElem?_eq_some_iff.1 ho).1
  cases k with
  | cells cs =>
    obtain ⟨b', arr, t, lo, hi', e1, e2, _⟩ := this
    rw [e1] at h2; simp [blkOf] at h2; subst h2; exact aux _ e2
  | vec sz n f =>
    obtain ⟨_, _, ⟨_, a, e⟩ | ⟨b', cap, arr, t, lo, hi', e1, _, hc, e2, _⟩⟩ := this
    · rw [e] at h2; cases a <;> simp [blkOf] at h2
    · rw [e1] at h2; simp [blkOf, Nat.ne_of_gt hc] at h2; subst h2; exact aux _ e2

/-- How the world may go on; 'A': identities that are given anew. -/
structure Ext (A : Nat → Prop) (S S' : Sv) : Prop where
  os : S'.w.os = S.w.os
  tape : S'.w.tape = S.w.tape
  output : S'.w.output = S.w.output
  size : S.w.heap.size ≤ S'.w.heap.size
  keep : ∀ b, b < S.w.heap.size → ¬ S.own b → S'.w.heap[b]? = S.w.heap[b]?
  imm : ∀ b, S.imm b → S'.imm b
  immNew : ∀ b, S'.imm b → S.imm b ∨ S.own b ∨ S.w.heap.size ≤ b
  own : ∀ b, S'.own b → S.own b ∨ S.w.heap.size ≤ b
  evo : ∀ id, ¬ A id → Evo (S.γ id) (S'.γ id)

theorem Ext.refl (A : Nat → Prop) (S : Sv) : Ext A S S :=
  ⟨rfl, rfl, rfl, Nat.le_refl _, fun _ _ _ => rfl, fun _ h => h, fun _ h => .inl h, fun _ h => .inl h, fun _ _ => .refl _⟩

theorem Ext.trans {A : Nat → Prop} {S T U : Sv} (h : Ext A S T) (k : Ext A T U) : Ext A S U := by
  refine ⟨k.os.trans h.os, k.tape.trans h.tape, k.output.trans h.output, Nat.le_trans h.size k.size, fun b hb ho => ?_, fun b hb => k.imm b (h.imm b hb), fun b hb => ?_, fun b hb => ?_, fun id hA => (h.evo id hA).trans (k.evo id hA)⟩
  · rw [k.keep b (Nat.lt_of_lt_of_le hb h.size) fun hob => (h.own b hob).elim ho fun hle => by omega]
    exact h.keep b hb ho
  · rcases k.immNew b hb with h1 | h1 | h1
    · exact h.immNew b h1
    · rcases h.own b h1 with h2 | h2
      · exact .inr (.inl h2)
      · exact .inr (.inr h2)
    · exact .inr (.inr (Nat.le_trans h.size h1))
  · rcases k.own b hb with h1 | h1
    · exact h.own b h1
    · exact .inr (Nat.le_trans h.size h1)

theorem Ext.mono {A B : Nat → Prop} {S T : Sv} (h : Ext A S T) (hAB : ∀ id, A id → B id) : Ext B S T :=
  ⟨h.os, h.tape, h.output, h.size, h.keep, h.imm, h.immNew, h.own, fun id hB => h.evo id fun hA => hB (hAB id hA)⟩

theorem Ext.immKeep {A : Nat → Prop} {S T : Sv} (h : Ext A S T) (hs : Sim G S) (b : Nat) (hb : S.imm b) : T.w.heap[b]? = S.w.heap[b]? :=
  h.keep b (hs.immLt b hb) fun ho => hs.disj b ho hb

abbrev Sv.rep (S : Sv) : V → Value → Prop := RepV S.γ S.imm S.w

theorem Ext.rep {A : Nat → Prop} {S T : Sv} (h : Ext A S T) (hs : Sim G S) {x : V} {v : Value} (hr : S.rep x v) (hA : ∀ id, A id → V.men id x = false) : T.rep x v :=
  RepV.mono h.imm (h.immKeep hs) hr fun id hid => h.evo id fun ha => by simp [hA id ha] at hid

end Go.Abs
