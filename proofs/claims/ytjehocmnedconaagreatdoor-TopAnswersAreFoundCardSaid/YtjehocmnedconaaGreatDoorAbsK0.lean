/- the executor, part 0 -/
import Derived.Calls
import Derived.Orders
import Derived.Laws.AppendOwn
import Derived.Laws.IdiomCopy
import Derived.KernelRfl
import Derived.Maps.Keyed
import Derived.DeepKeys3
import Derived.IntWalk
import Derived.Laws.Strings
import Derived.Laws.StructEq
import Derived.Laws.BytesString
import Derived.Lib.ConvBytes
import Derived.Laws.Tables
namespace Go.Abs
open Go
inductive MD where
  | str
  | int (k : IntKind)
  | ss
  | ii
inductive MK where
  | str (s : List UInt8)
  | int (k : IntKind) (n : Int)
  | ss (a b : List UInt8)
  | ii (a b : Int)
deriving DecidableEq
def MK.val : MK → Value
  | .str s => .string ⟨s.toArray⟩
  | .int k n => .int k n
  | .ss a b => .agg #[.string ⟨a.toArray⟩, .string ⟨b.toArray⟩]
  | .ii a b => .agg #[.int .i64 a, .int .i64 b]
def MD.has : MD → MK → Prop
  | .str, .str _ => True
  | .int k, .int k' _ => k' = k
  | .ss, .ss a b => a.length ≤ 140737488355328 ∧ b.length ≤ 140737488355328
  | .ii, .ii a b => (-9223372036854775808 ≤ a ∧ a ≤ 9223372036854775807) ∧ -9223372036854775808 ≤ b ∧ b ≤ 9223372036854775807
  | _, _ => False
inductive V where
  | any
  | int (k : IntKind) (n : Int)
  | bool (b : Bool)
  | str (s : List UInt8)
  | con (v : Value)
  | nilsl
  | agg (cs : List V)
  | tup (vs : List V)
  | sl (n : Nat) (f : Nat → V)
  | iptr (cs : List V)
  | ptr (id off : Nat)
  | vec (id n : Nat)
  | eptr (id n sz i off : Nat)
  | vw (id off n : Nat)
  | vv (id n sz off k : Nat)
  | fn (f : Fn) (first cap : List V)
  | map (id : Nat)
  | opt (g : Bool) (v : V)
  | fmp (d : MD) (dom : MK → Bool) (g : MK → V)
def V.flat : V → List V
  | .agg cs => cs
  | v => [v]
mutual
/-- mentions -/
def V.men (id : Nat) : V → Bool
  | .agg cs => V.menL id cs
  | .tup vs => V.menL id vs
  | .ptr i _ => i == id
  | .vec i _ => i == id
  | .eptr i _ _ _ _ => i == id
  | .vw i _ _ => i == id
  | .vv i _ _ _ _ => i == id
  | .map i => i == id
  | .fn _ a b => V.menL id a || V.menL id b
  | .opt _ v => V.men id v
  | _ => false
def V.menL (id : Nat) : List V → Bool
  | [] => false
  | v :: r => V.men id v || V.menL id r
end
mutual
def V.kill (id : Nat) : V → V
  | .agg cs => .agg (V.killL id cs)
  | .tup vs => .tup (V.killL id vs)
  | .ptr i o => bif i == id then .any else .ptr i o
  | .vec i n => bif i == id then .any else .vec i n
  | .eptr i n s j o => bif i == id then .any else .eptr i n s j o
  | .vw i o n => bif i == id then .any else .vw i o n
  | .vv i n s j o => bif i == id then .any else .vv i n s j o
  | .map i => bif i == id then .any else .map i
  | .fn f a b => .fn f (V.killL id a) (V.killL id b)
  | .opt g v => .opt g (V.kill id v)
  | v => v
def V.killL (id : Nat) : List V → List V
  | [] => []
  | v :: r => V.kill id v :: V.killL id r
end
inductive Blk where
  | cells (cs : List V)
  | vec (sz n : Nat) (f : Nat → V)
  | mp (d : MD) (f : MK → Option V)
  | tc (t : TypeId) (cs : List V)
  | tb (t : TypeId) (s : List UInt8)
  | mh (d : MD) (f : MK → Option V) (k : MK) (o : V)
def Blk.kill (id : Nat) : Blk → Blk
  | .cells cs => .cells (V.killL id cs)
  | .vec sz n f => .vec sz n fun i => V.kill id (f i)
  | .mp d f => .mp d f
  | .tc t cs => .tc t (V.killL id cs)
  | .tb t s => .tb t s
  | .mh d f k o => .mh d f k (V.kill id o)
abbrev Heap := Nat → Option Blk
abbrev Env := Nat → V
structure St where
  env : Env
  heap : Heap
theorem killL_len (id : Nat) (l : List V) : (V.killL id l).length = l.length := by
  induction l with
  | nil => rfl
  | cons v r ih => simp [V.killL, ih]
theorem killL_getD (id : Nat) (l : List V) (i : Nat) : (V.killL id l).getD i .any = V.kill id (l.getD i .any) := by
  induction l generalizing i with
  | nil => simp [V.killL, V.kill]
  | cons v r ih => cases i <;> simp [V.killL] ; simpa using ih _
theorem menL_getD (id : Nat) (l : List V) (h : V.menL id l = false) (i : Nat) : V.men id (l.getD i .any) = false := by
  induction l generalizing i with
  | nil => simp [V.men]
  | cons v r ih =>
    simp only [V.menL, Bool.or_eq_false_iff] at h
    cases i with
    | zero => simpa using h.1
    | succ i => simpa using ih h.2 i
def one (v : Value) : Prop := v.oneCell' = true
inductive RepP (imm : Nat → Prop) (w : World) : V → Value → Prop
  | int (k n) : RepP imm w (.int k n) (.int k n)
  | bool (b) : RepP imm w (.bool b) (.bool b)
  | str (s) : RepP imm w (.str s) (.string ⟨s.toArray⟩)
  | con (v) : RepP imm w (.con v) v
  | nilsl (a) : RepP imm w .nilsl (.slice a 0 0)
  | agg (cs) (vs : List Value) : vs.length = cs.length → (∀ i, i < cs.length → RepP imm w (cs.getD i .any) (vs.getD i undef)) →
      (∀ i, i < cs.length → one (vs.getD i undef)) → RepP imm w (.agg cs) (.agg vs.toArray)
  | sl0 (f a c) : RepP imm w (.sl 0 f) (.slice a 0 c)
  | sl (n f b off c sz) (u : Nat → Nat → Value) : imm b → n ≤ c → 0 < sz → (∀ i, i < n → (f i).flat.length = sz) →
      (∀ i j, i < n → j < sz → w.cell? ⟨b, off + (i * sz + j), none⟩ = some (u i j)) → (∀ i j, i < n → j < sz → one (u i j)) →
      (∀ i j, i < n → j < sz → RepP imm w ((f i).flat.getD j .any) (u i j)) →
      RepP imm w (.sl n f) (.slice (some ⟨b, off, none⟩) n c)
  | fmp (d dom g b es clock) : imm b → w.heap[b]? = some (.map es clock) → (∀ e ∈ es.toList, ∃ l : MK, d.has l ∧ e.key = l.val) → es.toList.Pairwise (fun x y => x.key ≠ y.key) →
      (∀ l : MK, d.has l → ∀ e ∈ es.toList, e.key = l.val → dom l = true) → (∀ l : MK, d.has l → dom l = true → ∃ e ∈ es.toList, e.key = l.val) →
      (∀ l : MK, d.has l → ∀ e ∈ es.toList, e.key = l.val → RepP imm w (g l) e.val) → RepP imm w (.fmp d dom g) (.map (some b))
theorem cell_same {w w' : World} {b : Nat} (h : w'.heap[b]? = w.heap[b]?) (o : Nat) : w'.cell? ⟨b, o, none⟩ = w.cell? ⟨b, o, none⟩ := by
  simp [World.cell?, h]
theorem RepP.mono {imm imm' : Nat → Prop} {w w' : World} {x : V} {v : Value} (hi : ∀ b, imm b → imm' b) (hw : ∀ b, imm b → w'.heap[b]? = w.heap[b]?)
    (h : RepP imm w x v) : RepP imm' w' x v := by
  induction h with
  | int k n => exact .int k n
  | bool b => exact .bool b
  | str s => exact .str s
  | con v => exact .con v
  | nilsl a => exact .nilsl a
  | agg cs vs hl _ ho ih => exact .agg cs vs hl ih ho
  | sl0 f a c => exact .sl0 f a c
  | sl n f b off c sz u hb hnc hs hf hc ho _ ih =>
    exact .sl n f b off c sz u (hi b hb) hnc hs hf (fun i j h1 h2 => by rw [cell_same (hw b hb)]; exact hc i j h1 h2) ho ih
  | fmp d dom g b es ck hb hh h3 h4 h5 h6 _ ih => exact .fmp d dom g b es ck (hi b hb) (by rw [hw b hb]; exact hh) h3 h4 h5 h6 ih
abbrev Gh := Nat → Value
def blkOf : Value → Option Nat
  | .pointer (some a) => some a.block
  | .slice (some a) _ c => if c = 0 then none else some a.block
  | .map (some r) => some r
  | _ => none
def Evo (v v' : Value) : Prop := v' = v ∨ ∃ a m c a' m' c', v = .slice a m c ∧ v' = .slice a' m' c' ∧ m < m'
theorem Evo.refl (v : Value) : Evo v v := .inl rfl
theorem Evo.trans {a b c : Value} (h : Evo a b) (k : Evo b c) : Evo a c := by
  rcases h with rfl | ⟨a1, m1, c1, a2, m2, c2, rfl, rfl, hlt⟩
  · exact k
  · rcases k with rfl | ⟨a3, m3, c3, a4, m4, c4, h1, rfl, hlt'⟩
    · exact .inr ⟨_, _, _, _, _, _, rfl, rfl, hlt⟩
    · cases h1; exact .inr ⟨_, _, _, _, _, _, rfl, rfl, by omega⟩
inductive RepV (γ : Gh) (imm : Nat → Prop) (w : World) : V → Value → Prop
  | any (v) : RepV γ imm w .any v
  | pure {x v} : RepP imm w x v → RepV γ imm w x v
  | agg (cs) (vs : List Value) : vs.length = cs.length → (∀ i, i < cs.length → RepV γ imm w (cs.getD i .any) (vs.getD i undef)) →
      (∀ i, i < cs.length → one (vs.getD i undef)) → RepV γ imm w (.agg cs) (.agg vs.toArray)
  | tup (cs) (vs : List Value) : vs.length = cs.length → (∀ i, i < cs.length → RepV γ imm w (cs.getD i .any) (vs.getD i undef)) →
      RepV γ imm w (.tup cs) (.tuple vs.toArray)
  | iptr (cs b off) (u : Nat → Value) : imm b → (∀ j, j < cs.length → w.cell? ⟨b, off + j, none⟩ = some (u j)) → (∀ j, j < cs.length → one (u j)) →
      (∀ j, j < cs.length → RepP imm w (cs.getD j .any) (u j)) → RepV γ imm w (.iptr cs) (.pointer (some ⟨b, off, none⟩))
  | ptr (id off b) : γ id = .pointer (some ⟨b, 0, none⟩) → RepV γ imm w (.ptr id off) (.pointer (some ⟨b, off, none⟩))
  | vec (id n v a m c) : γ id = .slice a m c → n ≤ m → (n = m → v = γ id) → one v → RepV γ imm w (.vec id n) v
  | eptr (id n sz i off v a m c) : γ id = .slice a m c → n ≤ m → (n = m → ∃ b, a = some ⟨b, 0, none⟩ ∧ v = .pointer (some ⟨b, i * sz + off, none⟩)) → one v →
      RepV γ imm w (.eptr id n sz i off) v
  | vw (id off n b a c) : γ id = .pointer (some ⟨b, 0, none⟩) → n ≤ c → (0 < n → a = ⟨b, off, none⟩) → RepV γ imm w (.vw id off n) (.slice (some a) n c)
  | vv (id n sz off k v a m c) : γ id = .slice a m c → n ≤ m → (n = m → off + k ≤ n ∧ ∃ A, v = .slice A k (c - off) ∧ (off < c → ∃ b, a = some ⟨b, 0, none⟩ ∧ A = some ⟨b, off * sz, none⟩)) → one v →
      RepV γ imm w (.vv id n sz off k) v
  | fn (f) (x y) (p q : List Value) : p.length = x.length → q.length = y.length → (∀ i, i < x.length → RepV γ imm w (x.getD i .any) (p.getD i undef)) →
      (∀ i, i < y.length → RepV γ imm w (y.getD i .any) (q.getD i undef)) → RepV γ imm w (.fn f x y) (.func f p.toArray q.toArray)
  | map (id r) : γ id = .map (some r) → RepV γ imm w (.map id) (.map (some r))
  | opt (g x v) : (g = true → RepV γ imm w x v) → (g = false → v = undef) → RepV γ imm w (.opt g x) v
theorem RepV.mono {γ γ' : Gh} {imm imm' : Nat → Prop} {w w' : World} {x : V} {v : Value} (hi : ∀ b, imm b → imm' b) (hw : ∀ b, imm b → w'.heap[b]? = w.heap[b]?)
    (h : RepV γ imm w x v) (hg : ∀ id, V.men id x = true → Evo (γ id) (γ' id)) : RepV γ' imm' w' x v := by
  induction h with
  | any v => exact .any v
  | pure h => exact .pure (h.mono hi hw)
  | agg cs vs hl _ ho ih =>
    refine .agg cs vs hl (fun i h => ih i h fun id hid => hg id ?_) ho
    simp only [V.men]
    cases hm : V.menL id cs with
    | true => rfl
    | false => rw [menL_getD id cs hm i] at hid; exact hid
  | tup cs vs hl _ ih =>
    refine .tup cs vs hl (fun i h => ih i h fun id hid => hg id ?_)
    simp only [V.men]
    cases hm : V.menL id cs with
    | true => rfl
    | false => rw [menL_getD id cs hm i] at hid; exact hid
  | iptr cs b off u hb hc ho hp => exact .iptr cs b off u (hi b hb) (fun j h => by rw [cell_same (hw b hb)]; exact hc j h) ho (fun j h => (hp j h).mono hi hw)
  | ptr id off b h =>
    rcases hg id (by simp [V.men]) with e | ⟨a, m, c, a', m', c', e, _⟩
    · exact .ptr id off b (e.trans h)
    · rw [h] at e; cases e
  | vec id n v a m c h1 h2 h3 h4 =>
    rcases hg id (by simp [V.men]) with e | ⟨a1, m1, c1, a', m', c', e, e', hlt⟩
    · exact .vec id n v a m c (e.trans h1) h2 (fun h => (h3 h).trans e.symm) h4
    · rw [h1] at e; cases e
      exact .vec id n v a' m' c' e' (by omega) (fun h => by omega) h4
  | eptr id n sz i off v a m c h1 h2 h3 h4 =>
    rcases hg id (by simp [V.men]) with e | ⟨a1, m1, c1, a', m', c', e, e', hlt⟩
    · exact .eptr id n sz i off v a m c (e.trans h1) h2 h3 h4
    · rw [h1] at e; cases e
      exact .eptr id n sz i off v a' m' c' e' (by omega) (fun h => by omega) h4
  | vv id n sz off k v a m c h1 h2 h3 h4 =>
    rcases hg id (by simp [V.men]) with e | ⟨a1, m1, c1, a', m', c', e, e', hlt⟩
    · exact .vv id n sz off k v a m c (e.trans h1) h2 h3 h4
    · rw [h1] at e; cases e
      exact .vv id n sz off k v a' m' c' e' (by omega) (fun h => by omega) h4
  | vw id off n b a c h h1 h2 =>
    rcases hg id (by simp [V.men]) with e | ⟨a, m, c, a', m', c', e, _⟩
    · exact .vw id off n b _ _ (e.trans h) h1 h2
    · rw [h] at e; cases e
  | fn f x y p q h1 h2 _ _ ih1 ih2 =>
    refine .fn f x y p q h1 h2 (fun i h => ih1 i h fun id hid => hg id ?_) (fun i h => ih2 i h fun id hid => hg id ?_)
    all_goals simp only [V.men, Bool.or_eq_true]
    · left
      cases hm : V.menL id x with
      | true => rfl
      | false => rw [menL_getD id x hm i] at hid; exact hid
    · right
      cases hm : V.menL id y with
      | true => rfl
      | false => rw [menL_getD id y hm i] at hid; exact hid
  | map id r h =>
    rcases hg id (by simp [V.men]) with e | ⟨a1, m1, c1, a', m', c', e, e', hlt⟩
    · exact .map id r (e.trans h)
    · rw [h] at e; cases e
  | opt g x v h hf ih => exact .opt g x v (fun hgt => ih hgt fun id hid => hg id (by simpa [V.men] using hid)) hf
theorem men_kill_aux (id : Nat) (x : V) : V.men id (V.kill id x) = false := by
  refine V.rec (motive_1 := fun x => V.men id (V.kill id x) = false) (motive_2 := fun l => V.menL id (V.killL id l) = false)
    ?_ ?_ ?_ ?_ ?_ ?_ ?_ ?_ ?_ ?_ ?_ ?_ ?_ ?_ ?_ ?_ ?_ ?_ ?_ ?_ ?_ x
  all_goals intros
  all_goals first
    | (simp only [V.kill, V.men, V.killL, V.menL, Bool.or_eq_false_iff]; done)
    | (simp only [V.kill, V.men, V.killL, V.menL, Bool.or_eq_false_iff]; first | assumption | (constructor <;> assumption))
    | (rename_i i _ _ _ _; by_cases h : (i == id) = true <;> simp [V.kill, V.men, h]; done)
    | (rename_i i _ _; by_cases h : (i == id) = true <;> simp [V.kill, V.men, h]; done)
    | (rename_i i _; by_cases h : (i == id) = true <;> simp [V.kill, V.men, h]; done)
    | (rename_i i; by_cases h : (i == id) = true <;> simp [V.kill, V.men, h]; done)
theorem RepV.kill {γ : Gh} {imm : Nat → Prop} {w : World} {x : V} {v : Value} (id : Nat) (h : RepV γ imm w x v) : RepV γ imm w (V.kill id x) v := by
  induction h with
  | any v => exact .any v
  | pure h => cases h with
    | agg cs vs hl hp ho =>
      have : ∀ (x : V) (v : Value), RepP imm w x v → RepV γ imm w (V.kill id x) v := by
        intro x v h
        induction h with
        | agg cs vs hl hp ho ih =>
          simp only [V.kill]
          refine .agg _ vs (by rw [killL_len]; exact hl) (fun i hi => ?_) (fun i hi => ho i (by rw [killL_len] at hi; exact hi))
          rw [killL_len] at hi
          rw [killL_getD]
          exact ih i hi
        | int k n => exact .pure (.int k n)
        | bool b => exact .pure (.bool b)
        | str s => exact .pure (.str s)
        | con v => exact .pure (x := .con v) (.con v)
        | nilsl a => exact .pure (.nilsl a)
        | sl0 f a c => exact .pure (.sl0 f a c)
        | sl n f b off c sz u hb hnc hs hf hc ho hp => exact .pure (.sl n f b off c sz u hb hnc hs hf hc ho hp)
        | fmp d dom g b es ck h1 h2 h3 h4 h5 h6 h7 => exact .pure (.fmp d dom g b es ck h1 h2 h3 h4 h5 h6 h7)
      exact this _ _ (.agg cs vs hl hp ho)
    | int k n => exact .pure (.int k n)
    | bool b => exact .pure (.bool b)
    | str s => exact .pure (.str s)
    | con v => exact .pure (x := .con _) (.con _)
    | nilsl a => exact .pure (.nilsl a)
    | sl0 f a c => exact .pure (.sl0 f a c)
    | sl n f b off c sz u hb hnc hs hf hc ho hp => exact .pure (.sl n f b off c sz u hb hnc hs hf hc ho hp)
    | fmp d dom g b es ck h1 h2 h3 h4 h5 h6 h7 => exact .pure (.fmp d dom g b es ck h1 h2 h3 h4 h5 h6 h7)
  | agg cs vs hl _ ho ih =>
    simp only [V.kill]
    refine .agg _ vs (by rw [killL_len]; exact hl) (fun i hi => ?_) (fun i hi => ho i (by rw [killL_len] at hi; exact hi))
    rw [killL_len] at hi
    rw [killL_getD]
    exact ih i hi
  | tup cs vs hl _ ih =>
    simp only [V.kill]
    refine .tup _ vs (by rw [killL_len]; exact hl) (fun i hi => ?_)
    rw [killL_len] at hi
    rw [killL_getD]
    exact ih i hi
  | iptr cs b off u h1 h2 h3 h4 => exact .iptr cs b off u h1 h2 h3 h4
  | ptr i off b h =>
    simp only [V.kill]
    by_cases e : (i == id) = true
    · simp only [e, cond_true]; exact .any _
    · simp only [e, cond_false]; exact .ptr i off b h
  | vec i n v a m c h1 h2 h3 h4 =>
    simp only [V.kill]
    by_cases e : (i == id) = true
    · simp only [e, cond_true]; exact .any _
    · simp only [e, cond_false]; exact .vec i n v a m c h1 h2 h3 h4
  | eptr i n sz j off v a m c h1 h2 h3 h4 =>
    simp only [V.kill]
    by_cases e : (i == id) = true
    · simp only [e, cond_true]; exact .any _
    · simp only [e, cond_false]; exact .eptr i n sz j off v a m c h1 h2 h3 h4
  | vv i n sz j off v a m c h1 h2 h3 h4 =>
    simp only [V.kill]
    by_cases e : (i == id) = true
    · simp only [e, cond_true]; exact .any _
    · simp only [e, cond_false]; exact .vv i n sz j off v a m c h1 h2 h3 h4
  | vw i off n b a c h h1 h2 =>
    simp only [V.kill]
    by_cases e : (i == id) = true
    · simp only [e, cond_true]; exact .any _
    · simp only [e, cond_false]; exact .vw i off n b a c h h1 h2
  | fn f x y p q h1 h2 _ _ ih1 ih2 =>
    simp only [V.kill]
    refine .fn f _ _ p q (by rw [killL_len]; exact h1) (by rw [killL_len]; exact h2) (fun i hi => ?_) (fun i hi => ?_)
    · rw [killL_len] at hi; rw [killL_getD]; exact ih1 i hi
    · rw [killL_len] at hi; rw [killL_getD]; exact ih2 i hi
  | map i r h =>
    simp only [V.kill]
    by_cases e : (i == id) = true
    · simp only [e, cond_true]; exact .any _
    · simp only [e, cond_false]; exact .map i r h
  | opt g x v _ hf ih => simp only [V.kill]; exact .opt g _ v ih hf
def RepC (γ : Gh) (imm : Nat → Prop) (w : World) (x : V) (v : Value) : Prop := RepV γ imm w x v ∧ one v
structure MapOk (imm : Nat → Prop) (w : World) (d : MD) (f : MK → Option V) (es : List MapEntry) : Prop where
  keys : ∀ e ∈ es, ∃ l : MK, d.has l ∧ e.key = l.val
  apart : es.Pairwise fun x y => x.key ≠ y.key
  at' : ∀ l : MK, d.has l → ∀ e ∈ es, e.key = l.val → ∃ v, f l = some v ∧ RepP imm w v e.val
  no : ∀ l : MK, d.has l → ∀ v, f l = some v → ∃ e ∈ es, e.key = l.val
def V.rowy (o : V) : Prop := o = .nilsl ∨ o = .any ∨ ∃ i n, o = .vec i n
theorem V.rowy.kill {o : V} (id : Nat) (h : o.rowy) : (V.kill id o).rowy ∧ (o ≠ .nilsl → V.kill id o ≠ .nilsl) ∧ ((∃ i n, V.kill id o = .vec i n) → ∃ i n, o = .vec i n) := by
  rcases h with rfl | rfl | ⟨i, n, rfl⟩
  · exact ⟨.inl rfl, fun h => h, fun ⟨i, n, h⟩ => by cases h⟩
  · exact ⟨.inr (.inl rfl), fun h => h, fun ⟨i, n, h⟩ => by cases h⟩
  · simp only [V.kill]
    cases (i == id)
    · exact ⟨.inr (.inr ⟨i, n, rfl⟩), fun h => h, fun _ => ⟨i, n, rfl⟩⟩
    · exact ⟨.inr (.inl rfl), fun _ h => (by cases h), fun ⟨i, n, h⟩ => by cases h⟩
structure MhOk (γ : Gh) (imm : Nat → Prop) (w : World) (d : MD) (f : MK → Option V) (k : MK) (o : V) (es : List MapEntry) : Prop where
  key : d.has k
  rowy : o.rowy
  keys : ∀ e ∈ es, ∃ l : MK, d.has l ∧ e.key = l.val
  apart : es.Pairwise fun x y => x.key ≠ y.key
  at' : ∀ l : MK, d.has l → l ≠ k → ∀ e ∈ es, e.key = l.val → ∃ v, f l = some v ∧ RepP imm w v e.val
  no : ∀ l : MK, d.has l → l ≠ k → ∀ v, f l = some v → ∃ e ∈ es, e.key = l.val
  hot : ∀ e ∈ es, e.key = k.val → RepV γ imm w o e.val ∧ o ≠ .nilsl
  is' : (∃ i n, o = .vec i n) → ∃ e ∈ es, e.key = k.val
theorem MhOk.mono {γ γ' : Gh} {imm imm' : Nat → Prop} {w w' : World} {d : MD} {f : MK → Option V} {k : MK} {o : V} {es : List MapEntry} (h : MhOk γ imm w d f k o es) (hi : ∀ b, imm b → imm' b) (hw : ∀ b, imm b → w'.heap[b]? = w.heap[b]?) (hg : ∀ id, V.men id o = true → Evo (γ id) (γ' id)) : MhOk γ' imm' w' d f k o es :=
  ⟨h.key, h.rowy, h.keys, h.apart, fun l hl hn e he hk => by
    obtain ⟨v, e1, e2⟩ := h.at' l hl hn e he hk
    exact ⟨v, e1, e2.mono hi hw⟩, h.no, fun e he hk => ⟨(h.hot e he hk).1.mono hi hw hg, (h.hot e he hk).2⟩, h.is'⟩
def TbOk (w : World) (t : TypeId) (s : List UInt8) (v : Value) : Prop := (s = [] ∧ v = Value.slice none 0 0) ∨ ∃ (g cap : Nat) (arr : Array Value), v = Value.slice (some ⟨g, 0, none⟩) s.length cap ∧ s.length ≤ cap ∧ 0 < cap ∧ w.heap[g]? = some (.cells arr t (0, 0)) ∧ arr.size = cap ∧ ∀ (j : Nat) (x : UInt8), s[j]? = some x → arr[j]? = some (Value.int IntKind.u8 (x.toNat : Int))
def BlkOk (γ : Gh) (imm : Nat → Prop) (w : World) (id : Nat) : Blk → Prop
  | .cells cs => ∃ b arr t lo hi, γ id = .pointer (some ⟨b, 0, none⟩) ∧ w.heap[b]? = some (.cells arr t (lo, hi)) ∧ arr.size = cs.length ∧ (lo = hi ∨ arr.size ≤ lo) ∧
      ∀ i, i < cs.length → RepC γ imm w (cs.getD i .any) (arr.getD i undef)
  | .vec sz n f => 0 < sz ∧ (∀ i, i < n → (f i).flat.length = sz) ∧ ((n = 0 ∧ ∃ a, γ id = .slice a 0 0) ∨
      ∃ b cap arr t lo hi, γ id = .slice (some ⟨b, 0, none⟩) n cap ∧ n ≤ cap ∧ 0 < cap ∧ w.heap[b]? = some (.cells arr t (lo, hi)) ∧ arr.size = cap * sz ∧ (lo = hi ∨ (sz = 1 ∧ arr.size ≤ lo)) ∧
        ∀ i j, i < n → j < sz → RepC γ imm w ((f i).flat.getD j .any) (arr.getD (i * sz + j) undef))
  | .mp d f => ∃ b es clock, γ id = .map (some b) ∧ w.heap[b]? = some (.map es clock) ∧ MapOk imm w d f es.toList
  | .tc t cs => ∃ b arr lo hi, γ id = .pointer (some ⟨b, 0, none⟩) ∧ w.heap[b]? = some (.cells arr t (lo, hi)) ∧ arr.size = cs.length ∧ (lo = hi ∨ arr.size ≤ lo) ∧
      ∀ i, i < cs.length → RepC γ imm w (cs.getD i .any) (arr.getD i undef)
  | .tb t s => TbOk w t s (γ id)
  | .mh d f k o => ∃ b es clock, γ id = .map (some b) ∧ w.heap[b]? = some (.map es clock) ∧ MhOk γ imm w d f k o es.toList
theorem mk1 {sz n lo hi : Nat} (h : lo = hi ∨ (sz = 1 ∧ n ≤ lo)) : lo = hi ∨ n ≤ lo := h.imp id And.right
def Blk.men (id : Nat) : Blk → Prop
  | .cells cs => ∃ i, i < cs.length ∧ V.men id (cs.getD i .any) = true
  | .vec _ n f => ∃ i j, i < n ∧ V.men id ((f i).flat.getD j .any) = true
  | .mp _ _ => False
  | .tc _ cs => ∃ i, i < cs.length ∧ V.men id (cs.getD i .any) = true
  | .tb _ _ => False
  | .mh _ _ _ o => V.men id o = true
structure Sv where
  γ : Gh
  imm : Nat → Prop
  h : Heap
  w : World
def Sv.own (S : Sv) (b : Nat) : Prop := ∃ id, (S.h id).isSome = true ∧ blkOf (S.γ id) = some b
theorem BlkOk.mono {γ γ' : Gh} {imm imm' : Nat → Prop} {w w' : World} {id : Nat} {k : Blk} (h : BlkOk γ imm w id k) (hi : ∀ b, imm b → imm' b) (hw : ∀ b, imm b → w'.heap[b]? = w.heap[b]?)
    (hb : ∀ b, blkOf (γ id) = some b → w'.heap[b]? = w.heap[b]?) (he : γ' id = γ id) (hg : ∀ j, k.men j → Evo (γ j) (γ' j)) : BlkOk γ' imm' w' id k := by
  cases k with
  | cells cs =>
    obtain ⟨b, arr, t, lo, hi', h1, h2, h3, h4, h5⟩ := h
    refine ⟨b, arr, t, lo, hi', he.trans h1, ?_, h3, h4, fun i hlt => ⟨(h5 i hlt).1.mono hi hw fun j hj => hg j ⟨i, hlt, hj⟩, (h5 i hlt).2⟩⟩
    rw [hb b (by simp [h1, blkOf])]; exact h2
  | vec sz n f =>
    obtain ⟨h1, h2, h3⟩ := h
    refine ⟨h1, h2, ?_⟩
    rcases h3 with ⟨h3, a, h4⟩ | ⟨b, cap, arr, t, lo, hi', h3, h4, hc, h5, h6, h7, h8⟩
    · exact .inl ⟨h3, a, he.trans h4⟩
    · refine .inr ⟨b, cap, arr, t, lo, hi', he.trans h3, h4, hc, ?_, h6, h7, fun i j hlt hj => ⟨(h8 i j hlt hj).1.mono hi hw fun id hid => hg id ⟨i, j, hlt, hid⟩, (h8 i j hlt hj).2⟩⟩
      rw [hb b (by simp [h3, blkOf]; omega)]; exact h5
  | mp d f =>
    obtain ⟨b, es, clock, h1, h2, h3⟩ := h
    refine ⟨b, es, clock, he.trans h1, (hb b (by simp [h1, blkOf])).trans h2, h3.keys, h3.apart, fun l hl e hel hk => ?_, h3.no⟩
    obtain ⟨v, e1, e2⟩ := h3.at' l hl e hel hk
    exact ⟨v, e1, e2.mono hi hw⟩
  | tb t s =>
    rcases h with ⟨h1, h2⟩ | ⟨g, cap, arr, h1, h2, h3, h4, h5⟩
    · exact .inl ⟨h1, he.trans h2⟩
    · refine .inr ⟨g, cap, arr, he.trans h1, h2, h3, ?_, h5⟩
      rw [hb g (by simp [h1, blkOf]; omega)]; exact h4
  | mh d f k o =>
    obtain ⟨b, es, clock, h1, h2, h3⟩ := h
    exact ⟨b, es, clock, he.trans h1, (hb b (by simp [h1, blkOf])).trans h2, h3.mono hi hw hg⟩
  | tc tt cs =>
    obtain ⟨b, arr, lo, hi', h1, h2, h3, h4, h5⟩ := h
    refine ⟨b, arr, lo, hi', he.trans h1, ?_, h3, h4, fun i hlt => ⟨(h5 i hlt).1.mono hi hw fun j hj => hg j ⟨i, hlt, hj⟩, (h5 i hlt).2⟩⟩
    rw [hb b (by simp [h1, blkOf])]; exact h2
structure PG where
  prog : Program
  n : World → Nat
  ok : World → Prop
  stab : ∀ w w' : World, (∀ b, b < n w → w'.heap[b]? = w.heap[b]?) → ok w → ok w' ∧ n w' = n w
def TabS (G : PG) (S : Sv) : Prop := G.ok S.w ∧ ∀ b, b < G.n S.w → S.imm b
theorem TabS.of {G : PG} {S T : Sv} (h : TabS G S) (hi : ∀ b, S.imm b → T.imm b) (hw : ∀ b, S.imm b → T.w.heap[b]? = S.w.heap[b]?) : TabS G T := by
  obtain ⟨a, e⟩ := G.stab _ _ (fun b hb => hw b (h.2 b hb)) h.1
  exact ⟨a, fun b hb => hi b (h.2 b (e ▸ hb))⟩
structure Sim (G : PG) (S : Sv) : Prop where
  blk : ∀ id b, S.h id = some b → BlkOk S.γ S.imm S.w id b
  inj : ∀ i j b, (S.h i).isSome = true → (S.h j).isSome = true → blkOf (S.γ i) = some b → blkOf (S.γ j) = some b → i = j
  immLt : ∀ b, S.imm b → b < S.w.heap.size
  disj : ∀ b, S.own b → ¬ S.imm b
  tab : TabS G S
variable {G : PG}
theorem Sim.ownLt {S : Sv} (h : Sim G S) {b : Nat} (hb : S.own b) : b < S.w.heap.size := by
  obtain ⟨id, h1, h2⟩ := hb
  obtain ⟨k, hk⟩ := Option.isSome_iff_exists.1 h1
  have := h.blk id k hk
  have aux : ∀ o, S.w.heap[b]? = some o → b < S.w.heap.size := fun o ho => (Array.getElem?_eq_some_iff.1 ho).1
  cases k with
  | cells cs =>
    obtain ⟨b', arr, t, lo, hi', e1, e2, _⟩ := this
    rw [e1] at h2; simp [blkOf] at h2; subst h2; exact aux _ e2
  | vec sz n f =>
    obtain ⟨_, _, ⟨_, a, e⟩ | ⟨b', cap, arr, t, lo, hi', e1, _, hc, e2, _⟩⟩ := this
    · rw [e] at h2; cases a <;> simp [blkOf] at h2
    · rw [e1] at h2; simp [blkOf, Nat.ne_of_gt hc] at h2; subst h2; exact aux _ e2
  | mp d f =>
    obtain ⟨b', es, clock, e1, e2, _⟩ := this
    rw [e1] at h2; simp [blkOf] at h2; subst h2; exact aux _ e2
  | tc tt cs =>
    obtain ⟨b', arr, lo, hi', e1, e2, _⟩ := this
    rw [e1] at h2; simp [blkOf] at h2; subst h2; exact aux _ e2
  | mh d f k o =>
    obtain ⟨b', es, clock, e1, e2, _⟩ := this
    rw [e1] at h2; simp [blkOf] at h2; subst h2; exact aux _ e2
  | tb t s =>
    rcases this with ⟨_, e⟩ | ⟨g, cap, arr, e1, _, hc, e2, _⟩
    · rw [e] at h2; simp [blkOf] at h2
    · rw [e1] at h2; simp [blkOf, Nat.ne_of_gt hc] at h2; subst h2; exact aux _ e2
structure Ext (A : Nat → Prop) (S S' : Sv) : Prop where
  os : S'.w.os = S.w.os
  tape : S'.w.tape = S.w.tape
  output : S'.w.output = S.w.output
  size : S.w.heap.size ≤ S'.w.heap.size
  keep : ∀ b, b < S.w.heap.size → ¬ S.own b → S'.w.heap[b]? = S.w.heap[b]?
  imm : ∀ b, S.imm b → S'.imm b
  immNew : ∀ b, S'.imm b → S.imm b ∨ S.own b ∨ S.w.heap.size ≤ b
  own : ∀ b, S'.own b → S.own b ∨ S.w.heap.size ≤ b
  evo : ∀ id, ¬ A id → Evo (S.γ id) (S'.γ id)
theorem Ext.refl (A : Nat → Prop) (S : Sv) : Ext A S S :=
  ⟨rfl, rfl, rfl, Nat.le_refl _, fun _ _ _ => rfl, fun _ h => h, fun _ h => .inl h, fun _ h => .inl h, fun _ _ => .refl _⟩
theorem Ext.trans {A : Nat → Prop} {S T U : Sv} (h : Ext A S T) (k : Ext A T U) : Ext A S U := by
  refine ⟨k.os.trans h.os, k.tape.trans h.tape, k.output.trans h.output, Nat.le_trans h.size k.size, fun b hb ho => ?_, fun b hb => k.imm b (h.imm b hb), fun b hb => ?_, fun b hb => ?_, fun id hA => (h.evo id hA).trans (k.evo id hA)⟩
  · rw [k.keep b (Nat.lt_of_lt_of_le hb h.size) fun hob => (h.own b hob).elim ho fun hle => by omega]
    exact h.keep b hb ho
  · rcases k.immNew b hb with h1 | h1 | h1
    · exact h.immNew b h1
    · rcases h.own b h1 with h2 | h2
      · exact .inr (.inl h2)
      · exact .inr (.inr h2)
    · exact .inr (.inr (Nat.le_trans h.size h1))
  · rcases k.own b hb with h1 | h1
    · exact h.own b h1
    · exact .inr (Nat.le_trans h.size h1)
theorem Ext.mono {A B : Nat → Prop} {S T : Sv} (h : Ext A S T) (hAB : ∀ id, A id → B id) : Ext B S T :=
  ⟨h.os, h.tape, h.output, h.size, h.keep, h.imm, h.immNew, h.own, fun id hB => h.evo id fun hA => hB (hAB id hA)⟩
theorem Ext.immKeep {A : Nat → Prop} {S T : Sv} (h : Ext A S T) (hs : Sim G S) (b : Nat) (hb : S.imm b) : T.w.heap[b]? = S.w.heap[b]? :=
  h.keep b (hs.immLt b hb) fun ho => hs.disj b ho hb
abbrev Sv.rep (S : Sv) : V → Value → Prop := RepV S.γ S.imm S.w
theorem Ext.rep {A : Nat → Prop} {S T : Sv} (h : Ext A S T) (hs : Sim G S) {x : V} {v : Value} (hr : S.rep x v) (hA : ∀ id, A id → V.men id x = false) : T.rep x v :=
  RepV.mono h.imm (h.immKeep hs) hr fun id hid => h.evo id fun ha => by simp [hA id ha] at hid
end Go.Abs
namespace Go.Abs
open Go
variable {G : PG}
def upd {α : Type} (f : Nat → α) (i : Nat) (v : α) : Nat → α := fun t => if t = i then v else f t
@[simp] theorem upd_same {α : Type} (f : Nat → α) (i : Nat) (v : α) : upd f i v i = v := by simp [upd]
theorem upd_ne {α : Type} (f : Nat → α) {i j : Nat} (v : α) (h : j ≠ i) : upd f i v j = f j := by simp [upd, h]
theorem Sim.upd {S : Sv} (hs : Sim G S) (A : Nat → Prop) (id : Nat) (val : Value) (k : Blk) (w' : World)
    (hos : w'.os = S.w.os) (htape : w'.tape = S.w.tape) (hout : w'.output = S.w.output) (hsize : S.w.heap.size ≤ w'.heap.size)
    (hkeep : ∀ b, b < S.w.heap.size → ¬ ((S.h id).isSome = true ∧ blkOf (S.γ id) = some b) → w'.heap[b]? = S.w.heap[b]?)
    (hval : ∀ b, blkOf val = some b → ((S.h id).isSome = true ∧ blkOf (S.γ id) = some b) ∨ S.w.heap.size ≤ b)
    (hk : BlkOk (Abs.upd S.γ id val) S.imm w' id k)
    (hevo : (A id ∧ ∀ j b, S.h j = some b → j ≠ id → ¬ b.men id) ∨ Evo (S.γ id) val) :
    Sim G ⟨Abs.upd S.γ id val, S.imm, Abs.upd S.h id (some k), w'⟩ ∧ Ext A S ⟨Abs.upd S.γ id val, S.imm, Abs.upd S.h id (some k), w'⟩ := by
  have himm : ∀ b, S.imm b → w'.heap[b]? = S.w.heap[b]? := fun b hb =>
    hkeep b (hs.immLt b hb) fun ⟨h1, h2⟩ => hs.disj b ⟨id, h1, h2⟩ hb
  refine ⟨⟨fun j b hj => ?_, fun i j b hi hj h1 h2 => ?_, fun b hb => Nat.lt_of_lt_of_le (hs.immLt b hb) hsize, fun b hb him => ?_, hs.tab.of (fun _ h => h) himm⟩, ⟨hos, htape, hout, hsize, fun b hb ho => ?_, fun b h => h, fun b h => .inl h, fun b hb => ?_, fun j hA => ?_⟩⟩
  · by_cases e : j = id
    · subst e; simp at hj; subst hj; exact hk
    · simp only [upd_ne _ _ e] at hj
      have hj' := hs.blk j b hj
      refine hj'.mono (fun _ h => h) himm (fun c hc => ?_) (upd_ne _ _ e) (fun i hi => ?_)
      · have hoj : S.own c := ⟨j, by rw [hj]; rfl, hc⟩
        exact hkeep c (hs.ownLt hoj) fun ⟨h1, h2⟩ => e (hs.inj j id c (by rw [hj]; rfl) h1 hc h2)
      · by_cases e' : i = id
        · subst e'
          rcases hevo with ⟨_, h⟩ | h
          · exact absurd hi (h j b hj e)
          · simpa using h
        · simp only [upd_ne _ _ e']; exact .refl _
  · by_cases e1 : i = id <;> by_cases e2 : j = id
    · rw [e1, e2]
    · subst e1
      simp only [upd_same] at h1
      simp only [upd_ne _ _ e2] at h2 hj
      rcases hval b h1 with ⟨h3, h4⟩ | h3
      · exact hs.inj i j b h3 hj h4 h2
      · have := hs.ownLt (b := b) ⟨j, hj, h2⟩; omega
    · subst e2
      simp only [upd_same] at h2
      simp only [upd_ne _ _ e1] at h1 hi
      rcases hval b h2 with ⟨h3, h4⟩ | h3
      · exact hs.inj i j b hi h3 h1 h4
      · have := hs.ownLt (b := b) ⟨i, hi, h1⟩; omega
    · simp only [upd_ne _ _ e1] at h1 hi
      simp only [upd_ne _ _ e2] at h2 hj
      exact hs.inj i j b hi hj h1 h2
  · obtain ⟨i, hi, hb⟩ := hb
    by_cases e : i = id
    · subst e
      simp only [upd_same] at hb
      rcases hval b hb with ⟨h3, h4⟩ | h3
      · exact hs.disj b ⟨i, h3, h4⟩ him
      · have := hs.immLt b him; omega
    · simp only [upd_ne _ _ e] at hb hi
      exact hs.disj b ⟨i, hi, hb⟩ him
  · exact hkeep b hb fun ⟨h1, h2⟩ => ho ⟨id, h1, h2⟩
  · obtain ⟨i, hi, hb⟩ := hb
    by_cases e : i = id
    · subst e
      simp only [upd_same] at hb
      rcases hval b hb with ⟨h3, h4⟩ | h3
      · exact .inl ⟨i, h3, h4⟩
      · exact .inr h3
    · simp only [upd_ne _ _ e] at hb hi
      exact .inl ⟨i, hi, hb⟩
  · by_cases e : j = id
    · subst e
      rcases hevo with ⟨h, _⟩ | h
      · exact absurd h hA
      · simpa using h
    · show Evo (S.γ j) (Abs.upd S.γ id val j)
      rw [upd_ne _ _ e]; exact .refl _
theorem Sim.weaken {S : Sv} (hs : Sim G S) (A : Nat → Prop) (h' : Heap) (hh : ∀ id k, h' id = some k → (S.h id).isSome = true ∧ BlkOk S.γ S.imm S.w id k) :
    Sim G { S with h := h' } ∧ Ext A S { S with h := h' } := by
  have hsub : ∀ id, (h' id).isSome = true → (S.h id).isSome = true := fun id hi => by
    obtain ⟨k, hk⟩ := Option.isSome_iff_exists.1 hi
    exact (hh id k hk).1
  refine ⟨⟨fun id b hb => (hh id b hb).2, fun i j b hi hj => hs.inj i j b (hsub i hi) (hsub j hj), hs.immLt, fun b ⟨i, hi, hb⟩ => hs.disj b ⟨i, hsub i hi, hb⟩, hs.tab.of (fun _ h => h) fun _ _ => rfl⟩, ⟨rfl, rfl, rfl, Nat.le_refl _, fun _ _ _ => rfl, fun _ h => h, fun _ h => .inl h, fun b ⟨i, hi, hb⟩ => .inl ⟨i, hsub i hi, hb⟩, fun _ _ => .refl _⟩⟩
theorem flat_kill (id : Nat) (x : V) : (V.kill id x).flat = V.killL id x.flat := by
  cases x <;> simp only [V.kill, V.flat, V.killL]
  case ptr i o => by_cases h : (i == id) = true <;> simp [h]
  case vec i o => by_cases h : (i == id) = true <;> simp [h]
  case eptr i _ _ _ _ => by_cases h : (i == id) = true <;> simp [h]
  case vv i _ _ _ _ => by_cases h : (i == id) = true <;> simp [h]
  case vw i _ _ => by_cases h : (i == id) = true <;> simp [h]
  case map i => by_cases h : (i == id) = true <;> simp [h]
theorem RepC.kill {γ : Gh} {imm : Nat → Prop} {w : World} {x : V} {v : Value} (id : Nat) (h : RepC γ imm w x v) : RepC γ imm w (V.kill id x) v := ⟨h.1.kill id, h.2⟩
theorem BlkOk.kill {γ : Gh} {imm : Nat → Prop} {w : World} {i : Nat} {k : Blk} (id : Nat) (h : BlkOk γ imm w i k) : BlkOk γ imm w i (k.kill id) := by
  cases k with
  | cells cs =>
    obtain ⟨b, arr, t, lo, hi, h1, h2, h3, h4, h5⟩ := h
    refine ⟨b, arr, t, lo, hi, h1, h2, by rw [killL_len]; exact h3, h4, fun i hlt => ?_⟩
    rw [killL_len] at hlt
    rw [killL_getD]
    exact (h5 i hlt).kill id
  | vec sz n f =>
    obtain ⟨h1, h2, h3⟩ := h
    refine ⟨h1, fun i hi => by rw [flat_kill, killL_len]; exact h2 i hi, ?_⟩
    rcases h3 with h3 | ⟨b, cap, arr, t, lo, hi', h3, h4, hc, h5, h6, h7, h8⟩
    · exact .inl h3
    · refine .inr ⟨b, cap, arr, t, lo, hi', h3, h4, hc, h5, h6, h7, fun i j hlt hj => ?_⟩
      rw [flat_kill, killL_getD]
      exact (h8 i j hlt hj).kill id
  | mp d f => exact h
  | tc tt cs =>
    obtain ⟨b, arr, lo, hi, h1, h2, h3, h4, h5⟩ := h
    refine ⟨b, arr, lo, hi, h1, h2, by rw [killL_len]; exact h3, h4, fun i hlt => ?_⟩
    rw [killL_len] at hlt
    rw [killL_getD]
    exact (h5 i hlt).kill id
  | tb t s => exact h
  | mh d f k o =>
    obtain ⟨b, es, clock, h1, h2, h3⟩ := h
    obtain ⟨r1, r2, r3⟩ := h3.rowy.kill id
    exact ⟨b, es, clock, h1, h2, h3.key, r1, h3.keys, h3.apart, h3.at', h3.no, fun e he hk => ⟨(h3.hot e he hk).1.kill id, r2 (h3.hot e he hk).2⟩, fun hi => h3.is' (r3 hi)⟩
theorem Blk.men_kill (id : Nat) (k : Blk) : ¬ (k.kill id).men id := by
  cases k with
  | cells cs => rintro ⟨i, _, h⟩; rw [killL_getD, men_kill_aux] at h; cases h
  | vec sz n f => rintro ⟨i, j, _, h⟩; rw [flat_kill, killL_getD, men_kill_aux] at h; cases h
  | mp d f => exact fun h => h
  | tc tt cs => rintro ⟨i, _, h⟩; rw [killL_getD, men_kill_aux] at h; cases h
  | tb t s => exact fun h => h
  | mh d f k o => intro h; simp only [Blk.kill, Blk.men, men_kill_aux] at h; cases h
def killH (id : Nat) (h : Heap) : Heap := fun j => if j = id then none else (h j).map (Blk.kill id)
theorem Sim.killH {S : Sv} (hs : Sim G S) (A : Nat → Prop) (id : Nat) : Sim G { S with h := Abs.killH id S.h } ∧ Ext A S { S with h := Abs.killH id S.h } := by
  refine hs.weaken A _ fun i k hk => ?_
  simp only [Abs.killH] at hk
  split at hk
  · cases hk
  · obtain ⟨b, hb, rfl⟩ := Option.map_eq_some_iff.1 hk
    exact ⟨by rw [hb]; rfl, (hs.blk i b hb).kill id⟩
def World.grow (w w' : World) : Prop := w'.os = w.os ∧ w'.tape = w.tape ∧ w'.output = w.output ∧ w.heap.size ≤ w'.heap.size ∧ ∀ b, b < w.heap.size → w'.heap[b]? = w.heap[b]?
theorem Sim.grow {S : Sv} (hs : Sim G S) (A : Nat → Prop) (w' : World) (imm' : Nat → Prop) (hg : World.grow S.w w') (h1 : ∀ b, S.imm b → imm' b)
    (h2 : ∀ b, imm' b → S.imm b ∨ (S.w.heap.size ≤ b ∧ b < w'.heap.size)) : Sim G ⟨S.γ, imm', S.h, w'⟩ ∧ Ext A S ⟨S.γ, imm', S.h, w'⟩ := by
  obtain ⟨g1, g2, g3, g4, g5⟩ := hg
  have own' : ∀ b, Sv.own ⟨S.γ, imm', S.h, w'⟩ b → S.own b := fun b h => h
  refine ⟨⟨fun id b hb => ?_, hs.inj, fun b hb => ?_, fun b hb him => ?_, hs.tab.of h1 fun b hb => g5 b (hs.immLt b hb)⟩, ⟨g1, g2, g3, g4, fun b hb _ => g5 b hb, h1, fun b hb => ?_, fun b hb => .inl hb, fun _ _ => .refl _⟩⟩
  · refine (hs.blk id b hb).mono h1 (fun c hc => g5 c (hs.immLt c hc)) (fun c hc => g5 c (hs.ownLt ⟨id, by rw [hb]; rfl, hc⟩)) rfl fun _ _ => .refl _
  · rcases h2 b hb with h | h
    · exact Nat.lt_of_lt_of_le (hs.immLt b h) g4
    · exact h.2
  · rcases h2 b him with h | h
    · exact hs.disj b hb h
    · have := hs.ownLt (S := S) hb; omega
  · rcases h2 b hb with h | h
    · exact .inl h
    · exact .inr (.inr h.1)
end Go.Abs
namespace Go.Abs
open Go
inductive TD where
  | none | int (k : IntKind) | bool | str | slice (e : TypeId) | arr (n : Nat) (e : TypeId) | struct (fs : List (Nat × TypeId)) | ptr (e : TypeId) | map (k e : TypeId) | func | iface | other
def tdOf : TypeDesc → TD
  | .int k => .int k
  | .bool => .bool
  | .string => .str
  | .slice e => .slice e
  | .array n e => .arr n e
  | .struct fs => .struct (fs.toList.map fun f => (f.offset, f.type))
  | .pointer e => .ptr e
  | .map k e => .map k e
  | .func _ _ _ => .func
  | .interface _ => .iface
  | _ => .other
def V.ofV1 : Value → V
  | .int k n => .int k n
  | .bool b => .bool b
  | .string s => .str s.data.toList
  | .slice _ 0 0 => .nilsl
  | v => .con v
def V.ofV : Value → V
  | .agg cs => bif cs.toList.all (·.oneCell') then .agg (cs.toList.map V.ofV1) else .con (.agg cs)
  | v => V.ofV1 v
structure TI where
  d : TD
  size : Nat
  bytes : Nat
  zero : Option V
def ti (P : Program) (t : TypeId) : TI :=
  match P.info? t, P.underlying t with
  | some i, some d => ⟨tdOf d, i.size, i.bytes, i.zero.map V.ofV⟩
  | _, _ => ⟨.none, 0, 0, none⟩
def TI.isAgg (i : TI) : Bool := match i.d with
  | .struct _ => true
  | .arr _ _ => true
  | _ => false
def I64 (n : Int) : Prop := -9223372036854775808 ≤ n ∧ n ≤ 9223372036854775807
theorem I64.mk {n : Int} (h1 : -4611686018427387904 ≤ n) (h2 : n ≤ 4611686018427387904) : I64 n := by unfold I64; omega
def V.strip : V → V
  | .opt _ v => v
  | v => v
def V.gd : V → Prop
  | .opt g _ => g = true
  | _ => True
def V.one : V → Bool
  | .int _ _ | .bool _ | .str _ | .nilsl | .sl _ _ | .ptr _ _ | .eptr _ _ _ _ _ | .iptr _ | .fn _ _ _ | .map _ | .fmp _ _ _ | .vec _ _ | .vw _ _ _ | .vv _ _ _ _ _ => true
  | .con v => v.oneCell'
  | _ => false
def V.isPure : V → Bool
  | .int _ _ | .bool _ | .str _ | .nilsl | .sl _ _ | .con _ | .fmp _ _ _ => true
  | .agg cs => cs.all fun | .int _ _ | .bool _ | .str _ | .nilsl | .sl _ _ | .con _ | .fmp _ _ _ => true | _ => false
  | _ => false
inductive OR where
  | val (p : Prop) (v : V)
  | rd (id : Nat) (p : Prop) (v : V)
  | wr (ids : List Nat) (id : Nat) (p : Prop) (v : V) (b : Blk)
  | new (p : Prop) (v : V) (b : Blk)
  | call (p : Prop) (f : FuncId) (args : List V)
  | bad
def OR.and (g : Prop) : OR → OR
  | .val p v => .val (g ∧ p) v
  | .rd i p v => .rd i (g ∧ p) v
  | .wr l i p v b => .wr l i (g ∧ p) v b
  | .new p v b => .new (g ∧ p) v b
  | .call p f a => .call (g ∧ p) f a
  | .bad => .bad
def ev (e : Env) : Operand → V
  | .tmp t => e t
  | .const v => V.ofV v
  | .global g => .con (.pointer (some ⟨g, 0, none⟩))
  | .func f => .fn (.func f) [] []
def setR (cs : List V) (off : Nat) (new : List V) : List V := cs.take off ++ new ++ cs.drop (off + new.length)
def reV (x : V) (cs : List V) : V := match x with
  | .agg _ => .agg cs
  | _ => cs.getD 0 .any
def insF (f : Nat → V) (k m : Nat) (g : Nat → V) : Nat → V := fun i => bif decide (k ≤ i ∧ i < k + m) then g (i - k) else f i
def appF (n : Nat) (f g : Nat → V) : Nat → V := fun i => bif decide (i < n) then f i else g (i - n)
def setF (f : Nat → V) (i : Nat) (x : V) : Nat → V := fun j => bif decide (j = i) then x else f j
def shF (f : Nat → V) (l : Nat) : Nat → V := fun i => f (i + l)
def byF (s : List UInt8) : Nat → V := fun i => .int .u8 (s.getD i 0).toNat
def V.toByte : V → UInt8
  | .int _ n => UInt8.ofNat n.toNat
  | _ => 0
def bytesOf (n : Nat) (f : Nat → V) : List UInt8 := (List.range n).map fun i => (f i).toByte
def bitsI (op : BinOp) (k : IntKind) (x y : Int) : Int :=
  let a := BitVec.ofInt k.bits x
  let b := BitVec.ofInt k.bits y
  k.wrap (match op with | .and => a &&& b | .or => a ||| b | .xor => a ^^^ b | _ => a &&& ~~~b).toNat
def isI64 : IntKind → Bool
  | .i64 => true
  | _ => false
def vArith (k : IntKind) (n : Int) : OR := match isI64 k with
  | true => .val (I64 n) (.int k n)
  | false => .val True (.int k (k.wrap n))
def vInt (op : BinOp) (k : IntKind) (x y : Int) : OR :=
  match op with
  | .add => vArith k (x + y)
  | .sub => vArith k (x - y)
  | .mul => vArith k (x * y)
  | .quo => match isI64 k with
    | true => .val (0 ≤ x ∧ 0 < y ∧ I64 x) (.int k (x / y))
    | false => .val (0 ≤ x ∧ 0 < y) (.int k (k.wrap (x / y)))
  | .rem => .val (0 ≤ x ∧ 0 < y) (.int k (x % y))
  | .and => .val True (.int k (bitsI .and k x y))
  | .or => .val True (.int k (bitsI .or k x y))
  | .xor => .val True (.int k (bitsI .xor k x y))
  | .andNot => .val True (.int k (bitsI .andNot k x y))
  | .eql => .val True (.bool (x == y))
  | .neq => .val True (.bool (x != y))
  | .lss => .val True (.bool (decide (x < y)))
  | .leq => .val True (.bool (decide (x ≤ y)))
  | .gtr => .val True (.bool (decide (y < x)))
  | .geq => .val True (.bool (decide (y ≤ x)))
  | .shl => .val (0 ≤ y) (.int k (k.wrap (x * 2 ^ min y.toNat k.bits)))
  | .shr => .val (0 ≤ y) (.int k (x.fdiv (2 ^ min y.toNat k.bits)))
def vStr (op : BinOp) (x y : List UInt8) : OR :=
  match op with
  | .add => .val (((x.length + y.length : Nat) : Int) ≤ 4611686018427387904) (.str (x ++ y))
  | .eql => .val True (.bool (x == y))
  | .neq => .val True (.bool (x != y))
  | .lss => .val True (.bool (Op.bytesLess x y))
  | .leq => .val True (.bool (Op.bytesLess x y || x == y))
  | .gtr => .val True (.bool (!(Op.bytesLess x y || x == y)))
  | .geq => .val True (.bool (!Op.bytesLess x y))
  | _ => .bad
def vBool (op : BinOp) (i : TI) (x y : Bool) : OR :=
  match i.d, op with
  | .bool, .eql => .val True (.bool (x == y))
  | .bool, .neq => .val True (.bool (!(x == y)))
  | _, _ => .bad
def eqP : List V → List V → Prop
  | [], [] => True
  | .int k _ :: r, .int k' _ :: s => k = k' ∧ eqP r s
  | .bool _ :: r, .bool _ :: s => eqP r s
  | .str _ :: r, .str _ :: s => eqP r s
  | _, _ => False
def eqB : List V → List V → Bool
  | .int _ x :: r, .int _ y :: s => x == y && eqB r s
  | .bool x :: r, .bool y :: s => x == y && eqB r s
  | .str x :: r, .str y :: s => x == y && eqB r s
  | _, _ => true
def exV : V → Value
  | .int k n => .int k n
  | .bool b => .bool b
  | .str s => .string ⟨s.toArray⟩
  | _ => undef
def zP (P : Program) (t : TypeId) (x : List V) : Prop := match (ti P t).zero with
  | some z => eqP z.flat x
  | none => False
def EqOk (P : Program) (t : TypeId) : Prop := P.eqGuardType P.depth t = false ∧ ∀ cs ds w, zP P t cs → eqP cs ds → (Op.equal t (.agg (cs.map exV).toArray) (.agg (ds.map exV).toArray)).run P w = .ok (eqB cs ds) w
def vAgg (P : Program) (op : BinOp) (t : TypeId) (x y : List V) : OR :=
  match op with
  | .eql => .val (EqOk P t ∧ zP P t x ∧ eqP x y) (.bool (eqB x y))
  | .neq => .val (EqOk P t ∧ zP P t x ∧ eqP x y) (.bool (!eqB x y))
  | _ => .bad
def isSh : BinOp → Bool
  | .shl => true
  | .shr => true
  | _ => false
def vBinI (op : BinOp) (k k' : IntKind) (x y : Int) : Bool → OR
  | true => vInt op k x y
  | false => OR.and (k = k') (vInt op k x y)
def vBin (P : Program) (op : BinOp) (t : TypeId) : V → V → OR
  | .int k x, .int k' y => vBinI op k k' x y (isSh op)
  | .str x, .str y => vStr op x y
  | .bool x, .bool y => vBool op (ti P t) x y
  | .agg x, .agg y => vAgg P op t x y
  | _, _ => .bad
inductive NilK where
  | sl | ptr | no
def nilK : Operand → NilK
  | .const (.slice none _ _) => .sl
  | .const (.pointer none) => .ptr
  | _ => .no
def vNil2 (op : BinOp) (b : Bool) (p : Prop) : OR := match op with
  | .eql => .val p (.bool b)
  | .neq => .val p (.bool (!b))
  | _ => .bad
def vNilS (op : BinOp) : V → OR
  | .con (.slice none _ _) => vNil2 op true True
  | .con (.slice (some _) _ _) => vNil2 op false True
  | .sl n _ => vNil2 op false (0 < n)
  | _ => .bad
def vNilP (op : BinOp) : V → OR
  | .con (.pointer none) => vNil2 op true True
  | .ptr _ _ => vNil2 op false True
  | .iptr _ => vNil2 op false True
  | _ => .bad
def vBinN (P : Program) (op : BinOp) (t : TypeId) : NilK → V → V → OR
  | .no, x, y => vBin P op t x y
  | .sl, x, _ => (match (ti P t).d with
    | .slice _ => vNilS op x
    | _ => .bad)
  | .ptr, x, _ => (match (ti P t).d with
    | .ptr _ => vNilP op x
    | _ => .bad)
def vUn (op : UnOp) : V → OR
  | .bool b => match op with
    | .not => .val True (.bool (!b))
    | _ => .bad
  | .int k n => match op with
    | .neg => vArith k (0 - n)
    | _ => .bad
  | _ => .bad
def vPick (x y : V) : V → OR
  | .bool c => match x.strip, y.strip with
    | .bool a, .bool b => .val ((c = true → x.gd) ∧ (c = false → y.gd)) (.bool (bif c then a else b))
    | _, _ => .bad
  | _ => .bad
def vToInt (k : IntKind) (n : Int) : OR := match isI64 k with
  | true => .val (I64 n) (.int k n)
  | false => .val True (.int k (k.wrap n))
def vConv (P : Program) (h : Heap) (d : Nat) (s t : TypeId) : V → OR
  | .int _ n => match (ti P s).d, (ti P t).d with
    | .int _, .int k => vToInt k n
    | .int _, .str => .val (0 ≤ n ∧ n < 128) (.str [UInt8.ofNat n.toNat])
    | _, _ => .bad
  | .str x => match (ti P s).d, (ti P t).d with
    | .str, .str => .val True (.str x)
    | .str, .slice e => match (ti P e).d with
      | .int .u8 => .new True (.vec d x.length) (.vec 1 x.length (byF x))
      | _ => .bad
    | _, _ => .bad
  | .nilsl => match (ti P s).d, (ti P t).d with
    | .slice e, .str => match (ti P e).d with
      | .int .u8 => .val True (.str [])
      | _ => .bad
    | _, _ => .bad
  | .sl n f => match (ti P s).d, (ti P t).d with
    | .slice e, .str => match (ti P e).d with
      | .int .u8 => .val (∀ i, i < n → ∃ m, f i = .int .u8 m) (.str (bytesOf n f))
      | _ => .bad
    | _, _ => .bad
  | .vec id n => match (ti P s).d, (ti P t).d with
    | .slice e, .str => match (ti P e).d, h id with
      | .int .u8, some (.vec sz m f) => .rd id (m = n ∧ sz = 1 ∧ ∀ i, i < n → ∃ m, f i = .int .u8 m) (.str (bytesOf n f))
      | _, _ => .bad
    | .slice _, .slice e => match (ti P e).d, h id with
      | .int .u8, some (.vec sz m f) => .wr [] id (s = t ∧ m = n ∧ 0 < n ∧ sz = 1) (.vec id n) (.vec sz m f)
      | _, _ => .bad
    | _, _ => .bad
  | .vw id off n => match (ti P s).d, (ti P t).d with
    | .slice e, .str => match (ti P e).d, h id with
      | .int .u8, some (.cells cs) => .rd id (off + n ≤ cs.length ∧ ∀ i, i < n → ∃ m, cs.getD (off + i) .any = .int .u8 m) (.str (bytesOf n fun i => cs.getD (off + i) .any))
      | _, _ => .bad
    | _, _ => .bad
  | _ => .bad
def vIndex (P : Program) (t : TypeId) : V → V → OR
  | .str s, .int _ n => match (ti P t).d with
    | .str => .val (0 ≤ n ∧ n < (s.length : Int)) (.int .u8 (s.getD n.toNat 0).toNat)
    | _ => .bad
  | _, _ => .bad
def vIndexAddr (P : Program) (h : Heap) (t : TypeId) : V → V → OR
  | .sl n f, .int _ i => match (ti P t).d with
    | .slice e => .val (0 ≤ i ∧ i < (n : Int) ∧ (f i.toNat).flat.length = (ti P e).size) (.iptr (f i.toNat).flat)
    | _ => .bad
  | .vec id n, .int _ i => match (ti P t).d, h id with
    | .slice e, some (.vec sz m _) => .rd id (0 ≤ i ∧ i < (n : Int) ∧ m = n ∧ sz = (ti P e).size) (.eptr id n sz i.toNat 0)
    | _, _ => .bad
  | .vv id n sz off k, .int _ i => match (ti P t).d, h id with
    | .slice e, some (.vec sz' m _) => .rd id (0 ≤ i ∧ i < (k : Int) ∧ m = n ∧ sz' = sz ∧ sz = (ti P e).size) (.eptr id n sz (off + i.toNat) 0)
    | _, _ => .bad
  | .ptr id off, .int _ i => match (ti P t).d with
    | .arr len e => .val (0 ≤ i ∧ i < (len : Int) ∧ 0 < (ti P e).size) (.ptr id (off + i.toNat * (ti P e).size))
    | _ => .bad
  | .iptr cs, .int _ i => match (ti P t).d with
    | .arr len e => .val (0 ≤ i ∧ i < (len : Int) ∧ 0 < (ti P e).size ∧ i.toNat * (ti P e).size ≤ cs.length) (.iptr (cs.drop (i.toNat * (ti P e).size)))
    | _ => .bad
  | _, _ => .bad
def fieldOff (i : TI) (f : Nat) : Option (Nat × TypeId) := match i.d with
  | .struct fs => fs[f]?
  | _ => none
def vFieldAddr (P : Program) (h : Heap) (s : TypeId) (f : Nat) (x : V) : OR :=
  match fieldOff (ti P s) f with
  | some (o, ft) => match x with
    | .ptr id off => .val (0 < (ti P ft).size) (.ptr id (off + o))
    | .eptr id n sz i off => match h id with
      | some (.vec _ m _) => .rd id (m = n ∧ 0 < (ti P ft).size) (.eptr id n sz i (off + o))
      | _ => .bad
    | .iptr cs => .val (0 < (ti P ft).size ∧ o ≤ cs.length) (.iptr (cs.drop o))
    | _ => .bad
  | none => .bad
def sub (ag : Bool) (cs : List V) (off n : Nat) : V := bif ag then .agg ((cs.drop off).take n) else cs.getD off .any
def vField (P : Program) (s : TypeId) (f : Nat) : V → OR
  | .agg cs => match fieldOff (ti P s) f with
    | some (o, ft) => .val (o + (ti P ft).size ≤ cs.length ∧ 0 < (ti P ft).size) (sub (ti P ft).isAgg cs o (ti P ft).size)
    | none => .bad
  | _ => .bad
def vLoad (P : Program) (h : Heap) (t : TypeId) : V → OR
  | .ptr id off => match h id with
    | some (.cells cs) => .rd id (off + (ti P t).size ≤ cs.length ∧ 0 < (ti P t).size) (sub (ti P t).isAgg cs off (ti P t).size)
    | _ => .bad
  | .eptr id n sz i off => match h id with
    | some (.vec sz' m f) => .rd id (m = n ∧ sz' = sz ∧ i < n ∧ off + (ti P t).size ≤ sz ∧ 0 < (ti P t).size) (sub (ti P t).isAgg (f i).flat off (ti P t).size)
    | _ => .bad
  | .iptr cs => .val ((ti P t).size ≤ cs.length ∧ 0 < (ti P t).size) (sub (ti P t).isAgg cs 0 (ti P t).size)
  | _ => .bad
def okCells : V → Bool
  | .agg _ => true
  | v => v.one
def vStore (P : Program) (h : Heap) (t : TypeId) (x : V) : V → OR
  | .ptr id off => match h id with
    | some (.cells cs) => .wr [] id (x.flat.length = (ti P t).size ∧ okCells x = true ∧ off + (ti P t).size ≤ cs.length ∧ 0 < (ti P t).size) .any (.cells (setR cs off x.flat))
    | _ => .bad
  | .eptr id n sz i off => match h id with
    | some (.vec sz' m f) => .wr [] id (m = n ∧ sz' = sz ∧ i < n ∧ off + (ti P t).size ≤ sz ∧ x.flat.length = (ti P t).size ∧ okCells x = true ∧ 0 < (ti P t).size)
        .any (.vec sz m (setF f i (reV (f i) (setR (f i).flat off x.flat))))
    | _ => .bad
  | _ => .bad
def vLen (h : Heap) (i : TI) (x : V) : OR := match i.d, x with
  | .str, .str s => .val True (.int .i64 s.length)
  | .slice _, .nilsl => .val True (.int .i64 0)
  | .slice _, .sl n _ => .val True (.int .i64 n)
  | .slice _, .vec id n => match h id with
    | some (.vec _ m _) => .rd id (m = n) (.int .i64 n)
    | _ => .bad
  | .slice _, .vv id n _ _ k => match h id with
    | some (.vec _ m _) => .rd id (m = n) (.int .i64 k)
    | _ => .bad
  | _, _ => .bad
def vMin (a b : V) : OR := match a, b with
  | .int k x, .int k' y => .val (k = k') (.int k (min x y))
  | _, _ => .bad
def vMax (a b : V) : OR := match a, b with
  | .int k x, .int k' y => .val (k = k') (.int k (max x y))
  | _, _ => .bad
def zok (i : TI) : Prop := match i.zero with
  | some z => z.flat.length = i.size ∧ okCells z = true
  | none => False
def vSrc (h : Heap) (sz : Nat) : V → Option (List Nat × Nat × (Nat → V) × Prop)
  | .nilsl => some ([], 0, (fun _ => .any), True)
  | .con (.slice _ 0 _) => some ([], 0, (fun _ => .any), True)
  | .str s => some ([], s.length, byF s, sz = 1)
  | .sl n f => some ([], n, f, ∀ i, i < n → (f i).flat.length = sz)
  | .vec id n => match h id with
    | some (.vec sz' m f) => some ([id], n, f, m = n ∧ sz' = sz)
    | _ => none
  | .vv id n s off k => match h id with
    | some (.vec sz' m f) => some ([id], k, shF f off, m = n ∧ sz' = sz ∧ s = sz)
    | _ => none
  | _ => none
def srcT : TD → Bool
  | .slice _ => true
  | .str => true
  | _ => false
def vAppend (P : Program) (h : Heap) (d : Nat) (t u : TypeId) (s x : V) : OR :=
  match (ti P t).d, srcT (ti P u).d with
  | .slice e, true => match vSrc h (ti P e).size x with
    | some (ids, m, g, p) => match s with
      | .nilsl => match ids with
        | [] => .new (p ∧ zok (ti P e) ∧ 0 < (ti P e).size ∧ m * (ti P e).bytes ≤ 140737488355328 ∧ m ≤ 4611686018427387904) (.vec d m) (.vec (ti P e).size m g)
        | _ => .bad
      | .vec id n => match h id with
        | some (.vec sz n' f) => .wr ids id (p ∧ zok (ti P e) ∧ 0 < (ti P e).size ∧ n' = n ∧ sz = (ti P e).size ∧ (n + m) * (ti P e).bytes ≤ 140737488355328 ∧ n + m ≤ 4611686018427387904)
            (.vec id (n + m)) (.vec sz (n + m) (appF n f g))
        | _ => .bad
      | .vv id n s off k => match h id with
        | some (.vec sz n' f) => .wr ids id (p ∧ 0 < (ti P e).size ∧ n' = n ∧ sz = (ti P e).size ∧ s = sz ∧ off = 0 ∧ k + m ≤ n) (.vv id n sz 0 (k + m)) (.vec sz n (insF f k m g))
        | _ => .bad
      | _ => .bad
    | none => .bad
  | _, _ => .bad
def bnd (len : Nat) : Option V → Int → Option (Prop × Int)
  | none, dflt => some (True, dflt)
  | some (.int _ i), _ => some (0 ≤ i ∧ i ≤ (len : Int), i)
  | _, _ => none
def vSlice (P : Program) (H : Heap) (t : TypeId) (x : V) (lo hi mx : Option V) : OR :=
  match x with
  | .str s => match (ti P t).d, bnd s.length hi s.length, bnd s.length lo 0, mx with
    | .str, some (ph, h), some (pl, l), none => .val (ph ∧ pl ∧ l ≤ h) (.str ((s.drop l.toNat).take (h.toNat - l.toNat)))
    | _, _, _, _ => .bad
  | .sl n f => match (ti P t).d, mx with
    | .slice e, none => match bnd n hi n, bnd n lo 0 with
      | some (ph, h), some (pl, l) => .val (ph ∧ pl ∧ l ≤ h ∧ (0 < n → (f 0).flat.length = (ti P e).size) ∧ 0 < (ti P e).size) (.sl (h.toNat - l.toNat) (shF f l.toNat))
      | _, _ => .bad
    | .slice e, some m => match hi with
      | some hh => match bnd n (some m) 0, bnd n (some hh) n, bnd n lo 0 with
        | some (pm, m), some (ph, h), some (pl, l) => .val (pm ∧ ph ∧ pl ∧ h ≤ m ∧ l ≤ h ∧ (0 < n → (f 0).flat.length = (ti P e).size) ∧ 0 < (ti P e).size) (bif decide (m = l) then .nilsl else .sl (h.toNat - l.toNat) (shF f l.toNat))
        | _, _, _ => .bad
      | none => .bad
    | _, _ => .bad
  | .ptr id off => match (ti P t).d, mx with
    | .arr len e, none => match bnd len hi len, bnd len lo 0 with
      | some (ph, h), some (pl, l) => .val (ph ∧ pl ∧ l ≤ h ∧ (ti P e).size = 1) (.vw id (off + l.toNat) (h.toNat - l.toNat))
      | _, _ => .bad
    | _, _ => .bad
  | .vec id n => match (ti P t).d, H id, mx with
    | .slice e, some (.vec sz m _), none => match bnd n hi n, bnd n lo 0 with
      | some (ph, h), some (pl, l) => .rd id (ph ∧ pl ∧ l ≤ h ∧ m = n ∧ sz = (ti P e).size ∧ 0 < (ti P e).size) (.vv id n sz l.toNat (h.toNat - l.toNat))
      | _, _ => .bad
    | .slice e, some (.vec _ m _), some mm => match hi with
      | some hh => match bnd n (some mm) 0, bnd n (some hh) n, bnd n lo 0 with
        | some (pm, mx), some (ph, h), some (pl, l) => .rd id (pm ∧ ph ∧ pl ∧ h ≤ mx ∧ l ≤ h ∧ m = n ∧ 0 < (ti P e).size) .any
        | _, _, _ => .bad
      | none => .bad
    | _, _, _ => .bad
  | .vv id n s off k => match (ti P t).d, H id, mx with
    | .slice e, some (.vec sz m _), none => match bnd (n - off) hi k, bnd (n - off) lo 0 with
      | some (ph, h), some (pl, l) => .rd id (ph ∧ pl ∧ l ≤ h ∧ m = n ∧ s = sz ∧ sz = (ti P e).size ∧ 0 < (ti P e).size) (.vv id n sz (off + l.toNat) (h.toNat - l.toNat))
      | _, _ => .bad
    | _, _, _ => .bad
  | _ => .bad
def vMake (P : Program) (d : Nat) (t : TypeId) : V → V → OR
  | .int _ n, .int _ c => match (ti P t).d with
    | .slice e => match (ti P e).zero with
      | some z => .new (n = c ∧ 0 ≤ n ∧ n * ((ti P e).bytes : Int) ≤ 140737488355328 ∧ n ≤ 4611686018427387904 ∧ 0 < (ti P e).size ∧ z.flat.length = (ti P e).size ∧ okCells z = true) (.vec d n.toNat) (.vec (ti P e).size n.toNat (fun _ => z))
      | none => .bad
    | _ => .bad
  | _, _ => .bad
def vAlloc (P : Program) (d : Nat) (t : TypeId) : OR :=
  match (ti P t).zero with
  | some z => .new (okCells z = true) (.ptr d 0) (.cells z.flat)
  | none => .bad
def vAllocT (P : Program) (d : Nat) (t : TypeId) : OR :=
  .new ((P.info? t).bind (fun i => i.zero) = some (.agg #[.pointer none, .slice none 0 0])) (.ptr d 0) (.tc t [.con (.pointer none), .con (.slice none 0 0)])
def vBox (d : Nat) (x : V) : OR := .new (okCells x = true) (.ptr d 0) (.cells x.flat)
def buildS (P : Program) (fs : List (Nat × TypeId)) : List (Nat × V) → List V → Prop × List V
  | [], cs => (True, cs)
  | (i, x) :: r, cs => match fs[i]? with
    | some (o, t) => let q := buildS P fs r (setR cs o x.flat)
      (x.flat.length = (ti P t).size ∧ o + x.flat.length ≤ cs.length ∧ okCells x = true ∧ q.1, q.2)
    | none => (False, cs)
def sizedL (P : Program) : List (Nat × TypeId) → Prop
  | [] => True
  | (_, t) :: r => 0 < (ti P t).size ∧ sizedL P r
def arrFs (s : Nat) (e : TypeId) : Nat → Nat → List (Nat × TypeId)
  | _, 0 => []
  | o, n + 1 => (o, e) :: arrFs s e (o + s) n
def vBuild (P : Program) (t : TypeId) (parts : List (Nat × V)) : OR :=
  match (ti P t).d, (ti P t).zero with
  | .struct fs, some (.agg z) => .val (sizedL P fs ∧ (buildS P fs parts z).1) (.agg (buildS P fs parts z).2)
  | .arr n e, some (.agg z) => .val (0 < (ti P e).size ∧ (buildS P (arrFs (ti P e).size e 0 n) parts z).1) (.agg (buildS P (arrFs (ti P e).size e 0 n) parts z).2)
  | _, _ => .bad
def inOrder : Nat → List (Nat × V) → Bool
  | _, [] => true
  | n, (i, _) :: r => n == i && inOrder (n + 1) r
def litF (l : List V) : Nat → V := fun i => l.getD i .any
def vBuildSlice (P : Program) (ow : Bool) (d : Nat) (t : TypeId) (len : Nat) (parts : List (Nat × V)) : OR :=
  match (ti P t).d with
  | .slice e => match inOrder 0 parts with
    | true => bif ow then
        .new (len = parts.length ∧ 0 < (ti P e).size ∧ len * (ti P e).size ≤ 16777216 ∧ (ti P e).zero.isSome = true ∧ ∀ x ∈ parts.map Prod.snd, x.flat.length = (ti P e).size ∧ okCells x = true) (.vec d len) (.vec (ti P e).size len (litF (parts.map Prod.snd)))
      else .val (len = parts.length ∧ 0 < (ti P e).size ∧ len * (ti P e).size ≤ 16777216 ∧ (ti P e).zero.isSome = true ∧ ∀ x ∈ parts.map Prod.snd, x.flat.length = (ti P e).size ∧ okCells x = true ∧ x.isPure = true) (.sl len (litF (parts.map Prod.snd)))
    | false => .bad
  | _ => .bad
def vNil (h : Heap) : V → OR
  | .ptr i o => .val True (.ptr i o)
  | .eptr id n sz i o => match h id with
    | some (.vec _ m _) => .rd id (m = n) (.eptr id n sz i o)
    | _ => .bad
  | .iptr cs => .val True (.iptr cs)
  | .fn f a b => match f with
    | .func _ => .val True (.fn f a b)
    | _ => .bad
  | _ => .bad
def vExtract (i : Nat) : V → OR
  | .tup vs => .val (i < vs.length) (vs.getD i .any)
  | _ => .bad
def vCallV (args : List V) : V → OR
  | .fn (.func f) a c => .call True f (a ++ args ++ c)
  | _ => .bad
def gdL : List V → Prop
  | [] => True
  | v :: r => v.gd ∧ gdL r
def vClear (P : Program) (h : Heap) (t : TypeId) : V → OR
  | .vv id n s off k => match (ti P t).d, h id with
    | .slice e, some (.vec sz m f) => match (ti P e).zero with
      | some z => .wr [] id (m = n ∧ s = sz ∧ sz = (ti P e).size ∧ 0 < (ti P e).size ∧ z.flat.length = (ti P e).size ∧ okCells z = true) .any (.vec sz n (insF f off k fun _ => z))
      | none => .bad
    | _, _ => .bad
  | _ => .bad
def vCall (P : Program) (h : Heap) (d : Nat) (ts : Array TypeId) (args : List V) : Builtin → OR
  | .len => match ts.toList, args with
    | [t], [a] => vLen h (ti P t) a
    | _, _ => .bad
  | .min => match args with
    | [a, b] => vMin a b
    | _ => .bad
  | .max => match args with
    | [a, b] => vMax a b
    | _ => .bad
  | .clear => match ts.toList, args with
    | [t], [a] => vClear P h t a
    | _, _ => .bad
  | .append => match ts.toList, args with
    | [t, u], [s, x] => vAppend P h d t u s x
    | _, _ => .bad
  | _ => .bad
def SsK (P : Program) (k : TypeId) : Prop := WideMaps.KeyLaw P k ∧ ∀ a b : List UInt8, a.length ≤ 140737488355328 → b.length ≤ 140737488355328 → ∃ l, keyOf P k (MK.ss a b).val = some l
def IiK (P : Program) (k : TypeId) : Prop := WideMaps.KeyLaw P k ∧ ∀ a b : Int, MD.has .ii (.ii a b) → ∃ l, keyOf P k (MK.ii a b).val = some l
def isII : Option V → Bool
  | some (.agg [.int .i64 _, .int .i64 _]) => true
  | _ => false
def mkOf (P : Program) (t : TypeId) (i : TD) : V → Option (Prop × MD × MK)
  | .str s => match i with
    | .str => some (True, .str, .str s)
    | _ => none
  | .int q n => match i with
    | .int k => some (q = k, .int k, .int q n)
    | _ => none
  | .agg [.str a, .str b] => match i with
    | .struct _ => some (SsK P t ∧ a.length ≤ 140737488355328 ∧ b.length ≤ 140737488355328, .ss, .ss a b)
    | _ => none
  | .agg [.int .i64 a, .int .i64 b] => match i with
    | .struct _ => some (IiK P t ∧ (-9223372036854775808 ≤ a ∧ a ≤ 9223372036854775807) ∧ -9223372036854775808 ≤ b ∧ b ≤ 9223372036854775807, .ii, .ii a b)
    | _ => none
  | _ => none
def asB (z : Bool) : Option V → Bool
  | some (.bool b) => b
  | _ => z
def asS (z : List UInt8) : Option V → List UInt8
  | some (.str b) => b
  | _ => z
def asI (z : Int) : Option V → Int
  | some (.int _ n) => n
  | _ => z
def okB : Option V → Prop
  | some (.bool _) => True
  | none => True
  | _ => False
def okS : Option V → Prop
  | some (.str _) => True
  | none => True
  | _ => False
def okI (k : IntKind) : Option V → Prop
  | some (.int q _) => q = k
  | none => True
  | _ => False
def asN : Option V → Nat
  | some (.sl n _) => n
  | _ => 0
def asF : Option V → Nat → V
  | some (.sl _ f) => f
  | _ => fun _ => .any
def okL : Option V → Prop
  | some (.sl _ _) => True
  | none => True
  | _ => False
def getM (z : V) (o : Option V) : Option (Prop × V) := match z with
  | .bool z => some (okB o, .bool (asB z o))
  | .str z => some (okS o, .str (asS z o))
  | .int k z => some (okI k o, .int k (asI z o))
  | .nilsl => some (okL o, .sl (asN o) (asF o))
  | _ => match o with
    | some v => some (True, v)
    | none => none
def putM (f : MK → Option V) (l : MK) (v : V) : MK → Option V := fun j => bif decide (j = l) then some v else f j
def vMakeMap (P : Program) (d : Nat) (t : TypeId) : OR := match (ti P t).d with
  | .map k _ => match (ti P k).d with
    | .str => .new True (.map d) (.mp .str fun _ => none)
    | .int q => .new True (.map d) (.mp (.int q) fun _ => none)
    | .struct _ => bif isII (ti P k).zero then .new True (.map d) (.mp .ii fun _ => none) else .new True (.map d) (.mp .ss fun _ => none)
    | _ => .bad
  | _ => .bad
def vLookup (P : Program) (h : Heap) (t : TypeId) (ok : Bool) (x : V) : V → OR
  | .map id => match (ti P t).d, h id with
    | .map k e, some (.mp d f) => match mkOf P k (ti P k).d x, (ti P e).zero with
      | some (p, d', l), some z => match getM z (f l) with
        | some (q, v) => .rd id (p ∧ d = d' ∧ q) (bif ok then .tup [v, .bool (f l).isSome] else v)
        | none => .bad
      | _, _ => .bad
    | .map k e, some (.mh d _ k0 o) => match mkOf P k (ti P k).d x, (ti P e).zero with
      | some (p, d', l), some .nilsl => .rd id (p ∧ d = d' ∧ l = k0 ∧ ok = false ∧ o ≠ .any) o
      | _, _ => .bad
    | _, _ => .bad
  | .fmp d f g => match (ti P t).d with
    | .map k _ => match mkOf P k (ti P k).d x with
      | some (p, d', l) => .val (p ∧ d = d' ∧ f l = true) (bif ok then .tup [g l, .bool true] else g l)
      | none => .bad
    | _ => .bad
  | _ => .bad
def vMapUpd (P : Program) (h : Heap) (t : TypeId) (x v : V) : V → OR
  | .map id => match (ti P t).d, h id with
    | .map k _, some (.mp d f) => match mkOf P k (ti P k).d x with
      | some (p, d', l) => .wr [] id (p ∧ d = d' ∧ v.isPure = true) .any (.mp d (putM f l v))
      | none => .bad
    | .map k _, some (.mh d f k0 _) => match mkOf P k (ti P k).d x, v with
      | some (p, d', l), .vec i n => .wr [] id (p ∧ d = d' ∧ l = k0) .any (.mh d f k0 (.vec i n))
      | _, _ => .bad
    | _, _ => .bad
  | _ => .bad
def opO (P : Program) (ow : Nat → Bool) (d : Nat) (h : Heap) (e : Env) : Op → OR
  | .move x => .val (ev e x).gd (ev e x).strip
  | .assign x => .val (ev e x).gd (ev e x).strip
  | .pick c a b => OR.and (ev e c).gd (vPick (ev e a) (ev e b) (ev e c).strip)
  | .alloc t => (bif ow (d + 30000) then vAllocT P d t else vAlloc P d t)
  | .box _ x => OR.and (ev e x).gd (vBox d (ev e x).strip)
  | .build t ps => OR.and (gdL (ps.toList.map fun p => ev e p.2)) (vBuild P t (ps.toList.map fun p => (p.1, (ev e p.2).strip)))
  | .buildSlice t n ps => OR.and (gdL (ps.toList.map fun p => ev e p.2)) (vBuildSlice P (ow d) d t n (ps.toList.map fun p => (p.1, (ev e p.2).strip)))
  | .load t a => OR.and (ev e a).gd (vLoad P h t (ev e a).strip)
  | .store t a x => OR.and ((ev e a).gd ∧ (ev e x).gd) (vStore P h t (ev e x).strip (ev e a).strip)
  | .nilCheck x => OR.and (ev e x).gd (vNil h (ev e x).strip)
  | .binOp op t x y _ => OR.and ((ev e x).gd ∧ (ev e y).gd) (vBinN P op t (nilK y) (ev e x).strip (ev e y).strip)
  | .unOp op _ x => OR.and (ev e x).gd (vUn op (ev e x).strip)
  | .convert s t x => OR.and (ev e x).gd (vConv P h d s t (ev e x).strip)
  | .makeInterface _ _ => .bad
  | .makeFunc f a c => .val (gdL (a.toList.map (ev e)) ∧ gdL (c.toList.map (ev e))) (.fn f (a.toList.map fun x => (ev e x).strip) (c.toList.map fun x => (ev e x).strip))
  | .makeSlice t l c => OR.and ((ev e l).gd ∧ (ev e c).gd) (vMake P d t (ev e l).strip (ev e c).strip)
  | .slice t x lo hi mx => OR.and ((ev e x).gd ∧ gdL ((lo.toList ++ hi.toList ++ mx.toList).map (ev e))) (vSlice P h t (ev e x).strip (lo.map fun o => (ev e o).strip) (hi.map fun o => (ev e o).strip) (mx.map fun o => (ev e o).strip))
  | .fieldAddr s x f => OR.and (ev e x).gd (vFieldAddr P h s f (ev e x).strip)
  | .field s x f => OR.and (ev e x).gd (vField P s f (ev e x).strip)
  | .indexAddr t x i => OR.and ((ev e x).gd ∧ (ev e i).gd) (vIndexAddr P h t (ev e x).strip (ev e i).strip)
  | .index t x i => OR.and ((ev e x).gd ∧ (ev e i).gd) (vIndex P t (ev e x).strip (ev e i).strip)
  | .extract x i => OR.and (ev e x).gd (vExtract i (ev e x).strip)
  | .makeMap t none => vMakeMap P d t
  | .lookup t m x ok => OR.and ((ev e m).gd ∧ (ev e x).gd) (vLookup P h t ok (ev e x).strip (ev e m).strip)
  | .mapUpdate t m x v => OR.and (((ev e m).gd ∧ (ev e x).gd) ∧ (ev e v).gd) (vMapUpd P h t (ev e x).strip (ev e v).strip (ev e m).strip)
  | .call c => match c.callee with
    | .value f => OR.and (gdL (c.args.toList.map (ev e)) ∧ (ev e f).gd) (vCallV (c.args.toList.map fun x => (ev e x).strip) (ev e f).strip)
    | .builtin b => OR.and (gdL (c.args.toList.map (ev e))) (vCall P h d c.argTypes (c.args.toList.map fun x => (ev e x).strip) b)
    | .invoke _ _ => .bad
  | _ => .bad
end Go.Abs
namespace Go.Abs
open Go
variable {G : PG}
def runs {P : Program} (s : Sem Next) (w : World) (u : Value) (w' : World) : Prop :=
  s.run P w = .ok (.value u) w' ∨ (s.run P w = .ok .skip w' ∧ u = undef)
def OkO (G : PG) (P : Program) (d : Nat) (S : Sv) (s : Sem Next) : OR → Prop
  | .val p v | .rd _ p v => p → ∃ u w' imm', runs (P := P) s S.w u w' ∧ Sim G ⟨S.γ, imm', S.h, w'⟩ ∧ Ext (fun _ => False) S ⟨S.γ, imm', S.h, w'⟩ ∧ RepV S.γ imm' w' v u
  | .wr _ id p v b => p → ∃ u w' γ', runs (P := P) s S.w u w' ∧ Sim G ⟨γ', S.imm, upd S.h id (some b), w'⟩ ∧ Ext (fun _ => False) S ⟨γ', S.imm, upd S.h id (some b), w'⟩ ∧ RepV γ' S.imm w' v u
  | .new p v b => p → ∃ u w' val, runs (P := P) s S.w u w' ∧ Sim G ⟨upd S.γ d val, S.imm, upd (killH d S.h) d (some (b.kill d)), w'⟩ ∧
      Ext (· = d) S ⟨upd S.γ d val, S.imm, upd (killH d S.h) d (some (b.kill d)), w'⟩ ∧ RepV (upd S.γ d val) S.imm w' v u
  | .call p f args => p → ∃ vals : List Value, s.run P S.w = (callFunc f vals.toArray).run P S.w ∧ vals.length = args.length ∧ ∀ i, i < args.length → S.rep (args.getD i .any) (vals.getD i undef)
  | .bad => True
variable {P : Program} {d : Nat} {S : Sv} {s : Sem Next}
theorem OkO.and {r : OR} {g : Prop} (h : g → OkO G P d S s r) : OkO G P d S s (OR.and g r) := by
  cases r <;> simp only [OR.and, OkO] at h ⊢
  all_goals first
    | exact fun ⟨hg, hp⟩ => h hg hp
    | trivial
theorem OkO.still (hs : Sim G S) {p : Prop} {v : V} (h : p → ∃ u, s.run P S.w = .ok (.value u) S.w ∧ S.rep v u) : OkO G P d S s (.val p v) := by
  intro hp
  obtain ⟨u, h1, h2⟩ := h hp
  exact ⟨u, S.w, S.imm, .inl h1, hs, Ext.refl _ _, h2⟩
theorem OkO.stillRd (hs : Sim G S) {i : Nat} {p : Prop} {v : V} (h : p → ∃ u, s.run P S.w = .ok (.value u) S.w ∧ S.rep v u) : OkO G P d S s (.rd i p v) :=
  OkO.still (d := d) hs h
section inv
variable {v : Value}
theorem inv_int {k n} (h : S.rep (.int k n) v) : v = .int k n := by cases h with | pure h => cases h; rfl
theorem inv_bool {b} (h : S.rep (.bool b) v) : v = .bool b := by cases h with | pure h => cases h; rfl
theorem inv_str {s} (h : S.rep (.str s) v) : v = .string ⟨s.toArray⟩ := by cases h with | pure h => cases h; rfl
theorem inv_con {x} (h : S.rep (.con x) v) : v = x := by cases h with | pure h => cases h; rfl
theorem inv_nil (h : S.rep .nilsl v) : ∃ a, v = .slice a 0 0 := by cases h with | pure h => cases h; exact ⟨_, rfl⟩
theorem inv_sl {n f} (h : S.rep (.sl n f) v) : RepP S.imm S.w (.sl n f) v := by cases h with | pure h => exact h
theorem inv_agg {cs} (h : S.rep (.agg cs) v) : ∃ vs : List Value, v = .agg vs.toArray ∧ vs.length = cs.length ∧ (∀ i, i < cs.length → S.rep (cs.getD i .any) (vs.getD i undef)) ∧ ∀ i, i < cs.length → one (vs.getD i undef) := by
  cases h with
  | pure h => cases h with | agg _ vs h1 h2 h3 => exact ⟨vs, rfl, h1, fun i hi => .pure (h2 i hi), h3⟩
  | agg _ vs h1 h2 h3 => exact ⟨vs, rfl, h1, h2, h3⟩
theorem inv_tup {cs} (h : S.rep (.tup cs) v) : ∃ vs : List Value, v = .tuple vs.toArray ∧ vs.length = cs.length ∧ (∀ i, i < cs.length → S.rep (cs.getD i .any) (vs.getD i undef)) := by
  cases h with
  | pure h => cases h
  | tup _ vs h1 h2 => exact ⟨vs, rfl, h1, h2⟩
theorem inv_ptr {id off} (h : S.rep (.ptr id off) v) : ∃ b, S.γ id = .pointer (some ⟨b, 0, none⟩) ∧ v = .pointer (some ⟨b, off, none⟩) := by
  cases h with
  | pure h => cases h
  | ptr _ _ b h => exact ⟨b, h, rfl⟩
theorem inv_iptr {cs} (h : S.rep (.iptr cs) v) : ∃ b off, ∃ u : Nat → Value, v = .pointer (some ⟨b, off, none⟩) ∧ S.imm b ∧ (∀ j, j < cs.length → S.w.cell? ⟨b, off + j, none⟩ = some (u j)) ∧ (∀ j, j < cs.length → Abs.one (u j)) ∧
    (∀ j, j < cs.length → RepP S.imm S.w (cs.getD j .any) (u j)) := by
  cases h with
  | pure h => cases h
  | iptr _ b off u h1 h2 h3 h4 => exact ⟨b, off, u, rfl, h1, h2, h3, h4⟩
theorem inv_vec {id n} (h : S.rep (.vec id n) v) : ∃ a m c, S.γ id = .slice a m c ∧ n ≤ m ∧ (n = m → v = S.γ id) := by
  cases h with
  | pure h => cases h
  | vec _ _ _ a m c h1 h2 h3 _ => exact ⟨a, m, c, h1, h2, h3⟩
theorem inv_eptr {id n sz i off} (h : S.rep (.eptr id n sz i off) v) : ∃ a m c, S.γ id = .slice a m c ∧ n ≤ m ∧ (n = m → ∃ b, a = some ⟨b, 0, none⟩ ∧ v = .pointer (some ⟨b, i * sz + off, none⟩)) := by
  cases h with
  | pure h => cases h
  | eptr _ _ _ _ _ _ a m c h1 h2 h3 _ => exact ⟨a, m, c, h1, h2, h3⟩
theorem inv_vv {id n sz off k} (h : S.rep (.vv id n sz off k) v) : ∃ a m c, S.γ id = .slice a m c ∧ n ≤ m ∧ (n = m → off + k ≤ n ∧ ∃ A, v = .slice A k (c - off) ∧ (off < c → ∃ b, a = some ⟨b, 0, none⟩ ∧ A = some ⟨b, off * sz, none⟩)) := by
  cases h with
  | pure h => cases h
  | vv _ _ _ _ _ _ a m c h1 h2 h3 _ => exact ⟨a, m, c, h1, h2, h3⟩
theorem inv_vw {id off n} (h : S.rep (.vw id off n) v) : ∃ b a c, S.γ id = .pointer (some ⟨b, 0, none⟩) ∧ v = .slice (some a) n c ∧ n ≤ c ∧ (0 < n → a = ⟨b, off, none⟩) := by
  cases h with
  | pure h => cases h
  | vw _ _ _ b a c h1 h2 h3 => exact ⟨b, a, c, h1, rfl, h2, h3⟩
theorem inv_fn {f x y} (h : S.rep (.fn f x y) v) : ∃ p q : List Value, v = .func f p.toArray q.toArray ∧ p.length = x.length ∧ q.length = y.length ∧ (∀ i, i < x.length → S.rep (x.getD i .any) (p.getD i undef)) ∧
    (∀ i, i < y.length → S.rep (y.getD i .any) (q.getD i undef)) := by
  cases h with
  | pure h => cases h
  | fn _ _ _ p q h1 h2 h3 h4 => exact ⟨p, q, rfl, h1, h2, h3, h4⟩
theorem inv_opt {g x} (h : S.rep (.opt g x) v) : (g = true → S.rep x v) ∧ (g = false → v = undef) := by
  cases h with
  | pure h => cases h
  | opt _ _ _ h1 h2 => exact ⟨h1, h2⟩
end inv
theorem rep_strip {x : V} {v : Value} (h : S.rep x v) (hg : x.gd) : S.rep x.strip v := by
  cases x <;> first
    | exact h
    | exact (inv_opt h).1 hg
theorem ofV1_rep (imm w) (v : Value) : RepP imm w (V.ofV1 v) v := by
  unfold V.ofV1
  split
  · exact .int _ _
  · exact .bool _
  · rename_i s
    have := RepP.str (imm := imm) (w := w) s.data.toList
    simpa using this
  · exact .nilsl _
  · exact .con _
theorem ofV_rep (imm w) (v : Value) : RepP imm w (V.ofV v) v := by
  unfold V.ofV
  split
  · rename_i cs
    cases h : cs.toList.all (·.oneCell') with
    | false => exact .con _
    | true =>
      simp only [cond_true]
      have := RepP.agg (imm := imm) (w := w) (cs.toList.map V.ofV1) cs.toList (by simp) (fun i hi => ?_) (fun i hi => ?_)
      · simpa using this
      · simp only [List.length_map] at hi
        rw [List.getD_eq_getElem?_getD, List.getD_eq_getElem?_getD]
        simp only [List.getElem?_map, List.getElem?_eq_getElem hi, Option.map_some, Option.getD_some]
        exact ofV1_rep _ _ _
      · simp only [List.length_map] at hi
        rw [List.getD_eq_getElem?_getD]
        simp only [List.getElem?_eq_getElem hi, Option.getD_some]
        rw [List.all_eq_true] at h
        exact h _ (List.getElem_mem hi)
  · exact ofV1_rep _ _ _
def RepE (S : Sv) (e : Env) (tmps : Array Value) : Prop := ∀ t, S.rep (e t) (tmps.getD t undef)
theorem rep_ev {e : Env} {a : Act} (h : RepE S e a.tmps) (x : Operand) : S.rep (ev e x) (a.eval x) := by
  cases x with
  | tmp t => exact h t
  | const v => exact .pure (ofV_rep _ _ _)
  | global g => exact .pure (.con _)
  | func f =>
    exact RepV.fn (.func f) [] [] [] [] rfl rfl (fun i h => by simp at h) (fun i h => by simp at h)
theorem ti_some {t : TypeId} (h : (ti P t).d ≠ .none) : ∃ i dsc, P.info? t = some i ∧ P.underlying t = some dsc ∧ ti P t = ⟨tdOf dsc, i.size, i.bytes, i.zero.map V.ofV⟩ := by
  unfold ti at h ⊢
  cases h1 : P.info? t <;> cases h2 : P.underlying t <;> simp_all
theorem ti_d {t : TypeId} {x : TD} (h : (ti P t).d = x) (hx : x ≠ .none) : ∃ i dsc, P.info? t = some i ∧ P.underlying t = some dsc ∧ tdOf dsc = x ∧ (ti P t).size = i.size ∧ (ti P t).bytes = i.bytes ∧ (ti P t).zero = i.zero.map V.ofV := by
  obtain ⟨i, dsc, h1, h2, h3⟩ := ti_some (P := P) (t := t) (by rw [h]; exact hx)
  exact ⟨i, dsc, h1, h2, by rw [← h, h3], by rw [h3], by rw [h3], by rw [h3]⟩
theorem ti_size {t : TypeId} (h : 0 < (ti P t).size) : ∃ i, P.info? t = some i ∧ (ti P t).size = i.size := by
  unfold ti at h ⊢
  cases h1 : P.info? t <;> cases h2 : P.underlying t <;> simp_all
theorem tdOf_slice {dsc e} (h : tdOf dsc = .slice e) : dsc = .slice e := by cases dsc <;> simp_all [tdOf]
theorem tdOf_int {dsc k} (h : tdOf dsc = .int k) : dsc = .int k := by cases dsc <;> simp_all [tdOf]
theorem tdOf_str {dsc} (h : tdOf dsc = .str) : dsc = .string := by cases dsc <;> simp_all [tdOf]
theorem tdOf_bool {dsc} (h : tdOf dsc = .bool) : dsc = .bool := by cases dsc <;> simp_all [tdOf]
theorem tdOf_arr {dsc n e} (h : tdOf dsc = .arr n e) : dsc = .array n e := by cases dsc <;> simp_all [tdOf]
theorem und_slice {t e : TypeId} (h : (ti P t).d = .slice e) : P.underlying t = some (.slice e) := by
  obtain ⟨i, dsc, _, h2, h3, _⟩ := ti_d h (by simp)
  rw [h2, tdOf_slice h3]
theorem und_int {t : TypeId} {k} (h : (ti P t).d = .int k) : P.underlying t = some (.int k) := by
  obtain ⟨i, dsc, _, h2, h3, _⟩ := ti_d h (by simp)
  rw [h2, tdOf_int h3]
theorem und_str {t : TypeId} (h : (ti P t).d = .str) : P.underlying t = some .string := by
  obtain ⟨i, dsc, _, h2, h3, _⟩ := ti_d h (by simp)
  rw [h2, tdOf_str h3]
theorem und_bool {t : TypeId} (h : (ti P t).d = .bool) : P.underlying t = some .bool := by
  obtain ⟨i, dsc, _, h2, h3, _⟩ := ti_d h (by simp)
  rw [h2, tdOf_bool h3]
theorem und_arr {t : TypeId} {n e} (h : (ti P t).d = .arr n e) : P.underlying t = some (.array n e) := by
  obtain ⟨i, dsc, _, h2, h3, _⟩ := ti_d h (by simp)
  rw [h2, tdOf_arr h3]
theorem und_struct {t : TypeId} {fs} (h : (ti P t).d = .struct fs) : ∃ gs, P.underlying t = some (.struct gs) ∧ fs = gs.toList.map fun f => (f.offset, f.type) := by
  obtain ⟨i, dsc, _, h2, h3, _⟩ := ti_d h (by simp)
  cases dsc <;> simp_all [tdOf]
theorem run_und {t : TypeId} {dsc : TypeDesc} (h : P.underlying t = some dsc) (w : World) : (underlying t).run P w = .ok dsc w := run_underlying h w
theorem run_info {t : TypeId} {i : TypeInfo} (h : P.info? t = some i) (w : World) : (typeInfo t).run P w = .ok i w := by simp [typeInfo, h]
theorem run_size {t : TypeId} {i : TypeInfo} (h : P.info? t = some i) (w : World) : (sizeOf t).run P w = .ok i.size w := by simp [sizeOf, run_info h]
theorem wrap_i64 {n : Int} (h : I64 n) : IntKind.wrap .i64 n = n := IntWalk.i64_in n h
end Go.Abs
namespace Go.Abs
open Go
variable {G : PG}
variable {P : Program} {d : Nat} {S : Sv}
abbrev VS (x : Sem Value) : Sem Next := do pure (.value (← x))
theorem run_VS {x : Sem Value} {u : Value} {w w' : World} (h : x.run P w = .ok u w') : (VS x).run P w = .ok (.value u) w' := by simp [VS, h]
theorem isI64_true {k : IntKind} (h : isI64 k = true) : k = .i64 := by cases k <;> simp_all [isI64]
theorem ok_arith (hs : Sim G S) (k : IntKind) (n : Int) {x : Sem Value} (h : x.run P S.w = .ok (.int k (k.wrap n)) S.w) : OkO G P d S (VS x) (vArith k n) := by
  unfold vArith
  cases hk : isI64 k with
  | true =>
    refine OkO.still hs fun hp => ⟨_, run_VS h, ?_⟩
    obtain rfl := isI64_true hk
    rw [wrap_i64 hp]
    exact .pure (.int _ _)
  | false => exact OkO.still hs fun _ => ⟨_, run_VS h, .pure (.int _ _)⟩
theorem ok_int (hs : Sim G S) (op : BinOp) (k : IntKind) (x y : Int) (t : TypeId) : OkO G P d S (VS (binOp op t (.int k x) (.int k y))) (vInt op k x y) := by
  cases op <;> simp only [vInt]
  case add => exact ok_arith hs k _ (by simp [binOp, Op.intArith])
  case sub => exact ok_arith hs k _ (by simp [binOp, Op.intArith])
  case mul => exact ok_arith hs k _ (by simp [binOp, Op.intArith])
  case quo =>
    have hrun : 0 ≤ x → 0 < y → (binOp .quo t (.int k x) (.int k y)).run P S.w = .ok (.int k (k.wrap (x / y))) S.w := fun h0 h1 => by
      have hy : ¬ y = 0 := by omega
      have e : x.tdiv y = x / y := by rw [Int.tdiv_eq_ediv_of_nonneg h0]
      simp [binOp, Op.intDiv, hy, e]
    cases hk : isI64 k with
    | true =>
      refine OkO.still hs fun ⟨h0, h1, h2⟩ => ⟨.int k (x / y), run_VS ?_, .pure (.int _ _)⟩
      have hle : x / y ≤ x := Int.ediv_le_self _ h0
      have hge : 0 ≤ x / y := Int.ediv_nonneg h0 (by omega)
      obtain rfl := isI64_true hk
      rw [hrun h0 h1, wrap_i64 (by unfold I64 at *; omega)]
    | false => exact OkO.still hs fun ⟨h0, h1⟩ => ⟨_, run_VS (hrun h0 h1), .pure (.int _ _)⟩
  case rem =>
    refine OkO.still hs fun ⟨h0, h1⟩ => ⟨.int k (x % y), run_VS ?_, .pure (.int _ _)⟩
    have hy : ¬ y = 0 := by omega
    have e : x.tmod y = x % y := Int.tmod_eq_emod_of_nonneg h0
    simp [binOp, Op.intDiv, hy, e]
  case and => exact OkO.still hs fun _ => ⟨_, run_VS (by simp only [binOp, ne_eq, not_true_eq_false, if_false, Op.intBits]; rfl), .pure (.int _ _)⟩
  case or => exact OkO.still hs fun _ => ⟨_, run_VS (by simp only [binOp, ne_eq, not_true_eq_false, if_false, Op.intBits]; rfl), .pure (.int _ _)⟩
  case xor => exact OkO.still hs fun _ => ⟨_, run_VS (by simp only [binOp, ne_eq, not_true_eq_false, if_false, Op.intBits]; rfl), .pure (.int _ _)⟩
  case andNot => exact OkO.still hs fun _ => ⟨_, run_VS (by simp only [binOp, ne_eq, not_true_eq_false, if_false, Op.intBits]; rfl), .pure (.int _ _)⟩
  case eql => exact OkO.still hs fun _ => ⟨_, run_VS (by simp [binOp, Op.intCmp]), .pure (.bool _)⟩
  case neq => exact OkO.still hs fun _ => ⟨_, run_VS (by simp [binOp, Op.intCmp]), .pure (.bool _)⟩
  case lss => exact OkO.still hs fun _ => ⟨_, run_VS (by simp [binOp, Op.intCmp]), .pure (.bool _)⟩
  case leq => exact OkO.still hs fun _ => ⟨_, run_VS (by simp [binOp, Op.intCmp]), .pure (.bool _)⟩
  case gtr => exact OkO.still hs fun _ => ⟨_, run_VS (by simp [binOp, Op.intCmp]), .pure (.bool _)⟩
  case geq => exact OkO.still hs fun _ => ⟨_, run_VS (by simp [binOp, Op.intCmp]), .pure (.bool _)⟩
  case shl => exact OkO.still hs fun hp => ⟨_, run_VS (by simp [binOp, Op.shift, show ¬ y < 0 by omega]), .pure (.int _ _)⟩
  case shr => exact OkO.still hs fun hp => ⟨_, run_VS (by simp [binOp, Op.shift, show ¬ y < 0 by omega]), .pure (.int _ _)⟩
theorem size_mk (x : List UInt8) : ByteArray.size ⟨x.toArray⟩ = x.length := by simp [ByteArray.size]
theorem toList_mk (x : List UInt8) : ByteArray.toList ⟨x.toArray⟩ = x := ByteArray.toList_mk x
theorem append_mk (x y : List UInt8) : (⟨x.toArray⟩ : ByteArray) ++ ⟨y.toArray⟩ = ⟨(x ++ y).toArray⟩ := by
  apply ByteArray.ext
  simp
theorem ok_str (hs : Sim G S) (op : BinOp) (x y : List UInt8) (t : TypeId) : OkO G P d S (VS (binOp op t (.string ⟨x.toArray⟩) (.string ⟨y.toArray⟩))) (vStr op x y) := by
  cases op <;> simp only [vStr]
  case add =>
    refine OkO.still hs fun hp => ⟨_, run_VS ?_, .pure (.str _)⟩
    have : ¬ ((x.length + y.length : Nat) : Int) > IntKind.i64.max := by
      have : IntKind.i64.max = 9223372036854775807 := by rfl
      omega
    simp only [binOp, Op.stringOp, size_mk, this, if_false, append_mk]
    rfl
  all_goals first
    | trivial
    | (refine OkO.still hs fun hp => ⟨_, run_VS ?_, .pure (.bool _)⟩
       simp only [binOp, Op.stringOp, toList_mk]
       rfl)
theorem equal_bool {t : TypeId} (h : P.underlying t = some .bool) (x y : Bool) (w : World) : (Op.equal t (.bool x) (.bool y)).run P w = .ok (x == y) w := by
  have aux : ∀ n, (Op.equalIn (n + 1) t (.bool x) (.bool y)).run P w = .ok (x == y) w := fun n => by simp [Op.equalIn, run_und h]
  exact aux 9999
theorem ok_bool (hs : Sim G S) (op : BinOp) (x y : Bool) (t : TypeId) : OkO G P d S (VS (binOp op t (.bool x) (.bool y))) (vBool op (ti P t) x y) := by
  unfold vBool
  split
  · rename_i h
    refine OkO.still hs fun hp => ⟨_, run_VS ?_, .pure (.bool _)⟩
    simp only [binOp, Sem.run_bind, equal_bool (und_bool h), Result.andThen_ok, Sem.run_pure]
  · rename_i h
    refine OkO.still hs fun hp => ⟨_, run_VS ?_, .pure (.bool _)⟩
    simp only [binOp, Sem.run_bind, equal_bool (und_bool h), Result.andThen_ok, Sem.run_pure]
  · trivial
end Go.Abs
namespace Go.Abs
open Go
variable {G : PG}
variable {P : Program} {d : Nat} {S : Sv}
theorem eqP_vals {S : Sv} : ∀ {cs ds : List V} {vs us : List Value}, eqP cs ds → vs.length = cs.length → us.length = ds.length → (∀ i, i < cs.length → S.rep (cs.getD i .any) (vs.getD i undef)) → (∀ i, i < ds.length → S.rep (ds.getD i .any) (us.getD i undef)) → vs = cs.map exV ∧ us = ds.map exV
  | [], [], vs, us, _, h1, h2, _, _ => ⟨List.length_eq_zero_iff.1 h1, List.length_eq_zero_iff.1 h2⟩
  | c :: cs, d :: ds, vs, us, h, h1, h2, h3, h4 => by
    cases vs with
    | nil => simp at h1
    | cons v vs =>
    cases us with
    | nil => simp at h2
    | cons u us =>
    have a := h3 0 (by simp)
    have b := h4 0 (by simp)
    simp only [List.getD_cons_zero] at a b
    have hr : eqP cs ds ∧ v = exV c ∧ u = exV d := by
      cases c <;> cases d <;> simp only [eqP] at h <;> first
        | exact ⟨h.2, inv_int a, inv_int b⟩
        | exact ⟨h, inv_bool a, inv_bool b⟩
        | exact ⟨h, inv_str a, inv_str b⟩
        | exact h.elim
    obtain ⟨e1, e2⟩ := eqP_vals (vs := vs) (us := us) hr.1 (by simpa using h1) (by simpa using h2) (fun i hi => by simpa using h3 (i + 1) (by simpa using hi)) (fun i hi => by simpa using h4 (i + 1) (by simpa using hi))
    exact ⟨by rw [hr.2.1, e1]; rfl, by rw [hr.2.2, e2]; rfl⟩
  | [], _ :: _, _, _, h, _, _, _, _ => by simp [eqP] at h
  | c :: _, [], _, _, h, _, _, _, _ => by cases c <;> simp [eqP] at h
theorem ok_bin (hs : Sim G S) (op : BinOp) (t : TypeId) (x y : V) (a b : Value) (xo yo : Operand) (ha : S.rep x a) (hb : S.rep y b) :
    OkO G P d S (VS (do eqGuard op t xo yo a b; binOp op t a b)) (vBin P op t x y) := by
  have guard : ∀ (r : OR), (∀ cs, a ≠ .agg cs) → a ≠ .nilIface → OkO G P d S (VS (binOp op t a b)) r → OkO G P d S (VS (do eqGuard op t xo yo a b; binOp op t a b)) r := by
    intro r h1 h2 h
    have e : (VS (do eqGuard op t xo yo a b; binOp op t a b)).run P S.w = (VS (binOp op t a b)).run P S.w := by
      have : (eqGuard op t xo yo a b).run P S.w = .ok () S.w := by
        cases op <;> cases a <;> first | rfl | (exact absurd rfl (h1 _)) | (exact absurd rfl h2)
      simp only [VS, Sem.run_bind, this, Result.andThen_ok]
    cases r <;> simp only [OkO, runs, e] at h ⊢ <;> exact h
  unfold vBin
  split
  · obtain rfl := inv_int ha
    obtain rfl := inv_int hb
    refine guard _ (by simp) (by simp) ?_
    cases hsh : isSh op with
    | true =>
      simp only [vBinI]
      cases op <;> simp [isSh] at hsh
      · exact OkO.still hs fun hp => ⟨_, run_VS (by simp [binOp, Op.shift, Int.not_lt.2 hp]), .pure (.int _ _)⟩
      · exact OkO.still hs fun hp => ⟨_, run_VS (by simp [binOp, Op.shift, Int.not_lt.2 hp]), .pure (.int _ _)⟩
    | false =>
      simp only [vBinI]
      refine OkO.and fun hk => ?_
      subst hk
      exact ok_int hs _ _ _ _ _
  · obtain rfl := inv_str ha
    obtain rfl := inv_str hb
    exact guard _ (by simp) (by simp) (ok_str hs _ _ _ _)
  · obtain rfl := inv_bool ha
    obtain rfl := inv_bool hb
    exact guard _ (by simp) (by simp) (ok_bool hs _ _ _ _)
  · rename_i cs ds
    obtain ⟨vs, rfl, a1, a2, _⟩ := inv_agg ha
    obtain ⟨us, rfl, b1, b2, _⟩ := inv_agg hb
    have go : EqOk P t → zP P t cs ∧ eqP cs ds → ∀ (neg : Bool), (op = bif neg then .neq else .eql) → (do eqGuard op t xo yo (.agg vs.toArray) (.agg us.toArray); binOp op t (.agg vs.toArray) (.agg us.toArray)).run P S.w = .ok (.bool (bif neg then !eqB cs ds else eqB cs ds)) S.w := by
      intro he hp neg hop
      obtain ⟨rfl, rfl⟩ := eqP_vals hp.2 a1 b1 a2 b2
      have hg : (eqGuard op t xo yo (.agg (cs.map exV).toArray) (.agg (ds.map exV).toArray)).run P S.w = .ok () S.w := by
        subst hop
        cases neg <;> simp [eqGuard, he.1]
      have heq := he.2 cs ds S.w hp.1 hp.2
      subst hop
      cases neg <;> simp only [cond_true, cond_false] at hg ⊢ <;> simp only [Sem.run_bind, hg, Result.andThen_ok, binOp, heq, Sem.run_pure]
    unfold vAgg
    split
    · exact OkO.still hs fun hp => ⟨_, run_VS (go hp.1 hp.2 false rfl), .pure (.bool _)⟩
    · exact OkO.still hs fun hp => ⟨_, run_VS (go hp.1 hp.2 true rfl), .pure (.bool _)⟩
    · trivial
  · trivial
theorem ok_nil2 (hs : Sim G S) (op : BinOp) (t : TypeId) (a b : Value) (xo yo : Operand) (r : Bool) (p : Prop) (h1 : ∀ cs, a ≠ .agg cs) (h2 : a ≠ .nilIface) (h : p → (binOp .eql t a b).run P S.w = .ok (.bool r) S.w ∧ (binOp .neq t a b).run P S.w = .ok (.bool (!r)) S.w) :
    OkO G P d S (VS (do eqGuard op t xo yo a b; binOp op t a b)) (vNil2 op r p) := by
  have hg : (eqGuard op t xo yo a b).run P S.w = .ok () S.w := by
    cases op <;> cases a <;> first | rfl | (exact absurd rfl (h1 _)) | (exact absurd rfl h2)
  unfold vNil2
  split
  · refine OkO.still hs fun hp => ⟨.bool r, run_VS ?_, .pure (.bool _)⟩
    simp only [Sem.run_bind, hg, Result.andThen_ok, (h hp).1]
  · refine OkO.still hs fun hp => ⟨.bool (!r), run_VS ?_, .pure (.bool _)⟩
    simp only [Sem.run_bind, hg, Result.andThen_ok, (h hp).2]
  · trivial
theorem equal_slN {t e : TypeId} (hu : P.underlying t = some (.slice e)) (x : Option Addr) (n c m k : Nat) (w : World) : (Op.equal t (.slice x n c) (.slice none m k)).run P w = .ok x.isNone w := by
  have aux : ∀ m', (Op.equalIn (m' + 1) t (.slice x n c) (.slice none m k)).run P w = .ok x.isNone w := by
    intro m'
    rw [Op.equalIn]
    simp only [Sem.run_bind, run_und hu, Result.andThen_ok]
    cases x <;> rfl
  exact aux 9999
theorem equal_ptN {t e : TypeId} (hu : P.underlying t = some (.pointer e)) (x : Option Addr) (w : World) : (Op.equal t (.pointer x) (.pointer none)).run P w = .ok x.isNone w := by
  have aux : ∀ m', (Op.equalIn (m' + 1) t (.pointer x) (.pointer none)).run P w = .ok x.isNone w := by
    intro m'
    rw [Op.equalIn]
    simp only [Sem.run_bind, run_und hu, Result.andThen_ok]
    cases x <;> rfl
  exact aux 9999
theorem bin_slN {t e : TypeId} (hu : P.underlying t = some (.slice e)) (x : Option Addr) (n c m k : Nat) (w : World) : (binOp .eql t (.slice x n c) (.slice none m k)).run P w = .ok (.bool x.isNone) w ∧ (binOp .neq t (.slice x n c) (.slice none m k)).run P w = .ok (.bool (!x.isNone)) w := by
  have h := equal_slN hu x n c m k w
  constructor <;> simp only [binOp, Sem.run_bind, h, Result.andThen_ok, Sem.run_pure]
theorem bin_ptN {t e : TypeId} (hu : P.underlying t = some (.pointer e)) (x : Option Addr) (w : World) : (binOp .eql t (.pointer x) (.pointer none)).run P w = .ok (.bool x.isNone) w ∧ (binOp .neq t (.pointer x) (.pointer none)).run P w = .ok (.bool (!x.isNone)) w := by
  have h := equal_ptN hu x w
  constructor <;> simp only [binOp, Sem.run_bind, h, Result.andThen_ok, Sem.run_pure]
theorem und_ptr {t e : TypeId} (h : (ti P t).d = .ptr e) : P.underlying t = some (.pointer e) := by
  obtain ⟨i, dsc, _, h2, h3, _⟩ := ti_d h (by simp)
  rw [h2]
  cases dsc <;> simp_all [tdOf]
theorem ok_binN (hs : Sim G S) (op : BinOp) (t : TypeId) (x y : V) (a b : Value) (xo yo : Operand) (ha : S.rep x a) (hb : S.rep y b) (hc : ∀ v, yo = .const v → b = v) :
    OkO G P d S (VS (do eqGuard op t xo yo a b; binOp op t a b)) (vBinN P op t (nilK yo) x y) := by
  cases hk : nilK yo with
  | no => exact ok_bin hs op t x y a b xo yo ha hb
  | sl =>
    have hbn : ∃ n c, b = .slice none n c := by
      unfold nilK at hk
      split at hk
      · exact ⟨_, _, hc _ rfl⟩
      · cases hk
      · cases hk
    obtain ⟨m, k, rfl⟩ := hbn
    simp only [vBinN]
    split
    · rename_i e he
      have hu := und_slice he
      unfold vNilS
      split
      · obtain rfl := inv_con ha
        exact ok_nil2 hs _ _ _ _ _ _ _ _ (by simp) (by simp) fun _ => bin_slN hu none _ _ _ _ _
      · obtain rfl := inv_con ha
        rename_i a0 _ _
        exact ok_nil2 hs _ _ _ _ _ _ _ _ (by simp) (by simp) fun _ => bin_slN hu (some a0) _ _ _ _ _
      · rename_i n f
        cases inv_sl ha with
        | sl0 _ a0 c0 => exact ok_nil2 hs _ _ _ _ _ _ _ _ (by simp) (by simp) fun hp => by omega
        | sl _ _ b0 off c0 sz' u h1 h2 h3 h4 h5 h6 h7 => exact ok_nil2 hs _ _ _ _ _ _ _ _ (by simp) (by simp) fun _ => bin_slN hu (some _) _ _ _ _ _
      · trivial
    · trivial
  | ptr =>
    have hbn : b = .pointer none := by
      unfold nilK at hk
      split at hk
      · cases hk
      · exact hc _ rfl
      · cases hk
    subst hbn
    simp only [vBinN]
    split
    · rename_i e he
      have hu := und_ptr he
      unfold vNilP
      split
      · obtain rfl := inv_con ha
        exact ok_nil2 hs _ _ _ _ _ _ _ _ (by simp) (by simp) fun _ => bin_ptN hu none _
      · obtain ⟨b0, _, rfl⟩ := inv_ptr ha
        exact ok_nil2 hs _ _ _ _ _ _ _ _ (by simp) (by simp) fun _ => bin_ptN hu (some _) _
      · obtain ⟨b0, off, u, rfl, _⟩ := inv_iptr ha
        exact ok_nil2 hs _ _ _ _ _ _ _ _ (by simp) (by simp) fun _ => bin_ptN hu (some _) _
      · trivial
    · trivial
theorem ok_un (hs : Sim G S) (op : UnOp) (x : V) (a : Value) (ha : S.rep x a) : OkO G P d S (VS (Op.unary op a)) (vUn op x) := by
  unfold vUn
  split
  · obtain rfl := inv_bool ha
    split
    · exact OkO.still hs fun _ => ⟨_, run_VS rfl, .pure (.bool _)⟩
    · trivial
  · obtain rfl := inv_int ha
    split
    · exact ok_arith hs _ _ (by simp [Op.unary, Op.intArith])
    · trivial
  · trivial
theorem ok_pick (hs : Sim G S) (c x y : V) (u a b : Value) (hc : S.rep c u) (ha : S.rep x a) (hb : S.rep y b) :
    OkO G P d S (do pure (.value (if ← asBool u then a else b))) (vPick x y c) := by
  unfold vPick
  split
  · rename_i cc
    obtain rfl := inv_bool hc
    split
    · rename_i xa xb hxa hxb
      refine OkO.still hs fun ⟨h1, h2⟩ => ?_
      cases cc with
      | true =>
        have := rep_strip ha (h1 rfl)
        rw [hxa] at this
        obtain rfl := inv_bool this
        exact ⟨_, by simp [asBool], .pure (.bool _)⟩
      | false =>
        have := rep_strip hb (h2 rfl)
        rw [hxb] at this
        obtain rfl := inv_bool this
        exact ⟨_, by simp [asBool], .pure (.bool _)⟩
    · trivial
  · trivial
theorem ok_extract (hs : Sim G S) (i : Nat) (x : V) (a : Value) (ha : S.rep x a) : OkO G P d S (VS (Instr.extract a i)) (vExtract i x) := by
  unfold vExtract
  split
  · rename_i vs
    obtain ⟨us, rfl, h1, h2⟩ := inv_tup ha
    refine OkO.still hs fun hi => ⟨us.getD i undef, run_VS ?_, h2 i hi⟩
    have : us.toArray[i]? = some (us.getD i undef) := by rw [List.getElem?_toArray, List.getD_eq_getElem?_getD, List.getElem?_eq_getElem (by omega)]; rfl
    simp only [Instr.extract, this]
    rfl
  · trivial
theorem ok_index (hs : Sim G S) (t : TypeId) (x y : V) (a b : Value) (ha : S.rep x a) (hb : S.rep y b) : OkO G P d S (VS (Instr.index t a b)) (vIndex P t x y) := by
  unfold vIndex
  split
  · rename_i s k n
    obtain rfl := inv_str ha
    obtain rfl := inv_int hb
    split
    · rename_i ht
      refine OkO.still hs fun ⟨h0, h1⟩ => ⟨_, run_VS ?_, .pure (.int _ _)⟩
      have hlt : n.toNat < s.length := by omega
      have e : (⟨s.toArray⟩ : ByteArray)[n.toNat]? = some (s.getD n.toNat 0) := by
        rw [List.getD_eq_getElem?_getD, List.getElem?_eq_getElem hlt]
        have : n.toNat < ByteArray.size ⟨s.toArray⟩ := by rw [size_mk]; exact hlt
        rw [getElem?_pos (⟨s.toArray⟩ : ByteArray) n.toNat this]
        rfl
      simp [Instr.index, asIntOf, run_und (und_str ht), h0, e]
    · trivial
  · trivial
theorem cell_of_heap {w : World} {b : Nat} {arr : Array Value} {t : TypeId} {fz : Nat × Nat} (h : w.heap[b]? = some (.cells arr t fz)) (o : Nat) : w.cell? ⟨b, o, none⟩ = arr[o]? := by
  simp [World.cell?, h]
theorem addr_add (b o n : Nat) : (⟨b, o, none⟩ : Addr).add n = ⟨b, o + n, none⟩ := by
  unfold Addr.add; split <;> simp_all
theorem ok_indexAddr (hs : Sim G S) (t : TypeId) (x y : V) (a b : Value) (ha : S.rep x a) (hb : S.rep y b) : OkO G P d S (VS (Instr.indexAt t a b)) (vIndexAddr P S.h t x y) := by
  unfold vIndexAddr
  split
  · rename_i n f k i
    obtain rfl := inv_int hb
    have hsl := inv_sl ha
    split
    · rename_i e ht
      refine OkO.still hs fun ⟨h0, h1, h2⟩ => ?_
      have hit : i.toNat < n := by omega
      cases hsl with
      | sl0 => omega
      | sl _ _ b off c sz u hb hnc hsz hf hc ho hp =>
        have hz : sz = (ti P e).size := by rw [← h2, hf _ hit]
        obtain ⟨ie, hie, hie'⟩ := ti_size (P := P) (t := e) (by omega)
        refine ⟨.pointer (some ⟨b, off + i.toNat * sz, none⟩), run_VS ?_, ?_⟩
        · simp [Instr.indexAt, asIntOf, run_und (und_slice ht), h0, h1, run_size hie, addr_add, ← hie', ← hz]
        · refine .iptr _ b _ (u i.toNat) hb (fun j hj => ?_) (fun j hj => ?_) (fun j hj => ?_)
          · rw [Nat.add_assoc]; exact hc _ _ hit (by rw [hf _ hit] at hj; exact hj)
          · exact ho _ _ hit (by rw [hf _ hit] at hj; exact hj)
          · exact hp _ _ hit (by rw [hf _ hit] at hj; exact hj)
    · trivial
  · rename_i id n k i
    obtain rfl := inv_int hb
    obtain ⟨va, vm, vc, g1, g2, g3⟩ := inv_vec ha
    split
    · rename_i e sz m f ht hh
      refine OkO.stillRd hs fun ⟨h0, h1, h2, h3⟩ => ?_
      subst h2
      have hbk := hs.blk _ _ hh
      obtain ⟨k1, k2, ⟨k3, _⟩ | ⟨b, cap, arr, tt, lo, hi, k3, k4, kc, k5, k6, k7, k8⟩⟩ := hbk
      · omega
      · obtain ⟨ie, hie, hie'⟩ := ti_size (P := P) (t := e) (by omega)
        have em : vm = m := by rw [k3] at g1; cases g1; rfl
        have ev := g3 em.symm
        rw [k3] at ev
        subst ev
        refine ⟨.pointer (some ⟨b, i.toNat * sz + 0, none⟩), run_VS ?_, ?_⟩
        · simp [Instr.indexAt, asIntOf, run_und (und_slice ht), h0, h1, run_size hie, addr_add, ← hie', ← h3]
        · refine .eptr id m sz _ 0 _ _ _ _ k3 (Nat.le_refl _) (fun _ => ⟨b, rfl, rfl⟩) rfl
    · trivial
  · rename_i id n sz off kk k i
    obtain rfl := inv_int hb
    obtain ⟨va, vm, vc, g1, g2, g3⟩ := inv_vv ha
    split
    · rename_i e sz' m f ht hh
      refine OkO.stillRd hs fun ⟨h0, h1, h2, h3, h4⟩ => ?_
      subst h2
      subst h3
      obtain ⟨k1, k2, ⟨k3, a', k4⟩ | ⟨b, cap, arr, tt, lo, hi, k3, k4, kc, k5, k6, k7, k8⟩⟩ := hs.blk _ _ hh
      · rw [k4] at g1; cases g1
        have := (g3 (by omega)).1
        omega
      · obtain ⟨ie, hie, hie'⟩ := ti_size (P := P) (t := e) (by omega)
        rw [k3] at g1; cases g1
        obtain ⟨q1, A, hv, hA⟩ := g3 rfl
        obtain ⟨b', e1, e2⟩ := hA (by omega)
        cases e1
        subst e2
        subst hv
        refine ⟨.pointer (some ⟨b, (off + i.toNat) * sz' + 0, none⟩), run_VS ?_, ?_⟩
        · simp [Instr.indexAt, asIntOf, run_und (und_slice ht), h0, h1, run_size hie, addr_add, ← hie', ← h4, Nat.add_mul]
        · refine .eptr id _ _ _ 0 _ _ _ _ k3 (Nat.le_refl _) (fun _ => ⟨b, rfl, rfl⟩) rfl
    · trivial
  · rename_i id off k i
    obtain rfl := inv_int hb
    obtain ⟨b, g1, rfl⟩ := inv_ptr ha
    split
    · rename_i len e ht
      refine OkO.still hs fun ⟨h0, h1, h2⟩ => ?_
      have hu := und_arr ht
      obtain ⟨ie, hie, hie'⟩ := ti_size (P := P) (t := e) (by omega)
      refine ⟨.pointer (some ⟨b, off + i.toNat * (ti P e).size, none⟩), run_VS ?_, .ptr id _ b g1⟩
      simp [Instr.indexAt, asIntOf, run_und hu, h0, h1, run_size hie, addr_add, ← hie', Instr.sureAddr]
    · trivial
  · rename_i cs k i
    obtain rfl := inv_int hb
    obtain ⟨b, off, u, rfl, q1, q2, q3, q4⟩ := inv_iptr ha
    split
    · rename_i len e ht
      refine OkO.still hs fun ⟨h0, h1, h2, h3⟩ => ?_
      have hu := und_arr ht
      obtain ⟨ie, hie, hie'⟩ := ti_size (P := P) (t := e) (by omega)
      refine ⟨.pointer (some ⟨b, off + i.toNat * (ti P e).size, none⟩), run_VS ?_, .iptr _ b _ (fun j => u (i.toNat * (ti P e).size + j)) q1 (fun j hj => ?_) (fun j hj => ?_) (fun j hj => ?_)⟩
      · simp [Instr.indexAt, asIntOf, run_und hu, h0, h1, run_size hie, addr_add, ← hie', Instr.sureAddr]
      · simp only [List.length_drop] at hj
        rw [Nat.add_assoc]; exact q2 _ (by omega)
      · simp only [List.length_drop] at hj
        exact q3 _ (by omega)
      · simp only [List.length_drop] at hj
        have := q4 (i.toNat * (ti P e).size + j) (by omega)
        simpa [List.getD_eq_getElem?_getD, List.getElem?_drop] using this
    · trivial
  · trivial
theorem vec_len (hs : Sim G S) {id sz m : Nat} {f : Nat → V} (h : S.h id = some (.vec sz m f)) {a : Option Addr} {vm vc : Nat} (g : S.γ id = .slice a vm vc) : vm = m := by
  obtain ⟨k1, k2, ⟨k3, va, k4⟩ | ⟨b, cap, arr, tt, lo, hi, k3, _⟩⟩ := hs.blk _ _ h
  · rw [k4] at g; cases g; exact k3.symm
  · rw [k3] at g; cases g; rfl
theorem ok_fieldAddr (hs : Sim G S) (t : TypeId) (f : Nat) (x : V) (a : Value) (ha : S.rep x a) : OkO G P d S (VS (Instr.fieldAt t a f)) (vFieldAddr P S.h t f x) := by
  unfold vFieldAddr
  split
  · rename_i o ft hf
    unfold fieldOff at hf
    split at hf
    · rename_i fs hd
      obtain ⟨gs, hu, rfl⟩ := und_struct hd
      simp only [List.getElem?_map, Option.map_eq_some_iff] at hf
      obtain ⟨fd, hfd, he⟩ := hf
      obtain ⟨rfl, rfl⟩ : fd.offset = o ∧ fd.type = ft := by simpa using he
      have run : ∀ b off, 0 < (ti P fd.type).size → (Instr.fieldAt t (.pointer (some ⟨b, off, none⟩)) f).run P S.w = .ok (.pointer (some ⟨b, off + fd.offset, none⟩)) S.w := by
        intro b off hpos
        obtain ⟨ie, hie, hie'⟩ := ti_size (P := P) (t := fd.type) hpos
        have hg : gs[f]? = some fd := by simpa using hfd
        simp [Instr.fieldAt, run_und hu, hg, Instr.sureAddr, fieldPlace, run_size hie, show ¬ ie.size = 0 by omega, addr_add]
      split
      · obtain ⟨b, g1, rfl⟩ := inv_ptr ha
        exact OkO.still hs fun hp => ⟨_, run_VS (run _ _ hp), .ptr _ _ b g1⟩
      · rename_i id n sz i off
        obtain ⟨va, vm, vc, g1, g2, g3⟩ := inv_eptr ha
        split
        · rename_i z m ff hh
          refine OkO.stillRd hs fun ⟨hm, hp⟩ => ?_
          subst hm
          have em : vm = m := vec_len hs hh g1
          subst em
          obtain ⟨b, rfl, rfl⟩ := g3 rfl
          exact ⟨_, run_VS (run _ _ hp), .eptr _ _ _ _ _ _ _ _ _ g1 (Nat.le_refl _) (fun _ => ⟨b, rfl, by rw [Nat.add_assoc]⟩) rfl⟩
        · trivial
      · rename_i cs
        obtain ⟨b, off, u, rfl, h1, h2, h3, h4⟩ := inv_iptr ha
        refine OkO.still hs fun ⟨hp, hle⟩ => ⟨_, run_VS (run _ _ hp), .iptr _ b _ (fun j => u (fd.offset + j)) h1 (fun j hj => ?_) (fun j hj => ?_) (fun j hj => ?_)⟩
        · simp only [List.length_drop] at hj
          rw [Nat.add_assoc]; exact h2 _ (by omega)
        · simp only [List.length_drop] at hj
          exact h3 _ (by omega)
        · simp only [List.length_drop] at hj
          have := h4 (fd.offset + j) (by omega)
          simpa [List.getD_eq_getElem?_getD, List.getElem?_drop] using this
      · trivial
    · cases hf
  · trivial
end Go.Abs
namespace Go.Abs
open Go
variable {G : PG}
variable {P : Program} {d : Nat} {S : Sv}
theorem isAgg_run {t : TypeId} {i : TypeInfo} (hi : P.info? t = some i) (hp : 0 < (ti P t).size) (w : World) : (isAgg t).run P w = .ok (ti P t).isAgg w := by
  have hi0 := hi
  unfold ti at hp ⊢
  rw [hi] at hp ⊢
  cases hu : P.underlying t with
  | none => rw [hu] at hp; simp at hp
  | some dsc =>
    simp only [isAgg, Sem.run_bind, run_und hu, Result.andThen_ok, TI.isAgg]
    cases dsc <;> simp [tdOf]
theorem getD_take_drop {cs : List V} {off n j : Nat} (hj : j < n) : ((cs.drop off).take n).getD j .any = cs.getD (off + j) .any := by
  simp [List.getD_eq_getElem?_getD, hj, List.getElem?_drop]
theorem getD_take_drop' {cs : List Value} {off n j : Nat} (hj : j < n) : ((cs.drop off).take n).getD j undef = cs.getD (off + j) undef := by
  simp [List.getD_eq_getElem?_getD, hj, List.getElem?_drop]
theorem getD_some {cs : List Value} {i : Nat} (h : i < cs.length) : cs[i]? = some (cs.getD i undef) := by
  rw [List.getD_eq_getElem?_getD, List.getElem?_eq_getElem h]; rfl
theorem part_ok {ft : TypeId} (hp : 0 < (ti P ft).size) {cs : List V} {vs : List Value} {off : Nat} (hl : vs.length = cs.length) (hle : off + (ti P ft).size ≤ cs.length)
    (hr : ∀ i, i < cs.length → S.rep (cs.getD i .any) (vs.getD i undef)) (ho : ∀ i, i < cs.length → one (vs.getD i undef)) :
    ∃ u, (part ft vs.toArray off).run P S.w = .ok u S.w ∧ S.rep (sub (ti P ft).isAgg cs off (ti P ft).size) u := by
  obtain ⟨ie, hie, hie'⟩ := ti_size (P := P) hp
  cases hg : (ti P ft).isAgg with
  | true =>
    refine ⟨.agg ((vs.drop off).take (ti P ft).size).toArray, ?_, ?_⟩
    · simp only [part, Sem.run_bind, isAgg_run hie hp, hg, Result.andThen_ok, if_true, run_size hie, Sem.run_pure]
      congr 2
      rw [hie']
      simp [List.extract_toArray, List.take_drop]
    · simp only [sub, cond_true]
      refine .agg _ _ (by simp only [List.length_take, List.length_drop]; omega) (fun i hi => ?_) (fun i hi => ?_)
      all_goals simp only [List.length_take, List.length_drop] at hi
      · rw [getD_take_drop (by omega), getD_take_drop' (by omega)]; exact hr _ (by omega)
      · rw [getD_take_drop' (by omega)]; exact ho _ (by omega)
  | false =>
    refine ⟨vs.getD off undef, ?_, hr _ (by omega)⟩
    have : vs.toArray[off]? = some (vs.getD off undef) := by rw [List.getElem?_toArray]; exact getD_some (by omega)
    simp [part, isAgg_run hie hp, hg, this]
theorem ok_field (hs : Sim G S) (t : TypeId) (f : Nat) (x : V) (a : Value) (ha : S.rep x a) : OkO G P d S (VS (Instr.field t a f)) (vField P t f x) := by
  unfold vField
  split
  · rename_i cs
    obtain ⟨vs, rfl, h1, h2, h3⟩ := inv_agg ha
    split
    · rename_i o ft hf
      unfold fieldOff at hf
      split at hf
      · rename_i fs hd
        obtain ⟨gs, hu, rfl⟩ := und_struct hd
        simp only [List.getElem?_map, Option.map_eq_some_iff] at hf
        obtain ⟨fd, hfd, he⟩ := hf
        obtain ⟨rfl, rfl⟩ : fd.offset = o ∧ fd.type = ft := by simpa using he
        refine OkO.still hs fun ⟨hle, hp⟩ => ?_
        obtain ⟨u, hr, hrep⟩ := part_ok hp h1 hle h2 h3
        have hg : gs[f]? = some fd := by simpa using hfd
        exact ⟨u, run_VS (by simp [Instr.field, run_und hu, hg, asAgg, hr]), hrep⟩
      · cases hf
    · trivial
  · trivial
theorem load_ok {t : TypeId} (hp : 0 < (ti P t).size) {cs : List V} {b off o : Nat} (u : Nat → Value) (hle : o + (ti P t).size ≤ cs.length)
    (hc : ∀ j, j < (ti P t).size → S.w.cell? ⟨b, off + j, none⟩ = some (u j)) (hr : ∀ j, j < (ti P t).size → S.rep (cs.getD (o + j) .any) (u j)) (ho : ∀ j, j < (ti P t).size → one (u j)) :
    ∃ v, (Instr.loadAt t (.pointer (some ⟨b, off, none⟩))).run P S.w = .ok v S.w ∧ S.rep (sub (ti P t).isAgg cs o (ti P t).size) v := by
  obtain ⟨ie, hie, hie'⟩ := ti_size (P := P) hp
  have hcell : ∀ j, j < (ti P t).size → S.w.cell? ((⟨b, off, none⟩ : Addr).add j) = some (u j) := fun j hj => by rw [addr_add]; exact hc j hj
  cases hg : (ti P t).isAgg with
  | true =>
    refine ⟨.agg ((List.range (ti P t).size).map u).toArray, ?_, ?_⟩
    · have := run_loadCells (P := P) (w := S.w) ⟨b, off, none⟩ (ti P t).size u hcell
      simp only [Instr.loadAt, Instr.sureAddr, loadVar, Sem.run_bind, Sem.run_pure, Result.andThen_ok, isAgg_run hie hp, hg, if_true, run_size hie, ← hie', this]
    · simp only [sub, cond_true]
      refine .agg _ _ (by simp; omega) (fun i hi => ?_) (fun i hi => ?_)
      all_goals simp only [List.length_take, List.length_drop] at hi
      · rw [getD_take_drop (by omega)]
        have : ((List.range (ti P t).size).map u).getD i undef = u i := by simp [List.getD_eq_getElem?_getD, List.getElem?_map, List.getElem?_range (show i < (ti P t).size by omega)]
        rw [this]; exact hr i (by omega)
      · have : ((List.range (ti P t).size).map u).getD i undef = u i := by simp [List.getD_eq_getElem?_getD, List.getElem?_map, List.getElem?_range (show i < (ti P t).size by omega)]
        rw [this]; exact ho i (by omega)
  | false =>
    refine ⟨u 0, ?_, by simpa [sub] using hr 0 hp⟩
    have := hc 0 hp
    simp only [Nat.add_zero] at this
    simp [Instr.loadAt, Instr.sureAddr, loadVar, isAgg_run hie hp, hg, this]
theorem ok_load (hs : Sim G S) (t : TypeId) (x : V) (a : Value) (ha : S.rep x a) : OkO G P d S (VS (Instr.loadAt t a)) (vLoad P S.h t x) := by
  unfold vLoad
  split
  · rename_i id off
    obtain ⟨b, g1, rfl⟩ := inv_ptr ha
    split
    · rename_i cs hh
      obtain ⟨b', arr, tt, lo, hi, k1, k2, k3, k4, k5⟩ := hs.blk _ _ hh
      rw [g1] at k1; cases k1
      refine OkO.stillRd hs fun ⟨hle, hp⟩ => ?_
      obtain ⟨v, h1, h2⟩ := load_ok (P := P) (S := S) hp (cs := cs) (b := b) (off := off) (o := off) (fun j => arr.getD (off + j) undef) hle
        (fun j hj => by
          rw [cell_of_heap k2]
          have : off + j < arr.size := by omega
          simp [Array.getD, this])
        (fun j hj => (k5 _ (by omega)).1) (fun j hj => (k5 _ (by omega)).2)
      exact ⟨v, run_VS h1, h2⟩
    · trivial
  · rename_i id n sz i off
    obtain ⟨va, vm, vc, g1, g2, g3⟩ := inv_eptr ha
    split
    · rename_i sz' m f hh
      refine OkO.stillRd hs fun ⟨hm, hz, hi, hle, hp⟩ => ?_
      subst hm hz
      have em : vm = m := vec_len hs hh g1
      subst em
      obtain ⟨k1, k2, ⟨k3, _⟩ | ⟨b, cap, arr, tt, lo, hi', k3, k4, kc, k5, k6, k7, k8⟩⟩ := hs.blk _ _ hh
      · omega
      · obtain ⟨b', rfl, rfl⟩ := g3 rfl
        rw [g1] at k3; cases k3
        have hfl := k2 i hi
        obtain ⟨v, h1, h2⟩ := load_ok (P := P) (S := S) hp (cs := (f i).flat) (b := b) (off := i * sz' + off) (o := off) (fun j => arr.getD (i * sz' + (off + j)) undef) (by omega)
          (fun j hj => by
            rw [cell_of_heap k5]
            have h0 : (i + 1) * sz' ≤ vm * sz' := Nat.mul_le_mul_right _ (by omega)
            have h1 : vm * sz' ≤ vc * sz' := Nat.mul_le_mul_right _ k4
            have h2 : (i + 1) * sz' = i * sz' + sz' := by rw [Nat.add_mul, Nat.one_mul]
            have : i * sz' + (off + j) < arr.size := by omega
            simp [Array.getD, this, Nat.add_assoc])
          (fun j hj => (k8 i (off + j) hi (by omega)).1) (fun j hj => (k8 i (off + j) hi (by omega)).2)
        exact ⟨v, run_VS h1, h2⟩
    · trivial
  · rename_i cs
    obtain ⟨b, off, u, rfl, h1, h2, h3, h4⟩ := inv_iptr ha
    refine OkO.still hs fun ⟨hle, hp⟩ => ?_
    obtain ⟨v, h5, h6⟩ := load_ok (P := P) (S := S) hp (cs := cs) (b := b) (off := off) (o := 0) u (by omega) (fun j hj => h2 j (by omega)) (fun j hj => by rw [Nat.zero_add]; exact .pure (h4 j (by omega))) (fun j hj => h3 j (by omega))
    exact ⟨v, run_VS h5, h6⟩
  · trivial
end Go.Abs
namespace Go.Abs
open Go
variable {G : PG}
variable {P : Program} {d : Nat} {S : Sv}
theorem ok_len (hs : Sim G S) (t : TypeId) (ty : TypeId) (x : V) (a : Value) (ha : S.rep x a) : OkO G P d S (VS (Builtin.len_ #[t] ty #[a])) (vLen S.h (ti P t) x) := by
  unfold vLen
  split
  · rename_i s hd
    obtain rfl := inv_str ha
    exact OkO.still hs fun _ => ⟨_, run_VS (by simp [Builtin.len_, run_und (und_str hd), size_mk, goInt]), .pure (.int _ _)⟩
  · rename_i e hd
    obtain ⟨va, rfl⟩ := inv_nil ha
    exact OkO.still hs fun _ => ⟨_, run_VS (by simp [Builtin.len_, run_und (und_slice hd), goInt]), .pure (.int _ _)⟩
  · rename_i e n f hd
    have hr : (Builtin.len_ #[t] ty #[a]).run P S.w = .ok (.int .i64 n) S.w := by
      cases inv_sl ha with
      | sl0 => simp [Builtin.len_, run_und (und_slice hd), goInt]
      | sl => simp [Builtin.len_, run_und (und_slice hd), goInt]
    exact OkO.still hs fun _ => ⟨_, run_VS hr, .pure (.int _ _)⟩
  · rename_i e id n hd
    split
    · rename_i sz m f hh
      refine OkO.stillRd hs fun hm => ⟨.int .i64 n, run_VS ?_, .pure (.int _ _)⟩
      obtain ⟨va, vm, vc, g1, g2, g3⟩ := inv_vec ha
      have em := vec_len hs hh g1
      obtain rfl := g3 (by omega)
      rw [g1]
      simp [Builtin.len_, run_und (und_slice hd), goInt]
      omega
    · trivial
  · rename_i e id n s o kk hd
    split
    · rename_i sz m f hh
      refine OkO.stillRd hs fun hm => ⟨.int .i64 kk, run_VS ?_, .pure (.int _ _)⟩
      obtain ⟨va, vm, vc, g1, g2, g3⟩ := inv_vv ha
      have em := vec_len hs hh g1
      obtain ⟨_, A, rfl, _⟩ := g3 (by omega)
      simp [Builtin.len_, run_und (und_slice hd), goInt]
    · trivial
  · trivial
theorem ok_min (hs : Sim G S) (ts : Array TypeId) (ty : TypeId) (x y : V) (a b : Value) (ha : S.rep x a) (hb : S.rep y b) : OkO G P d S (VS (Builtin.min_ ts ty #[a, b])) (vMin x y) := by
  unfold vMin
  split
  · obtain rfl := inv_int ha
    obtain rfl := inv_int hb
    refine OkO.still hs fun hk => ?_
    subst hk
    refine ⟨_, run_VS (u := .int _ _) ?_, .pure (.int _ _)⟩
    rename_i k x y
    have : (if y < x then y else x) = min x y := by split <;> omega
    simp [Builtin.min_, Builtin.min2, this]
  · trivial
theorem ok_max (hs : Sim G S) (ts : Array TypeId) (ty : TypeId) (x y : V) (a b : Value) (ha : S.rep x a) (hb : S.rep y b) : OkO G P d S (VS (Builtin.max_ ts ty #[a, b])) (vMax x y) := by
  unfold vMax
  split
  · obtain rfl := inv_int ha
    obtain rfl := inv_int hb
    refine OkO.still hs fun hk => ?_
    subst hk
    refine ⟨_, run_VS (u := .int _ _) ?_, .pure (.int _ _)⟩
    rename_i k x y
    have : (if y > x then y else x) = max x y := by split <;> omega
    simp [Builtin.max_, Builtin.max2, this]
  · trivial
theorem bytes_run {a : Addr} {n c : Nat} {f : Nat → V} (u : Nat → Value) (hc : ∀ j, j < n → S.w.cell? (a.add j) = some (u j)) (hu : ∀ j, j < n → ∃ m, f j = .int .u8 m ∧ u j = .int .u8 m) :
    (Conv.bytesToString (.slice (some a) n c)).run P S.w = .ok (.string ⟨(bytesOf n f).toArray⟩) S.w := by
  let m : Nat → Int := fun j => match u j with | .int _ m => m | _ => 0
  have hm : ∀ j, j < n → u j = .int .u8 (m j) := fun j hj => by obtain ⟨q, _, h2⟩ := hu j hj; simp [m, h2]
  have hl := run_loadCells (P := P) (w := S.w) a n (fun j => .int .u8 (m j)) (fun j hj => by rw [hc j hj, hm j hj])
  have e : (List.range n).map (fun j => Value.int .u8 (m j)) = ((List.range n).map m).map (Value.int .u8) := by simp [List.map_map, Function.comp_def]
  rw [e] at hl
  rw [run_bytesToString _ _ _ _ _ hl]
  have push : ∀ (l : List Int) (r : List UInt8), l.foldl (fun (r : ByteArray) n => r.push (UInt8.ofNat n.toNat)) ⟨r.toArray⟩ = ⟨(r ++ l.map fun n => UInt8.ofNat n.toNat).toArray⟩ := by
    intro l
    induction l with
    | nil => intro r; simp
    | cons x l ih =>
      intro r
      rw [List.foldl_cons]
      have : (⟨r.toArray⟩ : ByteArray).push (UInt8.ofNat x.toNat) = ⟨(r ++ [UInt8.ofNat x.toNat]).toArray⟩ := by
        show (⟨r.toArray.push _⟩ : ByteArray) = _
        simp
      rw [this, ih]
      simp
  have := push ((List.range n).map m) []
  rw [show (⟨([] : List UInt8).toArray⟩ : ByteArray) = ByteArray.empty from rfl] at this
  rw [this]
  congr 3
  simp only [List.nil_append, List.map_map, bytesOf]
  refine congrArg List.toArray (List.map_congr_left fun j hj => ?_)
  obtain ⟨q, h1, h2⟩ := hu j (by simpa using hj)
  have := hm j (by simpa using hj)
  rw [h2] at this
  cases this
  simp [h1, V.toByte]
theorem ok_convStr {s t : TypeId} {e : TypeId} (h1 : (ti P s).d = .slice e) (h2 : (ti P t).d = .str) (h3 : (ti P e).d = .int .u8) (v : Value) (n : Nat) (f : Nat → V) (a : Option Addr) (c : Nat) (hv : v = .slice a n c)
    (u : Nat → Value) (hc : ∀ ad, a = some ad → ∀ j, j < n → S.w.cell? (ad.add j) = some (u j)) (hu : ∀ j, j < n → ∃ m, f j = .int .u8 m ∧ u j = .int .u8 m) (h0 : a = none → n = 0) :
    (convert s t v).run P S.w = .ok (.string ⟨(bytesOf n f).toArray⟩) S.w := by
  subst hv
  have hb : (Conv.bytesToString (.slice a n c)).run P S.w = .ok (.string ⟨(bytesOf n f).toArray⟩) S.w := by
    cases a with
    | none => obtain rfl := h0 rfl; simp [Conv.bytesToString, bytesOf]; rfl
    | some ad => exact bytes_run u (hc ad rfl) hu
  simp only [convert, Sem.run_bind, run_und (und_slice h1), run_und (und_str h2), Result.andThen_ok, run_und (und_int h3), hb]
theorem ok_convInt (hs : Sim G S) {s t : TypeId} {k k' k0 : IntKind} (n : Int) (h1 : (ti P s).d = .int k') (h2 : (ti P t).d = .int k) : OkO G P d S (VS (convert s t (.int k0 n))) (vToInt k n) := by
  have hr : (convert s t (.int k0 n)).run P S.w = .ok (.int k (k.wrap n)) S.w := by
    simp only [convert, Sem.run_bind, run_und (und_int h1), run_und (und_int h2), Result.andThen_ok, Conv.intToInt, Sem.run_pure]
  unfold vToInt
  cases hk : isI64 k with
  | true =>
    refine OkO.still hs fun hp => ⟨_, run_VS hr, ?_⟩
    obtain rfl := isI64_true hk
    rw [wrap_i64 hp]
    exact .pure (.int _ _)
  | false => exact OkO.still hs fun _ => ⟨_, run_VS hr, .pure (.int _ _)⟩
theorem ok_convRune {s t : TypeId} {k' : IntKind} (k0 : IntKind) (n : Int) (h1 : (ti P s).d = .int k') (h2 : (ti P t).d = .str) (hp1 : 0 ≤ n) (hp2 : n < 128) : (convert s t (.int k0 n)).run P S.w = .ok (.string ⟨#[UInt8.ofNat n.toNat]⟩) S.w := by
  have hv : Utf8.valid n = true := by
    unfold Utf8.valid
    simp only [Bool.and_eq_true, Bool.or_eq_true, decide_eq_true_eq]
    omega
  have he : Utf8.encode n = ⟨#[UInt8.ofNat n.toNat]⟩ := by
    unfold Utf8.encode
    simp only [hv, if_true]
    rw [if_pos (by omega)]
  simp only [convert, Sem.run_bind, run_und (und_int h1), run_und (und_str h2), Result.andThen_ok, Conv.intToString, Sem.run_pure, he]
theorem inv_one_byte {x : V} {m : Int} {u : Value} {imm w} (h : RepP imm w (x.flat.getD 0 .any) u) (e : x = .int .u8 m) : u = .int .u8 m := by
  subst e
  simp only [V.flat, List.getD_cons_zero] at h
  cases h; rfl
theorem freeze_size (w : World) (a : Addr) : (w.freeze a 1).heap.size = w.heap.size := by
  unfold World.freeze
  rw [if_neg (by decide)]
  simp
theorem freeze_other (w : World) (b o : Nat) {c : Nat} (h : c ≠ b) : (w.freeze ⟨b, o, none⟩ 1).heap[c]? = w.heap[c]? := by
  unfold World.freeze
  rw [if_neg (by decide)]
  simp only [Array.getElem?_modify, if_neg (Ne.symm h)]
theorem freeze_end {w : World} {b : Nat} {arr : Array Value} {t : TypeId} {lo hi : Nat} (h : w.heap[b]? = some (.cells arr t (lo, hi))) (hf : lo = hi ∨ arr.size ≤ lo) :
    ∃ lo2 hi2, (w.freeze ⟨b, arr.size, none⟩ 1).heap[b]? = some (.cells arr t (lo2, hi2)) ∧ (lo2 = hi2 ∨ arr.size ≤ lo2) := by
  have e : (w.freeze ⟨b, arr.size, none⟩ 1).heap[b]? = some (.cells arr t (if lo == hi then (arr.size, arr.size + 1) else (min lo arr.size, max hi (arr.size + 1)))) := by
    unfold World.freeze
    rw [if_neg (by decide)]
    simp only [Array.getElem?_modify, if_pos, h, Option.map_some]
  by_cases hl : lo = hi
  · rw [if_pos (by simpa using hl)] at e
    exact ⟨_, _, e, .inr (Nat.le_refl _)⟩
  · rw [if_neg (by simpa using hl)] at e
    refine ⟨_, _, e, .inr ?_⟩
    rcases hf with hf | hf
    · exact absurd hf hl
    · omega
theorem ok_conv_bytes (hs : Sim G S) (s t : TypeId) (x : V) (a : Value) (ha : S.rep x a) (hx : ∀ q, x ≠ .str q) : OkO G P d S (VS (convert s t a)) (vConv P S.h d s t x) := by
  unfold vConv
  split
  · rename_i k n
    obtain rfl := inv_int ha
    split
    · rename_i h1 h2
      exact ok_convInt hs n h1 h2
    · rename_i h1 h2
      refine OkO.still hs fun ⟨hp1, hp2⟩ => ⟨_, run_VS (ok_convRune k n h1 h2 hp1 hp2), .pure (.str _)⟩
    · trivial
  · rename_i q; exact absurd rfl (hx q)
  · obtain ⟨va, rfl⟩ := inv_nil ha
    split
    · rename_i e h1 h2
      split
      · rename_i h3
        refine OkO.still hs fun _ => ⟨_, run_VS (ok_convStr h1 h2 h3 _ 0 (fun _ => .any) va 0 rfl (fun _ => undef) (fun _ _ j hj => by omega) (fun j hj => by omega) (fun _ => rfl)), .pure ?_⟩
        exact .str []
      · trivial
    · trivial
  · rename_i n f
    split
    · rename_i e h1 h2
      split
      · rename_i h3
        refine OkO.still hs fun hp => ?_
        cases inv_sl ha with
        | sl0 _ va c =>
          exact ⟨_, run_VS (ok_convStr h1 h2 h3 _ 0 f va c rfl (fun _ => undef) (fun _ _ j hj => by omega) (fun j hj => by omega) (fun _ => rfl)), .pure (.str _)⟩
        | sl _ _ b off c sz u hb hnc hsz hf hc ho hp' =>
          refine ⟨_, run_VS (ok_convStr h1 h2 h3 _ n f _ c rfl (fun j => u j 0) (fun ad had j hj => ?_) (fun j hj => ?_) (fun h => by cases h)), .pure (.str _)⟩
          · cases had
            obtain ⟨m, hm⟩ := hp j hj
            have : sz = 1 := by rw [← hf j hj, hm]; rfl
            subst this
            rw [addr_add]
            simpa using hc j 0 hj (by omega)
          · obtain ⟨m, hm⟩ := hp j hj
            exact ⟨m, hm, inv_one_byte (hp' j 0 hj hsz) hm⟩
      · trivial
    · trivial
  · rename_i id n
    split
    · rename_i e h1 h2
      split
      · rename_i sz m f h3 hh
        refine OkO.stillRd hs fun ⟨hm, hz, hp⟩ => ?_
        subst hm hz
        obtain ⟨va, vm, vc, g1, g2, g3⟩ := inv_vec ha
        have em := vec_len hs hh g1
        subst em
        have hv := g3 rfl
        obtain ⟨k1, k2, ⟨k3, va', k4⟩ | ⟨b, cap, arr, tt, lo, hi', k3, k4, kc, k5, k6, k7, k8⟩⟩ := hs.blk _ _ hh
        · rw [k4] at hv
          obtain rfl := k3
          exact ⟨_, run_VS (ok_convStr h1 h2 h3 _ 0 f va' 0 hv (fun _ => undef) (fun _ _ j hj => by omega) (fun j hj => by omega) (fun _ => rfl)), .pure (.str _)⟩
        · rw [k3] at hv
          refine ⟨_, run_VS (ok_convStr h1 h2 h3 _ vm f _ cap hv (fun j => arr.getD j undef) (fun ad had j hj => ?_) (fun j hj => ?_) (fun h => by cases h)), .pure (.str _)⟩
          · cases had
            rw [addr_add, cell_of_heap k5]
            have hj' : j < arr.size := by rw [Nat.mul_one] at k6; omega
            simp [Array.getD, hj']
          · obtain ⟨m, hm⟩ := hp j hj
            refine ⟨m, hm, ?_⟩
            have := (k8 j 0 hj (by omega)).1
            rw [hm] at this
            simp only [V.flat, List.getD_cons_zero, Nat.mul_one, Nat.add_zero] at this
            exact inv_int (S := S) this
      · trivial
    · rename_i es e h1 h2
      split
      · rename_i sz m f h3 hh
        rintro ⟨hst, hm, hn, hs1⟩
        subst hst hm
        obtain ⟨va, vm, vc, g1, g2, g3⟩ := inv_vec ha
        have em := vec_len hs hh g1
        subst em
        have hv := g3 rfl
        obtain ⟨k1, k2, ⟨k3, va', k4⟩ | ⟨b, cap, arr, tt, lo, hi', k3, k4, kc, k5, k6, k7, k8⟩⟩ := hs.blk _ _ hh
        · omega
        · have ee : es = e := by rw [h1] at h2; cases h2; rfl
          subst ee
          obtain ⟨lo2, hi2, f1, f2⟩ := freeze_end k5 (mk1 k7)
          have hrun : (convert s s a).run P S.w = .ok a (S.w.freeze ⟨b, arr.size, none⟩ 1) := by
            rw [hv, k3]
            have hsh : S.w.shape? b = some (tt, arr.size) := by unfold World.shape?; rw [k5]
            simp [convert, run_und (und_slice h1), run_und (und_int h3), markStringish, hsh]
          have hγ : upd S.γ id (S.γ id) = S.γ := by funext j; by_cases e : j = id <;> simp [upd, e]
          have hown : (S.h id).isSome = true ∧ blkOf (S.γ id) = some b := ⟨by rw [hh]; rfl, by simp [k3, blkOf]; omega⟩
          have hoth : ∀ c, c ≠ b → (S.w.freeze ⟨b, arr.size, none⟩ 1).heap[c]? = S.w.heap[c]? := fun c hc => freeze_other _ _ _ hc
          have hsame : ∀ c, S.imm c → (S.w.freeze ⟨b, arr.size, none⟩ 1).heap[c]? = S.w.heap[c]? := fun c hc => hoth c (fun e => by
            subst e; exact hs.disj c ⟨id, hown⟩ hc)
          have := Sim.upd hs (fun _ => False) id (S.γ id) (.vec sz vm f) (S.w.freeze ⟨b, arr.size, none⟩ 1) rfl rfl rfl (by rw [freeze_size]; exact Nat.le_refl _)
            (fun c hc hn => hoth c (fun e => hn (e ▸ hown))) (fun c hc => .inl ⟨hown.1, hc⟩)
            ⟨k1, k2, .inr ⟨b, cap, arr, tt, lo2, hi2, by rw [hγ]; exact k3, k4, kc, f1, k6, f2.imp (fun z => z) (fun z => ⟨hs1, z⟩), fun i j hi hj => by
              rw [hγ]
              exact ⟨(k8 i j hi hj).1.mono (fun _ h => h) hsame fun _ _ => .refl _, (k8 i j hi hj).2⟩⟩⟩
            (.inr (.refl _))
          rw [hγ] at this
          refine ⟨_, _, _, .inl (run_VS hrun), this.1, this.2, ?_⟩
          exact ha.mono (fun _ h => h) hsame fun _ _ => .refl _
      · trivial
    · trivial
  · rename_i id off n
    split
    · rename_i e h1 h2
      split
      · rename_i cs h3 hh
        refine OkO.stillRd hs fun ⟨hm, hp⟩ => ?_
        obtain ⟨b, a0, c, g1, rfl, g2, g3⟩ := inv_vw ha
        obtain ⟨b', arr, tt, lo, hi', k1, k2, k3, k4, k5⟩ := hs.blk _ _ hh
        rw [g1] at k1
        cases k1
        refine ⟨_, run_VS (ok_convStr h1 h2 h3 _ n (fun i => cs.getD (off + i) .any) _ c rfl (fun j => arr.getD (off + j) undef) (fun ad had j hj => ?_) (fun j hj => ?_) (fun h => by cases h)), .pure (.str _)⟩
        · cases had
          rw [g3 (by omega), addr_add, cell_of_heap k2]
          have hj' : off + j < arr.size := by omega
          simp [Array.getD, hj']
        · obtain ⟨m, hm'⟩ := hp j hj
          refine ⟨m, hm', ?_⟩
          have := (k5 (off + j) (by omega)).1
          rw [hm'] at this
          exact inv_int (S := S) this
      · trivial
    · trivial
  · trivial
end Go.Abs
namespace Go.Abs
open Go
variable {G : PG}
variable {P : Program} {d : Nat} {S : Sv}
def nilSem (a : Value) : Sem Next := match a with
    | .pointer none | .nilIface | .nilFunc => runtimePanic .nilDeref
    | .func (.method name) first captured =>
      match (first[0]? : Option Value) with
      | some .nilIface => runtimePanic .nilDeref
      | some (.iface t w) => do
        if (← nilAhead ((← program).types.size + Made.depth) t w name) != some false then
          unsupported (.noEntry "op/nilCheck.the method's receiver behind this interface value is a nil pointer, or cannot be seen to be none, and the arguments act or may panic (ledger 612)")
        pure (.value (.func (.method name) first captured))
      | _ => pure (.value (.func (.method name) first captured))
    | x => pure (.value x)
theorem ok_nil (hs : Sim G S) (x : V) (a : Value) (ha : S.rep x a) : OkO G P d S (nilSem a) (vNil S.h x) := by
  unfold vNil
  split
  · obtain ⟨b, g1, rfl⟩ := inv_ptr ha
    exact OkO.still hs fun _ => ⟨_, rfl, .ptr _ _ b g1⟩
  · rename_i id n sz i off
    split
    · rename_i z m f hh
      refine OkO.stillRd hs fun hm => ?_
      obtain ⟨va, vm, vc, g1, g2, g3⟩ := inv_eptr ha
      have em := vec_len hs hh g1
      obtain ⟨b, rfl, rfl⟩ := g3 (by omega)
      exact ⟨_, rfl, ha⟩
    · trivial
  · obtain ⟨b, off, u, rfl, _⟩ := inv_iptr ha
    exact OkO.still hs fun _ => ⟨_, rfl, ha⟩
  · split
    · obtain ⟨p, q, rfl, _⟩ := inv_fn ha
      exact OkO.still hs fun _ => ⟨_, rfl, ha⟩
    · trivial
  · trivial
theorem bnd_ok {n : Nat} {o : Option V} {q : Option Value} {dflt r : Int} {p : Prop} (h : bnd n o dflt = some (p, r)) (ho : (o = none ∧ q = none) ∨ ∃ x v, o = some x ∧ q = some v ∧ S.rep x v) (hp : p) :
    (o = none ∧ q = none ∧ r = dflt) ∨ ∃ k, q = some (.int k r) ∧ 0 ≤ r ∧ r ≤ n := by
  unfold bnd at h
  split at h
  · cases h
    rcases ho with ⟨_, rfl⟩ | ⟨x, v, h1, _⟩
    · exact .inl ⟨rfl, rfl, rfl⟩
    · cases h1
  · cases h
    rcases ho with ⟨h1, _⟩ | ⟨x, v, h1, rfl, h3⟩
    · cases h1
    · cases h1
      obtain rfl := inv_int h3
      exact .inr ⟨_, rfl, hp.1, hp.2⟩
  · cases h
theorem sliceBound_ok {k : IntKind} {i : Int} {y : Nat} {code : BoundsCode} (h0 : 0 ≤ i) (h1 : i ≤ y) (w : World) : (Instr.sliceBound (.int k i) y code).run P w = .ok i.toNat w := by
  simp [Instr.sliceBound, asIntOf, h0, h1]
theorem ok_slice_str (hs : Sim G S) (t : TypeId) (x : List UInt8) (lo hi : Option V) (a b : Option Value) {ph pl : Prop} {l h : Int} (ht : (ti P t).d = .str)
    (e1 : bnd x.length hi x.length = some (ph, h)) (e2 : bnd x.length lo 0 = some (pl, l))
    (ha : (lo = none ∧ a = none) ∨ ∃ y v, lo = some y ∧ a = some v ∧ S.rep y v) (hb : (hi = none ∧ b = none) ∨ ∃ y v, hi = some y ∧ b = some v ∧ S.rep y v) :
    OkO G P d S (VS (Instr.sliceAt t (.string ⟨x.toArray⟩) a b none)) (.val (ph ∧ pl ∧ l ≤ h) (.str ((x.drop l.toNat).take (h.toNat - l.toNat)))) := by
  refine OkO.still hs fun ⟨h1, h2, h3⟩ => ⟨_, run_VS (u := .string ⟨((x.drop l.toNat).take (h.toNat - l.toNat)).toArray⟩) ?_, .pure (.str _)⟩
  have ex : ∀ l h : Nat, (⟨x.toArray⟩ : ByteArray).extract l h = ⟨((x.drop l).take (h - l)).toArray⟩ := by
    intro l h
    apply ByteArray.ext
    simp [ByteArray.data_extract, List.extract_eq_take_drop]
  have hl : h.toNat ≤ x.length := by
    rcases bnd_ok e1 hb h1 with ⟨_, _, rfl⟩ | ⟨k, _, q1, q2⟩ <;> omega
  rcases bnd_ok e1 hb h1 with ⟨rfl, rfl, rfl⟩ | ⟨k, rfl, q1, q2⟩ <;> rcases bnd_ok e2 ha h2 with ⟨rfl, rfl, rfl⟩ | ⟨k', rfl, q3, q4⟩
  · simp [Instr.sliceAt, Instr.slice, run_und (und_str ht), Instr.sliceBounds]
  · have := sliceBound_ok (P := P) (k := k') (y := x.length) (code := .sliceB) q3 q4 S.w
    simp [Instr.sliceAt, Instr.slice, run_und (und_str ht), Instr.sliceBounds, size_mk, ex, this]
  · have := sliceBound_ok (P := P) (k := k) (y := x.length) (code := .sliceAlen) q1 q2 S.w
    simp [Instr.sliceAt, Instr.slice, run_und (und_str ht), Instr.sliceBounds, size_mk, ex, this]
  · have w1 := sliceBound_ok (P := P) (k := k) (y := x.length) (code := .sliceAlen) q1 q2 S.w
    have w2 := sliceBound_ok (P := P) (k := k') (y := h.toNat) (code := .sliceB) q3 (by omega) S.w
    simp [Instr.sliceAt, Instr.slice, run_und (und_str ht), Instr.sliceBounds, size_mk, ex, w1, w2]
theorem sl_shift {n : Nat} {f : Nat → V} {v : Value} {e : TypeId} (h : RepP S.imm S.w (.sl n f) v) {l r : Nat} (hlr : l ≤ r) (hr : r ≤ n) (hsz : 0 < n → (f 0).flat.length = (ti P e).size) (hpos : 0 < n → 0 < (ti P e).size)
    {m : Nat} (hm : ∀ a c, v = .slice a n c → r ≤ c) (a' : Option Addr) (ha' : ∀ a c, v = .slice a n c → a' = (if m = l then a else a.map (·.add (l * (ti P e).size)))) (hml : m = l → r = l) (cc : Nat) (hcc : r - l ≤ cc) :
    RepP S.imm S.w (.sl (r - l) (shF f l)) (.slice a' (r - l) cc) := by
  by_cases h0 : r - l = 0
  · rw [h0]; exact .sl0 _ _ _
  · cases h with
    | sl0 => omega
    | sl _ _ b off c sz u hb hnc hs hf hc ho hp =>
      have hz : sz = (ti P e).size := by rw [← hsz (by omega), hf 0 (by omega)]
      have := ha' _ _ rfl
      rw [if_neg (by intro hh; have := hml hh; omega)] at this
      simp only [Option.map_some, addr_add] at this
      rw [this]
      refine .sl _ _ b _ cc sz (fun i j => u (i + l) j) hb hcc hs (fun i hi => hf _ (by omega)) (fun i j hi hj => ?_) (fun i j hi hj => ho _ _ (by omega) hj) (fun i j hi hj => hp _ _ (by omega) hj)
      have := hc (i + l) j (by omega) hj
      rw [← hz]
      rw [show off + l * sz + (i * sz + j) = off + ((i + l) * sz + j) by rw [Nat.add_mul]; omega]
      exact this
theorem ok_slice_sl (hs : Sim G S) (t e : TypeId) (n : Nat) (f : Nat → V) (v : Value) (lo hi : Option V) (a b : Option Value) {ph pl : Prop} {l h : Int} (ht : (ti P t).d = .slice e) (hv : S.rep (.sl n f) v)
    (e1 : bnd n hi n = some (ph, h)) (e2 : bnd n lo 0 = some (pl, l)) (hie : 0 < (ti P e).size)
    (ha : (lo = none ∧ a = none) ∨ ∃ y v, lo = some y ∧ a = some v ∧ S.rep y v) (hb : (hi = none ∧ b = none) ∨ ∃ y v, hi = some y ∧ b = some v ∧ S.rep y v) :
    OkO G P d S (VS (Instr.sliceAt t v a b none)) (.val (ph ∧ pl ∧ l ≤ h ∧ (0 < n → (f 0).flat.length = (ti P e).size)) (.sl (h.toNat - l.toNat) (shF f l.toNat))) := by
  refine OkO.still hs fun ⟨h1, h2, h3, h4⟩ => ?_
  obtain ⟨ie, hi1, hi2⟩ := ti_size (P := P) hie
  have hvs : ∃ a0 c, v = .slice a0 n c ∧ n ≤ c := by
    cases inv_sl hv with
    | sl0 => exact ⟨_, _, rfl, Nat.zero_le _⟩
    | sl _ _ _ _ _ _ _ _ hnc => exact ⟨_, _, rfl, hnc⟩
  obtain ⟨a0, c, rfl, hnc⟩ := hvs
  have hl : h.toNat ≤ n := by rcases bnd_ok e1 hb h1 with ⟨_, _, rfl⟩ | ⟨k, _, q1, q2⟩ <;> omega
  have hb0 : (Instr.sliceBounds true n c a b none).run P S.w = .ok (l.toNat, h.toNat, c) S.w := by
    rcases bnd_ok e1 hb h1 with ⟨rfl, rfl, rfl⟩ | ⟨k, rfl, q1, q2⟩ <;> rcases bnd_ok e2 ha h2 with ⟨rfl, rfl, rfl⟩ | ⟨k', rfl, q3, q4⟩
    · simp [Instr.sliceBounds]
    · have := sliceBound_ok (P := P) (k := k') (y := n) (code := .sliceB) q3 q4 S.w
      simp [Instr.sliceBounds, this]
    · have := sliceBound_ok (P := P) (k := k) (y := c) (code := .sliceAcap) q1 (by omega) S.w
      simp [Instr.sliceBounds, this]
    · have w1 := sliceBound_ok (P := P) (k := k) (y := c) (code := .sliceAcap) q1 (by omega) S.w
      have w2 := sliceBound_ok (P := P) (k := k') (y := h.toNat) (code := .sliceB) q3 (by omega) S.w
      simp [Instr.sliceBounds, w1, w2]
  refine ⟨.slice (if c = l.toNat then a0 else a0.map (·.add (l.toNat * ie.size))) (h.toNat - l.toNat) (c - l.toNat), run_VS ?_, .pure ?_⟩
  · have hsz := run_size (P := P) hi1
    have : (Instr.slice t (.slice a0 n c) a b none).run P S.w = .ok (.slice (if c = l.toNat then a0 else a0.map (·.add (l.toNat * ie.size))) (h.toNat - l.toNat) (c - l.toNat)) S.w := by
      simp only [Instr.slice, Sem.run_bind, run_und (und_slice ht), Result.andThen_ok, hb0, hsz, Sem.run_pure]
    simp only [Instr.sliceAt, Sem.run_bind, run_und (und_slice ht), Result.andThen_ok, this]
  · have hlh : l.toNat ≤ h.toNat := by omega
    refine sl_shift (P := P) (S := S) (e := e) (inv_sl hv) hlh hl h4 (fun _ => hie) (m := c) (fun a c' hh => by cases hh; omega) _ (fun a c' hh => by cases hh; rw [hi2]) (fun hh => by omega) _ (by omega)
end Go.Abs
namespace Go.Abs
open Go
variable {G : PG}
variable {P : Program} {d : Nat} {S : Sv}
def OptRep (S : Sv) (o : Option V) (q : Option Value) : Prop := (o = none ∧ q = none) ∨ ∃ x v, o = some x ∧ q = some v ∧ S.rep x v
theorem OkO.imp {s : Sem Next} {p q : Prop} {v : V} (h : OkO G P d S s (.val p v)) (hpq : q → p) : OkO G P d S s (.val q v) := fun hq => h (hpq hq)
theorem OkO.bindVal {s : Sem Next} {p q : Prop} {v : V} (h : q → OkO G P d S s (.val p v)) (hpq : q → p) : OkO G P d S s (.val q v) := fun hq => h hq (hpq hq)
theorem ok_slice3 (hs : Sim G S) (t e : TypeId) (n : Nat) (f : Nat → V) (v : Value) (lo hi mx : Option V) (a b q : Option Value) {pm ph pl : Prop} {m l h : Int} (ht : (ti P t).d = .slice e) (hv : S.rep (.sl n f) v)
    (e0 : bnd n mx 0 = some (pm, m)) (hmx : mx.isSome = true) (e1 : bnd n hi n = some (ph, h)) (hhi : hi.isSome = true) (e2 : bnd n lo 0 = some (pl, l)) (hie : 0 < (ti P e).size)
    (hq : OptRep S mx q) (ha : OptRep S lo a) (hb : OptRep S hi b) :
    OkO G P d S (VS (Instr.sliceAt t v a b q)) (.val (pm ∧ ph ∧ pl ∧ h ≤ m ∧ l ≤ h ∧ (0 < n → (f 0).flat.length = (ti P e).size)) (bif decide (m = l) then .nilsl else .sl (h.toNat - l.toNat) (shF f l.toNat))) := by
  refine OkO.still hs fun ⟨h0, h1, h2, h3, h4, h5⟩ => ?_
  obtain ⟨ie, hi1, hi2⟩ := ti_size (P := P) hie
  have hvs : ∃ a0 c, v = .slice a0 n c ∧ n ≤ c := by
    cases inv_sl hv with
    | sl0 => exact ⟨_, _, rfl, Nat.zero_le _⟩
    | sl _ _ _ _ _ _ _ _ hnc => exact ⟨_, _, rfl, hnc⟩
  obtain ⟨a0, c, rfl, hnc⟩ := hvs
  obtain ⟨km, rfl, m1, m2⟩ : ∃ k, q = some (.int k m) ∧ 0 ≤ m ∧ m ≤ n := by
    rcases bnd_ok e0 hq h0 with ⟨rfl, _, _⟩ | hh
    · cases hmx
    · exact hh
  obtain ⟨kh, rfl, q1, q2⟩ : ∃ k, b = some (.int k h) ∧ 0 ≤ h ∧ h ≤ n := by
    rcases bnd_ok e1 hb h1 with ⟨rfl, _, _⟩ | hh
    · cases hhi
    · exact hh
  have w0 := sliceBound_ok (P := P) (k := km) (y := c) (code := .slice3Acap) m1 (by omega) S.w
  have w1 := sliceBound_ok (P := P) (k := kh) (y := m.toNat) (code := .slice3B) q1 (by omega) S.w
  have hb0 : (Instr.sliceBounds true n c a (some (.int kh h)) (some (.int km m))).run P S.w = .ok (l.toNat, h.toNat, m.toNat) S.w := by
    rcases bnd_ok e2 ha h2 with ⟨rfl, rfl, rfl⟩ | ⟨k', rfl, q3, q4⟩
    · simp [Instr.sliceBounds, w0, w1]
    · have w2 := sliceBound_ok (P := P) (k := k') (y := h.toNat) (code := .slice3C) q3 (by omega) S.w
      simp [Instr.sliceBounds, w0, w1, w2]
  refine ⟨.slice (if m.toNat = l.toNat then a0 else a0.map (·.add (l.toNat * ie.size))) (h.toNat - l.toNat) (m.toNat - l.toNat), run_VS ?_, .pure ?_⟩
  · have hsz := run_size (P := P) hi1
    have : (Instr.slice t (.slice a0 n c) a (some (.int kh h)) (some (.int km m))).run P S.w = .ok (.slice (if m.toNat = l.toNat then a0 else a0.map (·.add (l.toNat * ie.size))) (h.toNat - l.toNat) (m.toNat - l.toNat)) S.w := by
      simp only [Instr.slice, Sem.run_bind, run_und (und_slice ht), Result.andThen_ok, hb0, hsz, Sem.run_pure]
    simp only [Instr.sliceAt, Sem.run_bind, run_und (und_slice ht), Result.andThen_ok, this]
  · have hl0 : 0 ≤ l := by rcases bnd_ok e2 ha h2 with ⟨_, _, rfl⟩ | ⟨k', _, q3, q4⟩ <;> omega
    by_cases hml : m = l
    · simp only [hml, decide_true, cond_true]
      have e1 : h.toNat - l.toNat = 0 := by omega
      have e2 : l.toNat - l.toNat = 0 := by omega
      rw [e1, e2]
      exact .nilsl _
    · simp only [hml, decide_false, cond_false]
      refine sl_shift (P := P) (S := S) (e := e) (inv_sl hv) (by omega) (by omega) h5 (fun _ => hie) (m := m.toNat) (fun a c' hh => by cases hh; omega) _ (fun a c' hh => by cases hh; rw [hi2]) (fun hh => by omega) _ (by omega)
theorem ok_slice_arr (hs : Sim G S) (t e : TypeId) (len id off : Nat) (v : Value) (lo hi : Option V) (a b : Option Value) {ph pl : Prop} {l h : Int} (ht : (ti P t).d = .arr len e) (hv : S.rep (.ptr id off) v)
    (e1 : bnd len hi len = some (ph, h)) (e2 : bnd len lo 0 = some (pl, l)) (ha : OptRep S lo a) (hb : OptRep S hi b) :
    OkO G P d S (VS (Instr.sliceAt t v a b none)) (.val (ph ∧ pl ∧ l ≤ h ∧ (ti P e).size = 1) (.vw id (off + l.toNat) (h.toNat - l.toNat))) := by
  refine OkO.still hs fun ⟨h1, h2, h3, h4⟩ => ?_
  obtain ⟨ie, hi1, hi2⟩ := ti_size (P := P) (t := e) (by omega)
  obtain ⟨b0, g1, rfl⟩ := inv_ptr hv
  have hl : h.toNat ≤ len := by rcases bnd_ok e1 hb h1 with ⟨_, _, rfl⟩ | ⟨k, _, q1, q2⟩ <;> omega
  have hb0 : (Instr.sliceBounds false len len a b none).run P S.w = .ok (l.toNat, h.toNat, len) S.w := by
    rcases bnd_ok e1 hb h1 with ⟨rfl, rfl, rfl⟩ | ⟨k, rfl, q1, q2⟩ <;> rcases bnd_ok e2 ha h2 with ⟨rfl, rfl, rfl⟩ | ⟨k', rfl, q3, q4⟩
    · simp [Instr.sliceBounds]
    · have := sliceBound_ok (P := P) (k := k') (y := len) (code := .sliceB) q3 q4 S.w
      simp [Instr.sliceBounds, this]
    · have := sliceBound_ok (P := P) (k := k) (y := len) (code := .sliceAlen) q1 (by omega) S.w
      simp [Instr.sliceBounds, this]
    · have w1 := sliceBound_ok (P := P) (k := k) (y := len) (code := .sliceAlen) q1 (by omega) S.w
      have w2 := sliceBound_ok (P := P) (k := k') (y := h.toNat) (code := .sliceB) q3 (by omega) S.w
      simp [Instr.sliceBounds, w1, w2]
  have hsz := run_size (P := P) hi1
  have hlh : l.toNat ≤ h.toNat := by omega
  refine ⟨.slice (some (if len = l.toNat then ⟨b0, off, none⟩ else Addr.add ⟨b0, off, none⟩ (l.toNat * ie.size))) (h.toNat - l.toNat) (len - l.toNat), run_VS ?_, .vw _ _ _ b0 _ _ g1 (by omega) fun hh => ?_⟩
  · simp only [Instr.sliceAt, Sem.run_bind, run_und (und_arr ht), Result.andThen_ok, Instr.sureAddr, Sem.run_pure, hb0, hsz]
  · rw [if_neg (by omega), addr_add, ← hi2, h4, Nat.mul_one]
theorem slice_run {t e : TypeId} {ie : TypeInfo} (ht : (ti P t).d = .slice e) (hie : P.info? e = some ie) {n c N : Nat} (a0 : Option Addr) (hn : n ≤ N) (hN : N ≤ c) {lo hi : Option V} {a b : Option Value} {ph pl : Prop} {l h : Int}
    (e1 : bnd N hi n = some (ph, h)) (e2 : bnd N lo 0 = some (pl, l)) (ha : OptRep S lo a) (hb : OptRep S hi b) (h1 : ph) (h2 : pl) (h3 : l ≤ h) :
    (Instr.sliceAt t (.slice a0 n c) a b none).run P S.w = .ok (.slice (if c = l.toNat then a0 else a0.map (·.add (l.toNat * ie.size))) (h.toNat - l.toNat) (c - l.toNat)) S.w ∧ l.toNat ≤ h.toNat ∧ h.toNat ≤ N ∧ 0 ≤ l := by
  have hl : h.toNat ≤ N ∧ 0 ≤ l := by
    refine ⟨?_, ?_⟩
    · rcases bnd_ok e1 hb h1 with ⟨_, _, rfl⟩ | ⟨k, _, q1, q2⟩ <;> omega
    · rcases bnd_ok e2 ha h2 with ⟨_, _, rfl⟩ | ⟨k, _, q1, q2⟩ <;> omega
  have hb0 : (Instr.sliceBounds true n c a b none).run P S.w = .ok (l.toNat, h.toNat, c) S.w := by
    rcases bnd_ok e1 hb h1 with ⟨rfl, rfl, rfl⟩ | ⟨k, rfl, q1, q2⟩ <;> rcases bnd_ok e2 ha h2 with ⟨rfl, rfl, rfl⟩ | ⟨k', rfl, q3, q4⟩
    · simp [Instr.sliceBounds]
    · have := sliceBound_ok (P := P) (k := k') (y := n) (code := .sliceB) q3 (by omega) S.w
      simp [Instr.sliceBounds, this]
    · have := sliceBound_ok (P := P) (k := k) (y := c) (code := .sliceAcap) q1 (by omega) S.w
      simp [Instr.sliceBounds, this]
    · have w1 := sliceBound_ok (P := P) (k := k) (y := c) (code := .sliceAcap) q1 (by omega) S.w
      have w2 := sliceBound_ok (P := P) (k := k') (y := h.toNat) (code := .sliceB) q3 (by omega) S.w
      simp [Instr.sliceBounds, w1, w2]
  have hsz := run_size (P := P) hie
  have : (Instr.slice t (.slice a0 n c) a b none).run P S.w = .ok (.slice (if c = l.toNat then a0 else a0.map (·.add (l.toNat * ie.size))) (h.toNat - l.toNat) (c - l.toNat)) S.w := by
    simp only [Instr.slice, Sem.run_bind, run_und (und_slice ht), Result.andThen_ok, hb0, hsz, Sem.run_pure]
  refine ⟨?_, by omega, hl⟩
  simp only [Instr.sliceAt, Sem.run_bind, run_und (und_slice ht), Result.andThen_ok, this]
theorem slice3_run {t e : TypeId} {ie : TypeInfo} (ht : (ti P t).d = .slice e) (hie : P.info? e = some ie) {n c : Nat} (a0 : Option Addr) (hnc : n ≤ c) {lo hi mx : Option V} {a b q : Option Value} {pm ph pl : Prop} {m l h : Int}
    (e0 : bnd n mx 0 = some (pm, m)) (hmx : mx.isSome = true) (e1 : bnd n hi n = some (ph, h)) (hhi : hi.isSome = true) (e2 : bnd n lo 0 = some (pl, l)) (hq : OptRep S mx q) (ha : OptRep S lo a) (hb : OptRep S hi b) (h0 : pm) (h1 : ph) (h2 : pl) (h3 : h ≤ m) (h4 : l ≤ h) :
    ∃ u, (Instr.sliceAt t (.slice a0 n c) a b q).run P S.w = .ok u S.w := by
  obtain ⟨km, rfl, m1, m2⟩ : ∃ k, q = some (.int k m) ∧ 0 ≤ m ∧ m ≤ n := by
    rcases bnd_ok e0 hq h0 with ⟨rfl, _, _⟩ | hh
    · cases hmx
    · exact hh
  obtain ⟨kh, rfl, q1, q2⟩ : ∃ k, b = some (.int k h) ∧ 0 ≤ h ∧ h ≤ n := by
    rcases bnd_ok e1 hb h1 with ⟨rfl, _, _⟩ | hh
    · cases hhi
    · exact hh
  have w0 := sliceBound_ok (P := P) (k := km) (y := c) (code := .slice3Acap) m1 (by omega) S.w
  have w1 := sliceBound_ok (P := P) (k := kh) (y := m.toNat) (code := .slice3B) q1 (by omega) S.w
  have hb0 : (Instr.sliceBounds true n c a (some (.int kh h)) (some (.int km m))).run P S.w = .ok (l.toNat, h.toNat, m.toNat) S.w := by
    rcases bnd_ok e2 ha h2 with ⟨rfl, rfl, rfl⟩ | ⟨k', rfl, q3, q4⟩
    · simp [Instr.sliceBounds, w0, w1]
    · have w2 := sliceBound_ok (P := P) (k := k') (y := h.toNat) (code := .slice3C) q3 (by omega) S.w
      simp [Instr.sliceBounds, w0, w1, w2]
  have hsz := run_size (P := P) hie
  have : (Instr.slice t (.slice a0 n c) a (some (.int kh h)) (some (.int km m))).run P S.w = .ok (.slice (if m.toNat = l.toNat then a0 else a0.map (·.add (l.toNat * ie.size))) (h.toNat - l.toNat) (m.toNat - l.toNat)) S.w := by
    simp only [Instr.slice, Sem.run_bind, run_und (und_slice ht), Result.andThen_ok, hb0, hsz, Sem.run_pure]
  exact ⟨.slice (if m.toNat = l.toNat then a0 else a0.map (·.add (l.toNat * ie.size))) (h.toNat - l.toNat) (m.toNat - l.toNat), by simp only [Instr.sliceAt, Sem.run_bind, run_und (und_slice ht), Result.andThen_ok, this]⟩
theorem ok_slice_vec (hs : Sim G S) (t e : TypeId) (sz n id : Nat) (f : Nat → V) (v : Value) (lo hi : Option V) (a b : Option Value) {ph pl : Prop} {l h : Int} (ht : (ti P t).d = .slice e) (hh : S.h id = some (.vec sz n f)) (hv : S.rep (.vec id n) v)
    (e1 : bnd n hi n = some (ph, h)) (e2 : bnd n lo 0 = some (pl, l)) (ha : OptRep S lo a) (hb : OptRep S hi b) (h1 : ph) (h2 : pl) (h3 : l ≤ h) (h4 : sz = (ti P e).size) (h5 : 0 < (ti P e).size) :
    ∃ u, (VS (Instr.sliceAt t v a b none)).run P S.w = .ok (.value u) S.w ∧ S.rep (.vv id n sz l.toNat (h.toNat - l.toNat)) u := by
  obtain ⟨ie, hi1, hi2⟩ := ti_size (P := P) h5
  obtain ⟨va, vm, vc, g1, g2, g3⟩ := inv_vec hv
  have em := vec_len hs hh g1
  subst em
  have hv' := g3 rfl
  rw [g1] at hv'
  subst hv'
  have hcap : vm ≤ vc ∧ (0 < vc → ∃ b, va = some ⟨b, 0, none⟩) := by
    obtain ⟨k1, k2, ⟨k3, a', k4⟩ | ⟨b, cap, arr, tt, lo, hi, k3, k4, kc, k5, k6, k7, k8⟩⟩ := hs.blk _ _ hh
    · rw [k4] at g1; cases g1; exact ⟨Nat.le_refl _, fun h => by omega⟩
    · rw [k3] at g1; cases g1; exact ⟨k4, fun _ => ⟨_, rfl⟩⟩
  obtain ⟨r1, r2, r3, r4⟩ := slice_run (P := P) (S := S) ht hi1 va (Nat.le_refl vm) hcap.1 e1 e2 ha hb h1 h2 h3
  refine ⟨_, run_VS r1, .vv _ _ _ _ _ _ _ _ _ g1 (Nat.le_refl _) (fun _ => ⟨by omega, _, rfl, fun hlt => ?_⟩) rfl⟩
  obtain ⟨b, rfl⟩ := hcap.2 (by omega)
  refine ⟨b, rfl, ?_⟩
  rw [if_neg (by omega)]
  simp only [Option.map_some, addr_add, Nat.zero_add, ← hi2, ← h4]
theorem ok_slice_vv (hs : Sim G S) (t e : TypeId) (sz n id off k : Nat) (f : Nat → V) (v : Value) (lo hi : Option V) (a b : Option Value) {ph pl : Prop} {l h : Int} (ht : (ti P t).d = .slice e) (hh : S.h id = some (.vec sz n f)) (hv : S.rep (.vv id n sz off k) v)
    (e1 : bnd (n - off) hi k = some (ph, h)) (e2 : bnd (n - off) lo 0 = some (pl, l)) (ha : OptRep S lo a) (hb : OptRep S hi b) (h1 : ph) (h2 : pl) (h3 : l ≤ h) (h4 : sz = (ti P e).size) (h5 : 0 < (ti P e).size) :
    ∃ u, (VS (Instr.sliceAt t v a b none)).run P S.w = .ok (.value u) S.w ∧ S.rep (.vv id n sz (off + l.toNat) (h.toNat - l.toNat)) u := by
  obtain ⟨ie, hi1, hi2⟩ := ti_size (P := P) h5
  obtain ⟨va, vm, vc, g1, g2, g3⟩ := inv_vv hv
  have em := vec_len hs hh g1
  subst em
  obtain ⟨q1, A, rfl, hA⟩ := g3 rfl
  have hcap : vm ≤ vc := by
    obtain ⟨k1, k2, ⟨k3, a', k4⟩ | ⟨b, cap, arr, tt, lo, hi, k3, k4, kc, k5, k6, k7, k8⟩⟩ := hs.blk _ _ hh
    · rw [k4] at g1; cases g1; exact Nat.le_refl _
    · rw [k3] at g1; cases g1; exact k4
  obtain ⟨r1, r2, r3, r4⟩ := slice_run (P := P) (S := S) (N := vm - off) (c := vc - off) ht hi1 A (by omega) (by omega) e1 e2 ha hb h1 h2 h3
  refine ⟨_, run_VS r1, .vv _ _ _ _ _ _ _ _ _ g1 (Nat.le_refl _) (fun _ => ⟨by omega, _, by rw [show vc - off - l.toNat = vc - (off + l.toNat) by omega], fun hlt => ?_⟩) rfl⟩
  obtain ⟨b, rfl, rfl⟩ := hA (by omega)
  refine ⟨b, rfl, ?_⟩
  rw [if_neg (by omega)]
  simp only [Option.map_some, addr_add, ← hi2, ← h4, Nat.add_mul]
theorem ok_slice (hs : Sim G S) (t : TypeId) (x : V) (v : Value) (lo hi mx : Option V) (a b q : Option Value) (hv : S.rep x v) (ha : OptRep S lo a) (hb : OptRep S hi b) (hq : OptRep S mx q) :
    OkO G P d S (VS (Instr.sliceAt t v a b q)) (vSlice P S.h t x lo hi mx) := by
  unfold vSlice
  split
  · rename_i s
    obtain rfl := inv_str hv
    split
    · rename_i ht e1 e2
      rcases hq with ⟨_, rfl⟩ | ⟨_, _, hh, _⟩
      · exact ok_slice_str hs t s _ _ _ _ ht e1 e2 ha hb
      · cases hh
    · trivial
  · rename_i n f
    split
    · rename_i e ht
      rcases hq with ⟨_, rfl⟩ | ⟨_, _, hh, _⟩
      · split
        · rename_i e1 e2
          exact OkO.bindVal (fun hp => ok_slice_sl hs t e n f v _ _ _ _ ht hv e1 e2 hp.2.2.2.2 ha hb) (fun hp => ⟨hp.1, hp.2.1, hp.2.2.1, hp.2.2.2.1⟩)
        · trivial
      · cases hh
    · rename_i e m ht
      split
      · split
        · rename_i e0 e1 e2
          exact OkO.bindVal (fun hp => ok_slice3 hs t e n f v _ _ _ _ _ _ ht hv e0 rfl e1 rfl e2 hp.2.2.2.2.2.2 hq ha hb) (fun hp => ⟨hp.1, hp.2.1, hp.2.2.1, hp.2.2.2.1, hp.2.2.2.2.1, hp.2.2.2.2.2.1⟩)
        · trivial
      · trivial
    · trivial
  · rename_i id off
    split
    · rename_i len e ht
      rcases hq with ⟨_, rfl⟩ | ⟨_, _, hh, _⟩
      · split
        · rename_i e1 e2
          exact ok_slice_arr hs t e len id off v _ _ _ _ ht hv e1 e2 ha hb
        · trivial
      · cases hh
    · trivial
  · rename_i id n
    split
    · rename_i e sz m f ht hh
      rcases hq with ⟨_, rfl⟩ | ⟨_, _, hh, _⟩
      · split
        · rename_i e1 e2
          refine OkO.stillRd hs fun ⟨h1, h2, h3, h4, h5, h6⟩ => ?_
          subst h4
          exact ok_slice_vec hs t e sz _ id f v _ _ _ _ ht hh hv e1 e2 ha hb h1 h2 h3 h5 h6
        · trivial
      · cases hh
    · rename_i e sz m f mm ht hh
      split
      · split
        · rename_i e0 e1 e2
          refine OkO.stillRd hs fun ⟨h0, h1, h2, h3, h4, h5, h6⟩ => ?_
          subst h5
          obtain ⟨ie, hi1, hi2⟩ := ti_size (P := P) h6
          obtain ⟨va, vm, vc, g1, g2, g3⟩ := inv_vec hv
          have em := vec_len hs hh g1
          subst em
          have hv' := g3 rfl
          rw [g1] at hv'
          subst hv'
          have hcap : vm ≤ vc := by
            obtain ⟨k1, k2, ⟨k3, a', k4⟩ | ⟨b, cap, arr, tt, lo, hi, k3, k4, kc, k5, k6, k7, k8⟩⟩ := hs.blk _ _ hh
            · rw [k4] at g1; cases g1; exact Nat.le_refl _
            · rw [k3] at g1; cases g1; exact k4
          obtain ⟨u, hu⟩ := slice3_run (P := P) (S := S) ht hi1 va hcap e0 rfl e1 rfl e2 hq ha hb h0 h1 h2 h3 h4
          exact ⟨u, run_VS hu, .any _⟩
        · trivial
      · trivial
    · trivial
  · rename_i id n s off k
    split
    · rename_i e sz m f ht hh
      rcases hq with ⟨_, rfl⟩ | ⟨_, _, hh, _⟩
      · split
        · rename_i e1 e2
          refine OkO.stillRd hs fun ⟨h1, h2, h3, h4, h5, h6, h7⟩ => ?_
          subst h4
          subst h5
          exact ok_slice_vv hs t e _ _ id off k f v _ _ _ _ ht hh hv e1 e2 ha hb h1 h2 h3 h6 h7
        · trivial
      · cases hh
    · trivial
  · trivial
end Go.Abs
namespace Go.Abs
open Go
variable {G : PG}
variable {P : Program} {d : Nat} {S : Sv}
structure Pushed (w w' : World) (o : Obj) : Prop where
  os : w'.os = w.os
  tape : w'.tape = w.tape
  output : w'.output = w.output
  size : w'.heap.size = w.heap.size + 1
  old : ∀ {b : Nat}, b < w.heap.size → w'.heap[b]? = w.heap[b]?
  new : w'.heap[w.heap.size]? = some o
theorem Pushed.mk' (w : World) (o : Obj) : Pushed w { w with heap := w.heap.push o } o :=
  ⟨rfl, rfl, rfl, by simp, fun hb => by show (w.heap.push o)[_]? = _; rw [Array.getElem?_push, if_neg (by omega)], by simp⟩
theorem rep_new (hs : Sim G S) {w' : World} {o : Obj} (hp : Pushed S.w w' o) (val : Value) {x : V} {v : Value} (h : S.rep x v) : RepV (upd S.γ d val) S.imm w' (V.kill d x) v := by
  refine (h.kill d).mono (fun _ h => h) (fun b hb => hp.old (hs.immLt b hb)) fun id hid => ?_
  by_cases e : id = d
  · subst e; rw [men_kill_aux] at hid; cases hid
  · rw [upd_ne _ _ e]; exact .refl _
theorem new_block (hs : Sim G S) {w' : World} {o : Obj} (hp : Pushed S.w w' o) (val : Value) (k : Blk) (hval : ∀ b, blkOf val = some b → b = S.w.heap.size) (hk : BlkOk (upd S.γ d val) S.imm w' d (k.kill d)) :
    Sim G ⟨upd S.γ d val, S.imm, upd (killH d S.h) d (some (k.kill d)), w'⟩ ∧ Ext (· = d) S ⟨upd S.γ d val, S.imm, upd (killH d S.h) d (some (k.kill d)), w'⟩ := by
  obtain ⟨h1, h2⟩ := hs.killH (· = d) d
  have := Sim.upd (S := { S with h := killH d S.h }) h1 (· = d) d val (k.kill d) w' hp.os hp.tape hp.output (by rw [hp.size]; exact Nat.le_succ _)
    (fun b hb _ => hp.old hb) (fun b hb => .inr (by rw [hval b hb]; exact Nat.le_refl _)) hk (.inl ⟨rfl, fun j b hj hne hm => ?_⟩)
  · exact ⟨this.1, h2.trans this.2⟩
  · simp only [killH, hne, if_false, Option.map_eq_some_iff] at hj
    obtain ⟨b', _, rfl⟩ := hj
    exact Blk.men_kill _ _ hm
theorem new_cells (hs : Sim G S) {cs : List V} {arr : Array Value} {t : TypeId} {w' : World} (hp : Pushed S.w w' (.cells arr t)) (hl : arr.size = cs.length)
    (hr : ∀ i, i < cs.length → S.rep (cs.getD i .any) (arr.getD i undef)) (ho : ∀ i, i < cs.length → one (arr.getD i undef)) :
    Sim G ⟨upd S.γ d (.pointer (some ⟨S.w.heap.size, 0, none⟩)), S.imm, upd (killH d S.h) d (some ((Blk.cells cs).kill d)), w'⟩ ∧
    Ext (· = d) S ⟨upd S.γ d (.pointer (some ⟨S.w.heap.size, 0, none⟩)), S.imm, upd (killH d S.h) d (some ((Blk.cells cs).kill d)), w'⟩ ∧
    RepV (upd S.γ d (.pointer (some ⟨S.w.heap.size, 0, none⟩))) S.imm w' (.ptr d 0) (.pointer (some ⟨S.w.heap.size, 0, none⟩)) := by
  have := new_block (d := d) hs hp (.pointer (some ⟨S.w.heap.size, 0, none⟩)) (.cells cs) (fun b hb => by simpa [blkOf] using hb.symm)
    ⟨S.w.heap.size, arr, t, 0, 0, upd_same _ _ _, hp.new, by rw [killL_len]; exact hl, .inl rfl, fun i hi => ?_⟩
  · exact ⟨this.1, this.2, .ptr d 0 _ (upd_same _ _ _)⟩
  · rw [killL_len] at hi
    rw [killL_getD]
    exact ⟨rep_new hs hp _ (hr i hi), ho i hi⟩
theorem new_tc (hs : Sim G S) {cs : List V} {arr : Array Value} {t : TypeId} {w' : World} (hp : Pushed S.w w' (.cells arr t)) (hl : arr.size = cs.length)
    (hr : ∀ i, i < cs.length → S.rep (cs.getD i .any) (arr.getD i undef)) (ho : ∀ i, i < cs.length → one (arr.getD i undef)) :
    Sim G ⟨upd S.γ d (.pointer (some ⟨S.w.heap.size, 0, none⟩)), S.imm, upd (killH d S.h) d (some ((Blk.tc t cs).kill d)), w'⟩ ∧
    Ext (· = d) S ⟨upd S.γ d (.pointer (some ⟨S.w.heap.size, 0, none⟩)), S.imm, upd (killH d S.h) d (some ((Blk.tc t cs).kill d)), w'⟩ ∧
    RepV (upd S.γ d (.pointer (some ⟨S.w.heap.size, 0, none⟩))) S.imm w' (.ptr d 0) (.pointer (some ⟨S.w.heap.size, 0, none⟩)) := by
  have := new_block (d := d) hs hp (.pointer (some ⟨S.w.heap.size, 0, none⟩)) (.tc t cs) (fun b hb => by simpa [blkOf] using hb.symm)
    ⟨S.w.heap.size, arr, 0, 0, upd_same _ _ _, hp.new, by rw [killL_len]; exact hl, .inl rfl, fun i hi => ?_⟩
  · exact ⟨this.1, this.2, .ptr d 0 _ (upd_same _ _ _)⟩
  · rw [killL_len] at hi
    rw [killL_getD]
    exact ⟨rep_new hs hp _ (hr i hi), ho i hi⟩
theorem new_vec (hs : Sim G S) {sz n cap : Nat} {f : Nat → V} {arr : Array Value} {t : TypeId} {lo hi : Nat} {w' : World} (hp : Pushed S.w w' (.cells arr t (lo, hi))) (hz : 0 < sz) (hn : n ≤ cap) (hl : arr.size = cap * sz) (hfz : lo = hi ∨ (sz = 1 ∧ arr.size ≤ lo))
    (hf : ∀ i, i < n → (f i).flat.length = sz) (hr : ∀ i j, i < n → j < sz → S.rep ((f i).flat.getD j .any) (arr.getD (i * sz + j) undef)) (ho : ∀ i j, i < n → j < sz → one (arr.getD (i * sz + j) undef)) :
    Sim G ⟨upd S.γ d (.slice (some ⟨S.w.heap.size, 0, none⟩) n cap), S.imm, upd (killH d S.h) d (some ((Blk.vec sz n f).kill d)), w'⟩ ∧
    Ext (· = d) S ⟨upd S.γ d (.slice (some ⟨S.w.heap.size, 0, none⟩) n cap), S.imm, upd (killH d S.h) d (some ((Blk.vec sz n f).kill d)), w'⟩ ∧
    RepV (upd S.γ d (.slice (some ⟨S.w.heap.size, 0, none⟩) n cap)) S.imm w' (.vec d n) (.slice (some ⟨S.w.heap.size, 0, none⟩) n cap) := by
  have := new_block (d := d) hs hp (.slice (some ⟨S.w.heap.size, 0, none⟩) n cap) (.vec sz n f) (fun b hb => by
      simp only [blkOf] at hb; split at hb <;> simp_all)
    ⟨hz, fun i hi => by rw [flat_kill, killL_len]; exact hf i hi, ?_⟩
  · exact ⟨this.1, this.2, .vec d n _ _ _ _ (upd_same _ _ _) (Nat.le_refl _) (fun _ => (upd_same _ _ _).symm) rfl⟩
  · by_cases hc : cap = 0
    · subst hc
      have : n = 0 := by omega
      subst this
      exact .inl ⟨rfl, _, upd_same _ _ _⟩
    · refine .inr ⟨S.w.heap.size, cap, arr, t, lo, hi, upd_same _ _ _, hn, by omega, hp.new, hl, hfz, fun i j hi hj => ?_⟩
      rw [flat_kill, killL_getD]
      exact ⟨rep_new hs hp _ (hr i j hi hj), ho i j hi hj⟩
theorem new_empty (hs : Sim G S) {sz : Nat} {f : Nat → V} (a : Option Addr) (hz : 0 < sz) :
    Sim G ⟨upd S.γ d (.slice a 0 0), S.imm, upd (killH d S.h) d (some ((Blk.vec sz 0 f).kill d)), S.w⟩ ∧
    Ext (· = d) S ⟨upd S.γ d (.slice a 0 0), S.imm, upd (killH d S.h) d (some ((Blk.vec sz 0 f).kill d)), S.w⟩ ∧
    RepV (upd S.γ d (.slice a 0 0)) S.imm S.w (.vec d 0) (.slice a 0 0) := by
  obtain ⟨h1, h2⟩ := hs.killH (· = d) d
  have := Sim.upd (S := { S with h := killH d S.h }) h1 (· = d) d (.slice a 0 0) ((Blk.vec sz 0 f).kill d) S.w rfl rfl rfl (Nat.le_refl _)
    (fun b hb _ => rfl) (fun b hb => by cases a <;> simp [blkOf] at hb) ⟨hz, fun i hi => by omega, .inl ⟨rfl, a, upd_same _ _ _⟩⟩ (.inl ⟨rfl, fun j b hj hne hm => ?_⟩)
  · exact ⟨this.1, h2.trans this.2, .vec d 0 _ _ _ _ (upd_same _ _ _) (Nat.le_refl _) (fun _ => (upd_same _ _ _).symm) rfl⟩
  · simp only [killH, hne, if_false, Option.map_eq_some_iff] at hj
    obtain ⟨b', _, rfl⟩ := hj
    exact Blk.men_kill _ _ hm
theorem one_of_one {x : V} {v : Value} (h : S.rep x v) (hx : x.one = true) : one v := by
  cases h with
  | pure h => cases h <;> first | rfl | (simp [V.one] at hx; done) | exact hx
  | any | agg | tup | opt => simp [V.one] at hx
  | iptr => rfl
  | ptr => rfl
  | vec _ _ _ _ _ _ _ _ _ h => exact h
  | eptr _ _ _ _ _ _ _ _ _ _ _ _ h => exact h
  | fn => rfl
  | vw => rfl
  | vv _ _ _ _ _ _ _ _ _ _ _ _ h => exact h
  | map => rfl
theorem toArray_getD (vs : List Value) (i : Nat) : vs.toArray.getD i undef = vs.getD i undef := by
  rw [List.getD_eq_getElem?_getD, ← List.getElem?_toArray, Array.getD_eq_getD_getElem?]
theorem cells_ok {x : V} {v : Value} (h : S.rep x v) (hx : okCells x = true) : v.cells.size = x.flat.length ∧ (∀ i, i < x.flat.length → S.rep (x.flat.getD i .any) (v.cells.getD i undef)) ∧ ∀ i, i < x.flat.length → one (v.cells.getD i undef) := by
  have scalar : x.one = true → x.flat = [x] → v.cells.size = x.flat.length ∧ (∀ i, i < x.flat.length → S.rep (x.flat.getD i .any) (v.cells.getD i undef)) ∧ ∀ i, i < x.flat.length → one (v.cells.getD i undef) := by
    intro hx hf
    have ho := one_of_one h hx
    have hc : v.cells = #[v] := by unfold one at ho; cases v <;> first | rfl | (simp [Value.oneCell'] at ho)
    rw [hf, hc]
    refine ⟨rfl, fun i hi => ?_, fun i hi => ?_⟩
    all_goals (have : i = 0 := by simpa using hi); subst this
    · exact h
    · exact ho
  cases x with
  | agg cs =>
    obtain ⟨vs, rfl, h1, h2, h3⟩ := inv_agg h
    refine ⟨by simpa [V.flat, Value.cells] using h1, fun i hi => ?_, fun i hi => ?_⟩
    · show S.rep (cs.getD i .any) (vs.toArray.getD i undef)
      rw [toArray_getD]; exact h2 i hi
    · show one (vs.toArray.getD i undef)
      rw [toArray_getD]; exact h3 i hi
  | _ => exact scalar hx rfl
theorem ok_box (hs : Sim G S) (t : TypeId) (x : V) (v : Value) (h : S.rep x v) : OkO G P d S (VS (Instr.box t v)) (vBox d x) := by
  intro hx
  obtain ⟨h1, h2, h3⟩ := cells_ok h hx
  obtain ⟨g1, g2, g3⟩ := new_cells (d := d) hs (Pushed.mk' S.w (.cells v.cells t)) h1 h2 h3
  exact ⟨_, _, _, .inl (run_VS (u := .pointer (some ⟨S.w.heap.size, 0, none⟩)) (by simp [Instr.box, newVar, newRow])), g1, g2, g3⟩
theorem ti_zero {t : TypeId} {z : V} (h : (ti P t).zero = some z) : ∃ i v, P.info? t = some i ∧ i.zero = some v ∧ z = V.ofV v ∧ (ti P t).size = i.size ∧ (ti P t).bytes = i.bytes := by
  unfold ti at h ⊢
  cases h1 : P.info? t <;> cases h2 : P.underlying t <;> simp_all
  obtain ⟨v, hv, rfl⟩ := h
  exact ⟨v, hv, rfl⟩
theorem run_zero {t : TypeId} {i : TypeInfo} {v : Value} (h1 : P.info? t = some i) (h2 : i.zero = some v) (w : World) : (zeroValue t).run P w = .ok v w := by
  simp [zeroValue, run_info h1, h2]
theorem ok_allocT (hs : Sim G S) (t : TypeId) (old : Value) : OkO G P d S (VS (Instr.alloc t true old)) (vAllocT P d t) := by
  intro hx
  cases hi : P.info? t with
  | none => rw [hi] at hx; cases hx
  | some i =>
    rw [hi, Option.bind_some] at hx
    obtain ⟨g1, g2, g3⟩ := new_tc (d := d) (cs := [.con (.pointer none), .con (.slice none 0 0)]) (arr := #[.pointer none, .slice none 0 0]) hs (Pushed.mk' S.w (.cells (Value.agg #[.pointer none, .slice none 0 0]).cells t)) rfl (fun k hk => by
      match k, hk with
      | 0, _ => exact .pure (.con _)
      | 1, _ => exact .pure (.con _)) (fun k hk => by
      match k, hk with
      | 0, _ => rfl
      | 1, _ => rfl)
    exact ⟨_, _, _, .inl (run_VS (u := .pointer (some ⟨S.w.heap.size, 0, none⟩)) (by simp [Instr.alloc, newVar, newRow, run_zero hi hx])), g1, g2, g3⟩
theorem ok_alloc (hs : Sim G S) (t : TypeId) (old : Value) : OkO G P d S (VS (Instr.alloc t true old)) (vAlloc P d t) := by
  unfold vAlloc
  split
  · rename_i z hz
    intro hx
    obtain ⟨i, v, hi, hv, rfl, _⟩ := ti_zero hz
    obtain ⟨h1, h2, h3⟩ := cells_ok (S := S) (.pure (ofV_rep S.imm S.w v)) hx
    obtain ⟨g1, g2, g3⟩ := new_cells (d := d) hs (Pushed.mk' S.w (.cells v.cells t)) h1 h2 h3
    exact ⟨_, _, _, .inl (run_VS (u := .pointer (some ⟨S.w.heap.size, 0, none⟩)) (by simp [Instr.alloc, newVar, newRow, run_zero hi hv])), g1, g2, g3⟩
  · trivial
end Go.Abs
namespace Go.Abs
open Go
variable {G : PG}
variable {P : Program} {d : Nat} {S : Sv}
theorem mul_lt {i j n sz : Nat} (hi : i < n) (hj : j < sz) : i * sz + j < n * sz := by
  have : (i + 1) * sz ≤ n * sz := Nat.mul_le_mul_right _ (by omega)
  rw [Nat.add_mul, Nat.one_mul] at this
  omega
theorem mul_mod {i j sz : Nat} (hj : j < sz) : (i * sz + j) % sz = j := by
  rw [Nat.add_comm, Nat.add_mul_mod_self_right, Nat.mod_eq_of_lt hj]
theorem ok_make (hs : Sim G S) (t : TypeId) (x y : V) (a b : Value) (ha : S.rep x a) (hb : S.rep y b) : OkO G P d S (VS (Instr.makeSlice t a b)) (vMake P d t x y) := by
  unfold vMake
  split
  · rename_i k n k' c
    obtain rfl := inv_int ha
    obtain rfl := inv_int hb
    split
    · rename_i e ht
      split
      · rename_i z hz
        rintro ⟨rfl, h1, h2, h3, h4, h5, h6⟩
        obtain ⟨i, v, hi, hv, rfl, e1, e2⟩ := ti_zero hz
        obtain ⟨q1, q2, q3⟩ := cells_ok (S := S) (.pure (ofV_rep S.imm S.w v)) h6
        rw [h5] at q1 q2 q3
        have hw : IntKind.wrap .i64 n = n := wrap_i64 (by unfold I64; omega)
        have hbytes : ¬ (281474976710656 < (i.bytes : Int) * n) := by rw [← e2, Int.mul_comm]; omega
        have hneg : ¬ n < 0 := by omega
        let arr : Array Value := (Array.range (n.toNat * (ti P e).size)).map (v.cells[· % v.cells.size]!)
        have hp := Pushed.mk' S.w (.cells arr e)
        have hget : ∀ i j, i < n.toNat → j < (ti P e).size → arr.getD (i * (ti P e).size + j) undef = v.cells.getD j undef := by
          intro i j hi hj
          have hlt := mul_lt hi hj
          have : j < v.cells.size := by omega
          simp [arr, Array.getD, hlt, q1, mul_mod hj, hj]
        obtain ⟨g1, g2, g3⟩ := new_vec (d := d) (n := n.toNat) (cap := n.toNat) (f := fun _ => V.ofV v) hs hp h4 (Nat.le_refl _) (by simp [arr]) (.inl rfl) (fun _ _ => h5)
          (fun i j hi hj => by rw [hget i j hi hj]; exact q2 j hj) (fun i j hi hj => by rw [hget i j hi hj]; exact q3 j hj)
        refine ⟨_, _, _, .inl (run_VS (u := .slice (some ⟨S.w.heap.size, 0, none⟩) n.toNat n.toNat) ?_), g1, g2, g3⟩
        have hsz : (sizeOf e).run P S.w = .ok (ti P e).size S.w := by rw [e1]; exact run_size hi _
        by_cases hn0 : n.toNat * (ti P e).size = 0
        · have h00 : Array.range 0 = #[] := rfl
          simp [Instr.makeSlice, run_und (und_slice ht), asInt, asIntOf, run_info hi, hw, hbytes, hneg, hsz, hn0, newRow, arr, h00]
        · simp [Instr.makeSlice, run_und (und_slice ht), asInt, asIntOf, run_info hi, hw, hbytes, hneg, hsz, hn0, newRow, run_zero hi hv, arr]
      · trivial
    · trivial
  · trivial
theorem ok_conv_bytesOf (hs : Sim G S) (s t e : TypeId) (x : List UInt8) (h1 : (ti P s).d = .str) (h2 : (ti P t).d = .slice e) (h3 : (ti P e).d = .int .u8) :
    OkO G P d S (VS (convert s t (.string ⟨x.toArray⟩))) (.new True (.vec d x.length) (.vec 1 x.length (byF x))) := by
  intro _
  have hbs : ByteArray.size ⟨x.toArray⟩ = x.length := size_mk x
  have hq : x.length ≤ grownCap S.w x.length 0 e := grownCap_ge S.w x.length 0 e
  have hrun := Lib.run_convert_string_bytes (P := P) S.w s t e ⟨x.toArray⟩ (und_str h1) (und_slice h2) (und_int h3)
  rw [hbs] at hrun
  have hsz : (Lib.bytesCells S.w e ⟨x.toArray⟩).size = grownCap S.w x.length 0 e * 1 := by simp only [Lib.bytesCells, hbs]; simp; omega
  have hp : Pushed S.w (Lib.bytesWorld S.w e ⟨x.toArray⟩) (.cells (Lib.bytesCells S.w e ⟨x.toArray⟩) e ((Lib.bytesCells S.w e ⟨x.toArray⟩).size, (Lib.bytesCells S.w e ⟨x.toArray⟩).size + 1)) :=
    ⟨rfl, rfl, rfl, Lib.bytesWorld_size _ _ _, fun hb => Lib.bytesWorld_at_old _ _ _ _ hb, Lib.bytesWorld_at_new _ _ _⟩
  have hget : ∀ i, i < x.length → (Lib.bytesCells S.w e ⟨x.toArray⟩).getD i undef = .int .u8 (x.getD i 0).toNat := by
    intro i hi
    have := Lib.bytesWorld_cell S.w e ⟨x.toArray⟩ i (by rw [hbs]; exact hi)
    rw [cell_of_heap hp.new] at this
    rw [Array.getD_eq_getD_getElem?, this]
    rfl
  obtain ⟨g1, g2, g3⟩ := new_vec (d := d) (n := x.length) (cap := grownCap S.w x.length 0 e) (f := byF x) (sz := 1) hs hp (by omega) hq hsz (.inr ⟨rfl, Nat.le_refl _⟩) (fun _ _ => rfl)
    (fun i j hi hj => by
      obtain rfl : j = 0 := by omega
      simp only [Nat.mul_one, Nat.add_zero]
      rw [hget i hi]
      exact .pure (.int _ _))
    (fun i j hi hj => by
      obtain rfl : j = 0 := by omega
      simp only [Nat.mul_one, Nat.add_zero]
      rw [hget i hi]
      rfl)
  exact ⟨_, _, _, .inl (run_VS hrun), g1, g2, g3⟩
end Go.Abs
namespace Go.Abs
open Go
variable {G : PG}
variable {P : Program} {d : Nat} {S : Sv}
theorem setR_len {cs : List V} {off : Nat} {new : List V} (h : off + new.length ≤ cs.length) : (setR cs off new).length = cs.length := by
  simp [setR]; omega
theorem setR_getD {cs : List V} {off : Nat} {new : List V} (h : off + new.length ≤ cs.length) (k : Nat) :
    (setR cs off new).getD k .any = if off ≤ k ∧ k < off + new.length then new.getD (k - off) .any else cs.getD k .any := by
  simp only [setR, List.getD_eq_getElem?_getD]
  rw [List.append_assoc, List.getElem?_append]
  have hl : (List.take off cs).length = off := by simp; omega
  rw [hl]
  by_cases h1 : k < off
  · simp [h1, show ¬ off ≤ k by omega]
  · simp only [h1, if_false]
    rw [List.getElem?_append]
    by_cases h2 : k < off + new.length
    · rw [if_pos (by omega), if_pos ⟨by omega, h2⟩]
    · rw [if_neg (by omega), if_neg (by omega), List.getElem?_drop]
      congr 2; omega
theorem lay_cells (l : List Value) : ∀ (off j0 : Nat) (arr : Array Value), off + j0 + l.length ≤ arr.size →
    ((l.zipIdx j0).foldl (fun cs (p : Value × Nat) => cs.setIfInBounds (off + p.2) p.1) arr).size = arr.size ∧
    ∀ k, ((l.zipIdx j0).foldl (fun cs (p : Value × Nat) => cs.setIfInBounds (off + p.2) p.1) arr).getD k undef = if off + j0 ≤ k ∧ k < off + j0 + l.length then l.getD (k - (off + j0)) undef else arr.getD k undef := by
  induction l with
  | nil =>
    intro off j0 arr h
    refine ⟨rfl, fun k => ?_⟩
    rw [if_neg (by simp only [List.length_nil]; omega)]
    rfl
  | cons x l ih =>
    intro off j0 arr h
    simp only [List.zipIdx_cons, List.foldl_cons]
    simp only [List.length_cons] at h ⊢
    have := ih off (j0 + 1) (arr.setIfInBounds (off + j0) x) (by rw [Array.size_setIfInBounds]; omega)
    refine ⟨by rw [this.1, Array.size_setIfInBounds], fun k => ?_⟩
    rw [this.2 k]
    by_cases h1 : k = off + j0
    · subst h1
      rw [if_neg (by omega), if_pos (by omega)]
      have : off + j0 < arr.size := by omega
      simp [Array.getD, this]
    · by_cases h2 : off + (j0 + 1) ≤ k ∧ k < off + (j0 + 1) + l.length
      · rw [if_pos h2, if_pos (by omega)]
        rw [show k - (off + j0) = (k - (off + (j0 + 1))) + 1 by omega]
        simp
      · rw [if_neg h2, if_neg (by omega)]
        simp only [Array.getD_eq_getD_getElem?]
        rw [Array.getElem?_setIfInBounds_ne (by omega)]
theorem fold_cells (v : Value) (off : Nat) (arr : Array Value) (h : off + v.cells.size ≤ arr.size) :
    (v.cells.zipIdx.foldl (fun cs (c, j) => cs.setIfInBounds (off + j) c) arr).size = arr.size ∧
    ∀ k, (v.cells.zipIdx.foldl (fun cs (c, j) => cs.setIfInBounds (off + j) c) arr).getD k undef = if off ≤ k ∧ k < off + v.cells.size then v.cells.getD (k - off) undef else arr.getD k undef := by
  have := lay_cells v.cells.toList off 0 arr (by simpa using h)
  have e : v.cells.zipIdx.foldl (fun cs (c, j) => cs.setIfInBounds (off + j) c) arr = (v.cells.toList.zipIdx 0).foldl (fun cs (p : Value × Nat) => cs.setIfInBounds (off + p.2) p.1) arr := by
    rw [← Array.foldl_toList, Array.toList_zipIdx]
  rw [e]
  refine ⟨this.1, fun k => ?_⟩
  rw [this.2 k]
  simp only [Nat.add_zero, Array.length_toList]
  congr 1
  rw [List.getD_eq_getElem?_getD, Array.getD_eq_getD_getElem?, Array.getElem?_toList]
def RepL (S : Sv) (cs : List V) (arr : Array Value) : Prop := arr.size = cs.length ∧ (∀ i, i < cs.length → S.rep (cs.getD i .any) (arr.getD i undef)) ∧ ∀ i, i < cs.length → one (arr.getD i undef)
theorem RepL.set {cs : List V} {arr : Array Value} (h : RepL S cs arr) {x : V} {v : Value} (hx : S.rep x v) (ho : okCells x = true) {off : Nat} (hle : off + x.flat.length ≤ cs.length) :
    RepL S (setR cs off x.flat) (v.cells.zipIdx.foldl (fun cs (c, j) => cs.setIfInBounds (off + j) c) arr) := by
  obtain ⟨h1, h2, h3⟩ := h
  obtain ⟨c1, c2, c3⟩ := cells_ok hx ho
  have := fold_cells v off arr (by rw [c1, h1]; exact hle)
  refine ⟨by rw [this.1, setR_len hle, h1], fun i hi => ?_, fun i hi => ?_⟩
  all_goals rw [setR_len hle] at hi
  · rw [setR_getD hle, this.2 i, c1]
    split
    · exact c2 _ (by omega)
    · exact h2 i hi
  · rw [this.2 i, c1]
    split
    · exact c3 _ (by omega)
    · exact h3 i hi
theorem fill_ok {fs : List (Nat × TypeId)} {places : Nat → Option (Nat × Nat)} (hpl : ∀ (i : Nat) (o : Nat) (t : TypeId), fs[i]? = some (o, t) → places i = some (o, (ti P t).size)) :
    ∀ (parts : List (Nat × V)) (vals : List (Nat × Value)) (cs : List V) (arr : Array Value), vals.length = parts.length → (∀ k, k < parts.length → ∃ i x v, parts[k]? = some (i, x) ∧ vals[k]? = some (i, v) ∧ S.rep x v) →
      RepL S cs arr → (buildS P fs parts cs).1 → ∃ arr', Instr.fill places arr vals = some arr' ∧ RepL S (buildS P fs parts cs).2 arr'
  | [], [], cs, arr, _, _, hr, _ => ⟨arr, rfl, hr⟩
  | [], _ :: _, _, _, h, _, _, _ => by simp at h
  | _ :: _, [], _, _, h, _, _, _ => by simp at h
  | (i, x) :: parts, (i', v) :: vals, cs, arr, hl, hv, hr, hp => by
    obtain ⟨i0, x0, v0, e1, e2, hx⟩ := hv 0 (by simp)
    simp only [List.getElem?_cons_zero, Option.some.injEq, Prod.mk.injEq] at e1 e2
    obtain ⟨rfl, rfl⟩ := e1
    obtain ⟨rfl, rfl⟩ := e2
    unfold buildS at hp ⊢
    cases hf : fs[i']? with
    | none => rw [hf] at hp; exact hp.elim
    | some ot =>
      obtain ⟨o, t⟩ := ot
      rw [hf] at hp
      simp only at hp ⊢
      obtain ⟨q1, q2, q3, q4⟩ := hp
      obtain ⟨c1, _, _⟩ := cells_ok hx q3
      have ih := fill_ok hpl parts vals (setR cs o x.flat) _ (by simpa using hl) (fun k hk => by simpa using hv (k + 1) (by simpa using hk)) (hr.set hx q3 q2) q4
      obtain ⟨arr', h1, h2⟩ := ih
      refine ⟨arr', ?_, h2⟩
      unfold Instr.fill
      rw [hpl _ _ _ hf]
      simp only
      rw [if_neg (by rw [c1, q1, hr.1]; simp only [ne_eq, not_true_eq_false, decide_false, Bool.false_or, decide_eq_true_eq]; omega)]
      exact h1
theorem places_ok : ∀ (gs : List Field), sizedL P (gs.map fun f => (f.offset, f.type)) → ∃ pl, gs.mapM (fun f => (P.info? f.type).map fun i => (f.offset, i.size)) = some pl ∧ ∀ (i : Nat) (o : Nat) (t : TypeId), (gs.map fun f => (f.offset, f.type))[i]? = some (o, t) → pl[i]? = some (o, (ti P t).size)
  | [], _ => ⟨[], rfl, fun i o t h => by simp at h⟩
  | f :: gs, h => by
    obtain ⟨h1, h2⟩ := h
    obtain ⟨pl, e, hp⟩ := places_ok gs h2
    obtain ⟨ie, hi, hi'⟩ := ti_size (P := P) h1
    refine ⟨(f.offset, ie.size) :: pl, by simp [List.mapM_cons, hi, e], fun i o t hh => ?_⟩
    cases i with
    | zero =>
      simp only [List.map_cons, List.getElem?_cons_zero, Option.some.injEq, Prod.mk.injEq] at hh
      obtain ⟨rfl, rfl⟩ := hh
      simp [hi']
    | succ i => simpa using hp i o t (by simpa using hh)
theorem arrFs_at (s : Nat) (e : TypeId) : ∀ (n o i : Nat) (o' : Nat) (t : TypeId), (arrFs s e o n)[i]? = some (o', t) → o' = o + i * s ∧ t = e
  | 0, _, _, _, _, h => by simp [arrFs] at h
  | n + 1, o, 0, o', t, h => by
    simp only [arrFs, List.getElem?_cons_zero, Option.some.injEq, Prod.mk.injEq] at h
    exact ⟨by rw [← h.1]; omega, h.2.symm⟩
  | n + 1, o, i + 1, o', t, h => by
    simp only [arrFs, List.getElem?_cons_succ] at h
    obtain ⟨h1, h2⟩ := arrFs_at s e n _ i o' t h
    exact ⟨by rw [h1, Nat.add_mul]; omega, h2⟩
theorem ok_build (hs : Sim G S) (t : TypeId) (parts : List (Nat × V)) (vals : List (Nat × Value)) (hl : vals.length = parts.length) (hv : ∀ k, k < parts.length → ∃ i x v, parts[k]? = some (i, x) ∧ vals[k]? = some (i, v) ∧ S.rep x v) :
    OkO G P d S (VS (Instr.build t vals.toArray)) (vBuild P t parts) := by
  unfold vBuild
  split
  · rename_i fs z hd hz
    obtain ⟨gs, hu, rfl⟩ := und_struct hd
    obtain ⟨i, zv, hi, hzv, hze, _⟩ := ti_zero hz
    refine OkO.still hs fun ⟨h1, h2⟩ => ?_
    obtain ⟨pl, e, hp⟩ := places_ok gs.toList h1
    have hzr : RepL S z zv.cells := by
      have hr := ofV_rep S.imm S.w zv
      rw [← hze] at hr
      have := cells_ok (S := S) (.pure hr) rfl
      exact this
    obtain ⟨arr', f1, f2⟩ := fill_ok (P := P) (fs := gs.toList.map fun f => (f.offset, f.type)) (places := (pl.toArray[·]?)) (fun i o t h => by simpa using hp i o t h) parts vals z zv.cells hl hv hzr h2
    refine ⟨.agg arr', run_VS (run_build S.w t vals.toArray arr' ?_), ?_⟩
    · simp only [Program.built, hi, hu, hzv, e]
      exact f1
    · have := RepV.agg (γ := S.γ) (imm := S.imm) (w := S.w) (buildS P (gs.toList.map fun f => (f.offset, f.type)) parts z).2 arr'.toList (by simpa using f2.1)
        (fun i hi => by have := f2.2.1 i hi; rwa [← toArray_getD, Array.toArray_toList]) (fun i hi => by have := f2.2.2 i hi; rwa [← toArray_getD, Array.toArray_toList])
      simpa using this
  · rename_i n e z hd hz
    have hu := und_arr hd
    obtain ⟨i, zv, hi, hzv, hze, _⟩ := ti_zero hz
    refine OkO.still hs fun ⟨h1, h2⟩ => ?_
    obtain ⟨ie, hie, hie'⟩ := ti_size (P := P) (t := e) h1
    have hzr : RepL S z zv.cells := by
      have hr := ofV_rep S.imm S.w zv
      rw [← hze] at hr
      have := cells_ok (S := S) (.pure hr) rfl
      exact this
    obtain ⟨arr', f1, f2⟩ := fill_ok (P := P) (fs := arrFs (ti P e).size e 0 n) (places := fun i => some (i * ie.size, ie.size)) (fun i o t h => by
      obtain ⟨rfl, rfl⟩ := arrFs_at _ _ _ _ _ _ _ h
      simp [hie']) parts vals z zv.cells hl hv hzr h2
    refine ⟨.agg arr', run_VS (run_build S.w t vals.toArray arr' ?_), ?_⟩
    · simp only [Program.built, hi, hu, hzv, hie]
      exact f1
    · have := RepV.agg (γ := S.γ) (imm := S.imm) (w := S.w) (buildS P (arrFs (ti P e).size e 0 n) parts z).2 arr'.toList (by simpa using f2.1)
        (fun i hi => by have := f2.2.1 i hi; rwa [← toArray_getD, Array.toArray_toList]) (fun i hi => by have := f2.2.2 i hi; rwa [← toArray_getD, Array.toArray_toList])
      simpa using this
  · trivial
theorem evL_ok {e : Env} {a : Act} (h : RepE S e a.tmps) (l : List Operand) (hg : gdL (l.map (ev e))) : (l.map a.eval).length = (l.map fun x => (ev e x).strip).length ∧ ∀ i, i < l.length → S.rep ((l.map fun x => (ev e x).strip).getD i .any) ((l.map a.eval).getD i undef) := by
  refine ⟨by simp, fun i hi => ?_⟩
  induction l generalizing i with
  | nil => simp at hi
  | cons x l ih =>
    simp only [List.map_cons, gdL] at hg
    cases i with
    | zero => simpa using rep_strip (rep_ev h x) hg.1
    | succ i => simpa using ih hg.2 i (by simpa using hi)
theorem ok_makeFunc (hs : Sim G S) (f : Fn) (x y : List V) (p q : List Value) (h1 : p.length = x.length) (h2 : ∀ i, i < x.length → S.rep (x.getD i .any) (p.getD i undef)) (h3 : q.length = y.length) (h4 : ∀ i, i < y.length → S.rep (y.getD i .any) (q.getD i undef)) :
    OkO G P d S (VS (Instr.makeFunc f p.toArray q.toArray)) (.val True (.fn f x y)) :=
  OkO.still hs fun _ => ⟨_, run_VS rfl, .fn f x y p q h1 h3 h2 h4⟩
theorem app_rep {x y : List V} {p q : List Value} (h1 : p.length = x.length) (h2 : ∀ i, i < x.length → S.rep (x.getD i .any) (p.getD i undef)) (h3 : q.length = y.length) (h4 : ∀ i, i < y.length → S.rep (y.getD i .any) (q.getD i undef)) :
    (p ++ q).length = (x ++ y).length ∧ ∀ i, i < (x ++ y).length → S.rep ((x ++ y).getD i .any) ((p ++ q).getD i undef) := by
  refine ⟨by simp [h1, h3], fun i hi => ?_⟩
  simp only [List.getD_eq_getElem?_getD] at h2 h4 ⊢
  rw [List.getElem?_append, List.getElem?_append]
  simp only [List.length_append] at hi
  by_cases hc : i < x.length
  · rw [if_pos hc, if_pos (by omega)]; exact h2 i hc
  · rw [if_neg hc, if_neg (by omega), h1]; exact h4 _ (by omega)
theorem ok_callV (x : V) (v : Value) (hx : S.rep x v) (args : List V) (vals : List Value) (hl : vals.length = args.length) (hr : ∀ i, i < args.length → S.rep (args.getD i .any) (vals.getD i undef)) :
    OkO G P d S (do let dd ← Deferred.ofValue v vals.toArray; invoke dd.target dd.args) (vCallV args x) := by
  unfold vCallV
  split
  · rename_i f a c
    intro _
    obtain ⟨p, q, rfl, h1, h2, h3, h4⟩ := inv_fn hx
    obtain ⟨g1, g2⟩ := app_rep h1 h3 hl hr
    obtain ⟨g3, g4⟩ := app_rep g1 g2 h2 h4
    refine ⟨p ++ vals ++ q, ?_, g3, g4⟩
    simp [Deferred.ofValue, invoke]
  · trivial
end Go.Abs
namespace Go.Abs
open Go
variable {G : PG}
variable {P : Program} {d : Nat} {S : Sv}
theorem inOrder_get : ∀ (parts : List (Nat × V)) (k : Nat), inOrder k parts = true → ∀ i, i < parts.length → ∃ x, parts[i]? = some (k + i, x)
  | [], _, _, i, hi => by simp at hi
  | (n, x) :: r, k, h, i, hi => by
    simp only [inOrder, Bool.and_eq_true, beq_iff_eq] at h
    obtain ⟨rfl, h2⟩ := h
    cases i with
    | zero => exact ⟨x, rfl⟩
    | succ i =>
      obtain ⟨y, hy⟩ := inOrder_get r (k + 1) h2 i (by simpa using hi)
      exact ⟨y, by simpa [show k + 1 + i = k + (i + 1) by omega] using hy⟩
theorem fillS_ok {sz N : Nat} : ∀ (vals : List (Nat × Value)) (k : Nat) (arr : Array Value), (∀ i, i < vals.length → ∃ v, vals[i]? = some (k + i, v) ∧ v.cells.size = sz) → arr.size = N * sz → k + vals.length ≤ N →
    ∃ arr', Instr.fill (fun i => some (i * sz, sz)) arr vals = some arr' ∧ arr'.size = arr.size ∧ ∀ i j, i < N → j < sz →
      arr'.getD (i * sz + j) undef = if k ≤ i ∧ i < k + vals.length then ((vals.getD (i - k) (0, undef)).2).cells.getD j undef else arr.getD (i * sz + j) undef
  | [], k, arr, _, _, _ => ⟨arr, rfl, rfl, fun i j hi hj => by rw [if_neg (by simp only [List.length_nil]; omega)]⟩
  | (n, v) :: vals, k, arr, hv, hs, hk => by
    obtain ⟨v0, e, hc⟩ := hv 0 (by simp)
    simp only [List.getElem?_cons_zero, Option.some.injEq, Prod.mk.injEq, Nat.add_zero] at e
    obtain ⟨rfl, rfl⟩ := e
    simp only [List.length_cons] at hk
    have hle : n * sz + v.cells.size ≤ arr.size := by
      rw [hc, hs]
      have : (n + 1) * sz ≤ N * sz := Nat.mul_le_mul_right _ (by omega)
      rw [Nat.add_mul, Nat.one_mul] at this
      exact this
    have hf := fold_cells v (n * sz) arr hle
    obtain ⟨arr', h1, h2, h3⟩ := fillS_ok (sz := sz) (N := N) vals (n + 1) _ (fun i hi => by
      obtain ⟨u, hu, hu'⟩ := hv (i + 1) (by simpa using hi)
      exact ⟨u, by simpa [show n + (i + 1) = n + 1 + i by omega] using hu, hu'⟩) (hf.1.trans hs) (by omega)
    refine ⟨arr', ?_, h2.trans hf.1, fun i j hi hj => ?_⟩
    · unfold Instr.fill
      simp only
      rw [if_neg (by simp only [hc, ne_eq, not_true_eq_false, decide_false, Bool.false_or, decide_eq_true_eq]; omega)]
      exact h1
    · rw [h3 i j hi hj, hf.2]
      simp only [List.length_cons]
      by_cases c1 : n + 1 ≤ i ∧ i < n + 1 + vals.length
      · rw [if_pos c1, if_pos (by omega)]
        rw [show i - n = (i - (n + 1)) + 1 by omega]
        simp
      · rw [if_neg c1]
        by_cases c2 : i = n
        · subst c2
          rw [if_pos (by omega), if_pos (by omega)]
          rw [show i * sz + j - i * sz = j by omega]
          simp
        · rw [if_neg (show ¬ (n ≤ i ∧ i < n + (vals.length + 1)) by omega), if_neg]
          intro ⟨h4, h5⟩
          rcases Nat.lt_or_gt_of_ne c2 with h6 | h6
          · have := mul_lt (i := i) (n := n) h6 hj; omega
          · have : (n + 1) * sz ≤ i * sz := Nat.mul_le_mul_right _ (by omega)
            rw [Nat.add_mul, Nat.one_mul] at this
            omega
theorem buildSlice_run (t e : TypeId) (len : Nat) (parts : List (Nat × V)) (vals : List (Nat × Value)) (ht : (ti P t).d = .slice e) (hio : inOrder 0 parts = true) (hl : vals.length = parts.length)
    (hv : ∀ k, k < parts.length → ∃ i x v, parts[k]? = some (i, x) ∧ vals[k]? = some (i, v) ∧ S.rep x v)
    (h1 : len = parts.length) (h2 : 0 < (ti P e).size) (h3 : len * (ti P e).size ≤ 16777216) (h4 : (ti P e).zero.isSome = true) (h5 : ∀ x ∈ parts.map Prod.snd, x.flat.length = (ti P e).size ∧ okCells x = true) :
    ∃ arr : Array Value, (Instr.buildSlice t len vals.toArray).run P S.w = .ok (.slice (some ⟨S.w.heap.size, 0, none⟩) len len) { S.w with heap := S.w.heap.push (.cells arr e) } ∧ arr.size = len * (ti P e).size ∧
      ∀ i, i < len → ∃ v, S.rep ((parts.map Prod.snd).getD i V.any) v ∧ okCells ((parts.map Prod.snd).getD i V.any) = true ∧ ((parts.map Prod.snd).getD i V.any).flat.length = (ti P e).size ∧ ∀ j, j < (ti P e).size → arr.getD (i * (ti P e).size + j) undef = v.cells.getD j undef := by
  subst h1
  obtain ⟨z, hz⟩ := Option.isSome_iff_exists.1 h4
  obtain ⟨ie, zv, hi, hzv, _, e1, _⟩ := ti_zero hz
  have hpart : ∀ k, k < parts.length → ∃ x v, parts[k]? = some (k, x) ∧ vals[k]? = some (k, v) ∧ S.rep x v ∧ x.flat.length = (ti P e).size ∧ okCells x = true := by
    intro k hk
    obtain ⟨i, x, v, p1, p2, p3⟩ := hv k hk
    obtain ⟨y, hy⟩ := inOrder_get parts 0 hio k hk
    rw [p1] at hy
    simp only [Nat.zero_add, Option.some.injEq, Prod.mk.injEq] at hy
    obtain ⟨rfl, rfl⟩ := hy
    have hm : x ∈ parts.map Prod.snd := List.mem_map.2 ⟨(i, x), List.mem_of_getElem? p1, rfl⟩
    exact ⟨x, v, p1, p2, p3, (h5 x hm).1, (h5 x hm).2⟩
  let arr0 : Array Value := (Array.range (parts.length * (ti P e).size)).map ((if parts.length * (ti P e).size = 0 then #[] else zv.cells)[· % (if parts.length * (ti P e).size = 0 then (#[] : Array Value) else zv.cells).size]!)
  obtain ⟨arr, f1, f2, f3⟩ := fillS_ok (sz := (ti P e).size) (N := parts.length) vals 0 arr0 (fun i hi => by
      obtain ⟨x, v, p1, p2, p3, p4, p5⟩ := hpart i (by omega)
      exact ⟨v, by simpa using p2, by rw [(cells_ok p3 p5).1, p4]⟩) (by simp [arr0]) (by omega)
  refine ⟨arr, ?_, by rw [f2]; simp [arr0], fun i hi' => ?_⟩
  · have hsz : (sizeOf e).run P S.w = .ok (ti P e).size S.w := by rw [e1]; exact run_size hi _
    have h30 : ¬ (16777216 < parts.length * (ti P e).size) := by omega
    by_cases h0 : parts.length * (ti P e).size = 0
    · have hn : parts.length = 0 := (Nat.mul_eq_zero.1 h0).resolve_right (by omega)
      have hv0 : vals = [] := List.eq_nil_of_length_eq_zero (by omega)
      have h00 : Array.range 0 = #[] := rfl
      subst hv0
      have f1' := f1
      simp only [arr0, h0, if_true, Instr.fill, Option.some.injEq, h00] at f1'
      have : arr = #[] := by rw [← f1']; simp
      subst this
      simp [Instr.buildSlice, run_und (und_slice ht), hsz, hn, newRow, Instr.fill, h00]
    · have f1' := f1
      simp only [arr0, h0, if_false] at f1'
      simp [Instr.buildSlice, run_und (und_slice ht), hsz, h0, newRow, run_zero hi hzv, h30, f1']
  · obtain ⟨x, v, p1, p2, p3, p4, p5⟩ := hpart i hi'
    have ex : (parts.map Prod.snd).getD i V.any = x := by simp [List.getD_eq_getElem?_getD, p1]
    rw [ex]
    refine ⟨v, p3, p5, p4, fun j hj => ?_⟩
    rw [f3 i j hi' hj, if_pos (by omega)]
    simp [List.getD_eq_getElem?_getD, p2]
theorem isPure_rep : ∀ {x : V} {v : Value}, S.rep x v → x.isPure = true → RepP S.imm S.w x v := by
  intro x v h hp
  have atom : ∀ {x : V} {v : Value}, S.rep x v → (match x with | .int _ _ | .bool _ | .str _ | .nilsl | .sl _ _ | .con _ | .fmp _ _ _ => true | _ => false) = true → RepP S.imm S.w x v := by
    intro x v h hx
    cases h with
    | pure h => exact h
    | _ => simp at hx
  cases x with
  | agg cs =>
    obtain ⟨vs, rfl, h1, h2, h3⟩ := inv_agg h
    simp only [V.isPure, List.all_eq_true] at hp
    refine .agg cs vs h1 (fun i hi => atom (h2 i hi) ?_) h3
    have : cs.getD i .any = cs[i] := by simp [List.getD_eq_getElem?_getD, hi]
    rw [this]
    exact hp _ (List.getElem_mem hi)
  | _ => exact atom h hp
theorem pure_cells {x : V} {v : Value} (h : RepP S.imm S.w x v) (ho : okCells x = true) : ∀ j, j < x.flat.length → RepP S.imm S.w (x.flat.getD j .any) (v.cells.getD j undef) := by
  intro j hj
  cases h with
  | agg cs vs h1 h2 h3 =>
    show RepP S.imm S.w (cs.getD j .any) (vs.toArray.getD j undef)
    rw [toArray_getD]; exact h2 j hj
  | int k n => obtain rfl : j = 0 := by simpa [V.flat] using hj
               exact .int k n
  | bool b => obtain rfl : j = 0 := by simpa [V.flat] using hj
              exact .bool b
  | str s => obtain rfl : j = 0 := by simpa [V.flat] using hj
             exact .str s
  | con v =>
    obtain rfl : j = 0 := by simpa [V.flat] using hj
    simp only [okCells, V.one] at ho
    have : v.cells = #[v] := by cases v <;> first | rfl | (simp [Value.oneCell'] at ho)
    rw [this]; exact .con v
  | nilsl a => obtain rfl : j = 0 := by simpa [V.flat] using hj
               exact .nilsl a
  | sl0 f a c => obtain rfl : j = 0 := by simpa [V.flat] using hj
                 exact .sl0 f a c
  | sl n f b off c sz u hb hnc hs hf hc ho' hp => obtain rfl : j = 0 := by simpa [V.flat] using hj
                                                  exact .sl n f b off c sz u hb hnc hs hf hc ho' hp
  | fmp d dom g b es ck h1 h2 h3 h4 h5 h6 h7 => obtain rfl : j = 0 := by simpa [V.flat] using hj
                                                exact .fmp d dom g b es ck h1 h2 h3 h4 h5 h6 h7
theorem RepP.push {w' : World} {o : Obj} (hs : Sim G S) (hp : Pushed S.w w' o) {x : V} {v : Value} (h : RepP S.imm S.w x v) : RepP (fun b => S.imm b ∨ b = S.w.heap.size) w' x v :=
  h.mono (fun _ h => .inl h) fun b hb => hp.old (hs.immLt b hb)
theorem ok_buildSlice (hs : Sim G S) (ow : Bool) (t : TypeId) (len : Nat) (parts : List (Nat × V)) (vals : List (Nat × Value)) (hl : vals.length = parts.length)
    (hv : ∀ k, k < parts.length → ∃ i x v, parts[k]? = some (i, x) ∧ vals[k]? = some (i, v) ∧ S.rep x v) :
    OkO G P d S (VS (Instr.buildSlice t len vals.toArray)) (vBuildSlice P ow d t len parts) := by
  unfold vBuildSlice
  split
  · rename_i e ht
    split
    · rename_i hio
      cases ow with
      | true =>
        simp only [cond_true]
        rintro ⟨h1, h2, h3, h4, h5⟩
        obtain ⟨arr, r1, r2, r3⟩ := buildSlice_run (S := S) t e len parts vals ht hio hl hv h1 h2 h3 h4 h5
        obtain ⟨g1, g2, g3⟩ := new_vec (d := d) (n := len) (cap := len) (f := litF (parts.map Prod.snd)) hs (Pushed.mk' S.w (.cells arr e)) h2 (Nat.le_refl _) r2 (.inl rfl)
          (fun i hi => by obtain ⟨v, _, _, q, _⟩ := r3 i hi; exact q)
          (fun i j hi hj => by
            obtain ⟨v, q1, q2, q3, q4⟩ := r3 i hi
            rw [q4 j hj]; exact (cells_ok q1 q2).2.1 j (by omega))
          (fun i j hi hj => by
            obtain ⟨v, q1, q2, q3, q4⟩ := r3 i hi
            rw [q4 j hj]; exact (cells_ok q1 q2).2.2 j (by omega))
        exact ⟨_, _, _, .inl (run_VS r1), g1, g2, g3⟩
      | false =>
        simp only [cond_false]
        rintro ⟨h1, h2, h3, h4, h5⟩
        obtain ⟨arr, r1, r2, r3⟩ := buildSlice_run (S := S) t e len parts vals ht hio hl hv h1 h2 h3 h4 (fun x hx => ⟨(h5 x hx).1, (h5 x hx).2.1⟩)
        have hp := Pushed.mk' S.w (.cells arr e)
        have hgrow := Sim.grow hs (fun _ => False) { S.w with heap := S.w.heap.push (.cells arr e) } (fun b => S.imm b ∨ b = S.w.heap.size)
          ⟨rfl, rfl, rfl, by rw [hp.size]; exact Nat.le_succ _, fun b hb => hp.old hb⟩ (fun _ h => .inl h) (fun b hb => by
            rcases hb with h | h
            · exact .inl h
            · subst h; exact .inr ⟨Nat.le_refl _, by rw [hp.size]; exact Nat.lt_succ_self _⟩)
        refine ⟨_, _, _, .inl (run_VS r1), hgrow.1, hgrow.2, .pure ?_⟩
        refine .sl len _ S.w.heap.size 0 len (ti P e).size (fun i j => arr.getD (i * (ti P e).size + j) undef) (.inr rfl) (Nat.le_refl _) h2
          (fun i hi => by obtain ⟨v, _, _, q, _⟩ := r3 i hi; exact q) (fun i j hi hj => ?_) (fun i j hi hj => ?_) (fun i j hi hj => ?_)
        · rw [Nat.zero_add, cell_of_heap hp.new]
          have := mul_lt hi hj
          rw [← r2] at this
          simp [Array.getD, this]
        · obtain ⟨v, q1, q2, q3, q4⟩ := r3 i hi
          rw [q4 j hj]; exact (cells_ok q1 q2).2.2 j (by omega)
        · obtain ⟨v, q1, q2, q3, q4⟩ := r3 i hi
          rw [q4 j hj]
          refine RepP.push hs hp (pure_cells (isPure_rep q1 ?_) q2 j (by omega))
          have hm : (parts.map Prod.snd).getD i .any ∈ parts.map Prod.snd := by
            have : i < (parts.map Prod.snd).length := by simp; omega
            rw [List.getD_eq_getElem?_getD, List.getElem?_eq_getElem this]
            exact List.getElem_mem this
          exact (h5 _ hm).2.2
    · trivial
  · trivial
end Go.Abs
namespace Go.Abs
open Go
variable {G : PG}
variable {P : Program} {d : Nat} {S : Sv}
theorem store_run (b o : Nat) (t : TypeId) (lo hi : Nat) : ∀ (vs : List Value) (i : Nat) (arr : Array Value) (w : World), w.heap[b]? = some (.cells arr t (lo, hi)) → (lo = hi ∨ arr.size ≤ lo) → o + i + vs.length ≤ arr.size → (∀ v ∈ vs, one v) →
    (storeCells ⟨b, o, none⟩ vs i).run P w = .ok () (w.setRow b ((vs.zipIdx i).foldl (fun cs (p : Value × Nat) => cs.setIfInBounds (o + p.2) p.1) arr))
  | [], i, arr, w, hg, _, _, _ => by
    simp only [storeCells, List.zipIdx_nil, List.foldl_nil]
    rw [setRow_self w b arr t (lo, hi) hg]
    rfl
  | v :: vs, i, arr, w, hg, hfz, hl, h1 => by
    simp only [List.length_cons] at hl
    have hi' : o + i < arr.size := by omega
    have hcell : w.cell? ⟨b, o + i, none⟩ = some arr[o + i] := by rw [cell_of_heap hg]; simp [hi']
    have hfro : w.frozen? ⟨b, o + i, none⟩ = false := by
      simp only [World.frozen?, hg, Bool.and_eq_false_iff, decide_eq_false_iff_not]
      omega
    have hst : (store ((⟨b, o, none⟩ : Addr).add i) v).run P w = .ok () (w.setRow b (arr.setIfInBounds (o + i) v)) := by
      rw [addr_add, run_store P w _ v _ (h1 v (by simp)), hcell]
      simp [hfro, setCell_eq_setRow w b (o + i) arr t (lo, hi) v hg]
    have ih := store_run b o t lo hi vs (i + 1) (arr.setIfInBounds (o + i) v) (w.setRow b (arr.setIfInBounds (o + i) v)) (setRow_heap w b arr _ t _ hg) (by rw [Array.size_setIfInBounds]; exact hfz) (by rw [Array.size_setIfInBounds]; omega) (fun x hx => h1 x (by simp [hx]))
    simp only [storeCells, Sem.run_bind, hst, Result.andThen_ok, ih, setRow_setRow, List.zipIdx_cons, List.foldl_cons]
theorem storeAt_run {t : TypeId} {b off : Nat} {arr : Array Value} {tt : TypeId} {lo hi : Nat} {v : Value} (hsz : v.cells.size = (ti P t).size) (hpos : 0 < (ti P t).size) (hg : S.w.heap[b]? = some (.cells arr tt (lo, hi))) (hfz : lo = hi ∨ arr.size ≤ lo)
    (hle : off + v.cells.size ≤ arr.size) (ho : ∀ i, i < v.cells.size → one (v.cells.getD i undef)) :
    (Instr.storeAt t (.pointer (some ⟨b, off, none⟩)) v).run P S.w = .ok () (S.w.setRow b (v.cells.zipIdx.foldl (fun cs (c, j) => cs.setIfInBounds (off + j) c) arr)) := by
  obtain ⟨ie, h1, h2⟩ := ti_size (P := P) hpos
  have e : v.cells.zipIdx.foldl (fun cs (c, j) => cs.setIfInBounds (off + j) c) arr = (v.cells.toList.zipIdx 0).foldl (fun cs (p : Value × Nat) => cs.setIfInBounds (off + p.2) p.1) arr := by
    rw [← Array.foldl_toList, Array.toList_zipIdx]
  have hr := store_run (P := P) b off tt lo hi v.cells.toList 0 arr S.w hg hfz (by simpa using hle) (fun x hx => by
    obtain ⟨i, hi, rfl⟩ := List.mem_iff_getElem.1 hx
    have := ho i (by simpa using hi)
    simp only [Array.length_toList] at hi
    simpa [Array.getD, hi] using this)
  rw [e, ← hr]
  simp [Instr.storeAt, Instr.sureAddr, storeVar, run_size h1, hsz, h2]
theorem flat_of_one {c : V} {u : Value} (h : S.rep c u) (ho : one u) : c.flat = [c] := by
  cases c with
  | agg cs => obtain ⟨vs, rfl, _⟩ := inv_agg h; simp [one, Value.oneCell'] at ho
  | _ => rfl
theorem ok_store (hs : Sim G S) (t : TypeId) (x y : V) (a v : Value) (ha : S.rep y a) (hv : S.rep x v) : OkO G P d S (do Instr.storeAt t a v; pure .skip) (vStore P S.h t x y) := by
  have skip : ∀ {a v : Value} {w' : World}, (Instr.storeAt t a v).run P S.w = .ok () w' → runs (P := P) (do Instr.storeAt t a v; pure .skip) S.w undef w' := fun h => .inr ⟨by simp [h], rfl⟩
  unfold vStore
  split
  · rename_i id off
    obtain ⟨b, g1, rfl⟩ := inv_ptr ha
    split
    · rename_i cs hh
      rintro ⟨h1, h2, h3, h4⟩
      obtain ⟨b', arr, tt, lo, hi, k1, k2, k3, k4, k5⟩ := hs.blk _ _ hh
      rw [g1] at k1; cases k1
      obtain ⟨c1, c2, c3⟩ := cells_ok hv h2
      have hle : off + x.flat.length ≤ cs.length := by omega
      have hset := RepL.set (S := S) (cs := cs) (arr := arr) ⟨k3, fun i hi => (k5 i hi).1, fun i hi => (k5 i hi).2⟩ hv h2 hle
      have hrun := storeAt_run (P := P) (S := S) (t := t) (b := b) (off := off) (v := v) (by omega) h4 k2 k4 (by omega) (fun i hi => c3 i (by omega))
      generalize hA : v.cells.zipIdx.foldl (fun cs (c, j) => cs.setIfInBounds (off + j) c) arr = arr' at hrun hset
      have hγ : upd S.γ id (S.γ id) = S.γ := by funext j; by_cases e : j = id <;> simp [upd, e]
      have hsame : ∀ c, S.imm c → (S.w.setRow b arr').heap[c]? = S.w.heap[c]? := fun c hc => setRow_other _ _ _ _ (fun e => by
        subst e; exact hs.disj c ⟨id, by rw [hh]; rfl, by simp [g1, blkOf]⟩ hc)
      have := Sim.upd hs (fun _ => False) id (S.γ id) (.cells (setR cs off x.flat)) (S.w.setRow b arr') rfl rfl rfl (by simp)
        (fun c hc hn => setRow_other _ _ _ _ (fun e => hn ⟨by rw [hh]; rfl, by simp [g1, blkOf, e]⟩)) (fun c hc => .inl ⟨by rw [hh]; rfl, hc⟩)
        ⟨b, arr', tt, lo, hi, by rw [hγ]; exact g1, setRow_heap _ _ _ _ _ _ k2, hset.1, by rw [hset.1, setR_len hle, ← k3]; exact k4, fun i hi => by
          rw [hγ]
          exact ⟨(hset.2.1 i hi).mono (fun _ h => h) hsame fun _ _ => .refl _, hset.2.2 i hi⟩⟩
        (.inr (.refl _))
      rw [hγ] at this
      exact ⟨_, _, _, skip hrun, this.1, this.2, .any _⟩
    · trivial
  · rename_i id n sz i off
    obtain ⟨va, vm, vc, g1, g2, g3⟩ := inv_eptr ha
    split
    · rename_i sz' m f hh
      rintro ⟨hm, hz, hi, hle, h1, h2, h3⟩
      subst hm hz
      obtain ⟨k1, k2, ⟨k3, _⟩ | ⟨b, cap, arr, tt, lo, hi', k3, k4, kc, k5, k6, k7, k8⟩⟩ := hs.blk _ _ hh
      · omega
      have em := vec_len hs hh g1
      subst em
      obtain ⟨b', rfl, rfl⟩ := g3 rfl
      rw [g1] at k3
      cases k3
      obtain ⟨c1, c2, c3⟩ := cells_ok hv h2
      have hfl := k2 i hi
      have hsub : off + x.flat.length ≤ (f i).flat.length := by omega
      have m1 : (i + 1) * sz' ≤ vm * sz' := Nat.mul_le_mul_right _ (by omega)
      have m2 : vm * sz' ≤ vc * sz' := Nat.mul_le_mul_right _ k4
      have m3 : (i + 1) * sz' = i * sz' + sz' := by rw [Nat.add_mul, Nat.one_mul]
      have hbound : i * sz' + off + v.cells.size ≤ arr.size := by omega
      have hrun := storeAt_run (P := P) (S := S) (t := t) (b := b) (off := i * sz' + off) (v := v) (by omega) h3 k5 (mk1 k7) hbound (fun i hi => c3 i (by omega))
      have hfold := fold_cells v (i * sz' + off) arr hbound
      generalize hA : v.cells.zipIdx.foldl (fun cs (c, j) => cs.setIfInBounds (i * sz' + off + j) c) arr = arr' at hrun hfold
      have hγ : upd S.γ id (S.γ id) = S.γ := by funext j; by_cases e : j = id <;> simp [upd, e]
      have hown : (S.h id).isSome = true ∧ blkOf (S.γ id) = some b := ⟨by rw [hh]; rfl, by simp [g1, blkOf]; omega⟩
      have hsame : ∀ c, S.imm c → (S.w.setRow b arr').heap[c]? = S.w.heap[c]? := fun c hc => setRow_other _ _ _ _ (fun e => by
        subst e; exact hs.disj c ⟨id, hown⟩ hc)
      -- the element that turns
      have hcell : ∀ j, j < sz' → S.rep ((setR (f i).flat off x.flat).getD j .any) (arr'.getD (i * sz' + j) undef) ∧ one (arr'.getD (i * sz' + j) undef) := by
        intro j hj
        rw [setR_getD hsub, hfold.2, c1]
        by_cases hc : off ≤ j ∧ j < off + x.flat.length
        · rw [if_pos hc, if_pos (by omega)]
          rw [show i * sz' + j - (i * sz' + off) = j - off by omega]
          exact ⟨c2 _ (by omega), c3 _ (by omega)⟩
        · rw [if_neg hc, if_neg (by omega)]
          exact k8 i j hi hj
      have hre : (reV (f i) (setR (f i).flat off x.flat)).flat.length = sz' ∧ ∀ j, j < sz' → (reV (f i) (setR (f i).flat off x.flat)).flat.getD j .any = (setR (f i).flat off x.flat).getD j .any := by
        have hlen := setR_len hsub
        rw [hfl] at hlen
        cases hfi : f i with
        | agg cs => exact ⟨by simpa [reV, V.flat, hfi] using hlen, fun j hj => rfl⟩
        | _ =>
          have hz1 : sz' = 1 := by rw [← hfl, hfi]; rfl
          subst hz1
          have h0 := hcell 0 (by omega)
          rw [hfi] at h0
          have hf := flat_of_one h0.1 h0.2
          refine ⟨?_, fun j hj => ?_⟩
          · simp only [reV]; rw [hf]; rfl
          · obtain rfl : j = 0 := by omega
            simp only [reV]; rw [hf]; rfl
      have := Sim.upd hs (fun _ => False) id (S.γ id) (.vec sz' vm (setF f i (reV (f i) (setR (f i).flat off x.flat)))) (S.w.setRow b arr') rfl rfl rfl (by simp)
        (fun c hc hn => setRow_other _ _ _ _ (fun e => hn ⟨hown.1, by rw [hown.2, e]⟩)) (fun c hc => .inl ⟨hown.1, hc⟩)
        ⟨k1, fun k hk => by
          simp only [setF]
          by_cases e : k = i
          · simp only [e, decide_true, cond_true]; exact hre.1
          · simp only [e, decide_false, cond_false]; exact k2 k hk, .inr ⟨b, vc, arr', tt, lo, hi', by rw [hγ]; exact g1, k4, kc, setRow_heap _ _ _ _ _ _ k5, hfold.1.trans k6, by rw [hfold.1]; exact k7, fun k j hk hj => by
          rw [hγ]
          have : S.rep ((setF f i (reV (f i) (setR (f i).flat off x.flat)) k).flat.getD j .any) (arr'.getD (k * sz' + j) undef) ∧ one (arr'.getD (k * sz' + j) undef) := by
            simp only [setF]
            by_cases e : k = i
            · subst e
              simp only [decide_true, cond_true]
              rw [hre.2 j hj]; exact hcell j hj
            · simp only [e, decide_false, cond_false]
              rw [hfold.2, if_neg]
              · exact k8 k j hk hj
              · intro ⟨q1, q2⟩
                rcases Nat.lt_or_gt_of_ne e with h6 | h6
                · have := mul_lt (i := k) (n := i) h6 hj; omega
                · have : (i + 1) * sz' ≤ k * sz' := Nat.mul_le_mul_right _ (by omega)
                  omega
          exact ⟨this.1.mono (fun _ h => h) hsame fun _ _ => .refl _, this.2⟩⟩⟩
        (.inr (.refl _))
      rw [hγ] at this
      exact ⟨_, _, _, skip hrun, this.1, this.2, .any _⟩
    · trivial
  · trivial
end Go.Abs
namespace Go.Abs
open Go
variable {G : PG}
variable {P : Program} {d : Nat} {S : Sv}
structure Src (P : Program) (S : Sv) (sz m : Nat) (g : Nat → V) (v : Value) (news : List Value) : Prop where
  len : ∀ n, (Builtin.lenOf v).run P { S.w with drawn := n } = .ok m { S.w with drawn := n }
  first : ∀ n, (Builtin.firstCells sz m v).run P { S.w with drawn := n } = .ok news.toArray { S.w with drawn := n }
  size : news.length = m * sz
  flat : ∀ i, i < m → (g i).flat.length = sz
  rep : ∀ i j, i < m → j < sz → S.rep ((g i).flat.getD j .any) (news.getD (i * sz + j) undef)
  one : ∀ i j, i < m → j < sz → Abs.one (news.getD (i * sz + j) undef)
theorem div_coord {k m sz : Nat} (hk : k < m * sz) : ∃ i j, i < m ∧ j < sz ∧ k = i * sz + j := by
  have hz : 0 < sz := by rcases Nat.eq_zero_or_pos sz with h | h; · subst h; simp at hk
                         · exact h
  refine ⟨k / sz, k % sz, Nat.div_lt_of_lt_mul (by rwa [Nat.mul_comm] at hk), Nat.mod_lt _ hz, ?_⟩
  rw [Nat.mul_comm]; exact (Nat.div_add_mod k sz).symm
theorem src_cells {sz m c : Nat} {a : Addr} (u : Nat → Nat → Value) (hz : 0 < sz) (hc : ∀ i j, i < m → j < sz → S.w.cell? (a.add (i * sz + j)) = some (u i j)) :
    ∃ news : List Value, (∀ n, (Builtin.firstCells sz m (.slice (some a) m c)).run P { S.w with drawn := n } = .ok news.toArray { S.w with drawn := n }) ∧ news.length = m * sz ∧ ∀ i j, i < m → j < sz → news.getD (i * sz + j) undef = u i j := by
  refine ⟨(List.range (m * sz)).map fun k => u (k / sz) (k % sz), fun n => ?_, by simp, fun i j hi hj => ?_⟩
  · have := run_loadCells (P := P) (w := { S.w with drawn := n }) a (m * sz) (fun k => u (k / sz) (k % sz)) (fun k hk => by
      obtain ⟨i, j, hi, hj, rfl⟩ := div_coord hk
      have h1 : (i * sz + j) / sz = i := by
        rw [Nat.add_comm, Nat.add_mul_div_right _ _ hz, Nat.div_eq_of_lt hj, Nat.zero_add]
      rw [h1, mul_mod hj]
      exact hc i j hi hj)
    exact this
  · have h1 : (i * sz + j) / sz = i := by
      rw [Nat.add_comm, Nat.add_mul_div_right _ _ hz, Nat.div_eq_of_lt hj, Nat.zero_add]
    simp [List.getD_eq_getElem?_getD, List.getElem?_range (mul_lt hi hj), h1, mul_mod hj]
theorem src_zero {sz : Nat} {g : Nat → V} (a : Option Addr) (c : Nat) : Src P S sz 0 g (.slice a 0 c) [] :=
  ⟨fun n => rfl, fun n => by cases a <;> simp [Builtin.firstCells, loadCells, loadCellsFrom], by simp, fun i hi => by omega, fun i j hi => by omega, fun i j hi => by omega⟩
theorem src_ok (hs : Sim G S) {h : Heap} (hh : h = S.h) {sz m : Nat} {x : V} {v : Value} (hv : S.rep x v) {ids : List Nat} {g : Nat → V} {p : Prop} (he : vSrc h sz x = some (ids, m, g, p)) (hp : p) (hz : 0 < sz) :
    ∃ news, Src P S sz m g v news := by
  subst hh
  unfold vSrc at he
  split at he
  · cases he
    obtain ⟨a, rfl⟩ := inv_nil hv
    exact ⟨[], src_zero a 0⟩
  · cases he
    obtain rfl := inv_con hv
    exact ⟨[], src_zero _ _⟩
  · rename_i s
    cases he
    obtain rfl := inv_str hv
    obtain rfl : sz = 1 := hp
    refine ⟨s.map fun b => .int .u8 b.toNat, ⟨fun n => by simp [Builtin.lenOf, size_mk], fun n => ?_, by simp, fun _ _ => rfl, fun i j hi hj => ?_, fun i j hi hj => ?_⟩⟩
    · simp [Builtin.firstCells, ByteArray.data_extract, List.extract_toArray]
    · obtain rfl : j = 0 := by omega
      have : (s.map fun b => Value.int .u8 b.toNat).getD (i * 1 + 0) undef = .int .u8 (s.getD i 0).toNat := by
        simp [List.getD_eq_getElem?_getD, hi]
      rw [this]; exact .pure (.int _ _)
    · obtain rfl : j = 0 := by omega
      have : (s.map fun b => Value.int .u8 b.toNat).getD (i * 1 + 0) undef = .int .u8 (s.getD i 0).toNat := by
        simp [List.getD_eq_getElem?_getD, hi]
      rw [this]; rfl
  · rename_i n f
    cases he
    cases inv_sl hv with
    | sl0 _ a c => exact ⟨[], src_zero a c⟩
    | sl _ _ b off c sz' u hb hnc hs' hf hc ho hp' =>
      by_cases hm : m = 0
      · subst hm; exact ⟨[], src_zero _ c⟩
      · obtain rfl : sz' = sz := by rw [← hf 0 (by omega), hp 0 (by omega)]
        obtain ⟨news, n1, n2, n3⟩ := src_cells (P := P) (S := S) (a := ⟨b, off, none⟩) (c := c) u hz (fun i j hi hj => by rw [addr_add]; exact hc i j hi hj)
        exact ⟨news, ⟨fun n => rfl, n1, n2, hf, fun i j hi hj => by rw [n3 i j hi hj]; exact .pure (hp' i j hi hj), fun i j hi hj => by rw [n3 i j hi hj]; exact ho i j hi hj⟩⟩
  · rename_i id n
    split at he
    · rename_i sz' m' f hh
      cases he
      obtain ⟨rfl, rfl⟩ := hp
      obtain ⟨va, vm, vc, g1, g2, g3⟩ := inv_vec hv
      have em := vec_len hs hh g1
      subst em
      have hv' := g3 rfl
      obtain ⟨k1, k2, ⟨k3, a, k4⟩ | ⟨b, cap, arr, tt, lo, hi', k3, k4, kc, k5, k6, k7, k8⟩⟩ := hs.blk _ _ hh
      · subst k3; rw [k4] at hv'; subst hv'; exact ⟨[], src_zero a 0⟩
      · rw [k3] at hv'; subst hv'
        obtain ⟨news, n1, n2, n3⟩ := src_cells (P := P) (S := S) (m := vm) (a := ⟨b, 0, none⟩) (c := cap) (fun i j => arr.getD (i * sz' + j) undef) hz (fun i j hi hj => by
          rw [addr_add, cell_of_heap k5, Nat.zero_add]
          have h1 := mul_lt hi hj
          have h2 : vm * sz' ≤ cap * sz' := Nat.mul_le_mul_right _ k4
          have : i * sz' + j < arr.size := by omega
          simp [Array.getD, this])
        exact ⟨news, ⟨fun n => rfl, n1, n2, k2, fun i j hi hj => by rw [n3 i j hi hj]; exact (k8 i j hi hj).1, fun i j hi hj => by rw [n3 i j hi hj]; exact (k8 i j hi hj).2⟩⟩
    · cases he
  · rename_i id n s off k
    split at he
    · rename_i sz' m' f hh
      cases he
      obtain ⟨rfl, rfl, rfl⟩ := hp
      obtain ⟨va, vm, vc, g1, g2, g3⟩ := inv_vv hv
      have em := vec_len hs hh g1
      subst em
      obtain ⟨q1, A, rfl, hA⟩ := g3 rfl
      by_cases hm : m = 0
      · subst hm; exact ⟨[], src_zero _ _⟩
      · obtain ⟨k1, k2, ⟨k3, a, k4⟩ | ⟨b, cap, arr, tt, lo, hi', k3, k4, kc, k5, k6, k7, k8⟩⟩ := hs.blk _ _ hh
        · omega
        · rw [k3] at g1; cases g1
          obtain ⟨b', e1, e2⟩ := hA (by omega)
          cases e1
          subst e2
          obtain ⟨news, n1, n2, n3⟩ := src_cells (P := P) (S := S) (m := m) (a := ⟨b, off * s, none⟩) (c := vc - off) (fun i j => arr.getD ((i + off) * s + j) undef) hz (fun i j hi hj => by
            rw [addr_add, cell_of_heap k5, show off * s + (i * s + j) = (i + off) * s + j by rw [Nat.add_mul]; omega]
            have h1 := mul_lt (i := i + off) (n := vm) (by omega) hj
            have h2 : vm * s ≤ vc * s := Nat.mul_le_mul_right _ k4
            have : (i + off) * s + j < arr.size := by omega
            simp [Array.getD, this])
          exact ⟨news, ⟨fun n => rfl, n1, n2, fun i hi => k2 _ (by omega), fun i j hi hj => by rw [n3 i j hi hj]; exact (k8 _ j (by omega) hj).1, fun i j hi hj => by rw [n3 i j hi hj]; exact (k8 _ j (by omega) hj).2⟩⟩
    · cases he
  · cases he
theorem zok_some (S : Sv) {t : TypeId} (h : zok (ti P t)) : ∃ i v, P.info? t = some i ∧ i.zero = some v ∧ v.cells.size = (ti P t).size ∧ (ti P t).size = i.size ∧ (ti P t).bytes = i.bytes := by
  unfold zok at h
  split at h
  · rename_i z hz
    obtain ⟨i, v, h1, h2, rfl, h3, h4⟩ := ti_zero hz
    have hr := ofV_rep S.imm S.w v
    obtain ⟨c1, _, _⟩ := cells_ok (S := S) (.pure hr) h.2
    exact ⟨i, v, h1, h2, by rw [c1, h.1], h3, h4⟩
  · exact h.elim
theorem append_grow {t u ty e : TypeId} (ht : (ti P t).d = .slice e) (hu : (∃ e', P.underlying u = some (.slice e')) ∨ P.underlying u = some .string) (hz : zok (ti P e))
    {a : Option Addr} {n c m : Nat} {f g : Nat → V} {v : Value} {news : List Value} (hsrc : Src P S (ti P e).size m g v news) {olds : List Value} (hold : Src P S (ti P e).size n f (.slice a n c) olds)
    (hc : c < n + m) (hb : (n + m) * (ti P e).bytes ≤ 140737488355328) (h63 : n + m ≤ 4611686018427387904) :
    ∃ (arr : Array Value) (cap : Nat) (w' : World), (Builtin.append_ #[t, u] ty #[.slice a n c, v]).run P S.w = .ok (.slice (some ⟨S.w.heap.size, 0, none⟩) (n + m) cap) w' ∧ Pushed S.w w' (.cells arr e) ∧ n + m ≤ cap ∧ arr.size = cap * (ti P e).size ∧
      ∀ i j, i < n + m → j < (ti P e).size → arr.getD (i * (ti P e).size + j) undef = if i < n then olds.getD (i * (ti P e).size + j) undef else news.getD ((i - n) * (ti P e).size + j) undef := by
  obtain ⟨ie, zv, hi, hzv, hzc, e1, e2⟩ := zok_some S hz
  let cap := grownCap S.w (n + m) c e
  have hcap : n + m ≤ cap := grownCap_ge _ _ _ _
  let arr : Array Value := olds.toArray ++ news.toArray ++ Builtin.zeroCells zv.cells (cap - (n + m))
  refine ⟨arr, cap, { S.w with drawn := S.w.drawn + 1, heap := S.w.heap.push (.cells arr e) }, ?_, ⟨rfl, rfl, rfl, by simp, fun hb => by show (S.w.heap.push _)[_]? = _; rw [Array.getElem?_push, if_neg (by omega)], by simp⟩, hcap, ?_, ?_⟩
  · have hfit := growslice_fits hc hb
    have hn : ¬ n + m ≤ c := by omega
    have h63' : ¬ ((n : Int) + (m : Int) > 9223372036854775807) := by omega
    have h48 : ¬ (281474976710656 < Builtin.nextslicecap (n + m) c * ie.bytes) := by rw [← e2]; omega
    have hf1 := hold.first (S.w.drawn + 1)
    have hf2 := hsrc.first (S.w.drawn + 1)
    have hl := hsrc.len S.w.drawn
    have hsz := run_size (P := P) hi
    have hl' : (Builtin.lenOf v).run P S.w = .ok m S.w := hl
    rw [e1] at hf1 hf2
    have hmax : IntKind.max .i64 = 9223372036854775807 := rfl
    have hcapf : (Question.appendCap (n + m) c e).forced = false := rfl
    have hf1' : (Builtin.firstCells ie.size n (Value.slice a n c)).run P S.w.drew = .ok olds.toArray S.w.drew := hf1
    have hf2' : (Builtin.firstCells ie.size m v).run P S.w.drew = .ok news.toArray S.w.drew := hf2
    rcases hu with ⟨e', hu'⟩ | hu'
    all_goals
      simp [Builtin.append_, run_und (und_slice ht), run_und hu', hsz, hl', hn, hmax, h63', run_info hi, h48, hcapf, run_zero hi hzv, newRow, hf1', hf2']
      simp only [arr, Array.append_assoc]
      exact ⟨rfl, rfl⟩
  · simp only [arr, Array.size_append, List.size_toArray, hold.size, hsrc.size, size_zeroCells, hzc, ← Nat.add_mul]
    congr 1
    omega
  · intro i j hi' hj
    have hlt := mul_lt (i := i) (n := n + m) hi' hj
    simp only [arr, Array.getD_eq_getD_getElem?]
    rw [Array.getElem?_append_left (by simp only [Array.size_append, List.size_toArray, hold.size, hsrc.size, ← Nat.add_mul]; exact hlt), Array.getElem?_append]
    simp only [List.size_toArray, hold.size, List.getElem?_toArray, List.getD_eq_getElem?_getD]
    by_cases hc' : i < n
    · rw [if_pos hc', if_pos (mul_lt hc' hj)]
    · have h1 : n * (ti P e).size ≤ i * (ti P e).size := Nat.mul_le_mul_right _ (by omega)
      rw [if_neg hc', if_neg (by omega)]
      congr 2
      have : (i - n) * (ti P e).size = i * (ti P e).size - n * (ti P e).size := Nat.sub_mul _ _ _
      omega
theorem append_room {t u ty e : TypeId} (ht : (ti P t).d = .slice e) (hu : (∃ e', P.underlying u = some (.slice e')) ∨ P.underlying u = some .string) (hpos : 0 < (ti P e).size)
    {a : Option Addr} {n c m : Nat} {g : Nat → V} {v : Value} {news : List Value} (hsrc : Src P S (ti P e).size m g v news) (hc : n + m ≤ c) (w' : World)
    (hst : ∀ ad, a = some ad → (storeCells (ad.add (n * (ti P e).size)) news).run P S.w = .ok () w') (h0 : a = none → w' = S.w) :
    (Builtin.append_ #[t, u] ty #[.slice a n c, v]).run P S.w = .ok (.slice a (n + m) c) w' := by
  obtain ⟨ie, hi, e1⟩ := ti_size (P := P) hpos
  have hsz := run_size (P := P) hi
  have hl : (Builtin.lenOf v).run P S.w = .ok m S.w := hsrc.len S.w.drawn
  have hf : (Builtin.firstCells ie.size m v).run P S.w = .ok news.toArray S.w := by rw [← e1]; exact hsrc.first S.w.drawn
  rcases hu with ⟨e', hu'⟩ | hu' <;> cases a with
  | none =>
    obtain rfl := h0 rfl
    simp [Builtin.append_, run_und (und_slice ht), run_und hu', hsz, hl, hc, hf]
  | some ad =>
    have h1 := hst ad rfl
    rw [e1] at h1
    simp [Builtin.append_, run_und (und_slice ht), run_und hu', hsz, hl, hc, hf, h1]
theorem und_src {u : TypeId} (h : srcT (ti P u).d = true) : (∃ e', P.underlying u = some (.slice e')) ∨ P.underlying u = some .string := by
  cases hd : (ti P u).d <;> rw [hd] at h <;> simp only [srcT] at h
  case slice e => exact .inl ⟨e, und_slice hd⟩
  case str => exact .inr (und_str hd)
  all_goals cases h
end Go.Abs
