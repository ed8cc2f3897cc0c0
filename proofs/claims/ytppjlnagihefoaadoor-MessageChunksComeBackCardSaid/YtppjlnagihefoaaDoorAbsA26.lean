import Derived.Test.YtppjlnagihefoaaDoorAbsA25
namespace Go.Abs
open Go
variable {G : PG}

theorem put_env (s : St) (d : Option Nat) (v : V) (t : Nat) : (s.put d v).env t = if d = some t then v else s.env t := by
  cases d with
  | none => simp [St.put]
  | some d =>
    simp only [St.put, upd, Option.some.injEq]
    by_cases h : t = d
    · subst h; simp
    · rw [if_neg h, if_neg (fun e => h e.symm)]
theorem over_env (r : Rec) (s : St) (t : Nat) : (over r s).env t = if r.dst = some t then r.v else s.env t := put_env _ _ _ _
theorem over_heap (r : Rec) (s : St) : (over r s).heap = setHw s.heap r.hw := by unfold over; cases r.dst <;> rfl
def wid (r : Rec) : Option Nat := r.hw.map Prod.fst
theorem setHw_other {h : Heap} {q : Option (Nat × Blk)} {id : Nat} (hn : q.map Prod.fst ≠ some id) : setHw h q id = h id := by
  cases q with
  | none => rfl
  | some q => exact upd_ne _ _ (fun e => hn (by simp [e]))
theorem setHw_at {h h' : Heap} {q : Option (Nat × Blk)} {id : Nat} (hn : q.map Prod.fst = some id) : setHw h q id = setHw h' q id := by
  cases q with
  | none => cases hn
  | some q => simp only [Option.map_some, Option.some.injEq] at hn; subst hn; simp [setHw]

/-- only who writes there matters -/
theorem mrg_env (t : Nat) (L L' : Nat → Bool) : ∀ (rs : List Rec) (k : Nat) (s s' : St), (∀ j r, rs[j]? = some r → r.dst = some t → L (k + j) = L' (k + j)) → s.env t = s'.env t → (mrg rs k L s).env t = (mrg rs k L' s').env t := by
  intro rs
  induction rs with
  | nil => intro k s s' _ h; exact h
  | cons r rs ih =>
    intro k s s' h1 h2
    simp only [mrg]
    refine ih _ _ _ (fun j x hj hd => by have := h1 (j + 1) x (by simpa using hj) hd; rwa [show k + (j + 1) = k + 1 + j by omega] at this) ?_
    by_cases hd : r.dst = some t
    · have := h1 0 r rfl hd
      rw [Nat.add_zero] at this
      rw [this]
      cases L' k
      · exact h2
      · simp only [cond_true, over_env, hd, if_true]
    · cases L k <;> cases L' k <;> simp only [cond_true, cond_false, over_env, hd, if_false, h2]
theorem mrg_heap (id : Nat) (L L' : Nat → Bool) : ∀ (rs : List Rec) (k : Nat) (s s' : St), (∀ j r, rs[j]? = some r → wid r = some id → L (k + j) = L' (k + j)) → s.heap id = s'.heap id → (mrg rs k L s).heap id = (mrg rs k L' s').heap id := by
  intro rs
  induction rs with
  | nil => intro k s s' _ h; exact h
  | cons r rs ih =>
    intro k s s' h1 h2
    simp only [mrg]
    refine ih _ _ _ (fun j x hj hd => by have := h1 (j + 1) x (by simpa using hj) hd; rwa [show k + (j + 1) = k + 1 + j by omega] at this) ?_
    by_cases hd : wid r = some id
    · have := h1 0 r rfl hd
      rw [Nat.add_zero] at this
      rw [this]
      cases L' k
      · exact h2
      · simp only [cond_true, over_heap]; exact setHw_at hd
    · cases L k <;> cases L' k <;> simp only [cond_true, cond_false, over_heap] <;> (try rw [setHw_other hd]) <;> (try rw [setHw_other hd]) <;> exact h2

theorem over_comm {r x : Rec} (s : St) (h1 : ∀ t, r.dst = some t → x.dst ≠ some t) (h2 : ∀ i, wid r = some i → wid x ≠ some i) : over x (over r s) = over r (over x s) := by
  have he : (over x (over r s)).env = (over r (over x s)).env := by
    funext t
    simp only [over_env]
    by_cases a : x.dst = some t <;> by_cases b : r.dst = some t <;> simp [a, b]
    exact absurd a (h1 t b)
  have hh : (over x (over r s)).heap = (over r (over x s)).heap := by
    funext id
    simp only [over_heap]
    by_cases a : wid x = some id
    · have b : wid r ≠ some id := fun b => h2 id b a
      rw [setHw_other b]
      exact setHw_at a
    · rw [setHw_other a]
      by_cases b : wid r = some id
      · exact setHw_at b
      · rw [setHw_other b, setHw_other b, setHw_other a]
  generalize hA : over x (over r s) = A at *
  generalize hB : over r (over x s) = B at *
  cases A; cases B
  simp only at he hh
  rw [he, hh]

/-- one more -/
theorem mrg_add (i : Nat) (r : Rec) (L : Nat → Bool) : ∀ (rs : List Rec) (k : Nat) (s : St), rs[i]? = some r → L (k + i) = false →
    (∀ j x, i < j → rs[j]? = some x → L (k + j) = true → (∀ t, r.dst = some t → x.dst ≠ some t) ∧ ∀ id, wid r = some id → wid x ≠ some id) →
    mrg rs k (fun j => L j || j == k + i) s = over r (mrg rs k L s) := by
  induction i with
  | zero =>
    intro rs k s hr hL hx
    cases rs with
    | nil => cases hr
    | cons r' rs =>
      simp only [List.getElem?_cons_zero, Option.some.injEq] at hr
      subst hr
      rw [Nat.add_zero] at hL ⊢
      simp only [mrg, hL, beq_self_eq_true, Bool.or_true, cond_true, cond_false]
      have gen : ∀ (rs : List Rec) (m : Nat) (s : St), k < m → (∀ j x, rs[j]? = some x → L (m + j) = true → (∀ t, r'.dst = some t → x.dst ≠ some t) ∧ ∀ id, wid r' = some id → wid x ≠ some id) →
          mrg rs m (fun j => L j || j == k) (over r' s) = over r' (mrg rs m L s) := by
        intro rs
        induction rs with
        | nil => intro m s _ _; rfl
        | cons x rs ih =>
          intro m s hm h
          have hne : (m == k) = false := by simp; omega
          simp only [mrg, hne, Bool.or_false]
          have ih' := fun s => ih (m + 1) s (by omega) fun j y hj hy => h (j + 1) y (by simpa using hj) (by rwa [show m + (j + 1) = m + 1 + j by omega])
          cases hLm : L m with
          | false => exact ih' _
          | true =>
            obtain ⟨h1, h2⟩ := h 0 x rfl (by rwa [Nat.add_zero])
            simp only [cond_true]
            rw [over_comm _ h1 h2]
            exact ih' _
      exact gen rs (k + 1) s (by omega) fun j x hj hy => hx (j + 1) x (by omega) (by simpa using hj) (by rwa [show k + (j + 1) = k + 1 + j by omega])
  | succ i ih =>
    intro rs k s hr hL hx
    cases rs with
    | nil => cases hr
    | cons r' rs =>
      simp only [List.getElem?_cons_succ] at hr
      have hne : (k == k + (i + 1)) = false := by simp
      simp only [mrg, hne, Bool.or_false]
      have := ih rs (k + 1) (bif L k then over r' s else s) hr (by rwa [show k + 1 + i = k + (i + 1) by omega]) fun j x hij hj hy => hx (j + 1) x (by omega) (by simpa using hj) (by rwa [show k + (j + 1) = k + 1 + j by omega])
      rw [← this]
      simp only [show k + (i + 1) = k + 1 + i by omega]

def NMR (d : Nat) (r : Rec) : Prop := V.men d r.v = false ∧ ∀ q, r.hw = some q → q.1 ≠ d ∧ BN d q.2
theorem mrg_noMen (d : Nat) (L : Nat → Bool) : ∀ (rs : List Rec) (k : Nat) (s : St), NoMen d s → (∀ j r, rs[j]? = some r → L (k + j) = true → NMR d r) → NoMen d (mrg rs k L s) := by
  intro rs
  induction rs with
  | nil => intro k s h _; exact h
  | cons r rs ih =>
    intro k s h1 h2
    simp only [mrg]
    refine ih _ _ ?_ (fun j x hj hd => h2 (j + 1) x (by simpa using hj) (by rwa [show k + (j + 1) = k + 1 + j by omega]))
    cases hL : L k with
    | false => exact h1
    | true =>
      obtain ⟨m1, m2⟩ := h2 0 r rfl (by rwa [Nat.add_zero])
      refine ⟨fun t => ?_, ?_, fun id b hb => ?_⟩
      · simp only [cond_true, over_env]
        split
        · exact m1
        · exact h1.env t
      · simp only [cond_true, over_heap]
        cases hq : r.hw with
        | none => exact h1.no
        | some q => simp only [setHw]; rw [upd_ne _ _ (fun e => (m2 q hq).1 e.symm)]; exact h1.no
      · simp only [cond_true, over_heap] at hb
        cases hq : r.hw with
        | none => rw [hq] at hb; exact h1.heap id b hb
        | some q =>
          rw [hq] at hb
          simp only [setHw] at hb
          by_cases e : id = q.1
          · subst e; rw [upd_same] at hb; cases hb; exact (m2 q hq).2
          · rw [upd_ne _ _ e] at hb; exact h1.heap id b hb

/- who must come before whom -/
def edges (o : Oper) : List Nat := (o.after.toList.filter (Region.binds .any)).map (·.on)
def ancStep (acc : List Nat) (o : Oper) : Nat := (edges o).foldl (fun m j => m ||| acc.getD j 0 ||| (1 <<< j)) 0
def ancM : List Oper → List Nat → List Nat
  | [], acc => acc
  | o :: r, acc => ancM r (acc ++ [ancStep acc o])
def ancs (ops : List Oper) : List Nat := ancM ops []
def Down (ops : List Oper) (L : Nat → Bool) : Prop := ∀ j o, ops[j]? = some o → L j = true → ∀ e ∈ edges o, L e = true
theorem ancStep_ok {acc : List Nat} {o : Oper} {L : Nat → Bool} (h1 : ∀ e ∈ edges o, L e = true) (h2 : ∀ j i, L j = true → (acc.getD j 0).testBit i = true → L i = true) (i : Nat) (hi : (ancStep acc o).testBit i = true) : L i = true := by
  have gen : ∀ (l : List Nat) (m : Nat), (∀ e ∈ l, L e = true) → (m.testBit i = true → L i = true) → (l.foldl (fun m j => m ||| acc.getD j 0 ||| (1 <<< j)) m).testBit i = true → L i = true := by
    intro l
    induction l with
    | nil => intro m _ h2 h3; exact h2 h3
    | cons e l ih =>
      intro m h1' h2' h3
      refine ih _ (fun e he => h1' e (by simp [he])) (fun hm => ?_) h3
      simp only [Nat.testBit_or, Bool.or_eq_true] at hm
      rcases hm with (hm | hm) | hm
      · exact h2' hm
      · exact h2 e i (h1' e (by simp)) hm
      · simp only [Nat.testBit_shiftLeft, Bool.and_eq_true, decide_eq_true_eq, Nat.testBit_one_eq_true_iff_self_eq_zero] at hm
        have : i = e := by omega
        subst this
        exact h1' i (by simp)
  exact gen _ 0 h1 (fun h => by simp at h) hi
theorem ancM_ok {L : Nat → Bool} : ∀ (l pre : List Oper) (acc : List Nat), Down (pre ++ l) L → acc.length = pre.length → (∀ j i, L j = true → (acc.getD j 0).testBit i = true → L i = true) →
    ∀ j i, L j = true → ((ancM l acc).getD j 0).testBit i = true → L i = true := by
  intro l
  induction l with
  | nil => intro pre acc _ _ h; exact h
  | cons o l ih =>
    intro pre acc hd hl h
    refine ih (pre ++ [o]) _ (by simpa using hd) (by simp [hl]) fun j i hj hi => ?_
    by_cases hlt : j < acc.length
    · have : (acc ++ [ancStep acc o]).getD j 0 = acc.getD j 0 := by simp [List.getElem?_append_left hlt]
      rw [this] at hi; exact h j i hj hi
    · by_cases he : j = acc.length
      · subst he
        have : (acc ++ [ancStep acc o]).getD acc.length 0 = ancStep acc o := by simp
        rw [this] at hi
        exact ancStep_ok (hd acc.length o (by rw [hl]; simp) hj) h i hi
      · have : (acc ++ [ancStep acc o]).getD j 0 = 0 := by
          rw [List.getD_eq_getElem?_getD, List.getElem?_eq_none (by simp; omega)]; rfl
        rw [this] at hi; simp at hi
theorem ancs_ok {ops : List Oper} {L : Nat → Bool} (hd : Down ops L) (j i : Nat) (hj : L j = true) (hi : ((ancs ops).getD j 0).testBit i = true) : L i = true :=
  ancM_ok ops [] [] (by simpa using hd) rfl (fun j i _ h => by simp at h) j i hj hi
end Go.Abs
