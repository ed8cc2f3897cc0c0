import Derived.Test.YtppjlnagihefoaaDoorAbsA10
namespace Go.Abs
open Go
variable {G : PG}
variable {P : Program} {d : Nat} {S : Sv}

structure Pushed (w w' : World) (o : Obj) : Prop where
  os : w'.os = w.os
  tape : w'.tape = w.tape
  output : w'.output = w.output
  size : w'.heap.size = w.heap.size + 1
  old : ∀ {b : Nat}, b < w.heap.size → w'.heap[b]? = w.heap[b]?
  new : w'.heap[w.heap.size]? = some o
theorem Pushed.mk' (w : World) (o : Obj) : Pushed w { w with heap := w.heap.push o } o :=
  ⟨rfl, rfl, rfl, by simp, fun hb => by show (w.heap.push o)[_]? = _; rw [Array.getElem?_push, if_neg (by omega)], by simp⟩

/-- a thing that was there is there in the new world under a new ghost at d -/
theorem rep_new (hs : Sim G S) {w' : World} {o : Obj} (hp : Pushed S.w w' o) (val : Value) {x : V} {v : Value} (h : S.rep x v) : RepV (upd S.γ d val) S.imm w' (V.kill d x) v := by
  refine (h.kill d).mono (fun _ h => h) (fun b hb => hp.old (hs.immLt b hb)) fun id hid => ?_
  by_cases e : id = d
  · subst e; rw [men_kill_aux] at hid; cases hid
  · rw [upd_ne _ _ e]; exact .refl _

theorem new_block (hs : Sim G S) {w' : World} {o : Obj} (hp : Pushed S.w w' o) (val : Value) (k : Blk) (hval : ∀ b, blkOf val = some b → b = S.w.heap.size) (hk : BlkOk (upd S.γ d val) S.imm w' d (k.kill d)) :
    Sim G ⟨upd S.γ d val, S.imm, upd (killH d S.h) d (some (k.kill d)), w'⟩ ∧ Ext (· = d) S ⟨upd S.γ d val, S.imm, upd (killH d S.h) d (some (k.kill d)), w'⟩ := by
  obtain ⟨h1, h2⟩ := hs.killH (· = d) d
  have := Sim.upd (S := { S with h := killH d S.h }) h1 (· = d) d val (k.kill d) w' hp.os hp.tape hp.output (by rw [hp.size]; exact Nat.le_succ _)
    (fun b hb _ => hp.old hb) (fun b hb => .inr (by rw [hval b hb]; exact Nat.le_refl _)) hk (.inl ⟨rfl, fun j b hj hne hm => ?_⟩)
  · exact ⟨this.1, h2.trans this.2⟩
  · simp only [killH, hne, if_false, Option.map_eq_some_iff] at hj
    obtain ⟨b', _, rfl⟩ := hj
    exact Blk.men_kill _ _ hm

theorem new_cells (hs : Sim G S) {cs : List V} {arr : Array Value} {t : TypeId} {w' : World} (hp : Pushed S.w w' (.cells arr t)) (hl : arr.size = cs.length)
    (hr : ∀ i, i < cs.length → S.rep (cs.getD i .any) (arr.getD i undef)) (ho : ∀ i, i < cs.length → one (arr.getD i undef)) :
    Sim G ⟨upd S.γ d (.pointer (some ⟨S.w.heap.size, 0, none⟩)), S.imm, upd (killH d S.h) d (some ((Blk.cells cs).kill d)), w'⟩ ∧
    Ext (· = d) S ⟨upd S.γ d (.pointer (some ⟨S.w.heap.size, 0, none⟩)), S.imm, upd (killH d S.h) d (some ((Blk.cells cs).kill d)), w'⟩ ∧
    RepV (upd S.γ d (.pointer (some ⟨S.w.heap.size, 0, none⟩))) S.imm w' (.ptr d 0) (.pointer (some ⟨S.w.heap.size, 0, none⟩)) := by
  have := new_block (d := d) hs hp (.pointer (some ⟨S.w.heap.size, 0, none⟩)) (.cells cs) (fun b hb => by simpa [blkOf] using hb.symm)
    ⟨S.w.heap.size, arr, t, 0, 0, upd_same _ _ _, hp.new, by rw [killL_len]; exact hl, .inl (Nat.le_refl _), fun i hi => ?_⟩
  · exact ⟨this.1, this.2, .ptr d 0 _ (upd_same _ _ _)⟩
  · rw [killL_len] at hi
    rw [killL_getD]
    exact ⟨rep_new hs hp _ (hr i hi), ho i hi⟩

theorem new_vec (hs : Sim G S) {sz n cap : Nat} {f : Nat → V} {arr : Array Value} {t : TypeId} {lo hi : Nat} {w' : World} (hp : Pushed S.w w' (.cells arr t (lo, hi))) (hz : 0 < sz) (hn : n ≤ cap) (hl : arr.size = cap * sz) (hfz : hi ≤ lo ∨ arr.size ≤ lo)
    (hf : ∀ i, i < n → (f i).flat.length = sz) (hr : ∀ i j, i < n → j < sz → S.rep ((f i).flat.getD j .any) (arr.getD (i * sz + j) undef)) (ho : ∀ i j, i < n → j < sz → one (arr.getD (i * sz + j) undef)) :
    Sim G ⟨upd S.γ d (.slice (some ⟨S.w.heap.size, 0, none⟩) n cap), S.imm, upd (killH d S.h) d (some ((Blk.vec sz n f).kill d)), w'⟩ ∧
    Ext (· = d) S ⟨upd S.γ d (.slice (some ⟨S.w.heap.size, 0, none⟩) n cap), S.imm, upd (killH d S.h) d (some ((Blk.vec sz n f).kill d)), w'⟩ ∧
    RepV (upd S.γ d (.slice (some ⟨S.w.heap.size, 0, none⟩) n cap)) S.imm w' (.vec d n) (.slice (some ⟨S.w.heap.size, 0, none⟩) n cap) := by
  have := new_block (d := d) hs hp (.slice (some ⟨S.w.heap.size, 0, none⟩) n cap) (.vec sz n f) (fun b hb => by
      simp only [blkOf] at hb; split at hb <;> simp_all)
    ⟨hz, fun i hi => by rw [flat_kill, killL_len]; exact hf i hi, ?_⟩
  · exact ⟨this.1, this.2, .vec d n _ _ _ _ (upd_same _ _ _) (Nat.le_refl _) (fun _ => (upd_same _ _ _).symm) rfl⟩
  · by_cases hc : cap = 0
    · subst hc
      have : n = 0 := by omega
      subst this
      exact .inl ⟨rfl, _, upd_same _ _ _⟩
    · refine .inr ⟨S.w.heap.size, cap, arr, t, lo, hi, upd_same _ _ _, hn, by omega, hp.new, hl, hfz, fun i j hi hj => ?_⟩
      rw [flat_kill, killL_getD]
      exact ⟨rep_new hs hp _ (hr i j hi hj), ho i j hi hj⟩

/-- an empty slice, owned -/
theorem new_empty (hs : Sim G S) {sz : Nat} {f : Nat → V} (a : Option Addr) (hz : 0 < sz) :
    Sim G ⟨upd S.γ d (.slice a 0 0), S.imm, upd (killH d S.h) d (some ((Blk.vec sz 0 f).kill d)), S.w⟩ ∧
    Ext (· = d) S ⟨upd S.γ d (.slice a 0 0), S.imm, upd (killH d S.h) d (some ((Blk.vec sz 0 f).kill d)), S.w⟩ ∧
    RepV (upd S.γ d (.slice a 0 0)) S.imm S.w (.vec d 0) (.slice a 0 0) := by
  obtain ⟨h1, h2⟩ := hs.killH (· = d) d
  have := Sim.upd (S := { S with h := killH d S.h }) h1 (· = d) d (.slice a 0 0) ((Blk.vec sz 0 f).kill d) S.w rfl rfl rfl (Nat.le_refl _)
    (fun b hb _ => rfl) (fun b hb => by cases a <;> simp [blkOf] at hb) ⟨hz, fun i hi => by omega, .inl ⟨rfl, a, upd_same _ _ _⟩⟩ (.inl ⟨rfl, fun j b hj hne hm => ?_⟩)
  · exact ⟨this.1, h2.trans this.2, .vec d 0 _ _ _ _ (upd_same _ _ _) (Nat.le_refl _) (fun _ => (upd_same _ _ _).symm) rfl⟩
  · simp only [killH, hne, if_false, Option.map_eq_some_iff] at hj
    obtain ⟨b', _, rfl⟩ := hj
    exact Blk.men_kill _ _ hm

theorem Value.cells_agg (vs : List Value) : (Value.agg vs.toArray).cells = vs.toArray := rfl
theorem one_of_one {x : V} {v : Value} (h : S.rep x v) (hx : x.one = true) : one v := by
  cases h with
  | pure h => cases h <;> first | rfl | (simp [V.one] at hx; done) | exact hx
  | any | agg | tup | opt => simp [V.one] at hx
  | iptr => rfl
  | ptr => rfl
  | vec _ _ _ _ _ _ _ _ _ h => exact h
  | eptr _ _ _ _ _ _ _ _ _ _ _ _ h => exact h
  | fn => rfl
  | vw => rfl
  | map => rfl

theorem toArray_getD (vs : List Value) (i : Nat) : vs.toArray.getD i undef = vs.getD i undef := by
  rw [List.getD_eq_getElem?_getD, ← List.getElem?_toArray, Array.getD_eq_getD_getElem?]
/-- cells of a value that fits -/
theorem cells_ok {x : V} {v : Value} (h : S.rep x v) (hx : okCells x = true) : v.cells.size = x.flat.length ∧ (∀ i, i < x.flat.length → S.rep (x.flat.getD i .any) (v.cells.getD i undef)) ∧ ∀ i, i < x.flat.length → one (v.cells.getD i undef) := by
  have scalar : x.one = true → x.flat = [x] → v.cells.size = x.flat.length ∧ (∀ i, i < x.flat.length → S.rep (x.flat.getD i .any) (v.cells.getD i undef)) ∧ ∀ i, i < x.flat.length → one (v.cells.getD i undef) := by
    intro hx hf
    have ho := one_of_one h hx
    have hc : v.cells = #[v] := by unfold one at ho; cases v <;> first | rfl | (simp [Value.oneCell'] at ho)
    rw [hf, hc]
    refine ⟨rfl, fun i hi => ?_, fun i hi => ?_⟩
    all_goals (have : i = 0 := by simpa using hi); subst this
    · exact h
    · exact ho
  cases x with
  | agg cs =>
    obtain ⟨vs, rfl, h1, h2, h3⟩ := inv_agg h
    refine ⟨by simpa [V.flat, Value.cells] using h1, fun i hi => ?_, fun i hi => ?_⟩
    · show S.rep (cs.getD i .any) (vs.toArray.getD i undef)
      rw [toArray_getD]; exact h2 i hi
    · show one (vs.toArray.getD i undef)
      rw [toArray_getD]; exact h3 i hi
  | _ => exact scalar hx rfl

theorem ok_box (hs : Sim G S) (t : TypeId) (x : V) (v : Value) (h : S.rep x v) : OkO G P d S (VS (Instr.box t v)) (vBox d x) := by
  intro hx
  obtain ⟨h1, h2, h3⟩ := cells_ok h hx
  obtain ⟨g1, g2, g3⟩ := new_cells (d := d) hs (Pushed.mk' S.w (.cells v.cells t)) h1 h2 h3
  exact ⟨_, _, _, .inl (run_VS (u := .pointer (some ⟨S.w.heap.size, 0, none⟩)) (by simp [Instr.box, newVar, newRow])), g1, g2, g3⟩

theorem ti_zero {t : TypeId} {z : V} (h : (ti P t).zero = some z) : ∃ i v, P.info? t = some i ∧ i.zero = some v ∧ z = V.ofV v ∧ (ti P t).size = i.size ∧ (ti P t).bytes = i.bytes := by
  unfold ti at h ⊢
  cases h1 : P.info? t <;> cases h2 : P.underlying t <;> simp_all
  obtain ⟨v, hv, rfl⟩ := h
  exact ⟨v, hv, rfl⟩
theorem run_zero {t : TypeId} {i : TypeInfo} {v : Value} (h1 : P.info? t = some i) (h2 : i.zero = some v) (w : World) : (zeroValue t).run P w = .ok v w := by
  simp [zeroValue, run_info h1, h2]

theorem ok_alloc (hs : Sim G S) (t : TypeId) (old : Value) : OkO G P d S (VS (Instr.alloc t true old)) (vAlloc P d t) := by
  unfold vAlloc
  split
  · rename_i z hz
    intro hx
    obtain ⟨i, v, hi, hv, rfl, _⟩ := ti_zero hz
    obtain ⟨h1, h2, h3⟩ := cells_ok (S := S) (.pure (ofV_rep S.imm S.w v)) hx
    obtain ⟨g1, g2, g3⟩ := new_cells (d := d) hs (Pushed.mk' S.w (.cells v.cells t)) h1 h2 h3
    exact ⟨_, _, _, .inl (run_VS (u := .pointer (some ⟨S.w.heap.size, 0, none⟩)) (by simp [Instr.alloc, newVar, newRow, run_zero hi hv])), g1, g2, g3⟩
  · trivial
end Go.Abs
