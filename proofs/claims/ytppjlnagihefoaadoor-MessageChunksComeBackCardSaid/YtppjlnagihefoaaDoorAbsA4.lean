import Derived.Test.YtppjlnagihefoaaDoorAbsA3
import Derived.IntWalk
namespace Go.Abs
open Go
variable {G : PG}

def runs {P : Program} (s : Sem Next) (w : World) (u : Value) (w' : World) : Prop :=
  s.run P w = .ok (.value u) w' ∨ (s.run P w = .ok .skip w' ∧ u = undef)

def OkO (G : PG) (P : Program) (d : Nat) (S : Sv) (s : Sem Next) : OR → Prop
  | .val p v | .rd _ p v => p → ∃ u w' imm', runs (P := P) s S.w u w' ∧ Sim G ⟨S.γ, imm', S.h, w'⟩ ∧ Ext (fun _ => False) S ⟨S.γ, imm', S.h, w'⟩ ∧ RepV S.γ imm' w' v u
  | .wr _ id p v b => p → ∃ u w' γ', runs (P := P) s S.w u w' ∧ Sim G ⟨γ', S.imm, upd S.h id (some b), w'⟩ ∧ Ext (fun _ => False) S ⟨γ', S.imm, upd S.h id (some b), w'⟩ ∧ RepV γ' S.imm w' v u
  | .new p v b => p → ∃ u w' val, runs (P := P) s S.w u w' ∧ Sim G ⟨upd S.γ d val, S.imm, upd (killH d S.h) d (some (b.kill d)), w'⟩ ∧
      Ext (· = d) S ⟨upd S.γ d val, S.imm, upd (killH d S.h) d (some (b.kill d)), w'⟩ ∧ RepV (upd S.γ d val) S.imm w' v u
  | .call p f args => p → ∃ vals : List Value, s.run P S.w = (callFunc f vals.toArray).run P S.w ∧ vals.length = args.length ∧ ∀ i, i < args.length → S.rep (args.getD i .any) (vals.getD i undef)
  | .bad => True

variable {P : Program} {d : Nat} {S : Sv} {s : Sem Next}

theorem OkO.and {r : OR} {g : Prop} (h : g → OkO G P d S s r) : OkO G P d S s (OR.and g r) := by
  cases r <;> simp only [OR.and, OkO] at h ⊢
  all_goals first
    | exact fun ⟨hg, hp⟩ => h hg hp
    | trivial

/-- Nothing turns. -/
theorem OkO.still (hs : Sim G S) {p : Prop} {v : V} (h : p → ∃ u, s.run P S.w = .ok (.value u) S.w ∧ S.rep v u) : OkO G P d S s (.val p v) := by
  intro hp
  obtain ⟨u, h1, h2⟩ := h hp
  exact ⟨u, S.w, S.imm, .inl h1, hs, Ext.refl _ _, h2⟩
theorem OkO.stillRd (hs : Sim G S) {i : Nat} {p : Prop} {v : V} (h : p → ∃ u, s.run P S.w = .ok (.value u) S.w ∧ S.rep v u) : OkO G P d S s (.rd i p v) :=
  OkO.still (d := d) hs h

/- inversions -/
section inv
variable {v : Value}
theorem inv_int {k n} (h : S.rep (.int k n) v) : v = .int k n := by cases h with | pure h => cases h; rfl
theorem inv_bool {b} (h : S.rep (.bool b) v) : v = .bool b := by cases h with | pure h => cases h; rfl
theorem inv_str {s} (h : S.rep (.str s) v) : v = .string ⟨s.toArray⟩ := by cases h with | pure h => cases h; rfl
theorem inv_con {x} (h : S.rep (.con x) v) : v = x := by cases h with | pure h => cases h; rfl
theorem inv_nil (h : S.rep .nilsl v) : ∃ a, v = .slice a 0 0 := by cases h with | pure h => cases h; exact ⟨_, rfl⟩
theorem inv_sl {n f} (h : S.rep (.sl n f) v) : RepP S.imm S.w (.sl n f) v := by cases h with | pure h => exact h
theorem inv_agg {cs} (h : S.rep (.agg cs) v) : ∃ vs : List Value, v = .agg vs.toArray ∧ vs.length = cs.length ∧ (∀ i, i < cs.length → S.rep (cs.getD i .any) (vs.getD i undef)) ∧ ∀ i, i < cs.length → one (vs.getD i undef) := by
  cases h with
  | pure h => cases h with | agg _ vs h1 h2 h3 => exact ⟨vs, rfl, h1, fun i hi => .pure (h2 i hi), h3⟩
  | agg _ vs h1 h2 h3 => exact ⟨vs, rfl, h1, h2, h3⟩
theorem inv_tup {cs} (h : S.rep (.tup cs) v) : ∃ vs : List Value, v = .tuple vs.toArray ∧ vs.length = cs.length ∧ (∀ i, i < cs.length → S.rep (cs.getD i .any) (vs.getD i undef)) := by
  cases h with
  | pure h => cases h
  | tup _ vs h1 h2 => exact ⟨vs, rfl, h1, h2⟩
theorem inv_ptr {id off} (h : S.rep (.ptr id off) v) : ∃ b, S.γ id = .pointer (some ⟨b, 0, none⟩) ∧ v = .pointer (some ⟨b, off, none⟩) := by
  cases h with
  | pure h => cases h
  | ptr _ _ b h => exact ⟨b, h, rfl⟩
theorem inv_iptr {cs} (h : S.rep (.iptr cs) v) : ∃ b off, ∃ u : Nat → Value, v = .pointer (some ⟨b, off, none⟩) ∧ S.imm b ∧ (∀ j, j < cs.length → S.w.cell? ⟨b, off + j, none⟩ = some (u j)) ∧ (∀ j, j < cs.length → Abs.one (u j)) ∧
    (∀ j, j < cs.length → RepP S.imm S.w (cs.getD j .any) (u j)) := by
  cases h with
  | pure h => cases h
  | iptr _ b off u h1 h2 h3 h4 => exact ⟨b, off, u, rfl, h1, h2, h3, h4⟩
theorem inv_vec {id n} (h : S.rep (.vec id n) v) : ∃ a m c, S.γ id = .slice a m c ∧ n ≤ m ∧ (n = m → v = S.γ id) := by
  cases h with
  | pure h => cases h
  | vec _ _ _ a m c h1 h2 h3 _ => exact ⟨a, m, c, h1, h2, h3⟩
theorem inv_eptr {id n sz i off} (h : S.rep (.eptr id n sz i off) v) : ∃ a m c, S.γ id = .slice a m c ∧ n ≤ m ∧ (n = m → ∃ b, a = some ⟨b, 0, none⟩ ∧ v = .pointer (some ⟨b, i * sz + off, none⟩)) := by
  cases h with
  | pure h => cases h
  | eptr _ _ _ _ _ _ a m c h1 h2 h3 _ => exact ⟨a, m, c, h1, h2, h3⟩
theorem inv_vw {id off n} (h : S.rep (.vw id off n) v) : ∃ b a c, S.γ id = .pointer (some ⟨b, 0, none⟩) ∧ v = .slice (some a) n c ∧ n ≤ c ∧ (0 < n → a = ⟨b, off, none⟩) := by
  cases h with
  | pure h => cases h
  | vw _ _ _ b a c h1 h2 h3 => exact ⟨b, a, c, h1, rfl, h2, h3⟩
theorem inv_fn {f x y} (h : S.rep (.fn f x y) v) : ∃ p q : List Value, v = .func f p.toArray q.toArray ∧ p.length = x.length ∧ q.length = y.length ∧ (∀ i, i < x.length → S.rep (x.getD i .any) (p.getD i undef)) ∧
    (∀ i, i < y.length → S.rep (y.getD i .any) (q.getD i undef)) := by
  cases h with
  | pure h => cases h
  | fn _ _ _ p q h1 h2 h3 h4 => exact ⟨p, q, rfl, h1, h2, h3, h4⟩
theorem inv_opt {g x} (h : S.rep (.opt g x) v) : (g = true → S.rep x v) ∧ (g = false → v = undef) := by
  cases h with
  | pure h => cases h
  | opt _ _ _ h1 h2 => exact ⟨h1, h2⟩
end inv

theorem rep_strip {x : V} {v : Value} (h : S.rep x v) (hg : x.gd) : S.rep x.strip v := by
  cases x <;> first
    | exact h
    | exact (inv_opt h).1 hg

theorem ofV1_rep (imm w) (v : Value) : RepP imm w (V.ofV1 v) v := by
  unfold V.ofV1
  split
  · exact .int _ _
  · exact .bool _
  · rename_i s
    have := RepP.str (imm := imm) (w := w) s.data.toList
    simpa using this
  · exact .nilsl _
  · exact .con _
theorem ofV_rep (imm w) (v : Value) : RepP imm w (V.ofV v) v := by
  unfold V.ofV
  split
  · rename_i cs
    cases h : cs.toList.all (·.oneCell') with
    | false => exact .con _
    | true =>
      simp only [cond_true]
      have := RepP.agg (imm := imm) (w := w) (cs.toList.map V.ofV1) cs.toList (by simp) (fun i hi => ?_) (fun i hi => ?_)
      · simpa using this
      · simp only [List.length_map] at hi
        rw [List.getD_eq_getElem?_getD, List.getD_eq_getElem?_getD]
        simp only [List.getElem?_map, List.getElem?_eq_getElem hi, Option.map_some, Option.getD_some]
        exact ofV1_rep _ _ _
      · simp only [List.length_map] at hi
        rw [List.getD_eq_getElem?_getD]
        simp only [List.getElem?_eq_getElem hi, Option.getD_some]
        rw [List.all_eq_true] at h
        exact h _ (List.getElem_mem hi)
  · exact ofV1_rep _ _ _

def RepE (S : Sv) (e : Env) (tmps : Array Value) : Prop := ∀ t, S.rep (e t) (tmps.getD t undef)

theorem rep_ev {e : Env} {a : Act} (h : RepE S e a.tmps) (x : Operand) : S.rep (ev e x) (a.eval x) := by
  cases x with
  | tmp t => exact h t
  | const v => exact .pure (ofV_rep _ _ _)
  | global g => exact .pure (.con _)
  | func f =>
    exact RepV.fn (.func f) [] [] [] [] rfl rfl (fun i h => by simp at h) (fun i h => by simp at h)

/- types -/
theorem ti_some {t : TypeId} (h : (ti P t).d ≠ .none) : ∃ i dsc, P.info? t = some i ∧ P.underlying t = some dsc ∧ ti P t = ⟨tdOf dsc, i.size, i.bytes, i.zero.map V.ofV⟩ := by
  unfold ti at h ⊢
  cases h1 : P.info? t <;> cases h2 : P.underlying t <;> simp_all
theorem ti_d {t : TypeId} {x : TD} (h : (ti P t).d = x) (hx : x ≠ .none) : ∃ i dsc, P.info? t = some i ∧ P.underlying t = some dsc ∧ tdOf dsc = x ∧ (ti P t).size = i.size ∧ (ti P t).bytes = i.bytes ∧ (ti P t).zero = i.zero.map V.ofV := by
  obtain ⟨i, dsc, h1, h2, h3⟩ := ti_some (P := P) (t := t) (by rw [h]; exact hx)
  exact ⟨i, dsc, h1, h2, by rw [← h, h3], by rw [h3], by rw [h3], by rw [h3]⟩
theorem ti_size {t : TypeId} (h : 0 < (ti P t).size) : ∃ i, P.info? t = some i ∧ (ti P t).size = i.size := by
  unfold ti at h ⊢
  cases h1 : P.info? t <;> cases h2 : P.underlying t <;> simp_all
theorem tdOf_slice {dsc e} (h : tdOf dsc = .slice e) : dsc = .slice e := by cases dsc <;> simp_all [tdOf]
theorem tdOf_int {dsc k} (h : tdOf dsc = .int k) : dsc = .int k := by cases dsc <;> simp_all [tdOf]
theorem tdOf_str {dsc} (h : tdOf dsc = .str) : dsc = .string := by cases dsc <;> simp_all [tdOf]
theorem tdOf_bool {dsc} (h : tdOf dsc = .bool) : dsc = .bool := by cases dsc <;> simp_all [tdOf]
theorem tdOf_arr {dsc n e} (h : tdOf dsc = .arr n e) : dsc = .array n e := by cases dsc <;> simp_all [tdOf]
theorem und_slice {t e : TypeId} (h : (ti P t).d = .slice e) : P.underlying t = some (.slice e) := by
  obtain ⟨i, dsc, _, h2, h3, _⟩ := ti_d h (by simp)
  rw [h2, tdOf_slice h3]
theorem und_int {t : TypeId} {k} (h : (ti P t).d = .int k) : P.underlying t = some (.int k) := by
  obtain ⟨i, dsc, _, h2, h3, _⟩ := ti_d h (by simp)
  rw [h2, tdOf_int h3]
theorem und_str {t : TypeId} (h : (ti P t).d = .str) : P.underlying t = some .string := by
  obtain ⟨i, dsc, _, h2, h3, _⟩ := ti_d h (by simp)
  rw [h2, tdOf_str h3]
theorem und_bool {t : TypeId} (h : (ti P t).d = .bool) : P.underlying t = some .bool := by
  obtain ⟨i, dsc, _, h2, h3, _⟩ := ti_d h (by simp)
  rw [h2, tdOf_bool h3]
theorem und_arr {t : TypeId} {n e} (h : (ti P t).d = .arr n e) : P.underlying t = some (.array n e) := by
  obtain ⟨i, dsc, _, h2, h3, _⟩ := ti_d h (by simp)
  rw [h2, tdOf_arr h3]
theorem und_struct {t : TypeId} {fs} (h : (ti P t).d = .struct fs) : ∃ gs, P.underlying t = some (.struct gs) ∧ fs = gs.toList.map fun f => (f.offset, f.type) := by
  obtain ⟨i, dsc, _, h2, h3, _⟩ := ti_d h (by simp)
  cases dsc <;> simp_all [tdOf]
theorem run_und {t : TypeId} {dsc : TypeDesc} (h : P.underlying t = some dsc) (w : World) : (underlying t).run P w = .ok dsc w := run_underlying h w
theorem run_info {t : TypeId} {i : TypeInfo} (h : P.info? t = some i) (w : World) : (typeInfo t).run P w = .ok i w := by simp [typeInfo, h]
theorem run_size {t : TypeId} {i : TypeInfo} (h : P.info? t = some i) (w : World) : (sizeOf t).run P w = .ok i.size w := by simp [sizeOf, run_info h]

/-- a value that is computed and nothing else -/
theorem run_v {x : Sem Value} {u : Value} {w w' : World} (h : x.run P w = .ok u w') : (do pure (Next.value (← x)) : Sem Next).run P w = .ok (.value u) w' := by simp [h]

theorem wrap_i64 {n : Int} (h : I64 n) : IntKind.wrap .i64 n = n := IntWalk.i64_in n h
end Go.Abs
