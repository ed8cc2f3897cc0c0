import Derived.Test.YtppjlnagihefoaaDoorAbsA23
namespace Go.Abs
open Go
variable {G : PG}
variable {P : Program}

def OR.ids : OR → List Nat
  | .rd i _ _ => [i]
  | .wr l i _ _ _ => i :: l
  | _ => []
def OR.isBad : OR → Bool
  | .bad => true
  | _ => false
/-- what is read of the heap is what is told -/
def Cong (F : Heap → OR) : Prop := ∀ h h', (∀ id ∈ (F h).ids, h' id = h id) → (F h).isBad = false → F h' = F h
theorem Cong.const (R : OR) : Cong fun _ => R := fun _ _ _ _ => rfl
theorem Cong.and {F : Heap → OR} (g : Prop) (h : Cong F) : Cong fun H => OR.and g (F H) := by
  intro H H' h1 h2
  have e1 : (OR.and g (F H)).ids = (F H).ids := by cases F H <;> rfl
  have e2 : (OR.and g (F H)).isBad = (F H).isBad := by cases F H <;> rfl
  simp only [e1, e2] at h1 h2
  simp only [h H H' h1 h2]
theorem Cong.at1 {id : Nat} {G : Option Blk → OR} (hG : ∀ o, (G o).isBad = false → id ∈ (G o).ids) : Cong fun H => G (H id) := by
  intro H H' h1 h2
  have := h1 id (hG _ h2)
  simp only [this]

theorem Cong.at {id : Nat} {F : Heap → OR} (h1 : ∀ H, (F H).isBad = false → id ∈ (F H).ids) (h2 : ∀ H H', H' id = H id → F H' = F H) : Cong F :=
  fun H H' h3 h4 => h2 H H' (h3 id (h1 H h4))

theorem cong_conv (d : Nat) (s t : TypeId) (x : V) : Cong fun h => vConv P h d s t x := by
  cases x
  case vec id n =>
    refine Cong.at (id := id) (fun H => ?_) (fun H H' e => by simp only [vConv, e])
    simp only [vConv]
    (repeat' split) <;> simp [OR.isBad, OR.ids]
  case vw id off n =>
    refine Cong.at (id := id) (fun H => ?_) (fun H H' e => by simp only [vConv, e])
    simp only [vConv]
    (repeat' split) <;> simp [OR.isBad, OR.ids]
  all_goals exact Cong.const _
theorem cong_len (i : TI) (x : V) : Cong fun h => vLen h i x := by
  obtain ⟨td, _, _, _⟩ := i
  cases x
  case vec id n =>
    refine Cong.at (id := id) (fun H => ?_) (fun H H' e => by cases td <;> simp only [vLen, e])
    cases td <;> simp only [vLen]
    all_goals (repeat' split) <;> simp_all [OR.isBad, OR.ids]
  all_goals exact fun H H' _ _ => by cases td <;> rfl
theorem cong_indexAddr (t : TypeId) (x y : V) : Cong fun h => vIndexAddr P h t x y := by
  cases x
  case vec id n =>
    refine Cong.at (id := id) (fun H => ?_) (fun H H' e => by cases y <;> simp only [vIndexAddr, e])
    simp only [vIndexAddr]
    (repeat' split) <;> simp_all [OR.isBad, OR.ids]
  all_goals exact fun H H' _ _ => by cases y <;> rfl
theorem cong_fieldAddr (s : TypeId) (f : Nat) (x : V) : Cong fun h => vFieldAddr P h s f x := by
  cases x
  case eptr id n sz i off =>
    refine Cong.at (id := id) (fun H => ?_) (fun H H' e => by simp only [vFieldAddr, e])
    simp only [vFieldAddr]
    (repeat' split) <;> simp_all [OR.isBad, OR.ids]
  all_goals exact fun H H' _ _ => by simp only [vFieldAddr]
theorem cong_load (t : TypeId) (x : V) : Cong fun h => vLoad P h t x := by
  cases x
  case ptr id off =>
    refine Cong.at (id := id) (fun H => ?_) (fun H H' e => by simp only [vLoad, e])
    simp only [vLoad]
    (repeat' split) <;> simp_all [OR.isBad, OR.ids]
  case eptr id n sz i off =>
    refine Cong.at (id := id) (fun H => ?_) (fun H H' e => by simp only [vLoad, e])
    simp only [vLoad]
    (repeat' split) <;> simp_all [OR.isBad, OR.ids]
  all_goals exact Cong.const _
theorem cong_store (t : TypeId) (x y : V) : Cong fun h => vStore P h t x y := by
  cases y
  case ptr id off =>
    refine Cong.at (id := id) (fun H => ?_) (fun H H' e => by simp only [vStore, e])
    simp only [vStore]
    (repeat' split) <;> simp_all [OR.isBad, OR.ids]
  case eptr id n sz i off =>
    refine Cong.at (id := id) (fun H => ?_) (fun H H' e => by simp only [vStore, e])
    simp only [vStore]
    (repeat' split) <;> simp_all [OR.isBad, OR.ids]
  all_goals exact Cong.const _
theorem cong_nil (x : V) : Cong fun h => vNil h x := by
  cases x
  case eptr id n sz i off =>
    refine Cong.at (id := id) (fun H => ?_) (fun H H' e => by simp only [vNil, e])
    simp only [vNil]
    (repeat' split) <;> simp_all [OR.isBad, OR.ids]
  all_goals exact Cong.const _
theorem cong_src (sz : Nat) (y : V) (H H' : Heap) (h : ∀ id n, y = .vec id n → H' id = H id) : vSrc H' sz y = vSrc H sz y := by
  cases y
  case vec id n => simp only [vSrc, h id n rfl]
  all_goals rfl
theorem src_ids {sz : Nat} {y : V} {H : Heap} {ids : List Nat} {m : Nat} {g : Nat → V} {p : Prop} (h : vSrc H sz y = some (ids, m, g, p)) (id n : Nat) (e : y = .vec id n) : ids = [id] := by
  subst e
  simp only [vSrc] at h
  split at h
  · cases h; rfl
  · cases h
theorem cong_append (d : Nat) (t u : TypeId) (x y : V) : Cong fun h => vAppend P h d t u x y := by
  intro H H' h1 h2
  simp only [vAppend] at h1 h2 ⊢
  split at h2
  · rename_i e hT hS
    simp only [hT, hS] at h1
    split at h2
    · rename_i ids m g p hsrc
      rw [hsrc] at h1
      simp only at h1
      have hy : vSrc H' (ti P e).size y = vSrc H (ti P e).size y := by
        refine cong_src _ _ _ _ fun id n hid => ?_
        have hi := src_ids hsrc id n hid
        subst hi
        cases x
        case vec id' n' =>
          simp only at h1 h2
          split at h2
          · rename_i sz n'' f hh
            rw [hh] at h1
            exact h1 id (by simp [OR.ids])
          · simp [OR.isBad] at h2
        all_goals simp [OR.isBad] at h2
      rw [hy, hsrc]
      simp only
      cases x
      case vec id' n' =>
        simp only at h1 h2 ⊢
        split at h2
        · rename_i sz n'' f hh
          rw [hh] at h1
          have := h1 id' (by simp [OR.ids])
          rw [this, hh]
        · simp [OR.isBad] at h2
      all_goals rfl
    · simp [OR.isBad] at h2
  · simp [OR.isBad] at h2
theorem cong_call (d : Nat) (ts : Array TypeId) (args : List V) (b : Builtin) : Cong fun h => vCall P h d ts args b := by
  cases b
  case len =>
    rcases h : ts.toList with _ | ⟨t, _ | ⟨t', r⟩⟩ <;> rcases args with _ | ⟨x, _ | ⟨x', r'⟩⟩ <;> simp only [vCall, h] <;> first | exact cong_len _ _ | exact Cong.const _
  case append =>
    rcases h : ts.toList with _ | ⟨t, _ | ⟨t', _ | ⟨t'', r⟩⟩⟩ <;> rcases args with _ | ⟨x, _ | ⟨x', _ | ⟨x'', r'⟩⟩⟩ <;> simp only [vCall, h] <;> first | exact cong_append _ _ _ _ _ | exact Cong.const _
  all_goals exact Cong.const _

theorem cong_op (ow : Nat → Bool) (d : Nat) (e : Env) (op : Op) : Cong fun h => opO P ow d h e op := by
  cases op <;> simp only [opO]
  case load => exact (cong_load _ _).and _
  case store => exact (cong_store _ _ _).and _
  case nilCheck => exact (cong_nil _).and _
  case convert => exact (cong_conv _ _ _ _).and _
  case fieldAddr => exact (cong_fieldAddr _ _ _).and _
  case indexAddr => exact (cong_indexAddr _ _ _).and _
  case call c =>
    cases c.callee
    case builtin b => exact (cong_call _ _ _ _).and _
    all_goals exact Cong.const _
  all_goals exact Cong.const _

theorem ev_congr {e e' : Env} {l : List Operand} (h : ∀ t, Operand.tmp t ∈ l → e' t = e t) : ∀ x ∈ l, ev e' x = ev e x := by
  intro x hx
  cases x with
  | tmp t => exact h t hx
  | _ => rfl
theorem op_congr (ow : Nat → Bool) (d : Nat) (H : Heap) {e e' : Env} (op : Op) (h : ∀ t, Operand.tmp t ∈ op.operands → e' t = e t) : opO P ow d H e' op = opO P ow d H e op := by
  have hx : ∀ x ∈ op.operands.toList, ev e' x = ev e x := fun x hx => ev_congr (l := op.operands.toList) (fun t ht => h t (by simpa using ht)) x hx
  have pairs : ∀ ps : List (Nat × Operand), (∀ x ∈ ps.map (·.2), ev e' x = ev e x) → (ps.map fun p => ev e' p.2) = (ps.map fun p => ev e p.2) ∧ (ps.map fun p => (p.1, (ev e' p.2).strip)) = (ps.map fun p => (p.1, (ev e p.2).strip)) := by
    intro ps hp
    refine ⟨List.map_congr_left fun p hm => hp _ (List.mem_map.2 ⟨p, hm, rfl⟩), List.map_congr_left fun p hm => ?_⟩
    rw [hp _ (List.mem_map.2 ⟨p, hm, rfl⟩)]
  have lst : ∀ ps : List Operand, (∀ x ∈ ps, ev e' x = ev e x) → ps.map (ev e') = ps.map (ev e) ∧ (ps.map fun x => (ev e' x).strip) = (ps.map fun x => (ev e x).strip) := by
    intro ps hp
    refine ⟨List.map_congr_left hp, List.map_congr_left fun p hm => ?_⟩
    rw [hp _ hm]
  cases op <;> simp only [Op.operands] at hx <;> simp only [opO]
  case build t ps => obtain ⟨h1, h2⟩ := pairs ps.toList (by simpa using hx); rw [h1, h2]
  case buildSlice t n ps => obtain ⟨h1, h2⟩ := pairs ps.toList (by simpa using hx); rw [h1, h2]
  case makeFunc fn a c =>
    obtain ⟨h1, h2⟩ := lst a.toList fun x h => hx x (by simp_all)
    obtain ⟨h3, h4⟩ := lst c.toList fun x h => hx x (by simp_all)
    rw [h1, h2, h3, h4]
  case slice t x lo hi mx => cases lo <;> cases hi <;> cases mx <;> simp_all
  case call c =>
    obtain ⟨h1, h2⟩ := lst c.args.toList fun x h => hx x (by simp_all [Call.operands])
    cases hc : c.callee with
    | value f => have := hx f (by simp [Call.operands, hc]); simp only [h1, h2, this]
    | builtin b => simp only [h1, h2]
    | invoke _ _ => rfl
  all_goals first
    | rfl
    | (simp_all; done)
end Go.Abs
