import Derived.Test.YtppjlnagihefoaaDoorAbsA43
import Derived.Lib.LaidTab
import Derived.Sort.Grow
import Derived.Below
import Derived.Deep.Draws
namespace Go.Abs
open Go Go.RowKit
variable {G : PG}

/- contracts of the library's functions that are proved of Calls -/
theorem grow_refl (w : World) : World.grow w w := ⟨rfl, rfl, rfl, Nat.le_refl _, fun _ _ => rfl⟩
theorem grow_eq {w w' : World} (h : w' = w) : World.grow w w' := h ▸ grow_refl w
theorem grow_below {w w' : World} (h : Below w.heap.size w w') : World.grow w w' := ⟨h.os, h.tape, h.output, h.size, h.block⟩
theorem grow_drew (w : World) (k : Nat) (os : Array Obj) : World.grow w (Sort.grow (w.drewN k) os) := by
  refine ⟨rfl, rfl, rfl, ?_, fun b hb => ?_⟩
  · show w.heap.size ≤ (w.heap ++ os).size
    simp
  · show (w.heap ++ os)[b]? = w.heap[b]?
    rw [Array.getElem?_append_left hb]
/-- what stands for one value alone -/
def V.exact : V → Option Value
  | .int k n => some (.int k n)
  | .bool b => some (.bool b)
  | .str s => some (.string ⟨s.toArray⟩)
  | _ => none
def exactL : List V → Option (List Value)
  | [] => some []
  | v :: r => match v.exact, exactL r with
    | some x, some l => some (x :: l)
    | _, _ => none
theorem exact_ok {S : Sv} {x : V} {v u : Value} (h : S.rep x v) (he : x.exact = some u) : v = u := by
  cases x <;> simp only [V.exact] at he <;> try cases he
  · exact inv_int h
  · exact inv_bool h
  · exact inv_str h
theorem exactL_ok {S : Sv} : ∀ {args : List V} {vals vs : List Value}, exactL args = some vs → vals.length = args.length → (∀ i, i < args.length → S.rep (args.getD i .any) (vals.getD i undef)) → vals = vs
  | [], vals, vs, he, hl, _ => by
    simp only [exactL] at he
    cases he
    exact List.length_eq_zero_iff.1 hl
  | x :: args, vals, vs, he, hl, hr => by
    cases vals with
    | nil => simp at hl
    | cons v vals =>
      simp only [exactL] at he
      cases hx : x.exact with
      | none => rw [hx] at he; cases he
      | some u =>
        cases hL : exactL args with
        | none => rw [hx, hL] at he; cases he
        | some l =>
          rw [hx, hL] at he
          cases he
          have h0 := exact_ok (hr 0 (by simp)) hx
          have h1 := exactL_ok (vals := vals) hL (by simpa using hl) (fun i hi => by simpa using hr (i + 1) (by simpa using hi))
          simp only [List.getD_cons_zero] at h0
          rw [h0, h1]
theorem pcall_shelf {f : FuncId} (hent : entB G.prog f = true) {args : List V} {r : V} {vs : List Value} (hx : exactL args = some vs)
    (h : ∀ w, G.ok w → Calls G.prog f vs.toArray w fun e w' => ∃ v, e = .returned v ∧ World.grow w w' ∧ ∀ γ imm, RepV γ imm w' r v) : PCall G f args r := by
  intro S vals hs hh hl hr
  obtain rfl := exactL_ok hx hl hr
  refine .inl ⟨hent, (h S.w hs.tab.1).mono fun e w' ⟨v, he, hg, hrep⟩ => ?_⟩
  obtain ⟨g1, g2⟩ := Sim.grow hs (fun _ => False) w' S.imm hg (fun _ h => h) (fun b hb => .inl hb)
  refine ⟨v, S.γ, S.imm, he, ?_, ?_, fun _ _ => rfl, hrep _ _⟩
  · rw [← hh]; exact g1
  · rw [← hh]; exact g2
/-- what a text of one string hands back -/
theorem shelf_str {w w' : World} {e : Ending} {l : List UInt8} (he : e = .returned (.string ⟨l.toArray⟩)) (hg : World.grow w w') : ∃ v, e = .returned v ∧ World.grow w w' ∧ ∀ γ imm, RepV γ imm w' (.str l) v := ⟨_, he, hg, fun _ _ => .pure (.str l)⟩
theorem shelf_int {w w' : World} {e : Ending} {k : IntKind} {n : Int} (he : e = .returned (.int k n)) (hg : World.grow w w') : ∃ v, e = .returned v ∧ World.grow w w' ∧ ∀ γ imm, RepV γ imm w' (.int k n) v := ⟨_, he, hg, fun _ _ => .pure (.int k n)⟩
theorem shelf_bool {w w' : World} {e : Ending} {b : Bool} (he : e = .returned (.bool b)) (hg : World.grow w w') : ∃ v, e = .returned v ∧ World.grow w w' ∧ ∀ γ imm, RepV γ imm w' (.bool b) v := ⟨_, he, hg, fun _ _ => .pure (.bool b)⟩

/- package-level variables that hold what they held in a first world -/
def mkPG (P : Program) (n : Nat) (R : World → Prop) : PG where
  prog := P
  n := n
  ok := fun w => ∃ w0, R w0 ∧ ∀ b, b < n → w.heap[b]? = w0.heap[b]?
  stab := fun _ _ h ⟨w0, h1, h2⟩ => ⟨w0, h1, fun b hb => (h b hb).trans (h2 b hb)⟩
theorem mkPG_ok {P : Program} {n : Nat} {R : World → Prop} {w : World} (h : R w) : (mkPG P n R).ok w := ⟨w, h, fun _ _ => rfl⟩
theorem tabIs_same {P : Program} {w w0 : World} {name : String} {k : IntKind} {zs : List Int} {g n : Nat} (hg : P.globalNamed name = some g) (hn : g < n) (h : ∀ b, b < n → w.heap[b]? = w0.heap[b]?) (ht : Lib.TabIs P w0 name k zs) : Lib.TabIs P w name k zs := by
  unfold Lib.TabIs World.var? at ht ⊢
  rw [hg] at ht ⊢
  simp only [Option.bind_some, h g hn] at ht ⊢
  exact ht
theorem laidMet_cells {P : Program} {W : World} {name : String} {k : IntKind} {zs : List Int} {g : Nat} {t e : TypeId} {n : Nat}
    (hg : P.globalNamed name = some g) (hty : (P.globals[g]?).map (·.type) = some t) (ht : P.underlying t = some (.array n e)) (he : P.underlying e = some (.int k)) (hce : P.cellsOf e = 1) (hct : P.cellsOf t = n) : ∀ (l : List (String × DataW Unit)), (name, Lib.tabData k zs) ∈ l → laidMet P l W → Lib.TabIs P W name k zs
  | [], hm, _ => by cases hm
  | x :: l, hm, h => by
    rcases List.mem_cons.1 hm with rfl | hm2
    · exact Lib.tabIs_of_head hg hty ht he hce hct h
    · obtain ⟨n0, d0⟩ := x
      obtain ⟨ps, ⟨g', t', cs, fuel, p, q, _, _, _, _, hq, rfl⟩, hnd, hall⟩ := h
      exact laidMet_cells hg hty ht he hce hct l hm2 ⟨q, hq, (List.nodup_append.1 hnd).2.1, fun b off hb => hall b off (List.mem_append.2 (.inr hb))⟩
theorem shaped_size {P : Program} {W : World} (h : W.ShapedOpen P) {k : Nat} (hk : P.globals.size = k + 1) (h0 : (((begin P (fun _ _ => 0) default).world.heap[k]?).bind Obj.row?).isSome = true) : P.globals.size ≤ W.heap.size := by
  obtain ⟨⟨zero, t⟩, hz⟩ := Option.isSome_iff_exists.1 h0
  obtain ⟨cs, hh, _⟩ := h.1 k zero t (by omega) hz
  have := (Array.getElem?_eq_some_iff.1 hh).1
  omega
end Go.Abs
