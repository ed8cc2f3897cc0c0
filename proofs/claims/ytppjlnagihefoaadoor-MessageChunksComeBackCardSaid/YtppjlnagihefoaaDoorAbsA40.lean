import Derived.Test.YtppjlnagihefoaaDoorAbsA39
import Derived.SizedLaws
import Derived.ChangeStays
import Derived.ChangeSame
import Derived.OpenShut
import Derived.RowKit
import Derived.RowKit3
namespace Go.Abs
open Go
variable {G : PG}

/- from what is read to what is said of it -/
section
variable {H : Type}
mutual
/-- a datum, as an abstract value -/
def toV : DataW H → V
  | .lit (.int k n) => .int k n
  | .lit (.bool b) => .bool b
  | .lit (.string s) => .str s
  | .nil => .sl 0 (litF [])
  | .slice es _ => .sl es.length (litF (toVL es))
  | .agg ps => .agg (toVF ps)
  | _ => .any
def toVL : List (DataW H) → List V
  | [] => []
  | d :: r => toV d :: toVL r
/-- the cells of the parts, one behind the other -/
def toVF : List (DataW H) → List V
  | [] => []
  | d :: r => (toV d).flat ++ toVF r
end
theorem toVL_eq (l : List (DataW H)) : toVL l = l.map toV := by
  induction l with
  | nil => rfl
  | cons d r ih => rw [toVL, List.map_cons, ih]
end

/-- types whose values are read: closed under their parts -/
def okTy1 (P : Program) (L : List TypeId) (t : TypeId) : Bool := match P.underlying t with
  | some .bool => true
  | some (.int _) => true
  | some .string => true
  | some (.slice e) => L.contains e && decide (0 < P.cellsOf e)
  | some (.struct fs) => fs.toList.all (fun f => L.contains f.type) && (P.cellsOf t == (fs.toList.map fun f => P.cellsOf f.type).sum) &&
      (List.range fs.size).all fun j => match fs.toList[j]? with
        | some f => f.offset == ((fs.toList.take j).map fun f => P.cellsOf f.type).sum
        | none => true
  | _ => false
def okTys (P : Program) (L : List TypeId) : Bool := L.all (okTy1 P L)
section
variable {P : Program} {L : List TypeId}
theorem okTys_at (h : okTys P L = true) {t : TypeId} (ht : t ∈ L) : okTy1 P L t = true := List.all_eq_true.1 h t ht
theorem okTys_slice (h : okTys P L = true) {t e : TypeId} (ht : t ∈ L) (hu : P.underlying t = some (.slice e)) : e ∈ L ∧ 0 < P.cellsOf e := by
  have := okTys_at h ht
  unfold okTy1 at this
  rw [hu] at this
  simpa using this
theorem okTys_struct (h : okTys P L = true) {t : TypeId} {fs : Array Field} (ht : t ∈ L) (hu : P.underlying t = some (.struct fs)) :
    (∀ f ∈ fs.toList, f.type ∈ L) ∧ P.cellsOf t = (fs.toList.map fun f => P.cellsOf f.type).sum ∧ ∀ (j : Nat) f, fs.toList[j]? = some f → f.offset = ((fs.toList.take j).map fun f => P.cellsOf f.type).sum := by
  have := okTys_at h ht
  unfold okTy1 at this
  rw [hu] at this
  simp only [Bool.and_eq_true, List.all_eq_true, List.contains_iff_mem, beq_iff_eq, List.mem_range] at this
  refine ⟨this.1.1, this.1.2, fun j f hj => ?_⟩
  have hlt : j < fs.size := by
    have := (List.getElem?_eq_some_iff.1 hj).1
    simpa using this
  have := this.2 j hlt
  rw [hj] at this
  simpa using this
theorem kids_ok (h : okTys P L = true) : Kids P (fun t => t ∈ L) := by
  have no : ∀ {t : TypeId} {d : TypeDesc}, t ∈ L → P.underlying t = some d → (match d with | .pointer _ => False | .array _ _ => False | .map _ _ => False | _ => True) := by
    intro t d ht hu
    have := okTys_at h ht
    unfold okTy1 at this
    rw [hu] at this
    cases d <;> first | trivial | (cases this)
  exact ⟨fun ht hu => (no ht hu).elim, fun ht hu => (okTys_slice h ht hu).1, fun ht hu => (no ht hu).elim, fun ht hu => okTys_struct h ht hu, fun ht hu => (no ht hu).elim⟩

/-- a list of cells is represented -/
def RepCs (w : World) (xs : List V) (cs : List Value) : Prop := xs.length = cs.length ∧ ∀ i, i < cs.length → RepP (· < w.heap.size) w (xs.getD i .any) (cs.getD i undef) ∧ one (cs.getD i undef)
theorem RepCs.app {w : World} {xs ys : List V} {cs ds : List Value} (h : RepCs w xs cs) (k : RepCs w ys ds) : RepCs w (xs ++ ys) (cs ++ ds) := by
  obtain ⟨h1, h2⟩ := h
  obtain ⟨k1, k2⟩ := k
  refine ⟨by simp [h1, k1], fun i hi => ?_⟩
  by_cases hlt : i < cs.length
  · have e1 : (xs ++ ys).getD i .any = xs.getD i .any := by rw [List.getD_eq_getElem?_getD, List.getElem?_append_left (by omega), List.getD_eq_getElem?_getD]
    have e2 : (cs ++ ds).getD i undef = cs.getD i undef := by rw [List.getD_eq_getElem?_getD, List.getElem?_append_left (by omega), List.getD_eq_getElem?_getD]
    rw [e1, e2]; exact h2 i hlt
  · have hi' : i < cs.length + ds.length := by simpa using hi
    have e1 : (xs ++ ys).getD i .any = ys.getD (i - cs.length) .any := by rw [List.getD_eq_getElem?_getD, List.getElem?_append_right (by omega), List.getD_eq_getElem?_getD, h1]
    have e2 : (cs ++ ds).getD i undef = ds.getD (i - cs.length) undef := by rw [List.getD_eq_getElem?_getD, List.getElem?_append_right (by omega), List.getD_eq_getElem?_getD]
    rw [e1, e2]; exact k2 _ (by omega)
theorem RepCs.one' {w : World} {x : V} {c : Value} (h : RepP (· < w.heap.size) w x c) (ho : one c) : RepCs w [x] [c] := by
  refine ⟨rfl, fun i hi => ?_⟩
  have : i = 0 := by simp at hi; omega
  subst this; exact ⟨h, ho⟩

section
variable {H : Type} {enc : TypeId × Value → H} {w : World}
theorem flat_toV_agg (ps : List (DataW H)) : (toV (.agg ps)).flat = toVF ps := by rw [toV]; rfl

/-- the fields, one behind the other -/
theorem fields_rep {fs : List Field} {cs : List Value} {sz : Field → Nat} (hl : cs.length = (fs.map sz).sum) (ho : ∀ (j : Nat) f, fs[j]? = some f → f.offset = ((fs.take j).map sz).sum) :
    ∀ (ds : List (DataW H)), ds.length = fs.length → (∀ (j : Nat) f d, fs[j]? = some f → ds[j]? = some d → RepCs w (toV d).flat ((cs.drop f.offset).take (sz f))) → RepCs w (toVF ds) cs := by
  suffices h : ∀ (k : Nat) (gs : List Field) (ds : List (DataW H)), fs.drop k = gs → ds.length = gs.length → (∀ (j : Nat) f d, gs[j]? = some f → ds[j]? = some d → RepCs w (toV d).flat ((cs.drop f.offset).take (sz f))) →
      RepCs w (toVF ds) (cs.drop ((fs.take k).map sz).sum) by
    intro ds h1 h2
    simpa using h 0 fs ds (by simp) h1 h2
  intro k gs
  induction gs generalizing k with
  | nil =>
    intro ds hk hd _
    have hnil : ds = [] := by simpa using hd
    subst hnil
    have : fs.length ≤ k := by
      have := congrArg List.length hk
      simp at this; omega
    rw [List.take_of_length_le this, ← hl, List.drop_length]
    exact ⟨rfl, fun i hi => by simp at hi⟩
  | cons g gs ih =>
    intro ds hk hd h
    cases ds with
    | nil => simp at hd
    | cons d ds =>
      have hg : fs[k]? = some g := by
        have := congrArg (fun l => l[0]?) hk
        simpa using this
      have hk' : fs.drop (k + 1) = gs := by
        have := congrArg (List.drop 1) hk
        simpa [List.drop_drop, Nat.add_comm] using this
      have r1 := h 0 g d rfl rfl
      have r2 := ih (k + 1) ds hk' (by simpa using hd) (fun j f d' hj hd' => h (j + 1) f d' (by simpa using hj) (by simpa using hd'))
      have hoff := ho k g hg
      have hsum : ((fs.take (k + 1)).map sz).sum = ((fs.take k).map sz).sum + sz g := by
        rw [List.take_add_one, hg]; simp
      have hsplit : cs.drop ((fs.take k).map sz).sum = ((cs.drop g.offset).take (sz g)) ++ cs.drop (((fs.take k).map sz).sum + sz g) := by
        rw [hoff, ← List.drop_drop, List.take_append_drop]
      rw [hsplit, toVF]
      rw [hsum] at r2
      exact r1.app r2

/-- WHAT IS READ IS REPRESENTED. -/
theorem trod_rep (hL : okTys P L = true) {sp : Nat → Bool} {hd : Bool} : ∀ (n : Nat) (t : TypeId) (cs : List Value) (x : DataW H × List MemPlace), t ∈ L → DataW.trod enc P w 0 sp hd n t cs = some x →
    RepCs w (toV x.1).flat cs ∧ ((∃ fs, P.underlying t = some (.struct fs)) ∨ ∃ c, cs = [c] ∧ (toV x.1).flat = [toV x.1] ∧ RepP (· < w.heap.size) w (toV x.1) c) := by
  intro n
  induction n with
  | zero => intro t cs x _ h; simp [DataW.trod] at h
  | succ n ih =>
    intro t cs x ht h
    have hok := okTys_at hL ht
    unfold okTy1 at hok
    cases hu : P.underlying t with
    | none => rw [hu] at hok; cases hok
    | some d =>
      rw [hu] at hok
      have fin : ∀ {c : Value} {y : V}, cs = [c] → toV x.1 = y → y.flat = [y] → RepP (· < w.heap.size) w y c → one c → RepCs w (toV x.1).flat cs ∧ ((∃ fs, some d = some (.struct fs)) ∨ ∃ c, cs = [c] ∧ (toV x.1).flat = [toV x.1] ∧ RepP (· < w.heap.size) w (toV x.1) c) := by
        intro c y e1 e2 e3 e4 e5
        subst e1
        rw [e2, e3]
        exact ⟨RepCs.one' e4 e5, .inr ⟨c, rfl, rfl, e4⟩⟩
      cases d with
      | bool =>
        obtain ⟨b, rfl, rfl⟩ := DataW.trod_bool hu h
        exact fin rfl (by simp only [toV]) rfl (.bool b) rfl
      | int k =>
        obtain ⟨m, rfl, rfl, _⟩ := DataW.trod_int hu h
        exact fin rfl (by simp only [toV]) rfl (.int k m) rfl
      | string =>
        obtain ⟨s, rfl, rfl, _⟩ := DataW.trod_string hu h
        exact fin rfl (by simp only [toV]) rfl (.str s.data.toList) rfl
      | slice e =>
        obtain ⟨he, hpos⟩ := okTys_slice hL ht hu
        rcases DataW.trod_slice hu h with ⟨rfl, rfl⟩ | ⟨a, len, cap, elems, rest, m, hm, rfl, rfl, _, hlc, _, hel, hcell, _⟩
        · exact fin rfl (y := .sl 0 (litF [])) (by simp only [toV]) rfl (.sl0 _ _ _) rfl
        · have hm' : m = n := by omega
          subst hm'
          refine fin rfl (y := .sl len (litF ((elems.map (·.1)).map toV))) (by simp only [toV, toVL_eq, List.length_map, hel]) rfl ?_ rfl
          by_cases h0 : len = 0
          · subst h0; exact .sl0 _ _ _
          · have each : ∀ i, i < len → ∃ y ccs, elems[i]? = some y ∧ w.cells? 0 (a.add (i * P.cellsOf e)) (P.cellsOf e) = some ccs ∧ DataW.trod enc P w 0 sp hd m e ccs = some y := by
              intro i hi
              have h1 := hcell i hi
              have hlt : i < elems.length := by omega
              rw [List.getElem?_eq_getElem hlt] at h1 ⊢
              obtain ⟨ccs, h2, h3⟩ := Option.bind_eq_some_iff.1 h1
              exact ⟨_, ccs, rfl, h2, h3⟩
            have hspot : a.spot = none := by
              obtain ⟨y, ccs, _, h2, _⟩ := each 0 (by omega)
              obtain ⟨_, hl, hc⟩ := World.cells?_some h2
              have := hc 0 hpos
              cases hcc : ccs[0]? with
              | none => rw [List.getElem?_eq_none_iff] at hcc; omega
              | some v =>
                rw [hcc] at this
                have := World.cell?_spot this
                simpa [Addr.add] using this
            have hblk : a.block < w.heap.size := by
              obtain ⟨y, ccs, _, h2, _⟩ := each 0 (by omega)
              have := World.cells?_block h2 hpos
              simpa [Addr.add] using this
            obtain ⟨ab, ao, asp⟩ := a
            simp only at hspot hblk
            subst hspot
            have key : ∀ i j, i < len → j < P.cellsOf e → ∃ v, w.cell? ⟨ab, ao + (i * P.cellsOf e + j), none⟩ = some v ∧ RepP (· < w.heap.size) w ((litF ((elems.map (·.1)).map toV) i).flat.getD j .any) v ∧ one v := by
              intro i j hi hj
              obtain ⟨y, ccs, h1, h2, h3⟩ := each i hi
              obtain ⟨_, hl, hc⟩ := World.cells?_some h2
              have hr := (ih e ccs y he h3).1
              have hv := hc j hj
              have hjc : j < ccs.length := by omega
              refine ⟨ccs.getD j undef, ?_, ?_, (hr.2 j hjc).2⟩
              · have e1 : (Addr.add (Addr.add ⟨ab, ao, none⟩ (i * P.cellsOf e)) j) = ⟨ab, ao + (i * P.cellsOf e + j), none⟩ := by
                  rw [WideShapes.add_plain, WideShapes.add_plain, Nat.add_assoc]
                rw [e1] at hv
                rw [hv, List.getD_eq_getElem?_getD, List.getElem?_eq_getElem hjc]; rfl
              · have : litF ((elems.map (·.1)).map toV) i = toV y.1 := by
                  simp only [litF, List.getD_eq_getElem?_getD, List.getElem?_map, h1, Option.map_some, Option.getD_some]
                rw [this]
                exact (hr.2 j hjc).1
            refine .sl len _ ab ao cap (P.cellsOf e) (fun i j => (w.cell? ⟨ab, ao + (i * P.cellsOf e + j), none⟩).getD undef) hblk hlc hpos (fun i hi => ?_) (fun i j hi hj => ?_) (fun i j hi hj => ?_) (fun i j hi hj => ?_)
            · obtain ⟨y, ccs, h1, h2, h3⟩ := each i hi
              obtain ⟨_, hl, _⟩ := World.cells?_some h2
              have hr := (ih e ccs y he h3).1
              have : litF ((elems.map (·.1)).map toV) i = toV y.1 := by
                simp only [litF, List.getD_eq_getElem?_getD, List.getElem?_map, h1, Option.map_some, Option.getD_some]
              rw [this, hr.1, hl]
            · obtain ⟨v, h1, _, _⟩ := key i j hi hj
              rw [h1]; rfl
            · obtain ⟨v, h1, _, h3⟩ := key i j hi hj
              rw [h1]; exact h3
            · obtain ⟨v, h1, h2, _⟩ := key i j hi hj
              rw [h1]; exact h2
      | struct fs =>
        obtain ⟨k1, k2, k3⟩ := okTys_struct hL ht hu
        obtain ⟨xs, m, hm, rfl, hl, hxs, hf⟩ := DataW.trod_struct hu h
        have hm' : m = n := by omega
        subst hm'
        refine ⟨?_, .inl ⟨fs, rfl⟩⟩
        simp only [flat_toV_agg]
        refine fields_rep (fs := fs.toList) (sz := fun f => P.cellsOf f.type) (by rw [hl, k2]) k3 _ (by simp [hxs]) fun j f d hj hd' => ?_
        have h1 := hf j f (by simpa using hj)
        rw [List.getElem?_map] at hd'
        obtain ⟨y, hy, rfl⟩ := Option.map_eq_some_iff.1 hd'
        rw [hy] at h1
        exact (ih f.type _ y (k1 f (List.mem_of_getElem? hj)) h1).1
      | _ => cases hok
end
end
end Go.Abs
