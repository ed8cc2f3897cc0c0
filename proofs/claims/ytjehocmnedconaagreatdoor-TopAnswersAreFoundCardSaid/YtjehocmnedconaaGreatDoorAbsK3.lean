/- the executor, part 3 -/
import Derived.Test.YtjehocmnedconaaGreatDoorAbsK2
import Derived.SizedLaws
import Derived.ChangeStays
import Derived.ChangeSame
import Derived.OpenShut
import Derived.RowKit
import Derived.RowKit3
import Derived.Lib.LaidTab
import Derived.Sort.Grow
import Derived.Below
import Derived.Deep.Draws
namespace Go.Abs
open Go
variable {G : PG}
section
variable {H : Type}
mutual
/-- a datum, as an abstract value -/
def toV : DataW H → V
  | .lit (.int k n) => .int k n
  | .lit (.bool b) => .bool b
  | .lit (.string s) => .str s
  | .nil => .sl 0 (litF [])
  | .slice es _ => .sl es.length (litF (toVL es))
  | .agg ps => .agg (toVF ps)
  | _ => .any
def toVL : List (DataW H) → List V
  | [] => []
  | d :: r => toV d :: toVL r
/-- the cells of the parts, one behind the other -/
def toVF : List (DataW H) → List V
  | [] => []
  | d :: r => (toV d).flat ++ toVF r
end
theorem toVL_eq (l : List (DataW H)) : toVL l = l.map toV := by
  induction l with
  | nil => rfl
  | cons d r ih => rw [toVL, List.map_cons, ih]
end
def okTy1 (P : Program) (L : List TypeId) (t : TypeId) : Bool := match P.underlying t with
  | some .bool => true
  | some (.int _) => true
  | some .string => true
  | some (.slice e) => L.contains e && decide (0 < P.cellsOf e)
  | some (.struct fs) => fs.toList.all (fun f => L.contains f.type) && (P.cellsOf t == (fs.toList.map fun f => P.cellsOf f.type).sum) &&
      (List.range fs.size).all fun j => match fs.toList[j]? with
        | some f => f.offset == ((fs.toList.take j).map fun f => P.cellsOf f.type).sum
        | none => true
  | _ => false
def okTys (P : Program) (L : List TypeId) : Bool := L.all (okTy1 P L)
section
variable {P : Program} {L : List TypeId}
theorem okTys_at (h : okTys P L = true) {t : TypeId} (ht : t ∈ L) : okTy1 P L t = true := List.all_eq_true.1 h t ht
theorem okTys_slice (h : okTys P L = true) {t e : TypeId} (ht : t ∈ L) (hu : P.underlying t = some (.slice e)) : e ∈ L ∧ 0 < P.cellsOf e := by
  have := okTys_at h ht
  unfold okTy1 at this
  rw [hu] at this
  simpa using this
theorem okTys_struct (h : okTys P L = true) {t : TypeId} {fs : Array Field} (ht : t ∈ L) (hu : P.underlying t = some (.struct fs)) :
    (∀ f ∈ fs.toList, f.type ∈ L) ∧ P.cellsOf t = (fs.toList.map fun f => P.cellsOf f.type).sum ∧ ∀ (j : Nat) f, fs.toList[j]? = some f → f.offset = ((fs.toList.take j).map fun f => P.cellsOf f.type).sum := by
  have := okTys_at h ht
  unfold okTy1 at this
  rw [hu] at this
  simp only [Bool.and_eq_true, List.all_eq_true, List.contains_iff_mem, beq_iff_eq, List.mem_range] at this
  refine ⟨this.1.1, this.1.2, fun j f hj => ?_⟩
  have hlt : j < fs.size := by
    have := (List.getElem?_eq_some_iff.1 hj).1
    simpa using this
  have := this.2 j hlt
  rw [hj] at this
  simpa using this
theorem kids_ok (h : okTys P L = true) : Kids P (fun t => t ∈ L) := by
  have no : ∀ {t : TypeId} {d : TypeDesc}, t ∈ L → P.underlying t = some d → (match d with | .pointer _ => False | .array _ _ => False | .map _ _ => False | _ => True) := by
    intro t d ht hu
    have := okTys_at h ht
    unfold okTy1 at this
    rw [hu] at this
    cases d <;> first | trivial | (cases this)
  exact ⟨fun ht hu => (no ht hu).elim, fun ht hu => (okTys_slice h ht hu).1, fun ht hu => (no ht hu).elim, fun ht hu => okTys_struct h ht hu, fun ht hu => (no ht hu).elim⟩
def RepCs (w : World) (xs : List V) (cs : List Value) : Prop := xs.length = cs.length ∧ ∀ i, i < cs.length → RepP (· < w.heap.size) w (xs.getD i .any) (cs.getD i undef) ∧ one (cs.getD i undef)
theorem RepCs.app {w : World} {xs ys : List V} {cs ds : List Value} (h : RepCs w xs cs) (k : RepCs w ys ds) : RepCs w (xs ++ ys) (cs ++ ds) := by
  obtain ⟨h1, h2⟩ := h
  obtain ⟨k1, k2⟩ := k
  refine ⟨by simp [h1, k1], fun i hi => ?_⟩
  by_cases hlt : i < cs.length
  · have e1 : (xs ++ ys).getD i .any = xs.getD i .any := by rw [List.getD_eq_getElem?_getD, List.getElem?_append_left (by omega), List.getD_eq_getElem?_getD]
    have e2 : (cs ++ ds).getD i undef = cs.getD i undef := by rw [List.getD_eq_getElem?_getD, List.getElem?_append_left (by omega), List.getD_eq_getElem?_getD]
    rw [e1, e2]; exact h2 i hlt
  · have hi' : i < cs.length + ds.length := by simpa using hi
    have e1 : (xs ++ ys).getD i .any = ys.getD (i - cs.length) .any := by rw [List.getD_eq_getElem?_getD, List.getElem?_append_right (by omega), List.getD_eq_getElem?_getD, h1]
    have e2 : (cs ++ ds).getD i undef = ds.getD (i - cs.length) undef := by rw [List.getD_eq_getElem?_getD, List.getElem?_append_right (by omega), List.getD_eq_getElem?_getD]
    rw [e1, e2]; exact k2 _ (by omega)
theorem RepCs.one' {w : World} {x : V} {c : Value} (h : RepP (· < w.heap.size) w x c) (ho : one c) : RepCs w [x] [c] := by
  refine ⟨rfl, fun i hi => ?_⟩
  have : i = 0 := by simp at hi; omega
  subst this; exact ⟨h, ho⟩
section
variable {H : Type} {enc : TypeId × Value → H} {w : World}
theorem flat_toV_agg (ps : List (DataW H)) : (toV (.agg ps)).flat = toVF ps := by rw [toV]; rfl
theorem fields_rep {fs : List Field} {cs : List Value} {sz : Field → Nat} (hl : cs.length = (fs.map sz).sum) (ho : ∀ (j : Nat) f, fs[j]? = some f → f.offset = ((fs.take j).map sz).sum) :
    ∀ (ds : List (DataW H)), ds.length = fs.length → (∀ (j : Nat) f d, fs[j]? = some f → ds[j]? = some d → RepCs w (toV d).flat ((cs.drop f.offset).take (sz f))) → RepCs w (toVF ds) cs := by
  suffices h : ∀ (k : Nat) (gs : List Field) (ds : List (DataW H)), fs.drop k = gs → ds.length = gs.length → (∀ (j : Nat) f d, gs[j]? = some f → ds[j]? = some d → RepCs w (toV d).flat ((cs.drop f.offset).take (sz f))) →
      RepCs w (toVF ds) (cs.drop ((fs.take k).map sz).sum) by
    intro ds h1 h2
    simpa using h 0 fs ds (by simp) h1 h2
  intro k gs
  induction gs generalizing k with
  | nil =>
    intro ds hk hd _
    have hnil : ds = [] := by simpa using hd
    subst hnil
    have : fs.length ≤ k := by
      have := congrArg List.length hk
      simp at this; omega
    rw [List.take_of_length_le this, ← hl, List.drop_length]
    exact ⟨rfl, fun i hi => by simp at hi⟩
  | cons g gs ih =>
    intro ds hk hd h
    cases ds with
    | nil => simp at hd
    | cons d ds =>
      have hg : fs[k]? = some g := by
        have := congrArg (fun l => l[0]?) hk
        simpa using this
      have hk' : fs.drop (k + 1) = gs := by
        have := congrArg (List.drop 1) hk
        simpa [List.drop_drop, Nat.add_comm] using this
      have r1 := h 0 g d rfl rfl
      have r2 := ih (k + 1) ds hk' (by simpa using hd) (fun j f d' hj hd' => h (j + 1) f d' (by simpa using hj) (by simpa using hd'))
      have hoff := ho k g hg
      have hsum : ((fs.take (k + 1)).map sz).sum = ((fs.take k).map sz).sum + sz g := by
        rw [List.take_add_one, hg]; simp
      have hsplit : cs.drop ((fs.take k).map sz).sum = ((cs.drop g.offset).take (sz g)) ++ cs.drop (((fs.take k).map sz).sum + sz g) := by
        rw [hoff, ← List.drop_drop, List.take_append_drop]
      rw [hsplit, toVF]
      rw [hsum] at r2
      exact r1.app r2
theorem trod_rep (hL : okTys P L = true) {sp : Nat → Bool} {hd : Bool} : ∀ (n : Nat) (t : TypeId) (cs : List Value) (x : DataW H × List MemPlace), t ∈ L → DataW.trod enc P w 0 sp hd n t cs = some x →
    RepCs w (toV x.1).flat cs ∧ ((∃ fs, P.underlying t = some (.struct fs)) ∨ ∃ c, cs = [c] ∧ (toV x.1).flat = [toV x.1] ∧ RepP (· < w.heap.size) w (toV x.1) c) := by
  intro n
  induction n with
  | zero => intro t cs x _ h; simp [DataW.trod] at h
  | succ n ih =>
    intro t cs x ht h
    have hok := okTys_at hL ht
    unfold okTy1 at hok
    cases hu : P.underlying t with
    | none => rw [hu] at hok; cases hok
    | some d =>
      rw [hu] at hok
      have fin : ∀ {c : Value} {y : V}, cs = [c] → toV x.1 = y → y.flat = [y] → RepP (· < w.heap.size) w y c → one c → RepCs w (toV x.1).flat cs ∧ ((∃ fs, some d = some (.struct fs)) ∨ ∃ c, cs = [c] ∧ (toV x.1).flat = [toV x.1] ∧ RepP (· < w.heap.size) w (toV x.1) c) := by
        intro c y e1 e2 e3 e4 e5
        subst e1
        rw [e2, e3]
        exact ⟨RepCs.one' e4 e5, .inr ⟨c, rfl, rfl, e4⟩⟩
      cases d with
      | bool =>
        obtain ⟨b, rfl, rfl⟩ := DataW.trod_bool hu h
        exact fin rfl (by simp only [toV]) rfl (.bool b) rfl
      | int k =>
        obtain ⟨m, rfl, rfl, _⟩ := DataW.trod_int hu h
        exact fin rfl (by simp only [toV]) rfl (.int k m) rfl
      | string =>
        obtain ⟨s, rfl, rfl, _⟩ := DataW.trod_string hu h
        exact fin rfl (by simp only [toV]) rfl (.str s.data.toList) rfl
      | slice e =>
        obtain ⟨he, hpos⟩ := okTys_slice hL ht hu
        rcases DataW.trod_slice hu h with ⟨rfl, rfl⟩ | ⟨a, len, cap, elems, rest, m, hm, rfl, rfl, _, hlc, _, hel, hcell, _⟩
        · exact fin rfl (y := .sl 0 (litF [])) (by simp only [toV]) rfl (.sl0 _ _ _) rfl
        · have hm' : m = n := by omega
          subst hm'
          refine fin rfl (y := .sl len (litF ((elems.map (·.1)).map toV))) (by simp only [toV, toVL_eq, List.length_map, hel]) rfl ?_ rfl
          by_cases h0 : len = 0
          · subst h0; exact .sl0 _ _ _
          · have each : ∀ i, i < len → ∃ y ccs, elems[i]? = some y ∧ w.cells? 0 (a.add (i * P.cellsOf e)) (P.cellsOf e) = some ccs ∧ DataW.trod enc P w 0 sp hd m e ccs = some y := by
              intro i hi
              have h1 := hcell i hi
              have hlt : i < elems.length := by omega
              rw [List.getElem?_eq_getElem hlt] at h1 ⊢
              obtain ⟨ccs, h2, h3⟩ := Option.bind_eq_some_iff.1 h1
              exact ⟨_, ccs, rfl, h2, h3⟩
            have hspot : a.spot = none := by
              obtain ⟨y, ccs, _, h2, _⟩ := each 0 (by omega)
              obtain ⟨_, hl, hc⟩ := World.cells?_some h2
              have := hc 0 hpos
              cases hcc : ccs[0]? with
              | none => rw [List.getElem?_eq_none_iff] at hcc; omega
              | some v =>
                rw [hcc] at this
                have := World.cell?_spot this
                simpa [Addr.add] using this
            have hblk : a.block < w.heap.size := by
              obtain ⟨y, ccs, _, h2, _⟩ := each 0 (by omega)
              have := World.cells?_block h2 hpos
              simpa [Addr.add] using this
            obtain ⟨ab, ao, asp⟩ := a
            simp only at hspot hblk
            subst hspot
            have key : ∀ i j, i < len → j < P.cellsOf e → ∃ v, w.cell? ⟨ab, ao + (i * P.cellsOf e + j), none⟩ = some v ∧ RepP (· < w.heap.size) w ((litF ((elems.map (·.1)).map toV) i).flat.getD j .any) v ∧ one v := by
              intro i j hi hj
              obtain ⟨y, ccs, h1, h2, h3⟩ := each i hi
              obtain ⟨_, hl, hc⟩ := World.cells?_some h2
              have hr := (ih e ccs y he h3).1
              have hv := hc j hj
              have hjc : j < ccs.length := by omega
              refine ⟨ccs.getD j undef, ?_, ?_, (hr.2 j hjc).2⟩
              · have e1 : (Addr.add (Addr.add ⟨ab, ao, none⟩ (i * P.cellsOf e)) j) = ⟨ab, ao + (i * P.cellsOf e + j), none⟩ := by
                  rw [WideShapes.add_plain, WideShapes.add_plain, Nat.add_assoc]
                rw [e1] at hv
                rw [hv, List.getD_eq_getElem?_getD, List.getElem?_eq_getElem hjc]; rfl
              · have : litF ((elems.map (·.1)).map toV) i = toV y.1 := by
                  simp only [litF, List.getD_eq_getElem?_getD, List.getElem?_map, h1, Option.map_some, Option.getD_some]
                rw [this]
                exact (hr.2 j hjc).1
            refine .sl len _ ab ao cap (P.cellsOf e) (fun i j => (w.cell? ⟨ab, ao + (i * P.cellsOf e + j), none⟩).getD undef) hblk hlc hpos (fun i hi => ?_) (fun i j hi hj => ?_) (fun i j hi hj => ?_) (fun i j hi hj => ?_)
            · obtain ⟨y, ccs, h1, h2, h3⟩ := each i hi
              obtain ⟨_, hl, _⟩ := World.cells?_some h2
              have hr := (ih e ccs y he h3).1
              have : litF ((elems.map (·.1)).map toV) i = toV y.1 := by
                simp only [litF, List.getD_eq_getElem?_getD, List.getElem?_map, h1, Option.map_some, Option.getD_some]
              rw [this, hr.1, hl]
            · obtain ⟨v, h1, _, _⟩ := key i j hi hj
              rw [h1]; rfl
            · obtain ⟨v, h1, _, h3⟩ := key i j hi hj
              rw [h1]; exact h3
            · obtain ⟨v, h1, h2, _⟩ := key i j hi hj
              rw [h1]; exact h2
      | struct fs =>
        obtain ⟨k1, k2, k3⟩ := okTys_struct hL ht hu
        obtain ⟨xs, m, hm, rfl, hl, hxs, hf⟩ := DataW.trod_struct hu h
        have hm' : m = n := by omega
        subst hm'
        refine ⟨?_, .inl ⟨fs, rfl⟩⟩
        simp only [flat_toV_agg]
        refine fields_rep (fs := fs.toList) (sz := fun f => P.cellsOf f.type) (by rw [hl, k2]) k3 _ (by simp [hxs]) fun j f d hj hd' => ?_
        have h1 := hf j f (by simpa using hj)
        rw [List.getElem?_map] at hd'
        obtain ⟨y, hy, rfl⟩ := Option.map_eq_some_iff.1 hd'
        rw [hy] at h1
        exact (ih f.type _ y (k1 f (List.mem_of_getElem? hj)) h1).1
      | _ => cases hok
end
end
end Go.Abs
namespace Go.Abs
open Go Go.ChangeShapes Go.RowKit
variable {G : PG}
section
variable {P : Program} {L : List TypeId} {H : Type} {enc : TypeId × Value → H} {W : World}
theorem arg_rep (hL : okTys P L = true) {r : Reach} {b0 : Nat} {sp : Nat → Bool} {hd : Bool} {t : TypeId} (ht : t ∈ L) {v : Value} {d : DataW H} {ps : List MemPlace} (hval : Value.okWide P W r b0 t v)
    (h : DataW.Trod enc P W 0 sp hd t v d ps) : RepP (· < W.heap.size) W (toV d) v := by
  obtain ⟨n, hn⟩ := h
  obtain ⟨h1, h2⟩ := trod_rep hL n t _ _ ht hn
  simp only at h1 h2
  rcases h2 with ⟨fs, hu⟩ | ⟨c, hc, _, hr⟩
  · unfold Value.okWide at hval
    rw [hu] at hval
    obtain ⟨cs, rfl, _, _⟩ := hval
    obtain ⟨xs, m, rfl, hx, _⟩ := DataW.trod_struct hu hn
    obtain ⟨rfl, _⟩ := Prod.mk.inj hx
    rw [flat_toV_agg] at h1
    have hcs : (Value.agg cs).cells.toList.toArray = cs := by simp [Value.cells]
    rw [toV]
    have := RepP.agg (imm := (· < W.heap.size)) (w := W) (toVF (xs.map (·.1))) (Value.agg cs).cells.toList h1.1.symm (fun i hi => (h1.2 i (by rw [← h1.1]; exact hi)).1) (fun i hi => (h1.2 i (by rw [← h1.1]; exact hi)).2)
    rw [hcs] at this
    exact this
  · have hv : v = c := by
      have hok := okTys_at hL ht
      unfold okTy1 at hok
      cases v with
      | agg cs =>
        exfalso
        unfold Value.okWide at hval
        cases hu : P.underlying t with
        | none => rw [hu] at hok; cases hok
        | some d' =>
          rw [hu] at hok hval
          cases d' with
          | struct fs =>
            obtain ⟨xs, m, rfl, hx, _⟩ := DataW.trod_struct hu hn
            obtain ⟨rfl, _⟩ := Prod.mk.inj hx
            rw [toV] at hr
            have hc' : (Value.agg cs).cells = #[c] := by
              apply Array.ext'
              exact hc
            simp only [Value.cells] at hc'
            subst hc'
            have ho := (h1.2 0 (by simp [Value.cells])).2
            cases hr with
            | agg _ vs _ _ _ => simp [one, Value.cells, Value.oneCell'] at ho
          | bool => simp [Cell.okWide, Cell.ok, hu] at hval
          | int k => simp [Cell.okWide, Cell.ok, hu] at hval
          | string => simp [Cell.okWide, Cell.ok, hu] at hval
          | slice e => simp [Cell.okWide, Cell.ok, hu] at hval
          | _ => cases hok
      | _ => simpa [Value.cells] using hc
    subst hv
    exact hr
theorem args_rep (hL : okTys P L = true) {r : Reach} {b0 : Nat} {sp : Nat → Bool} {hd : Bool} : ∀ (ts : List TypeId) (vs : List Value) (ds : List (DataW H)) (ps : List MemPlace), (∀ t ∈ ts, t ∈ L) → (∀ (j : Nat) t v, ts[j]? = some t → vs[j]? = some v → Value.okWide P W r b0 t v) →
    DataW.TrodAll enc P W 0 sp hd ts vs ds ps → vs.length = ds.length ∧ ∀ i, i < ds.length → RepP (· < W.heap.size) W ((ds.map toV).getD i .any) (vs.getD i undef)
  | [], vs, ds, ps, _, _, h => by
    obtain ⟨rfl, rfl, _⟩ := trodAll_nil h
    exact ⟨rfl, fun i hi => by simp at hi⟩
  | t :: ts, vs, ds, ps, hts, hval, h => by
    obtain ⟨v, vs', d, ds', p, q, rfl, rfl, rfl, h1, h2⟩ := trodAll_cons h
    obtain ⟨k1, k2⟩ := args_rep hL ts vs' ds' q (fun t ht => hts t (by simp [ht])) (fun j t v hj hv => hval (j + 1) t v (by simpa using hj) (by simpa using hv)) h2
    refine ⟨by simp [k1], fun i hi => ?_⟩
    cases i with
    | zero => exact arg_rep hL (hts t (by simp)) (hval 0 t v rfl rfl) h1
    | succ i => simpa using k2 i (by simpa using hi)
theorem trodAll_stays (hL : okTys P L = true) {W' : World} {n : Nat} (hsame : ∀ b, b < n → W'.heap[b]? = W.heap[b]?) {sp' : Nat → Bool} : ∀ (ts : List TypeId) (vs : List Value) (ds : List (DataW H)) (ps : List MemPlace), (∀ t ∈ ts, t ∈ L) → (∀ p ∈ ps, p.block < n) → (∀ p ∈ ps, sp' p.block = true) →
    DataW.TrodAll enc P W 0 (fun _ => true) true ts vs ds ps → DataW.TrodAll enc P W' 0 sp' true ts vs ds ps
  | [], vs, ds, ps, _, _, _, h => by
    obtain ⟨rfl, rfl, rfl⟩ := trodAll_nil h
    rfl
  | t :: ts, vs, ds, ps, hts, hlt, hsp, h => by
    obtain ⟨v, vs', d, ds', p, q, rfl, rfl, rfl, h1, h2⟩ := trodAll_cons h
    obtain ⟨m, hm⟩ := h1
    have K := kids_ok hL
    refine ⟨p, q, ⟨m, ?_⟩, trodAll_stays hL hsame ts vs' ds' q (fun t ht => hts t (by simp [ht])) (fun x hx => hlt x (by simp [hx])) (fun x hx => hsp x (by simp [hx])) h2, rfl⟩
    refine DataW.trod_stays K (fun ht hu => (okTys_slice hL ht hu).2) (fun h => by cases h) (hts t (by simp)) hm (fun x hx => ?_) (fun x hx => hsp x (by simp [show x ∈ p from hx]))
    have hb := hsame x.block (hlt x (by simp [show x ∈ p from hx]))
    cases x with
    | cell b off => exact cell_same hb off
    | map b => exact hb
theorem keptBut_of_same {W' : World} (ho : W'.os = W.os) (hout : W'.output = W.output) (hsame : ∀ b, b < W.heap.size → W'.heap[b]? = W.heap[b]?) (may : MemPlace → Prop) : W.keptBut W' may := by
  refine ⟨ho, hout, fun i hi => ?_⟩
  rw [hsame i hi]
  exact (World.keptBut_refl W may).2.2 i hi
theorem law_calls (hL : okTys P L = true) {f : FuncId} {fn : Func} {s : ChangeSpec} {tb : TypeId} (hent : entB P f = true) (hpar : fn.params.toList.all (fun t => L.contains t) = true) (hvars : s.vars = []) (hres : fn.resultTypes = #[tb])
    (htb : P.underlying tb = some .bool) {base : Nat} {args : Array Value} {ds gs : List (DataW H)} {before : List MemPlace}
    (hval : ∀ (j : Nat) t v, fn.params[j]? = some t → args[j]? = some v → Value.okWide P W .any base t v) (hW : DataW.Whole enc P fn.params.toList s.vars false W args.toList ds gs before)
    (hs : s.fn H (ds ++ gs) = { results := [.lit (.bool true)], args := ds }) {G : PG} (hG : G.prog = P) (hok : G.ok W) (hgl : G.n W ≤ W.heap.size) (hp : PCall G f (ds.map toV) (.bool true)) :
    Calls P f args W fun e W' => ∃ v, e = .returned v ∧ s.post enc P fn false true false false W args v W' := by
  subst hG
  have hts : ∀ t ∈ fn.params.toList, t ∈ L := fun t ht => by simpa using List.all_eq_true.1 hpar t ht
  have hW0 := hW
  obtain ⟨p, q, hA, hV, rfl, hfz, hnd⟩ := hW
  rw [hvars] at hV
  obtain ⟨rfl, rfl⟩ := trodVars_none hV
  obtain ⟨hlen, hrep⟩ := args_rep hL fn.params.toList args.toList ds p hts (fun j t v hj hv => hval j t v (by simpa using hj) (by simpa using hv)) hA
  let S : Sv := ⟨fun _ => undef, (· < W.heap.size), fun _ => none, W⟩
  have hsim : Sim G S := ⟨fun id b hb => (by cases hb), fun i j b hi => (by cases hi), fun b hb => hb, fun b ⟨id, hi, _⟩ => (by cases hi), hok, fun b hb => Nat.lt_of_lt_of_le hb hgl⟩
  have hc := hp S args.toList hsim rfl (by simpa using hlen) (fun i hi => .pure (hrep i (by simpa using hi)))
  rcases hc with ⟨_, hc⟩ | ⟨v, w', hrun, _⟩
  · have harr : args.toList.toArray = args := by simp
    rw [harr] at hc
    refine hc.mono fun e W' ⟨v, γ', imm', he, hsim', hext, _, hr⟩ => ?_
    have hv := inv_bool (S := ⟨γ', imm', hOf [], W'⟩) hr
    subst hv
    refine ⟨_, he, ?_⟩
    have hsame : ∀ b, b < W.heap.size → W'.heap[b]? = W.heap[b]? := fun b hb => hext.keep b hb fun ⟨id, hi, _⟩ => by cases hi
    have hlt : ∀ x ∈ p, x.block < W.heap.size := fun x hx => hW0.lt x (by simp [hx])
    have hlt' : ∀ x ∈ p, (fun b => decide (b < W.heap.size)) x.block = true := fun x hx => by simpa using hlt x hx
    refine ⟨ds, [], p ++ [], [], p, [], hW0, ?_, ?_, ?_, ?_, fun h => by cases h⟩
    · rw [hs, hres]
      exact trodAll_mk1 (shut_bool htb true)
    · rw [hs]
      exact trodAll_stays hL hsame fn.params.toList args.toList ds p hts hlt hlt' hA
    · rw [hs, hvars]
      exact rfl
    · exact keptBut_of_same hext.os hext.output hsame _
  · exfalso
    have := entB_run hent args.toList.toArray W
    rw [show (callFunc f args.toList.toArray).run G.prog W = (callFunc f args.toList.toArray).run G.prog S.w from rfl, hrun] at this
    cases this
end
end Go.Abs
namespace Go.Abs
open Go Go.ChangeShapes Go.RowKit
variable {G : PG}
inductive Sh where
  | int (k : IntKind)
  | bool
  | str
  | list (s : Sh)
  | tup (l : List Sh)
  | lst (s : Sh) (k : Nat)
def flatV : List V → List V
  | [] => []
  | v :: r => v.flat ++ flatV r
mutual
/-- of the shape, and of bulk at most m -/
def Sh.has : Sh → Nat → V → Prop
  | .int k, m, v => ∃ n, v = .int k n ∧ (Lit.int k n).wf = true ∧ 1 ≤ m
  | .bool, m, v => ∃ b, v = .bool b ∧ 1 ≤ m
  | .str, m, v => ∃ s, v = .str s ∧ s.length + 1 ≤ m ∧ s.length ≤ reachBytes
  | .list s, m, v => ∃ (l : List V) (ms : List Nat), v = .sl l.length (litF l) ∧ ms.length = l.length ∧ ms.sum + 1 ≤ m ∧ l.length ≤ reachBytes ∧ ∀ i, i < l.length → s.has (ms.getD i 0) (l.getD i .any)
  | .tup ss, m, v => ∃ (l : List V) (ms : List Nat), v = .agg (flatV l) ∧ ms.sum + 1 ≤ m ∧ Sh.hasL ss ms l
  | .lst s k, m, v => ∃ (l : List V) (ms : List Nat), v = .sl l.length (litF l) ∧ ms.length = l.length ∧ ms.sum + 1 ≤ m ∧ (l.length ≤ reachBytes ∧ l.length * k ≤ reachBytes) ∧ ∀ i, i < l.length → s.has (ms.getD i 0) (l.getD i .any)
def Sh.hasL : List Sh → List Nat → List V → Prop
  | [], [], [] => True
  | s :: ss, m :: ms, v :: vs => s.has m v ∧ Sh.hasL ss ms vs
  | _, _, _ => False
end
mutual
def Sh.ofTy (P : Program) : Sh → TypeId → Bool
  | .int k, t => (match P.underlying t with
    | some (.int k') => decide (k = k')
    | _ => false)
  | .bool, t => (match P.underlying t with
    | some .bool => true
    | _ => false)
  | .str, t => (match P.underlying t with
    | some .string => true
    | _ => false)
  | .list s, t => (match P.underlying t with
    | some (.slice e) => s.ofTy P e && decide (0 < P.bytesOf e)
    | _ => false)
  | .tup ss, t => (match P.underlying t with
    | some (.struct fs) => Sh.ofTyL P ss (fs.toList.map (·.type))
    | _ => false)
  | .lst s k, t => (match P.underlying t with
    | some (.slice e) => s.ofTy P e && decide (0 < P.bytesOf e ∧ k ≤ P.bytesOf e)
    | _ => false)
def Sh.ofTyL (P : Program) : List Sh → List TypeId → Bool
  | [], [] => true
  | s :: ss, t :: ts => s.ofTy P t && Sh.ofTyL P ss ts
  | _, _ => false
end
section
variable {H : Type}
mutual
def bulkD : DataW H → Nat
  | .lit (.string bytes) => bytes.length + 1
  | .lit _ => 1
  | .nil => 1
  | .ptr d => bulkD d + 1
  | .slice elems spare => bulkL elems + bulkL spare + 1
  | .agg parts => bulkL parts + 1
  | .iface _ d => bulkD d + 1
  | .map entries => bulkEs entries + 1
  | .held _ => 1
def bulkL : List (DataW H) → Nat
  | [] => 0
  | d :: r => bulkD d + bulkL r
def bulkEs : List (Lit × DataW H) → Nat
  | [] => 0
  | x :: r => bulkE x + bulkEs r
def bulkE : Lit × DataW H → Nat
  | (.string bytes, d) => bytes.length + bulkD d + 1
  | (_, d) => bulkD d + 1
end
theorem bulkL_sum (l : List (DataW H)) : bulkL l = (l.map bulkD).sum := by
  induction l with
  | nil => rfl
  | cons d r ih => rw [bulkL, ih, List.map_cons, List.sum_cons]
theorem toVF_eq (l : List (DataW H)) : toVF l = flatV (l.map toV) := by
  induction l with
  | nil => rfl
  | cons d r ih => rw [toVF, ih, List.map_cons, flatV]
variable {P : Program} {enc : TypeId × Value → H} {W : World}
theorem weightsAll_mem {e : TypeId} {l : List (DataW H)} (h : (DataW.weightsAll P e l).all (· ≤ reachBytes) = true) {d : DataW H} (hd : d ∈ l) : (d.weights P e).all (· ≤ reachBytes) = true := by
  induction l with
  | nil => cases hd
  | cons x r ih =>
    rw [DataW.weightsAll, List.all_append, Bool.and_eq_true] at h
    rcases List.mem_cons.1 hd with rfl | hd
    · exact h.1
    · exact ih h.2 hd
theorem trod_sh {sp : Nat → Bool} {hd : Bool} : ∀ (n : Nat) (s : Sh) (t : TypeId) (cs : List Value) (x : DataW H × List MemPlace), s.ofTy P t = true → DataW.trod enc P W 0 sp hd n t cs = some x → (x.1.weights P t).all (· ≤ reachBytes) = true → s.has (bulkD x.1) (toV x.1) := by
  intro n
  induction n with
  | zero => intro s t cs x _ h; simp [DataW.trod] at h
  | succ n ih =>
    intro s t cs x hs h hw
    cases s with
    | int k =>
      unfold Sh.ofTy at hs
      split at hs
      · rename_i k' hu
        simp only [decide_eq_true_eq] at hs
        subst hs
        obtain ⟨m, rfl, rfl, hwf⟩ := DataW.trod_int hu h
        exact ⟨m, by simp only [toV], hwf, by simp only [bulkD]; omega⟩
      · cases hs
    | bool =>
      unfold Sh.ofTy at hs
      split at hs
      · rename_i hu
        obtain ⟨b, rfl, rfl⟩ := DataW.trod_bool hu h
        exact ⟨b, by simp only [toV], by simp only [bulkD]; omega⟩
      · cases hs
    | str =>
      unfold Sh.ofTy at hs
      split at hs
      · rename_i hu
        obtain ⟨b, rfl, rfl, _⟩ := DataW.trod_string hu h
        refine ⟨b.data.toList, by simp only [toV], by simp only [bulkD]; omega, ?_⟩
        simpa [DataW.weights] using hw
      · cases hs
    | list s =>
      unfold Sh.ofTy at hs
      split at hs
      · rename_i e hu
        simp only [Bool.and_eq_true, decide_eq_true_eq] at hs
        rcases DataW.trod_slice hu h with ⟨rfl, rfl⟩ | ⟨a, len, cap, elems, rest, m, hm, rfl, rfl, _, hlc, _, hel, hcell, _⟩
        · exact ⟨[], [], by simp only [toV]; rfl, rfl, by simp [bulkD], by simp [reachBytes], fun i hi => by simp at hi⟩
        · have hm' : m = n := by omega
          subst hm'
          simp only [DataW.weights, hu] at hw
          rw [List.all_cons, Bool.and_eq_true, List.all_append, Bool.and_eq_true, decide_eq_true_eq] at hw
          refine ⟨(elems.map (·.1)).map toV, (elems.map (·.1)).map bulkD, by simp only [toV, toVL_eq, List.length_map], by simp, ?_, ?_, fun i hi => ?_⟩
          · simp only [bulkD, ← bulkL_sum]; omega
          · simp only [List.length_map] at hw ⊢
            have := hw.1
            have h1 : elems.length + rest.length ≤ (elems.length + rest.length) * P.bytesOf e := Nat.le_mul_of_pos_right _ hs.2
            omega
          · simp only [List.length_map] at hi
            have h1 := hcell i (by omega)
            rw [List.getElem?_eq_getElem hi] at h1
            obtain ⟨ccs, h2, h3⟩ := Option.bind_eq_some_iff.1 h1
            have hmem : elems[i].1 ∈ elems.map (·.1) := List.mem_map_of_mem (List.getElem_mem hi)
            have := ih s e ccs _ hs.1 h3 (weightsAll_mem hw.2.1 hmem)
            simpa [List.getD_eq_getElem?_getD, hi] using this
      · cases hs
    | tup ss =>
      unfold Sh.ofTy at hs
      split at hs
      · rename_i fs hu
        obtain ⟨xs, m, hm, rfl, hl, hxs, hf⟩ := DataW.trod_struct hu h
        have hm' : m = n := by omega
        subst hm'
        simp only [DataW.weights, hu] at hw
        refine ⟨(xs.map (·.1)).map toV, (xs.map (·.1)).map bulkD, by simp only [toV, toVF_eq], by simp only [bulkD, ← bulkL_sum]; omega, ?_⟩
        have aux : ∀ (k : Nat) (gs : List Field) (ss : List Sh) (ys : List (DataW H × List MemPlace)), fs.toList.drop k = gs → xs.drop k = ys → Sh.ofTyL P ss (gs.map (·.type)) = true → (DataW.weightsEach P (gs.map (·.type)) (ys.map (·.1))).all (· ≤ reachBytes) = true →
            Sh.hasL ss ((ys.map (·.1)).map bulkD) ((ys.map (·.1)).map toV) := by
          intro k gs
          induction gs generalizing k with
          | nil =>
            intro ss ys hk hy ho _
            have hlen : ys = [] := by
              have h1 := congrArg List.length hk
              have h2 := congrArg List.length hy
              simp only [List.length_drop, List.length_nil, Array.length_toList] at h1 h2
              exact List.length_eq_zero_iff.1 (by omega)
            subst hlen
            cases ss with
            | nil => simp [Sh.hasL]
            | cons _ _ => simp [Sh.ofTyL] at ho
          | cons g gs ihg =>
            intro ss ys hk hy ho hwt
            cases ss with
            | nil => simp [Sh.ofTyL] at ho
            | cons s ss =>
              have hg : fs.toList[k]? = some g := by
                have := congrArg (fun l => l[0]?) hk
                simpa using this
              have hk' : fs.toList.drop (k + 1) = gs := by
                have := congrArg (List.drop 1) hk
                simpa [List.drop_drop, Nat.add_comm] using this
              have hkl : k < xs.length := by
                have := (List.getElem?_eq_some_iff.1 hg).1
                simp at this; omega
              have hy0 : ys = xs[k] :: xs.drop (k + 1) := by rw [← hy, List.drop_eq_getElem_cons hkl]
              subst hy0
              simp only [List.map_cons, Sh.ofTyL, Bool.and_eq_true] at ho
              simp only [List.map_cons, DataW.weightsEach] at hwt
              rw [List.all_append, Bool.and_eq_true] at hwt
              have h1 := hf k g (by simpa using hg)
              rw [List.getElem?_eq_getElem hkl] at h1
              simp only [List.map_cons, Sh.hasL]
              exact ⟨ih s g.type _ _ ho.1 h1 hwt.1, ihg (k + 1) ss _ hk' rfl ho.2 hwt.2⟩
        simpa using aux 0 fs.toList ss xs (by simp) (by simp) hs hw
      · cases hs
    | lst s k =>
      unfold Sh.ofTy at hs
      split at hs
      · rename_i e hu
        simp only [Bool.and_eq_true, decide_eq_true_eq] at hs
        rcases DataW.trod_slice hu h with ⟨rfl, rfl⟩ | ⟨a, len, cap, elems, rest, m, hm, rfl, rfl, _, hlc, _, hel, hcell, _⟩
        · exact ⟨[], [], by simp only [toV]; rfl, rfl, by simp [bulkD], by simp [reachBytes], fun i hi => by simp at hi⟩
        · have hm' : m = n := by omega
          subst hm'
          simp only [DataW.weights, hu] at hw
          rw [List.all_cons, Bool.and_eq_true, List.all_append, Bool.and_eq_true, decide_eq_true_eq] at hw
          refine ⟨(elems.map (·.1)).map toV, (elems.map (·.1)).map bulkD, by simp only [toV, toVL_eq, List.length_map], by simp, ?_, ?_, fun i hi => ?_⟩
          · simp only [bulkD, ← bulkL_sum]; omega
          · simp only [List.length_map] at hw ⊢
            have := hw.1
            have h1 : elems.length + rest.length ≤ (elems.length + rest.length) * P.bytesOf e := Nat.le_mul_of_pos_right _ hs.2.1
            have h2 : elems.length * k ≤ (elems.length + rest.length) * P.bytesOf e := Nat.mul_le_mul (by omega) hs.2.2
            exact ⟨by omega, by omega⟩
          · simp only [List.length_map] at hi
            have h1 := hcell i (by omega)
            rw [List.getElem?_eq_getElem hi] at h1
            obtain ⟨ccs, h2, h3⟩ := Option.bind_eq_some_iff.1 h1
            have hmem : elems[i].1 ∈ elems.map (·.1) := List.mem_map_of_mem (List.getElem_mem hi)
            have := ih s e ccs _ hs.1 h3 (weightsAll_mem hw.2.1 hmem)
            simpa [List.getD_eq_getElem?_getD, hi] using this
      · cases hs
def hasD : List Sh → List (DataW H) → Prop
  | [], [] => True
  | s :: ss, d :: ds => s.has (bulkD d) (toV d) ∧ hasD ss ds
  | _, _ => False
theorem args_sh {sp : Nat → Bool} {hd : Bool} : ∀ (ss : List Sh) (ts : List TypeId) (vs : List Value) (ds : List (DataW H)) (ps : List MemPlace), Sh.ofTyL P ss ts = true → DataW.TrodAll enc P W 0 sp hd ts vs ds ps → (DataW.weightsEach P ts ds).all (· ≤ reachBytes) = true → hasD ss ds
  | [], [], vs, ds, ps, _, h, _ => by
    obtain ⟨rfl, rfl, _⟩ := trodAll_nil h
    trivial
  | _ :: _, [], _, _, _, ho, _, _ => by simp [Sh.ofTyL] at ho
  | [], _ :: _, _, _, _, ho, _, _ => by simp [Sh.ofTyL] at ho
  | s :: ss, t :: ts, vs, ds, ps, ho, h, hw => by
    obtain ⟨v, vs', d, ds', p, q, rfl, rfl, rfl, ⟨n, h1⟩, h2⟩ := trodAll_cons h
    simp only [Sh.ofTyL, Bool.and_eq_true] at ho
    simp only [DataW.weightsEach] at hw
    rw [List.all_append, Bool.and_eq_true] at hw
    exact ⟨trod_sh n s t _ _ ho.1 h1 hw.1, args_sh ss ts vs' ds' q ho.2 h2 hw.2⟩
theorem law_open {s : ChangeSpec} {fn : Func} {apart : Bool} {args : Array Value} {ds gs : List (DataW H)} {before : List MemPlace} {vt : List TypeId} (hvars : s.vars = []) (hvt : vt = []) (hW : DataW.Whole enc P fn.params.toList s.vars apart W args.toList ds gs before)
    (hsz : (DataW.weightsEach P (fn.params.toList ++ vt) (ds ++ gs)).all (· ≤ reachBytes) = true) {ss : List Sh} (ho : Sh.ofTyL P ss fn.params.toList = true) : gs = [] ∧ hasD ss ds := by
  obtain ⟨p, q, hA, hV, _, _, _⟩ := hW
  rw [hvars] at hV
  obtain ⟨rfl, rfl⟩ := trodVars_none hV
  subst hvt
  rw [List.append_nil, List.append_nil] at hsz
  exact ⟨rfl, args_sh ss _ _ ds p ho hA hsz⟩
end
end Go.Abs
namespace Go.Abs
open Go
variable {G : PG}
def resK (P : Program) (rs : List ResultVar) (r : V) (hl : HL) : St → Prop := fun s => resLe (resV P rs s) r ∧ levH s hl
def PostF (P : Program) (ad : List Adj) (rs : List ResultVar) (r : V) (hl : HL) (e : Exit) (s : St) : Prop := isEnd e = true ∧ adjP ad (resK P rs r hl) s
section
variable (P : Program) (ad : List Adj) (rs : List ResultVar) (r : V) (hl : HL) (s : St) (i : Nat)
@[push_cast] theorem resK_at : resK P rs r hl s = (resLe (resV P rs s) r ∧ levH s hl) := rfl
@[push_cast] theorem PostF_ret : PostF P ad rs r hl .ret s = adjP ad (resK P rs r hl) s := by simp [PostF, isEnd]
@[push_cast] theorem PostF_normal : PostF P ad rs r hl .normal s = adjP ad (resK P rs r hl) s := by simp [PostF, isEnd]
end
theorem PostF.post {P : Program} {fn : Func} {ad : List Adj} {rs : List ResultVar} {hl : HL} (hrs : fn.results.toList = rs) {r : V} {e : Exit} {s : St} (h : PostF P ad rs r hl e s) : PostV P fn r hl e s := by
  obtain ⟨s', h1, h2, h3⟩ := adjP_ok h.2
  refine ⟨h.1, s', h1, ?_, levH_ok h3⟩
  rw [hrs]
  cases hx : resV P rs s' with
  | none => rw [hx] at h2; exact h2.elim
  | some x => rw [hx] at h2; exact vle_ok h2
theorem pcall_inF {ct : Ct} {ow : Nat → Bool} {n : Nat} {an : Nat → List Nat} (ad : List Adj) (hc : CtOk G ct) (hfol : G.prog.follows .mixedOrders = true) (f : FuncId) {fn : Func} {code : Code} {rs : List ResultVar} (hf : G.prog.funcs[f]? = some fn) (hb : fn.body = some code) (hrs : fn.results.toList = rs)
    (hent : entB G.prog f = true) (hn : fn.ntmps = n) (hok : (codeOk an code && Nat.ble n 8999) = true) {args : List V} (ha : Nat.ble args.length n = true) {r : V} (hr : r.noId = true) (h : exec ⟨G, ct, ow, n, an, true, none⟩ code ⟨argE args, hOf []⟩ (PostF G.prog ad rs r [])) : PCall G f args r := by
  simp only [Bool.and_eq_true] at hok
  exact pcall_of (c := ⟨G, ct, ow, n, an, true, none⟩) ⟨hc, hfol⟩ hf hb hent hn (Nat.le_of_ble_eq_true hok.2) hok.1 (Nat.le_of_ble_eq_true ha) hr (fun e s => PostF.post hrs) h
def idsIn (hl : HL) (id : Nat) : Bool := hl.any fun p => Nat.beq p.1 id
theorem hOf_in {hl : HL} {id : Nat} (h : (hOf hl id).isSome = true) : idsIn hl id = true := by
  induction hl with
  | nil => cases h
  | cons p r ih =>
    obtain ⟨k, b⟩ := p
    simp only [idsIn, List.any_cons, Bool.or_eq_true]
    by_cases e : id = k
    · subst e; left; simp
    · right
      simp only [hOf] at h
      rw [upd_ne _ _ e] at h
      exact ih h
theorem in_hOf {hl : HL} {id : Nat} (h : idsIn hl id = true) : (hOf hl id).isSome = true := by
  induction hl with
  | nil => simp [idsIn] at h
  | cons p r ih =>
    obtain ⟨k, b⟩ := p
    simp only [idsIn, List.any_cons, Bool.or_eq_true] at h
    by_cases e : id = k
    · subst e; simp [hOf]
    · simp only [hOf]
      rw [upd_ne _ _ e]
      rcases h with h | h
      · exact absurd (Nat.eq_of_beq_eq_true h).symm e
      · exact ih h
mutual
/-- names only what is in the list -/
def V.menIn (p : Nat → Bool) : V → Bool
  | .agg cs => V.menInL p cs
  | .tup cs => V.menInL p cs
  | .ptr i _ => p i
  | .vec i _ => p i
  | .eptr i _ _ _ _ => p i
  | .vw i _ _ => p i
  | .vv i _ _ _ _ => p i
  | .map i => p i
  | .fn _ a b => V.menInL p a && V.menInL p b
  | .opt _ v => V.menIn p v
  | _ => true
def V.menInL (p : Nat → Bool) : List V → Bool
  | [] => true
  | v :: r => V.menIn p v && V.menInL p r
end
theorem menIn_ok (p : Nat → Bool) (x : V) : V.menIn p x = true → ∀ id, V.men id x = true → p id = true := by
  intro h id
  revert h
  refine V.rec (motive_1 := fun x => V.menIn p x = true → V.men id x = true → p id = true) (motive_2 := fun l => V.menInL p l = true → V.menL id l = true → p id = true)
    ?_ ?_ ?_ ?_ ?_ ?_ ?_ ?_ ?_ ?_ ?_ ?_ ?_ ?_ ?_ ?_ ?_ ?_ ?_ ?_ ?_ x
  all_goals intros
  all_goals first
    | (simp_all [V.men, V.menL, V.menIn, V.menInL]; done)
    | (rename_i h1 h2; simp only [V.men] at h2; have := eq_of_beq h2; subst this; simpa [V.menIn] using h1)
    | (rename_i a b h1 h2; simp only [V.menIn, V.menInL, V.men, V.menL, Bool.and_eq_true, Bool.or_eq_true] at h1 h2; rcases h2 with h2 | h2 <;> first | exact a h1.1 h2 | exact b h1.2 h2)
def Blk.menIn (p : Nat → Bool) : Blk → Prop
  | .cells cs => V.menInL p cs = true
  | .vec _ n f => ∀ i, i < n → V.menInL p (f i).flat = true
  | .mp _ _ => True
  | .tc _ cs => V.menInL p cs = true
  | .tb _ _ => True
  | .mh _ _ _ o => V.menIn p o = true
theorem menInL_at (p : Nat → Bool) : ∀ (l : List V) (i : Nat), V.menInL p l = true → V.menIn p (l.getD i .any) = true
  | [], i, _ => rfl
  | x :: l, 0, h => by simp only [V.menInL, Bool.and_eq_true] at h; exact h.1
  | x :: l, i + 1, h => by
    simp only [V.menInL, Bool.and_eq_true] at h
    simpa using menInL_at p l i h.2
theorem blk_menIn {p : Nat → Bool} {b : Blk} (h : b.menIn p) : ∀ j, b.men j → p j = true := by
  intro j hj
  cases b with
  | cells cs => obtain ⟨i, _, hi⟩ := hj; exact menIn_ok p _ (menInL_at p cs i h) j hi
  | vec sz n f => obtain ⟨i, k, hi, hk⟩ := hj; exact menIn_ok p _ (menInL_at p _ k (h i hi)) j hk
  | mp d f => exact hj.elim
  | tc tt cs => obtain ⟨i, _, hi⟩ := hj; exact menIn_ok p _ (menInL_at p cs i h) j hi
  | tb t s => exact hj.elim
  | mh d f k o => exact menIn_ok p _ h j hj
def hlIn (p : Nat → Bool) : HL → Prop
  | [] => True
  | (k, b) :: r => p k = true ∧ b.menIn p ∧ hlIn p r
theorem hlIn_at {p : Nat → Bool} : ∀ {l : HL}, hlIn p l → ∀ id b, hOf l id = some b → p id = true ∧ b.menIn p
  | [], _, _, _, h => by cases h
  | (k, b0) :: r, h, id, b, hb => by
    obtain ⟨h1, h2, h3⟩ := h
    simp only [hOf] at hb
    by_cases e : id = k
    · subst e
      rw [upd_same] at hb; cases hb
      exact ⟨h1, h2⟩
    · rw [upd_ne _ _ e] at hb; exact hlIn_at h3 id b hb
theorem fcall_inF {ct : Ct} {ow : Nat → Bool} {n : Nat} {an : Nat → List Nat} (ad : List Adj) (hc : CtOk G ct) (hfol : G.prog.follows .mixedOrders = true) (f : FuncId) {fn : Func} {code : Code} {rs : List ResultVar} (hf : G.prog.funcs[f]? = some fn) (hb : fn.body = some code) (hrs : fn.results.toList = rs)
    (hent : entB G.prog f = true) (hn : fn.ntmps = n) (hok : (codeOk an code && Nat.ble n 8999) = true) {args : List V} (ha : Nat.ble args.length n = true) {hl hl' : HL} {r : V} (hlo : ∀ p ∈ hl, 9000 ≤ p.1) (hin : hlIn (idsIn hl) hl') (hr : V.menIn (idsIn hl) r = true)
    (h : exec ⟨G, ct, ow, n, an, true, none⟩ code ⟨argE args, hOf hl⟩ (PostF G.prog ad rs r hl')) : FCall G f args hl r hl' := by
  simp only [Bool.and_eq_true] at hok
  refine fcall_of (c := ⟨G, ct, ow, n, an, true, none⟩) ⟨hc, hfol⟩ hf hb hent hn (Nat.le_of_ble_eq_true hok.2) hok.1 (Nat.le_of_ble_eq_true ha) (fun id hid => ?_) (fun id hid => ?_) (fun id hid => in_hOf (menIn_ok _ r hr id hid)) (fun id b hb j hj => in_hOf (blk_menIn (hlIn_at hin id b hb).2 j hj)) (fun e s => PostF.post hrs) h
  · have := hOf_in hid
    simp only [idsIn, List.any_eq_true] at this
    obtain ⟨p, hp, he⟩ := this
    rw [← Nat.eq_of_beq_eq_true he]
    exact hlo p hp
  · obtain ⟨b, hb⟩ := Option.isSome_iff_exists.1 hid
    exact in_hOf (hlIn_at hin id b hb).1
theorem newOk_men {r : V} (h : r.newOk = true) : ∀ id, V.men id r = true → id = 8999 := by
  have one : ∀ x : V, x.new1 = true → ∀ id, V.men id x = true → id = 8999 := by
    intro x hx id hid
    cases x
    case vec i n => simp only [V.new1] at hx; simp only [V.men, beq_iff_eq] at hid; rw [← hid]; exact Nat.eq_of_beq_eq_true hx
    case ptr i n => simp only [V.new1] at hx; simp only [V.men, beq_iff_eq] at hid; rw [← hid]; exact Nat.eq_of_beq_eq_true hx
    case map i => simp only [V.new1] at hx; simp only [V.men, beq_iff_eq] at hid; rw [← hid]; exact Nat.eq_of_beq_eq_true hx
    case fn f a b =>
      obtain ⟨o, rfl, rfl⟩ := new1_fn hx
      simp only [V.men, V.menL, Bool.false_or, Bool.or_false, beq_iff_eq] at hid
      exact hid.symm
    all_goals (simp only [V.new1] at hx; rw [noSl_men _ hx id] at hid; cases hid)
  intro id hid
  cases r
  case tup l =>
    simp only [V.newOk, List.all_eq_true] at h
    simp only [V.men] at hid
    induction l with
    | nil => cases hid
    | cons x l ih =>
      simp only [V.menL, Bool.or_eq_true] at hid
      rcases hid with hid | hid
      · exact one x (h x (by simp)) id hid
      · exact ih hid fun y hy => h y (by simp [hy])
  all_goals (simp only [V.newOk] at h; exact one _ h id hid)
theorem newOkP_men {r : V} (h : r.newOkP = true) : ∀ id, V.men id r = true → id = 8999 := by
  have zero : ∀ x : V, x.new0 = true → ∀ id, V.men id x = true → id = 8999 := by
    intro x hx id hid
    cases x
    case vec i n => simp only [V.new0] at hx; simp only [V.men, beq_iff_eq] at hid; rw [← hid]; exact Nat.eq_of_beq_eq_true hx
    all_goals (simp only [V.new0] at hx; rw [noId_men _ hx id] at hid; cases hid)
  have one : ∀ x : V, x.new1P = true → ∀ id, V.men id x = true → id = 8999 := by
    intro x hx id hid
    have other : (x.new1 || x.noId) = true → id = 8999 := fun hx => by
      rw [Bool.or_eq_true] at hx
      rcases hx with hx | hx
      · cases x with
        | tup l => exact newOk_men (r := .tup []) rfl id (by rw [noSl_men _ hx id] at hid; cases hid)
        | vec i n => exact newOk_men (r := .vec i n) hx id hid
        | ptr i n => exact newOk_men (r := .ptr i n) hx id hid
        | map i => exact newOk_men (r := .map i) hx id hid
        | fn f a b => exact newOk_men (r := .fn f a b) hx id hid
        | _ => simp only [V.new1] at hx; rw [noSl_men _ hx id] at hid; cases hid
      · rw [noId_men _ hx id] at hid; cases hid
    cases x with
    | agg cs =>
      have hx : cs.all V.new0 = true := hx
      simp only [V.men] at hid
      have all0 : ∀ cs : List V, cs.all V.new0 = true → V.menL id cs = true → id = 8999 := by
        intro cs
        induction cs with
        | nil => intro _ h; cases h
        | cons y cs ih =>
          intro h1 h2
          simp only [V.menL, Bool.or_eq_true] at h2
          simp only [List.all_cons, Bool.and_eq_true] at h1
          rcases h2 with h2 | h2
          · exact zero y h1.1 id h2
          · exact ih h1.2 h2
      exact all0 cs hx hid
    | _ => exact other hx
  have all1 : ∀ (id : Nat) (cs : List V), cs.all V.new1P = true → V.menL id cs = true → id = 8999 := by
    intro id cs
    induction cs with
    | nil => intro _ h; cases h
    | cons y cs ih =>
      intro h1 h2
      simp only [V.menL, Bool.or_eq_true] at h2
      simp only [List.all_cons, Bool.and_eq_true] at h1
      rcases h2 with h2 | h2
      · exact one y h1.1 id h2
      · exact ih h1.2 h2
  intro id hid
  cases r with
  | tup l => exact all1 id l h (by simpa [V.men] using hid)
  | _ => exact one _ (by simpa only [V.newOkP] using h) id hid
theorem ncall_inF {ct : Ct} {ow : Nat → Bool} {n : Nat} {an : Nat → List Nat} (ad : List Adj) (hc : CtOk G ct) (hfol : G.prog.follows .mixedOrders = true) (f : FuncId) {fn : Func} {code : Code} {rs : List ResultVar} (hf : G.prog.funcs[f]? = some fn) (hb : fn.body = some code) (hrs : fn.results.toList = rs)
    (hent : entB G.prog f = true) (hn : fn.ntmps = n) (hok : (codeOk an code && Nat.ble n 8999) = true) {args : List V} (ha : Nat.ble args.length n = true) {r : V} {nb : Blk} (hr : r.newOkP = true) (hnb : noIdB nb)
    (h : exec ⟨G, ct, ow, n, an, false, none⟩ code ⟨argE args, hOf []⟩ (PostF G.prog ad rs r [(8999, nb)])) : NCall G f args r nb := by
  simp only [Bool.and_eq_true] at hok
  have hn9 := Nat.le_of_ble_eq_true hok.2
  have ha' := Nat.le_of_ble_eq_true ha
  refine fun S vals hs hh hlen hreps => .inl ⟨hent, ?_⟩
  refine calls_of_wp hf hb ?_
  have hrel : Rel G n false S ⟨argE args, hOf []⟩ { tmps := vals.toArray ++ Array.replicate (fn.ntmps - vals.toArray.size) undef, defers := [] } S.w := by
    refine ⟨S.γ, S.imm, by rw [← hh]; exact hs, by rw [← hh]; exact Ext.refl _ _, fun t => ?_, rfl, ?_, hn9⟩
    · show RepV S.γ S.imm S.w (args.getD t .any) _
      by_cases ht : t < args.length
      · have : (vals.toArray ++ Array.replicate (fn.ntmps - vals.toArray.size) undef).getD t undef = vals.getD t undef := by
          have : t < vals.length := by omega
          simp [List.getD_eq_getElem?_getD, Array.getElem?_append, this]
        rw [this]
        exact hreps t ht
      · rw [List.getD_eq_getElem?_getD, List.getElem?_eq_none (by omega)]
        exact .any _
    · simp; omega
  refine (wpIn_wide (n := 0)).1 ?_
  refine wpIn_mono (exec_sound (c := ⟨G, ct, ow, n, an, false, none⟩) ⟨hc, hfol⟩ code hok.1 S _ _ _ _ hrel h) fun e a w he => ?_
  obtain ⟨s, hrel', hk⟩ := he
  obtain ⟨hend, s', hle, hres, hheap⟩ := PostF.post (fn := fn) hrs hk
  obtain ⟨γ, imm, q1, q2, q3, q4, q5, q6⟩ := hle _ _ _ _ _ _ hrel'
  have hpost : a.defers = [] ∧ ∃ v, (results fn a.tmps).run G.prog w = .ok v w ∧ ∃ v' γ' imm', Ending.returned v = .returned v' ∧ Sim G ⟨γ', imm', hOf [(8999, nb)], w⟩ ∧ Ext (fun id => id = 8999) S ⟨γ', imm', hOf [(8999, nb)], w⟩ ∧ RepV γ' imm' w r v' := by
    refine ⟨q4, ?_⟩
    cases hx : resV G.prog fn.results.toList s' with
    | none => rw [hx] at hres; exact hres.elim
    | some x =>
      rw [hx] at hres
      obtain ⟨v, hv1, hv2⟩ := resV_ok (fn := fn) q1 q3 G.prog hx
      have hv3 := hres _ _ _ _ hv2
      let γ' : Gh := fun id => if id < 8999 then S.γ id else γ id
      have g1 : γ' 8999 = γ 8999 := by simp [γ']
      have is8 : ∀ id, (hOf [(8999, nb)] id).isSome = true → id = 8999 := fun id hid => by
        simp only [hOf] at hid
        by_cases e : id = 8999
        · exact e
        · rw [upd_ne _ _ e] at hid; cases hid
      have at8 : ∀ b, hOf [(8999, nb)] 8999 = some b → b = nb := fun b hb => by simp [hOf] at hb; exact hb.symm
      obtain ⟨b', hb', hbl⟩ := leH_ok hheap 8999 nb (by simp [hOf])
      have own8 : ∀ b, blkOf (γ 8999) = some b → Sv.own ⟨γ, imm, s'.heap, w⟩ b := fun b hb => ⟨8999, by show (s'.heap 8999).isSome = true; rw [hb']; rfl, hb⟩
      refine ⟨v, hv1, v, γ', imm, rfl, ⟨fun id b hb => ?_, fun i j b hi hj _ _ => (is8 i hi).trans (is8 j hj).symm, q1.immLt, fun b ⟨i, hi, hbi⟩ => ?_, q1.tab.of (fun _ h => h) fun _ _ => rfl⟩, ⟨q2.os, q2.tape, q2.output, q2.size, fun b hb ho => q2.keep b hb ho, q2.imm, q2.immNew, fun b ⟨i, hi, hbi⟩ => ?_, fun id hid => ?_⟩, ?_⟩
      · have e := is8 id (by rw [show hOf [(8999, nb)] id = some b from hb]; rfl)
        subst e
        have := at8 b hb
        subst this
        exact (hbl.ok (q1.blk 8999 b' hb')).mono (fun _ h => h) (fun _ _ => rfl) (fun _ _ => rfl) g1 fun j hj => by
          have := noIdB_men hnb j hj
          have e : γ' j = γ j := if_neg (by omega)
          show Evo (γ j) (γ' j)
          rw [e]; exact .refl _
      · have e := is8 i hi
        subst e
        simp only [g1] at hbi
        exact q1.disj b (own8 b hbi)
      · have e := is8 i hi
        subst e
        simp only [g1] at hbi
        exact q2.own b (own8 b hbi)
      · show Evo (S.γ id) (γ' id)
        by_cases h9 : id < 8999
        · rw [show γ' id = S.γ id from if_pos h9]; exact .refl _
        · rw [show γ' id = γ id from if_neg h9]
          exact q2.evo id (by show ¬ id < 9000; have : ¬ id = 8999 := hid; omega)
      · exact hv3.mono (fun _ h => h) (fun _ _ => rfl) fun id hid => by
          have := newOkP_men hr id hid
          subst this
          rw [g1]; exact .refl _
  cases e with
  | normal => exact hpost
  | ret => exact hpost
  | _ => cases hend
@[push_cast] theorem nbeq_self (n : Nat) : Nat.beq n n = true := by simp
@[push_cast] theorem byF_fl (s : List UInt8) (i : Nat) : (byF s i).flat = [.int .u8 (s.getD i 0).toNat] := rfl
@[push_cast] theorem shF_fl (s : List UInt8) (l i : Nat) : (shF (byF s) l i).flat = [.int .u8 (s.getD (i + l) 0).toNat] := rfl
end Go.Abs
namespace Go.Abs
open Go Go.RowKit
variable {G : PG}
theorem grow_refl (w : World) : World.grow w w := ⟨rfl, rfl, rfl, Nat.le_refl _, fun _ _ => rfl⟩
theorem grow_eq {w w' : World} (h : w' = w) : World.grow w w' := h ▸ grow_refl w
theorem grow_below {w w' : World} (h : Below w.heap.size w w') : World.grow w w' := ⟨h.os, h.tape, h.output, h.size, h.block⟩
theorem grow_drew (w : World) (k : Nat) (os : Array Obj) : World.grow w (Sort.grow (w.drewN k) os) := by
  refine ⟨rfl, rfl, rfl, ?_, fun b hb => ?_⟩
  · show w.heap.size ≤ (w.heap ++ os).size
    simp
  · show (w.heap ++ os)[b]? = w.heap[b]?
    rw [Array.getElem?_append_left hb]
def V.exact : V → Option Value
  | .int k n => some (.int k n)
  | .bool b => some (.bool b)
  | .str s => some (.string ⟨s.toArray⟩)
  | _ => none
def exactL : List V → Option (List Value)
  | [] => some []
  | v :: r => match v.exact, exactL r with
    | some x, some l => some (x :: l)
    | _, _ => none
theorem exact_ok {S : Sv} {x : V} {v u : Value} (h : S.rep x v) (he : x.exact = some u) : v = u := by
  cases x <;> simp only [V.exact] at he <;> try cases he
  · exact inv_int h
  · exact inv_bool h
  · exact inv_str h
theorem exactL_ok {S : Sv} : ∀ {args : List V} {vals vs : List Value}, exactL args = some vs → vals.length = args.length → (∀ i, i < args.length → S.rep (args.getD i .any) (vals.getD i undef)) → vals = vs
  | [], vals, vs, he, hl, _ => by
    simp only [exactL] at he
    cases he
    exact List.length_eq_zero_iff.1 hl
  | x :: args, vals, vs, he, hl, hr => by
    cases vals with
    | nil => simp at hl
    | cons v vals =>
      simp only [exactL] at he
      cases hx : x.exact with
      | none => rw [hx] at he; cases he
      | some u =>
        cases hL : exactL args with
        | none => rw [hx, hL] at he; cases he
        | some l =>
          rw [hx, hL] at he
          cases he
          have h0 := exact_ok (hr 0 (by simp)) hx
          have h1 := exactL_ok (vals := vals) hL (by simpa using hl) (fun i hi => by simpa using hr (i + 1) (by simpa using hi))
          simp only [List.getD_cons_zero] at h0
          rw [h0, h1]
theorem pcall_shelf {f : FuncId} (hent : entB G.prog f = true) {args : List V} {r : V} {vs : List Value} (hx : exactL args = some vs)
    (h : ∀ w, G.ok w → Calls G.prog f vs.toArray w fun e w' => ∃ v, e = .returned v ∧ World.grow w w' ∧ ∀ γ imm, RepV γ imm w' r v) : PCall G f args r := by
  intro S vals hs hh hl hr
  obtain rfl := exactL_ok hx hl hr
  refine .inl ⟨hent, (h S.w hs.tab.1).mono fun e w' ⟨v, he, hg, hrep⟩ => ?_⟩
  obtain ⟨g1, g2⟩ := Sim.grow hs (fun _ => False) w' S.imm hg (fun _ h => h) (fun b hb => .inl hb)
  refine ⟨v, S.γ, S.imm, he, ?_, ?_, fun _ _ => rfl, hrep _ _⟩
  · rw [← hh]; exact g1
  · rw [← hh]; exact g2
theorem shelf_str {w w' : World} {e : Ending} {l : List UInt8} (he : e = .returned (.string ⟨l.toArray⟩)) (hg : World.grow w w') : ∃ v, e = .returned v ∧ World.grow w w' ∧ ∀ γ imm, RepV γ imm w' (.str l) v := ⟨_, he, hg, fun _ _ => .pure (.str l)⟩
theorem shelf_int {w w' : World} {e : Ending} {k : IntKind} {n : Int} (he : e = .returned (.int k n)) (hg : World.grow w w') : ∃ v, e = .returned v ∧ World.grow w w' ∧ ∀ γ imm, RepV γ imm w' (.int k n) v := ⟨_, he, hg, fun _ _ => .pure (.int k n)⟩
theorem shelf_bool {w w' : World} {e : Ending} {b : Bool} (he : e = .returned (.bool b)) (hg : World.grow w w') : ∃ v, e = .returned v ∧ World.grow w w' ∧ ∀ γ imm, RepV γ imm w' (.bool b) v := ⟨_, he, hg, fun _ _ => .pure (.bool b)⟩
def mkPG (P : Program) (n : Nat) (R : World → Prop) : PG where
  prog := P
  n := fun _ => n
  ok := fun w => ∃ w0, R w0 ∧ ∀ b, b < n → w.heap[b]? = w0.heap[b]?
  stab := fun _ _ h ⟨w0, h1, h2⟩ => ⟨⟨w0, h1, fun b hb => (h b hb).trans (h2 b hb)⟩, rfl⟩
def blkAt (g : Nat) (w : World) : Nat := match w.cell? ⟨g, 0, none⟩ with
  | some (.slice (some a) _ _) => a.block + 1
  | _ => 0
theorem blkAt_same {g : Nat} {w w' : World} (h : w'.heap[g]? = w.heap[g]?) : blkAt g w' = blkAt g w := by
  unfold blkAt
  rw [cell_same h]
def mkPGs (P : Program) (n g : Nat) (hg : g < n) (R : World → Prop) : PG where
  prog := P
  n := fun w => max n (blkAt g w)
  ok := fun w => ∃ w0, R w0 ∧ ∀ b, b < max n (blkAt g w0) → w.heap[b]? = w0.heap[b]?
  stab := fun w w' h ⟨w0, h1, h2⟩ => by
    have e1 : blkAt g w = blkAt g w0 := blkAt_same (h2 g (by omega))
    have e2 : blkAt g w' = blkAt g w := blkAt_same (h g (by omega))
    exact ⟨⟨w0, h1, fun b hb => (h b (by omega)).trans (h2 b hb)⟩, by rw [e2]⟩
theorem tabIs_same {P : Program} {w w0 : World} {name : String} {k : IntKind} {zs : List Int} {g n : Nat} (hg : P.globalNamed name = some g) (hn : g < n) (h : ∀ b, b < n → w.heap[b]? = w0.heap[b]?) (ht : Lib.TabIs P w0 name k zs) : Lib.TabIs P w name k zs := by
  unfold Lib.TabIs World.var? at ht ⊢
  rw [hg] at ht ⊢
  simp only [Option.bind_some, h g hn] at ht ⊢
  exact ht
theorem laidMet_cells {P : Program} {W : World} {name : String} {k : IntKind} {zs : List Int} {g : Nat} {t e : TypeId} {n : Nat}
    (hg : P.globalNamed name = some g) (hty : (P.globals[g]?).map (·.type) = some t) (ht : P.underlying t = some (.array n e)) (he : P.underlying e = some (.int k)) (hce : P.cellsOf e = 1) (hct : P.cellsOf t = n) : ∀ (l : List (String × DataW Unit)), (name, Lib.tabData k zs) ∈ l → laidMet P l W → Lib.TabIs P W name k zs
  | [], hm, _ => by cases hm
  | x :: l, hm, h => by
    rcases List.mem_cons.1 hm with rfl | hm2
    · exact Lib.tabIs_of_head hg hty ht he hce hct h
    · obtain ⟨n0, d0⟩ := x
      obtain ⟨ps, ⟨g', t', cs, fuel, p, q, _, _, _, _, hq, rfl⟩, hnd, hall⟩ := h
      exact laidMet_cells hg hty ht he hce hct l hm2 ⟨q, hq, (List.nodup_append.1 hnd).2.1, fun b off hb => hall b off (List.mem_append.2 (.inr hb))⟩
def isIfc : Option TypeDesc → Bool
  | some (.interface _) => true
  | _ => false
def ErrCell (g : Nat) (w : World) : Prop := ∃ ev, w.cell? ⟨g, 0, none⟩ = some ev ∧ (ev = .nilIface ∨ ∃ te pe, ev = .iface te pe)
theorem laidMet_iface {P : Program} {W : World} {name : String} {g : Nat} {t : TypeId}
    (hg : P.globalNamed name = some g) (hty : (P.globals[g]?).map (·.type) = some t) (ht : isIfc (P.underlying t) = true) : ∀ (l : List (String × DataW Unit)) (d : DataW Unit), (name, d) ∈ l → laidMet P l W → ErrCell g W
  | [], d, hm, _ => by cases hm
  | x :: l, d, hm, h => by
    rcases List.mem_cons.1 hm with rfl | hm2
    · obtain ⟨ps, ⟨g', t', cs, fuel, p, q, hg', ht', hvar, hd, _, _⟩, _⟩ := h
      obtain rfl := Option.some.inj (hg.symm.trans hg')
      obtain rfl := Option.some.inj (hty.symm.trans ht')
      have hc := fun i => World.var?_cell hg hvar i
      cases fuel with
      | zero => simp [DataW.trod] at hd
      | succ fuel =>
        have hL : ∀ ev, cs.toList = [ev] → cs[0]? = some ev := fun ev e => by rw [← Array.getElem?_toList, e]; rfl
        generalize cs.toList = L at hd hL
        obtain ⟨ms, ht⟩ : ∃ ms, P.underlying t = some (.interface ms) := by
          unfold isIfc at ht
          split at ht
          · exact ⟨_, by assumption⟩
          · cases ht
        unfold DataW.trod at hd
        rw [ht] at hd
        match L, hd with
        | [], hd => simp at hd
        | [ev], hd =>
          refine ⟨ev, (hc 0).trans (hL ev rfl), ?_⟩
          cases ev <;> simp at hd <;> simp
        | a :: b :: r, hd => simp at hd
    · obtain ⟨n0, d0⟩ := x
      obtain ⟨ps, ⟨g', t', cs, fuel, p, q, _, _, _, _, hq, rfl⟩, hnd, hall⟩ := h
      exact laidMet_iface hg hty ht l d hm2 ⟨q, hq, (List.nodup_append.1 hnd).2.1, fun b off hb => hall b off (List.mem_append.2 (.inr hb))⟩
theorem shaped_size {P : Program} {W : World} (h : W.ShapedOpen P) {k : Nat} (hk : P.globals.size = k + 1) (h0 : (((begin P (fun _ _ => 0) default).world.heap[k]?).bind Obj.row?).isSome = true) : P.globals.size ≤ W.heap.size := by
  obtain ⟨⟨zero, t⟩, hz⟩ := Option.isSome_iff_exists.1 h0
  obtain ⟨cs, hh, _⟩ := h.1 k zero t (by omega) hz
  have := (Array.getElem?_eq_some_iff.1 hh).1
  omega
section
variable {P : Program}
def chkF (P : Program) : Nat → List Field → List V → Bool
  | _, [], [] => true
  | off, f :: fs, v :: z => f.name != "_" && f.offset == off && (match P.underlying f.type, v with
    | some .bool, .bool _ => true
    | some (.int _), .int _ _ => true
    | some .string, .str _ => true
    | _, _ => false) && chkF P (off + 1) fs z
  | _, _, _ => false
def notAgg : TypeDesc → Prop
  | .struct _ => False
  | .array _ _ => False
  | _ => True
theorem ba_beq (a b : List UInt8) : ((⟨a.toArray⟩ : ByteArray) == ⟨b.toArray⟩) = (a == b) := by
  show (a.toArray == b.toArray) = (a == b)
  simp
def eqBody (n : Nat) (xs ys : Array Value) : Field → (Option Bool × Unit) → Sem (ForInStep (Option Bool × Unit)) := fun f _ =>
  if f.name ≠ "_" then do
    let a ← part f.type xs f.offset
    let b ← part f.type ys f.offset
    let e ← Op.equalIn n f.type a b
    if (!e) = true then pure (ForInStep.done (some false, ())) else pure (ForInStep.yield (none, ()))
  else pure (ForInStep.yield (none, ()))
theorem part_run {t : TypeId} {d : TypeDesc} (h : P.underlying t = some d) (hd : notAgg d) {cs : Array Value} {off : Nat} {v : Value} (hc : cs[off]? = some v) (w : World) : (part t cs off).run P w = .ok v w := by
  have ha : (isAgg t).run P w = .ok false w := by
    unfold isAgg
    simp only [Sem.run_bind, run_und h, Result.andThen_ok]
    cases d <;> first | rfl | exact hd.elim
  simp only [part, Sem.run_bind, ha, Result.andThen_ok, Bool.false_eq_true, if_false, hc, Sem.run_pure]
theorem eqLeaf {t : TypeId} {v c d : V} {n : Nat} (h : (match P.underlying t, v with | some .bool, .bool _ => true | some (.int _), .int _ _ => true | some .string, .str _ => true | _, _ => false) = true) (h1 : eqP [v] [c]) (h2 : eqP [c] [d]) (w : World) :
    (∃ dsc, P.underlying t = some dsc ∧ notAgg dsc) ∧ (Op.equalIn (n + 1) t (exV c) (exV d)).run P w = .ok (eqB [c] [d]) w := by
  cases hu : P.underlying t with
  | none => rw [hu] at h; simp at h
  | some dsc =>
    rw [hu] at h
    cases dsc <;> cases v <;> simp at h <;> cases c <;> simp only [eqP] at h1 <;> cases d <;> simp only [eqP] at h2 <;> refine ⟨⟨_, rfl, trivial⟩, ?_⟩ <;> simp [Op.equalIn, run_und hu, exV, eqB, h2, ba_beq]
theorem eqP_cons {c d : V} {cs ds : List V} (h : eqP (c :: cs) (d :: ds)) : eqP [c] [d] ∧ eqP cs ds := by
  cases c <;> cases d <;> simp only [eqP] at h <;> first | exact ⟨⟨h.1, trivial⟩, h.2⟩ | exact ⟨trivial, h⟩ | exact h.elim
theorem eqB_cons {c d : V} {cs ds : List V} (h : eqP [c] [d]) : eqB (c :: cs) (d :: ds) = (eqB [c] [d] && eqB cs ds) := by
  cases c <;> cases d <;> simp only [eqP] at h <;> simp [eqB]
theorem eqLoop (n : Nat) (xs ys : Array Value) (w : World) : ∀ (fs : List Field) (off : Nat) (z cs ds : List V), chkF P off fs z = true → eqP z cs → eqP cs ds → (∀ i, i < cs.length → xs[off + i]? = some (exV (cs.getD i .any))) → (∀ i, i < ds.length → ys[off + i]? = some (exV (ds.getD i .any))) →
    (forIn fs ((none, ()) : Option Bool × Unit) (eqBody (n + 1) xs ys)).run P w = .ok (if eqB cs ds then (none, ()) else (some false, ())) w
  | [], off, [], cs, ds, _, h1, h2, _, _ => by
    cases cs with
    | cons c cs => simp [eqP] at h1
    | nil => cases ds with
      | cons d ds => simp [eqP] at h2
      | nil => rfl
  | [], _, _ :: _, _, _, h, _, _, _, _ => by simp [chkF] at h
  | _ :: _, _, [], _, _, h, _, _, _, _ => by simp [chkF] at h
  | f :: fs, off, v :: z, cs, ds, h, h1, h2, hx, hy => by
    cases cs with
    | nil => cases v <;> simp [eqP] at h1
    | cons c cs =>
    cases ds with
    | nil => cases c <;> simp [eqP] at h2
    | cons d ds =>
    simp only [chkF, Bool.and_eq_true] at h
    obtain ⟨⟨⟨hn, ho⟩, hk⟩, hr⟩ := h
    have ho := eq_of_beq ho
    obtain ⟨a1, a2⟩ := eqP_cons h1
    obtain ⟨b1, b2⟩ := eqP_cons h2
    obtain ⟨⟨dsc, u1, u2⟩, he⟩ := eqLeaf (n := n) hk a1 b1 w
    have px := part_run u1 u2 (cs := xs) (off := f.offset) (v := exV c) (by rw [ho]; simpa using hx 0 (by simp)) w
    have py := part_run u1 u2 (cs := ys) (off := f.offset) (v := exV d) (by rw [ho]; simpa using hy 0 (by simp)) w
    have hname : f.name ≠ "_" := by simpa using hn
    have ih := eqLoop n xs ys w fs (off + 1) z cs ds hr a2 b2 (fun i hi => by have := hx (i + 1) (by simpa using hi); rw [show off + 1 + i = off + (i + 1) by omega]; simpa using this) (fun i hi => by have := hy (i + 1) (by simpa using hi); rw [show off + 1 + i = off + (i + 1) by omega]; simpa using this)
    rw [List.forIn_cons]
    rw [eqB_cons b1]
    have hb : (eqBody (n + 1) xs ys f (none, ())).run P w = .ok (if (!eqB [c] [d]) = true then ForInStep.done (some false, ()) else ForInStep.yield (none, ())) w := by
      unfold eqBody
      rw [if_pos hname]
      simp only [Sem.run_bind, px, py, he, Result.andThen_ok]
      cases eqB [c] [d] <;> rfl
    simp only [Sem.run_bind, hb, Result.andThen_ok]
    cases hq : eqB [c] [d] with
    | false => rfl
    | true => simpa using ih
theorem eqOk_struct {t : TypeId} {fields : Array Field} {z : V} (h : P.underlying t = some (.struct fields)) (hg : P.eqGuardType P.depth t = false) (hs : P.stoodInHeld t = false) (hz : (ti P t).zero = some z) (hc : chkF P 0 fields.toList z.flat = true) : EqOk P t := by
  refine ⟨hg, fun cs ds w h1 h2 => ?_⟩
  unfold zP at h1
  rw [hz] at h1
  have at' : ∀ (l : List V) (i : Nat), i < l.length → ((l.map exV).toArray)[0 + i]? = some (exV (l.getD i .any)) := fun l i hi => by simp [hi]
  have hl := eqLoop (P := P) 9998 ((cs.map exV).toArray) ((ds.map exV).toArray) w fields.toList 0 z.flat cs ds hc h1 h2 (at' cs) (at' ds)
  have aux : ∀ m, m = 9998 → (Op.equalIn (m + 1 + 1) t (.agg (cs.map exV).toArray) (.agg (ds.map exV).toArray)).run P w = .ok (eqB cs ds) w := by
    intro m hm
    subst hm
    rw [Op.equalIn]
    simp only [Sem.run_bind, run_und h, Result.andThen_ok]
    have hp : (Sem.run P program w) = .ok P w := rfl
    rw [hp]
    simp only [Result.andThen_ok, hs, Bool.false_eq_true, if_false]
    rw [← Array.forIn_toList]
    have hl' := hl
    unfold eqBody at hl'
    simp only [Sem.run_bind]
    erw [hl']
    simp only [Result.andThen_ok]
    cases eqB cs ds <;> rfl
  exact aux 9998 rfl
def eqChk (P : Program) (t : TypeId) : Bool := match P.underlying t, (ti P t).zero with
  | some (.struct fs), some z => !P.eqGuardType P.depth t && !P.stoodInHeld t && chkF P 0 fs.toList z.flat
  | _, _ => false
theorem eqOk_of {t : TypeId} (h : eqChk P t = true) : EqOk P t := by
  unfold eqChk at h
  split at h
  · rename_i fs z hu hz
    simp only [Bool.and_eq_true, Bool.not_eq_true'] at h
    exact eqOk_struct hu h.1.1 h.1.2 hz h.2
  · cases h
end
end Go.Abs
namespace Go.Abs
open Go
variable {G : PG}
def dropIds (l : HL) : HL → HL
  | [] => []
  | (i, b) :: r => bif idsIn l i then dropIds l r else (i, b) :: dropIds l r
attribute [push_cast] idsIn dropIds
@[push_cast] theorem dropIds_nil (l : HL) : dropIds l [] = [] := rfl
def PLe (x y : V) : Prop := ∀ imm w v, RepP imm w x v → RepP imm w y v
theorem PLe.refl (x : V) : PLe x x := fun _ _ _ h => h
theorem PLe.of_eq {x y : V} (h : x = y) : PLe x y := h ▸ PLe.refl x
def pleL : List V → List V → Prop
  | [], [] => True
  | x :: r, y :: s => PLe x y ∧ pleL r s
  | _, _ => False
theorem pleL_len : ∀ {l m : List V}, pleL l m → l.length = m.length
  | [], [], _ => rfl
  | _ :: _, _ :: _, h => by simp [pleL_len h.2]
theorem pleL_at : ∀ {l m : List V}, pleL l m → ∀ i, PLe (l.getD i .any) (m.getD i .any)
  | [], [], _, i => PLe.refl _
  | _ :: _, _ :: _, h, 0 => h.1
  | _ :: _, _ :: _, h, i + 1 => by simpa using pleL_at h.2 i
theorem PLe.sl {n m : Nat} {f g : Nat → V} (h : n = m) (hf : ∀ i, i < n → pleL (f i).flat (g i).flat) : PLe (.sl n f) (.sl m g) := by
  subst h
  intro imm w v h
  cases h with
  | sl0 => exact .sl0 _ _ _
  | sl _ _ b off c sz u h1 h2 h3 h4 h5 h6 h7 =>
    exact .sl n g b off c sz u h1 h2 h3 (fun i hi => by rw [← pleL_len (hf i hi)]; exact h4 i hi) h5 h6 (fun i j hi hj => pleL_at (hf i hi) j _ _ _ (h7 i j hi hj))
theorem PLe.agg {l m : List V} (h : pleL l m) : PLe (.agg l) (.agg m) := by
  intro imm w v hr
  cases hr with
  | agg _ vs h1 h2 h3 => exact .agg m vs (h1.trans (pleL_len h)) (fun i hi => pleL_at h i _ _ _ (h2 i (by rw [pleL_len h]; exact hi))) fun i hi => h3 i (by rw [pleL_len h]; exact hi)
theorem pcall_nil1 {f : FuncId} {g : Nat → V} {r : V} (h : ∀ a c, PCall G f [.con (.slice a 0 c)] r) : PCall G f [.sl 0 g] r := by
  intro S vals hs hh hl hr
  match vals, hl with
  | [v], _ =>
    have h0 := hr 0 (by simp)
    simp only [List.getD_cons_zero] at h0
    obtain ⟨a, c, rfl⟩ : ∃ a c, v = .slice a 0 c := by
      cases inv_sl h0 with
      | sl0 _ a c => exact ⟨a, c, rfl⟩
      | sl _ _ b off c sz u => exact ⟨_, _, rfl⟩
    exact h a c S [.slice a 0 c] hs hh rfl fun i hi => by
      have : i = 0 := by simp at hi; omega
      subst this
      exact .pure (.con _)
@[push_cast] theorem ev_consl (a : Option Addr) (c : Nat) : V.strip (.con (.slice a 0 c)) = .con (.slice a 0 c) := rfl
end Go.Abs
namespace Go.Abs
open Go
variable {G : PG}
theorem fcall_args {f : FuncId} {args args' : List V} {hl hl' : HL} {r : V} (hv : vleL args args') (h : FCall G f args' hl r hl') : FCall G f args hl r hl' := by
  intro S vals hs hh hlen hr
  exact h S vals hs hh (hlen.trans (vleL_len hv)) fun i hi => vleL_at hv i _ _ _ _ (hr i (by rw [vleL_len hv]; exact hi))
def hlLe : HL → HL → Prop
  | [], [] => True
  | (i, b) :: r, (j, c) :: s => i = j ∧ BLe b c ∧ hlLe r s
  | _, _ => False
theorem hlLe_at : ∀ {hl hm : HL}, hlLe hl hm → ∀ id c, hOf hm id = some c → ∃ b, hOf hl id = some b ∧ BLe b c
  | [], [], _, _, _, h => by cases h
  | (i, b) :: r, (j, c) :: s, h, id, c', hc => by
    obtain ⟨rfl, hb, h⟩ := h
    simp only [hOf] at hc ⊢
    by_cases e : id = i
    · subst e; rw [upd_same] at hc ⊢; cases hc; exact ⟨b, rfl, hb⟩
    · rw [upd_ne _ _ e] at hc ⊢; exact hlLe_at h id c' hc
theorem fcall_blk {f : FuncId} {args : List V} {hl hm hl' : HL} {r : V} (hb : hlLe hl hm) (h : FCall G f args hm r hl') : FCall G f args hl r hl' := by
  intro S vals hs hh hlen hr
  obtain ⟨w1, w2⟩ := hs.weaken (fun _ => False) (hOf hm) fun id k hk => by
    obtain ⟨b, h1, h2⟩ := hlLe_at hb id k hk
    have h3 : S.h id = some b := by rw [hh]; exact h1
    exact ⟨by rw [h3]; rfl, h2.ok (hs.blk id b h3)⟩
  refine (h { S with h := hOf hm } vals w1 rfl hlen hr).mono fun e w' ⟨v, γ', imm', e1, e2, e3, e4, e5⟩ => ?_
  refine ⟨v, γ', imm', e1, e2, w2.trans e3, fun id hid => e4 id ?_, e5⟩
  cases hm2 : hOf hm id with
  | none => rfl
  | some c =>
    obtain ⟨b, h1, _⟩ := hlLe_at hb id c hm2
    rw [hid] at h1; cases h1
@[push_cast] theorem shift_by (s : List UInt8) (i : Nat) : V.shift (byF s i) = byF s i := rfl
end Go.Abs
namespace Go.Abs
open Go Go.RowKit
variable {G : PG}
theorem pcall_shelf2 {f : FuncId} (hent : entB G.prog f = true) {args : List V} {r : V} {vs : List Value} (hx : exactL args = some vs)
    (h : ∀ w, G.ok w → Calls G.prog f vs.toArray w fun e w' => ∃ v, e = .returned v ∧ World.grow w w' ∧ ∀ γ imm, (∀ b, w.heap.size ≤ b → b < w'.heap.size → imm b) → RepV γ imm w' r v) : PCall G f args r := by
  intro S vals hs hh hl hr
  obtain rfl := exactL_ok hx hl hr
  refine .inl ⟨hent, (h S.w hs.tab.1).mono fun e w' ⟨v, he, hg, hrep⟩ => ?_⟩
  obtain ⟨g1, g2⟩ := Sim.grow hs (fun _ => False) w' (fun b => S.imm b ∨ (S.w.heap.size ≤ b ∧ b < w'.heap.size)) hg (fun _ h => .inl h) (fun b hb => hb)
  refine ⟨v, S.γ, (fun b => S.imm b ∨ (S.w.heap.size ≤ b ∧ b < w'.heap.size)), he, ?_, ?_, fun _ _ => rfl, hrep _ _ fun b h1 h2 => Or.inr ⟨h1, h2⟩⟩
  · rw [← hh]; exact g1
  · rw [← hh]; exact g2
theorem grow_alloc (w : World) (o : Obj) : World.grow w (w.alloc o) := by
  refine ⟨rfl, rfl, rfl, ?_, fun b hb => ?_⟩
  · show w.heap.size ≤ (w.heap.push o).size
    simp
  · show (w.heap.push o)[b]? = w.heap[b]?
    rw [Array.getElem?_push_lt hb, Array.getElem?_eq_getElem hb]
theorem shelf_strs {w w' : World} {e : Ending} {cs : Array Value} {n c : Nat} {f : Nat → V} {l : Nat → List UInt8} {T : TypeId} (he : e = .returned (.slice (some ⟨w.heap.size, 0, none⟩) n c)) (hw : w' = w.alloc (.cells cs T)) (hc : n ≤ c)
    (hl : ∀ i, i < n → cs[i]? = some (.string ⟨(l i).toArray⟩)) (hf : ∀ i, i < n → f i = .str (l i)) :
    ∃ v, e = .returned v ∧ World.grow w w' ∧ ∀ γ imm, (∀ b, w.heap.size ≤ b → b < w'.heap.size → imm b) → RepV γ imm w' (.sl n f) v := by
  subst hw
  refine ⟨_, he, grow_alloc _ _, fun γ imm hi => .pure (.sl n f w.heap.size 0 c 1 (fun i _ => .string ⟨(l i).toArray⟩) ?_ hc (by omega) ?_ ?_ ?_ ?_)⟩
  · refine hi _ (Nat.le_refl _) ?_
    show w.heap.size < (w.heap.push _).size
    simp
  · intro i h; rw [hf i h]; rfl
  · intro i j h hj
    obtain rfl : j = 0 := by omega
    have hb : (w.alloc (.cells cs T)).heap[w.heap.size]? = some (.cells cs T) := by
      show (w.heap.push _)[w.heap.size]? = _
      simp
    simp only [World.cell?, hb, Nat.mul_one, Nat.add_zero, Nat.zero_add]
    exact hl i h
  · intro i j h hj; rfl
  · intro i j h hj
    obtain rfl : j = 0 := by omega
    rw [hf i h]; exact .str _
end Go.Abs
namespace Go.Abs
open Go Go.RowKit
variable {G : PG}
end Go.Abs
namespace Go.Abs
open Go
variable {G : PG}
theorem put_back {w : World} {l : Nat} {o : Obj} (h : w.heap[l]? = some o) : w.putObj l o = w := by
  unfold World.putObj
  have : w.heap.setIfInBounds l o = w.heap := by
    apply Array.ext_getElem?
    intro i
    by_cases e : i = l
    · subst e
      have hlt := (Array.getElem?_eq_some_iff.1 h).1
      simp [hlt] at h ⊢
      exact h.symm
    · rw [Array.getElem?_setIfInBounds_ne (Ne.symm e)]
  rw [this]
theorem put_put {w : World} {l : Nat} (o o' : Obj) : (w.putObj l o).putObj l o' = w.putObj l o' := by
  unfold World.putObj
  simp
theorem lend_in {γ : Gh} {imm : Nat → Prop} {hl : HL} {w : World} (hs : Sim G ⟨γ, imm, hOf hl, w⟩) : Sim G ⟨shG γ, imm, hOf hl.shift, w⟩ ∧ ∀ b, Sv.own ⟨shG γ, imm, hOf hl.shift, w⟩ b ↔ Sv.own ⟨γ, imm, hOf hl, w⟩ b := by
  have own1 : ∀ b, Sv.own ⟨shG γ, imm, hOf hl.shift, w⟩ b → Sv.own ⟨γ, imm, hOf hl, w⟩ b := by
    rintro b ⟨id, hid, hb⟩
    obtain ⟨kk, hkk⟩ := Option.isSome_iff_exists.1 hid
    obtain ⟨i, k0, rfl, hi, _⟩ := hOf_shift_some hkk
    exact ⟨i, by show (hOf hl i).isSome = true; rw [hi]; rfl, by rwa [show (Sv.γ ⟨shG γ, imm, hOf hl.shift, w⟩) (i + 9000) = γ i from shG_shift _ _] at hb⟩
  have own2 : ∀ b, Sv.own ⟨γ, imm, hOf hl, w⟩ b → Sv.own ⟨shG γ, imm, hOf hl.shift, w⟩ b := by
    rintro b ⟨id, hid, hb⟩
    refine ⟨id + 9000, ?_, ?_⟩
    · show (hOf hl.shift (id + 9000)).isSome = true
      rw [hOf_shift]
      have : (hOf hl id).isSome = true := hid
      cases hh : hOf hl id <;> simp_all
    · show blkOf (shG γ (id + 9000)) = some b
      rw [shG_shift]; exact hb
  refine ⟨⟨fun id b hb => ?_, fun i j b hi hj hbi hbj => ?_, hs.immLt, fun b hb => hs.disj b (own1 b hb), hs.tab.of (fun _ h => h) fun _ _ => rfl⟩, fun b => ⟨own1 b, own2 b⟩⟩
  · obtain ⟨i, k0, rfl, hi, rfl⟩ := hOf_shift_some hb
    exact (hs.blk i k0 hi).toShift (shG_shift _)
  · obtain ⟨ki, hki⟩ := Option.isSome_iff_exists.1 hi
    obtain ⟨kj, hkj⟩ := Option.isSome_iff_exists.1 hj
    obtain ⟨i, _, rfl, hi', _⟩ := hOf_shift_some hki
    obtain ⟨j, _, rfl, hj', _⟩ := hOf_shift_some hkj
    simp only [shG_shift] at hbi hbj
    rw [hs.inj i j b (by show (hOf hl i).isSome = true; rw [hi']; rfl) (by show (hOf hl j).isSome = true; rw [hj']; rfl) hbi hbj]
theorem lend_back {γ γ2 : Gh} {imm imm2 : Nat → Prop} {hl hl' : HL} {w w' : World} (hs : Sim G ⟨γ, imm, hOf hl, w⟩) (q1 : Sim G ⟨γ2, imm2, hOf hl'.shift, w'⟩)
    (q2 : Ext (· < 9000) ⟨shG γ, imm, hOf hl.shift, w⟩ ⟨γ2, imm2, hOf hl'.shift, w'⟩) : Sim G ⟨unG γ2, imm2, hOf hl', w'⟩ ∧ Ext (fun _ => False) ⟨γ, imm, hOf hl, w⟩ ⟨unG γ2, imm2, hOf hl', w'⟩ := by
  have own0 := (lend_in hs).2
  have some' : ∀ i, (hOf hl' i).isSome = true → (hOf hl'.shift (i + 9000)).isSome = true := fun i hi => by
    rw [hOf_shift]; cases hh : hOf hl' i <;> simp_all
  have own' : ∀ b, Sv.own ⟨unG γ2, imm2, hOf hl', w'⟩ b → Sv.own ⟨γ2, imm2, hOf hl'.shift, w'⟩ b := fun b ⟨i, hi, hb⟩ => ⟨i + 9000, some' i hi, hb⟩
  refine ⟨⟨fun i b hb => ?_, fun i j b hi hj hbi hbj => ?_, q1.immLt, fun b hb => q1.disj b (own' b hb), q1.tab.of (fun _ h => h) fun _ _ => rfl⟩, ⟨q2.os, q2.tape, q2.output, q2.size, fun b hb ho => q2.keep b hb fun h => ho ((own0 b).1 h), q2.imm, fun b hb => ?_, fun b hb => ?_, fun j _ => ?_⟩⟩
  · exact (q1.blk (i + 9000) b.shift (by show hOf hl'.shift (i + 9000) = _; rw [hOf_shift]; rw [show hOf hl' i = some b from hb]; rfl)).ofShift (fun _ => rfl)
  · have := q1.inj (i + 9000) (j + 9000) b (some' i hi) (some' j hj) hbi hbj
    omega
  · rcases q2.immNew b hb with h | h | h
    · exact .inl h
    · exact .inr (.inl ((own0 b).1 h))
    · exact .inr (.inr h)
  · rcases q2.own b (own' b hb) with h | h
    · exact .inl ((own0 b).1 h)
    · exact .inr h
  · have := q2.evo (j + 9000) (by simp)
    rwa [show (Sv.γ ⟨shG γ, imm, hOf hl.shift, w⟩) (j + 9000) = γ j from shG_shift _ _] at this
def IterOk (G : PG) (gf : FuncId) (lb : List V) (xs : List V) : Prop :=
  entB G.prog gf = true ∧ ∀ (S : Sv) (vals : List Value) (l : Nat) (J : Nat → World → Prop), Sim G S → vals.length = lb.length → (∀ i, i < lb.length → S.rep (lb.getD i .any) (vals.getD i undef)) →
    (∀ k W, J k W → ∀ b, S.imm b → W.heap[b]? = S.w.heap[b]?) → (∀ k W W', J k W → World.grow W W' → J k W') →
    (∀ k W v, J k W → k < xs.length → RepP S.imm S.w (xs.getD k .any) v → one v → YieldAt Fence.wide 0 G.prog l #[v] W fun e W' => e = .returned (.bool true) ∧ J (k + 1) W') →
    J 0 S.w → CallsIn Fence.wide 0 G.prog gf (#[.func (.yield l) #[] #[]] ++ vals.toArray) S.w fun e W' => (∃ v, e = .returned v) ∧ J xs.length W'
def Cfg.rnd (c : Cfg) (l : Nat) : Cfg := { c with rd := some l, df := false }
theorem RngW.rule {c : Cfg} (hc : CfgOk c) (hrd : c.rd = none) (hdf : c.df = true) {g : Operand} {p : Tmp} {x y : Code} (hx : codeOk c.an x = true) (hy : codeOk c.an y = true) {s : St} {K : Exit → St → Prop} {T : Type}
    (l : List (Nat × V)) (hl : T → HL) (I : Nat → T → Prop) (t0 : T) (h0 : I 0 t0) (hle : Le s ⟨al l, hOf (hl t0)⟩) {gf : FuncId} {lb xs : List V} (hg : ev (al l) g = .fn (.func gf) [] lb) (hit : IterOk c.G gf lb xs) (hp : p < c.n)
    (KX : Nat → Nat → Exit → St → Prop) (KB : Nat → Exit → St → Prop) (hKX : ∀ L k e s, KX L k e s → e = .normal ∧ exec (c.rnd L) y s (KB k)) (hKB : ∀ k e s, KB k e s → e = .normal ∧ ∃ t', I (k + 1) t' ∧ Le s ⟨al [], hOf (hl t').shift⟩)
    (body : ∀ k t L, I k t → k < xs.length → exec (c.rnd L) x ⟨upd (fun q => V.shift (al l q)) p (xs.getD k .any), hOf (hl t).shift⟩ (KX L k))
    (hK : ∀ t, I xs.length t → K .normal ⟨al l, hOf (hl t)⟩) : RngW c g #[p] x y s K := by
  intro S0 act w hr
  obtain ⟨γ, imm, hs, hx0, he, hdef, hsz, hn⟩ := hle _ _ _ _ _ _ hr
  have hF : c.F = Fence.wide := by unfold Cfg.F; rw [hrd]; rfl
  have hgv := rep_at he g
  rw [hg] at hgv
  obtain ⟨_, q, hgv, _, hql, _, hqr⟩ := inv_fn (S := ⟨γ, imm, hOf (hl t0), w⟩) hgv
  rename_i pe hpe _
  have hpn : pe = [] := List.length_eq_zero_iff.1 hpe
  subst hpn
  rw [hF]
  refine wpIn_rangeFunc ?_
  intro fn _
  obtain ⟨rec, hrec⟩ : ∃ rec : LoopState → Loop, rec = fun st => { state := st, pending := none, fn, tmps := act.tmps, params := #[p], assign := x, body := y, defers := w.heap.size } := ⟨_, rfl⟩
  obtain ⟨W1, hW1⟩ : ∃ W1, (w.alloc (.deferred (some []))).alloc (.loop (rec .ready)) = W1 := ⟨_, rfl⟩
  obtain ⟨L, hL⟩ : ∃ L, L = w.heap.size + 1 := ⟨_, rfl⟩
  obtain ⟨D, hD⟩ : ∃ D, D = w.heap.size := ⟨_, rfl⟩
  have sz1 : W1.heap.size = w.heap.size + 2 := by rw [← hW1]; simp
  have hgrow : World.grow w W1 := by
    rw [← hW1]
    refine ⟨rfl, rfl, rfl, by simp; omega, fun b hb => ?_⟩
    exact (RowKit.Below.heap_alloc _ _ _ (by simp; omega)).trans (RowKit.Below.heap_alloc _ _ _ hb)
  obtain ⟨hsW, hxW⟩ := hs.grow (fun _ => False) W1 imm hgrow (fun _ h => h) (fun _ h => .inl h)
  have noO : ∀ b, w.heap.size ≤ b → ¬ Sv.own ⟨γ, imm, hOf (hl t0), W1⟩ b := fun b hb ho => by have := hs.ownLt (b := b) ho; simp only at this; omega
  have noI : ∀ b, w.heap.size ≤ b → ¬ imm b := fun b hb ho => by have := hs.immLt b ho; simp only at this; omega
  have oL : Other ⟨γ, imm, hOf (hl t0), W1⟩ L (.loop (rec .ready)) := by
    refine ⟨?_, noO L (by omega), noI L (by omega)⟩
    show W1.heap[L]? = _
    rw [← hW1, hL]
    have := World.alloc_heap_new (w.alloc (.deferred (some []))) (.loop (rec .ready))
    rwa [World.size_alloc] at this
  have oD : Other ⟨γ, imm, hOf (hl t0), W1⟩ D (.deferred (some [])) := by
    refine ⟨?_, noO D (by omega), noI D (by omega)⟩
    show W1.heap[D]? = _
    rw [← hW1, hD]
    exact (RowKit.Below.heap_alloc _ _ _ (by simp)).trans (World.alloc_heap_new w _)
  have hent := hit.1
  refine ⟨L, [{ target := .collected D, args := #[] }], W1, { target := .fn (.func gf) q.toArray, args := #[.func (.yield L) #[] #[]] }, W1, gf, #[.func (.yield L) #[] #[]] ++ q.toArray, W1, ?_, ?_, fun _ _ => trivial, ?_, (fun h => by cases h), ?_⟩
  · rw [← hW1, hrec, hL, hD]; exact run_enterLoop_outer _ _ _ _ _
  · simp only [resolve, hgv]
    simp [go_sem]
  · simp [invoke, go_sem, entB_run hent]
  have hc' : ∀ L, CfgOk (c.rnd L) := fun L => ⟨hc.ct, hc.fol⟩
  refine ((hit.2 ⟨γ, imm, hOf (hl t0), W1⟩ q L (fun k W => ∃ t γ' imm', I k t ∧ Sim c.G ⟨γ', imm', hOf (hl t), W⟩ ∧ Ext (fun _ => False) ⟨γ, imm, hOf (hl t0), w⟩ ⟨γ', imm', hOf (hl t), W⟩ ∧ Ext (fun _ => False) ⟨γ, imm, hOf (hl t0), W1⟩ ⟨γ', imm', hOf (hl t), W⟩ ∧ Other ⟨γ', imm', hOf (hl t), W⟩ L (.loop (rec .ready)) ∧ Other ⟨γ', imm', hOf (hl t), W⟩ D (.deferred (some [])))
    hsW hql (fun i hi => hxW.rep hs (hqr i hi) fun _ h => h.elim) ?_ ?_ ?_ ⟨t0, γ, imm, h0, hsW, hxW, Ext.refl _ _, oL, oD⟩)).mono ?_
  · rintro k W ⟨t, γ', imm', _, _, _, hx2, _⟩ b hb
    exact hx2.immKeep hsW b hb
  · rintro k W W' ⟨t, γ', imm', hI, hs', hx', hx2, hoL, hoD⟩ hg
    obtain ⟨g1, g2⟩ := hs'.grow (fun _ => False) W' imm' hg (fun _ h => h) (fun _ h => .inl h)
    exact ⟨t, γ', imm', hI, g1, hx'.trans g2, hx2.trans g2, hoL.ext g2, hoD.ext g2⟩
  · -- one round
    rintro k W v ⟨t, γ', imm', hI, hs', hx', hx2, hoL, hoD⟩ hk hv hv1
    have hy' := run_yield (P := c.P) (args := #[v]) hoL.at' (by rw [hrec]; rfl)
    rw [hrec] at hy'
    refine ⟨fn, _, x, y, hy', roundIn_of_wpIn trivial ?_⟩
    generalize hfold : Array.foldl _ _ _ = tm
    have htm : tm = act.tmps.setIfInBounds p v := by rw [← hfold]; simp
    clear hfold
    subst htm
    obtain ⟨hsr, hown⟩ := lend_in hs'
    have orL : Other ⟨shG γ', imm', hOf (hl t).shift, W⟩ L (.loop (rec .ready)) := ⟨hoL.at', fun h => hoL.own ((hown L).1 h), hoL.imm⟩
    have hrel : Rel c.G c.n false ⟨shG γ', imm', hOf (hl t).shift, W⟩ ⟨upd (fun q => V.shift (al l q)) p (xs.getD k .any), hOf (hl t).shift⟩ { tmps := act.tmps.setIfInBounds p v, defers := [] } W := by
      refine ⟨shG γ', imm', hsr, Ext.refl _ _, fun q => ?_, rfl, by simpa using hsz, hn⟩
      by_cases e : q = p
      · subst e
        show RepV (shG γ') imm' W (upd (fun q => V.shift (al l q)) q (xs.getD k .any) q) ((act.tmps.setIfInBounds q v).getD q undef)
        rw [upd_same]
        have : (act.tmps.setIfInBounds q v).getD q undef = v := by
          have : q < act.tmps.size := by rw [hsz]; exact hp
          simp [Array.getD, this]
        rw [this]
        exact .pure (hv.mono hx2.imm (hx2.immKeep hsW))
      · show RepV (shG γ') imm' W (upd (fun q => V.shift (al l q)) p (xs.getD k .any) q) ((act.tmps.setIfInBounds p v).getD q undef)
        rw [upd_ne _ _ e]
        have : (act.tmps.setIfInBounds p v).getD q undef = act.tmps.getD q undef := by
          simp only [Array.getD_eq_getD_getElem?]
          rw [Array.getElem?_setIfInBounds_ne (fun h => e h.symm)]
        rw [this]
        exact rep_shift (shG_shift _) (hx'.rep hs (he q) fun _ h => h.elim)
    refine wpIn_mono (exec_sound (hc' L) x hx _ _ _ _ _ hrel (body k t L hI hk)) fun e1 a1 w1 he1 => ?_
    obtain ⟨s1, hrel1, hk1⟩ := he1
    obtain ⟨en1, hk1'⟩ := hKX _ _ _ _ hk1
    subst en1
    obtain ⟨γ1, imm1, sim1, ext1, rep1, def1, sz1', hn1⟩ := hrel1
    have o1 := orL.ext ext1
    refine ⟨_, run_beginRound o1.at' (by rw [hrec]), ?_⟩
    have hrel2 : Rel c.G c.n false (Sv.put ⟨shG γ', imm', hOf (hl t).shift, W⟩ L (.loop { rec .ready with state := .busy })) s1 a1 (w1.putObj L (.loop { rec .ready with state := .busy })) := by
      refine ⟨γ1, imm1, put_sim sim1 _ o1.own o1.imm, put_ext ext1 _ orL.lt, fun q => ?_, def1, sz1', hn1⟩
      exact (rep1 q).mono (fun _ h => h) (fun b hb => World.putObj_heap_other fun e => o1.imm (e ▸ hb)) fun _ _ => .refl _
    refine wpIn_mono (exec_sound (hc' L) y hy _ _ _ _ _ hrel2 hk1') fun e2 a2 w2 he2 => ?_
    obtain ⟨s2, hrel3, hk2⟩ := he2
    obtain ⟨en2, t', hI', hle2⟩ := hKB _ _ _ hk2
    subst en2
    obtain ⟨γ2, imm2, sim2, ext2, _, _, _, _⟩ := hle2 _ _ _ _ _ _ hrel3
    have o2 := (orL.put (.loop { rec .ready with state := .busy })).ext ext2
    refine ⟨_, _, run_endRound none o2.at', rfl, ?_⟩
    have ext3 := put_ext ext2 (.loop (rec .ready)) (orL.put _).lt
    have sim3 := put_sim sim2 (.loop (rec .ready)) o2.own o2.imm
    have eb : Sv.put (Sv.put ⟨shG γ', imm', hOf (hl t).shift, W⟩ L (.loop { rec .ready with state := .busy })) L (.loop (rec .ready)) = ⟨shG γ', imm', hOf (hl t).shift, W⟩ := by
      unfold Sv.put
      simp only [put_put, put_back hoL.at']
    rw [eb] at ext3
    obtain ⟨sim4, ext4⟩ := lend_back hs' sim3 ext3
    have er : (Obj.loop { { rec .ready with state := .busy } with state := if (none : Option Code).isNone then .ready else .done, pending := none }) = .loop (rec .ready) := by rw [hrec]; rfl
    rw [er]
    exact ⟨t', _, _, hI', sim4, hx'.trans ext4, hx2.trans ext4, hoL.ext ext4, hoD.ext ext4⟩
  · -- behind it
    rintro e W2 ⟨⟨v, rfl⟩, t, γ', imm', hI, hs', hx', _, hoL, hoD⟩
    have hend := run_endLoop (P := c.P) hoL.at' (by rw [hrec]; simp)
    have hpn : (rec .ready).pending = none := by rw [hrec]
    rw [hpn] at hend
    obtain ⟨oE, hend⟩ : ∃ oE, (Instr.endLoop L).run c.P W2 = .ok none (W2.putObj L oE) := ⟨_, hend⟩
    refine ⟨none, _, hend, ?_⟩
    have hx3 := put_new hx' oE (l := L) (by show w.heap.size ≤ L; omega)
    have hsz0 : S0.w.heap.size ≤ w.heap.size := hx0.size
    refine ⟨⟨al l, hOf (hl t)⟩, ⟨γ', imm', put_sim hs' oE hoL.own hoL.imm, hx0.trans (hx3.mono fun _ h => h.elim), fun q => hx3.rep hs (he q) fun _ h => h.elim, ?_, hsz, hn⟩, hK t hI⟩
    have hdef' := hdef.ext hx3
    rw [hdf] at hdef hdef' ⊢
    obtain ⟨Ds, d1, d2, d3⟩ := hdef'
    obtain ⟨Ds', d1', _, d3'⟩ := hdef
    have eqD : Ds = Ds' := by
      rw [d1] at d1'
      have inj : ∀ a b : Nat, markOf a = markOf b → a = b := fun a b h => by unfold markOf at h; cases h; rfl
      exact (List.map_inj_right inj).1 d1'
    refine ⟨D :: Ds, by simp [d1, markOf], List.nodup_cons.2 ⟨fun hm => ?_, d2⟩, fun X hX => ?_⟩
    · rw [eqD] at hm
      have := (d3' D hm).2.1
      have := (Array.getElem?_eq_some_iff.1 this).1
      simp only at this
      omega
    · rcases List.mem_cons.1 hX with rfl | hX
      · have := hoD.put_ne oE (l := L) (by omega)
        exact ⟨by omega, this.at', this.own, this.imm⟩
      · exact d3 X hX
def shAl : List (Nat × V) → List (Nat × V)
  | [] => []
  | (k, v) :: r => (k, V.shift v) :: shAl r
theorem al_shift (l : List (Nat × V)) : (fun q => V.shift (al l q)) = al (shAl l) := by
  funext t
  induction l with
  | nil => rfl
  | cons p l ih => obtain ⟨k, v⟩ := p; simp only [al, shAl] at ih ⊢; cases Nat.beq k t <;> first | exact ih | rfl
def rngX (c : Cfg) (y : Code) (E : Exit → St → Prop) (e : Exit) (s : St) : Prop := e = .normal ∧ exec c y s E
def rngA {T : Type} (ad : List Adj) (hr : T → HL) (I : Nat → T → Prop) (k : Nat) (e : Exit) (s : St) : Prop := e = .normal ∧ ∃ t', I (k + 1) t' ∧ adjP ad (levS [] (hr t')) s
section
variable {T : Type} (c : Cfg) (y : Code) (E : Exit → St → Prop) (ad : List Adj) (hr : T → HL) (I : Nat → T → Prop) (k i : Nat) (s : St)
@[push_cast] theorem rnd_at (G : PG) (ct : Ct) (ow : Nat → Bool) (n : Nat) (an : Nat → List Nat) (df : Bool) (rd : Option Nat) (l : Nat) : Cfg.rnd ⟨G, ct, ow, n, an, df, rd⟩ l = ⟨G, ct, ow, n, an, false, some l⟩ := rfl
end
theorem RngW.adj {ct : Ct} {ow : Nat → Bool} {n : Nat} {an : Nat → List Nat} (hc : CfgOk ⟨G, ct, ow, n, an, true, none⟩) {g : Operand} {p : Tmp} {x y : Code} (hxy : (codeOk an x && codeOk an y && Nat.blt p n) = true) {s : St} {K : Exit → St → Prop} {T : Type}
    (ad ad' : List Adj) (l : List (Nat × V)) (hl hr : T → HL) (hsh : ∀ t, HL.shift (hl t) = hr t) (I : Nat → T → Prop) (t0 : T) (h0 : I 0 t0 ∧ adjP ad (levS l (hl t0)) s) {gf : FuncId} {lb : List V} (xs : List V) (hg : ev (al l) g = .fn (.func gf) [] lb) (hit : IterOk G gf lb xs)
    (body : ∀ k t L, I k t → k < xs.length → exec (Cfg.rnd ⟨G, ct, ow, n, an, true, none⟩ L) x ⟨al ((p, xs.getD k .any) :: shAl l), hOf (hr t)⟩ (rngX (Cfg.rnd ⟨G, ct, ow, n, an, true, none⟩ L) y (rngA ad' hr I k)))
    (hK : ∀ t, I xs.length t → K .normal ⟨al l, hOf (hl t)⟩) : RngW ⟨G, ct, ow, n, an, true, none⟩ g #[p] x y s K := by
  simp only [Bool.and_eq_true] at hxy
  refine RngW.rule hc rfl rfl hxy.1.1 hxy.1.2 l hl I t0 h0.1 (levS_le h0.2) hg hit (Nat.le_of_ble_eq_true hxy.2) (fun L k => rngX (Cfg.rnd ⟨G, ct, ow, n, an, true, none⟩ L) y (rngA ad' hr I k)) (fun k => rngA ad' hr I k) (fun L k e s h => h) (fun k e s h => ?_) (fun k t L hI hk => ?_) hK
  · obtain ⟨rfl, t', h1, h2⟩ := h
    exact ⟨rfl, t', h1, by rw [hsh]; exact levS_le h2⟩
  · rw [al_shift, al_upd, hsh]
    exact body k t L hI hk
end Go.Abs
namespace Go.Abs
open Go
variable {G : PG}
attribute [push_cast] V.shm V.shmL Blk.shm HL.shm
end Go.Abs
namespace Go.Abs
open Go
def OrbIs (g : Nat) (k : IntKind) (m : Nat) (f : Nat → Nat → Int) (w : World) : Prop :=
  ∃ b off cap, w.cell? ⟨g, 0, none⟩ = some (.slice (some ⟨b, off, none⟩) m cap) ∧ m ≤ cap ∧ b < w.heap.size ∧ ∀ i j, i < m → j < 2 → w.cell? ⟨b, off + (i * 2 + j), none⟩ = some (.int k (f i j))
theorem orb_same {g n m : Nat} {k : IntKind} {f : Nat → Nat → Int} {w w0 : World} (hg : g < n) (h : ∀ b, b < max n (blkAt g w0) → w.heap[b]? = w0.heap[b]?) (ho : OrbIs g k m f w0) : OrbIs g k m f w := by
  obtain ⟨b, off, cap, h1, h2, h3, h4⟩ := ho
  have hb : blkAt g w0 = b + 1 := by unfold blkAt; rw [h1]
  have hs := h b (by omega)
  refine ⟨b, off, cap, by rw [cell_same (h g (by omega))]; exact h1, h2, ?_, fun i j hi hj => by rw [cell_same hs]; exact h4 i j hi hj⟩
  rw [Array.getElem?_eq_getElem h3] at hs
  exact (Array.getElem?_eq_some_iff.1 hs).1
theorem orb_size {g n m : Nat} {k : IntKind} {f : Nat → Nat → Int} {w : World} (h : OrbIs g k m f w) (hn : n ≤ w.heap.size) : max n (blkAt g w) ≤ w.heap.size := by
  obtain ⟨b, off, cap, h1, h2, h3, h4⟩ := h
  have hb : blkAt g w = b + 1 := by unfold blkAt; rw [h1]
  omega
theorem laidMet_rep {P : Program} {W : World} {name : String} {g : Nat} {t e : TypeId} {L : List TypeId} (hL : okTys P L = true) (hm : t ∈ L) (hu : P.underlying t = some (.slice e))
    (hg : P.globalNamed name = some g) (hty : (P.globals[g]?).map (·.type) = some t) : ∀ (l : List (String × DataW Unit)) (d : DataW Unit), (name, d) ∈ l → laidMet P l W → ∃ c, W.cell? ⟨g, 0, none⟩ = some c ∧ RepP (· < W.heap.size) W (toV d) c
  | [], d, hm', _ => by cases hm'
  | x :: l, d, hm', h => by
    rcases List.mem_cons.1 hm' with rfl | hm2
    · obtain ⟨ps, ⟨g', t', cs, fuel, p, q, hg', ht', hvar, hd, _, _⟩, _⟩ := h
      obtain rfl := Option.some.inj (hg.symm.trans hg')
      obtain rfl := Option.some.inj (hty.symm.trans ht')
      rcases (trod_rep hL fuel t cs.toList _ hm hd).2 with ⟨fs, h1⟩ | ⟨c, h1, _, h2⟩
      · rw [hu] at h1; cases h1
      · refine ⟨c, (World.var?_cell hg hvar 0).trans ?_, h2⟩
        rw [← Array.getElem?_toList, h1]; rfl
    · obtain ⟨n0, d0⟩ := x
      obtain ⟨ps, ⟨g', t', cs, fuel, p, q, _, _, _, _, hq, rfl⟩, hnd, hall⟩ := h
      exact laidMet_rep hL hm hu hg hty l d hm2 ⟨q, hq, (List.nodup_append.1 hnd).2.1, fun b off hb => hall b off (List.mem_append.2 (.inr hb))⟩
theorem rep_orb {g m : Nat} {k : IntKind} {f : Nat → Nat → Int} {F : Nat → V} {w : World} {c : Value} (hm : 0 < m) (hF : ∀ i, i < m → F i = .agg [.int k (f i 0), .int k (f i 1)]) (hc : w.cell? ⟨g, 0, none⟩ = some c) (h : RepP (· < w.heap.size) w (.sl m F) c) : OrbIs g k m f w := by
  cases h with
  | sl0 => omega
  | sl _ _ b off cap sz u hb hn hs hl hcell ho hr =>
    have h2 : sz = 2 := by
      have := hl 0 hm
      rw [hF 0 hm] at this
      simpa [V.flat] using this.symm
    subst h2
    refine ⟨b, off, cap, hc, hn, hb, fun i j hi hj => ?_⟩
    rw [hcell i j hi hj]
    have := hr i j hi hj
    rw [hF i hi] at this
    have e : (V.flat (.agg [.int k (f i 0), .int k (f i 1)])).getD j .any = .int k (f i j) := by
      match j, hj with
      | 0, _ => rfl
      | 1, _ => rfl
    rw [e] at this
    generalize u i j = v at this ⊢
    cases this
    rfl
theorem laidMet_orb {P : Program} {W : World} {name : String} {g m : Nat} {k : IntKind} {f : Nat → Nat → Int} {F : Nat → V} {t e : TypeId} {L : List TypeId} (hL : okTys P L = true) (hm : t ∈ L) (hu : P.underlying t = some (.slice e))
    (hg : P.globalNamed name = some g) (hty : (P.globals[g]?).map (·.type) = some t) (l : List (String × DataW Unit)) (d : DataW Unit) (hd : toV d = .sl m F) (hp : 0 < m) (hF : ∀ i, i < m → F i = .agg [.int k (f i 0), .int k (f i 1)]) (hl : (name, d) ∈ l) (h : laidMet P l W) : OrbIs g k m f W := by
  obtain ⟨c, h1, h2⟩ := laidMet_rep hL hm hu hg hty l d hl h
  rw [hd] at h2
  exact rep_orb hp hF h1 h2
def intD : DataW Unit → Int
  | .lit (.int _ n) => n
  | _ => 0
def pairD : DataW Unit → Nat → Int
  | .agg l, j => intD (l.getD j .nil)
  | _, _ => 0
def isPairD (k : IntKind) : DataW Unit → Bool
  | .agg [.lit (.int a _), .lit (.int b _)] => decide (a = k) && decide (b = k)
  | _ => false
theorem pairD_one {k : IntKind} : ∀ {d : DataW Unit}, isPairD k d = true → toV d = .agg [.int k (pairD d 0), .int k (pairD d 1)]
  | .agg [.lit (.int a x), .lit (.int b y)], h => by
    simp only [isPairD, Bool.and_eq_true, decide_eq_true_eq] at h
    obtain ⟨rfl, rfl⟩ := h
    simp [toV, toVF, V.flat, pairD, intD]
theorem pairD_hF {k : IntKind} {es : List (DataW Unit)} (h : es.all (isPairD k) = true) : ∀ i, i < es.length → litF (toVL es) i = .agg [.int k (pairD (es.getD i .nil) 0), .int k (pairD (es.getD i .nil) 1)] := fun i hi => by
  unfold litF
  rw [toVL_eq, List.getD_eq_getElem?_getD, List.getElem?_map, List.getElem?_eq_getElem hi, List.getD_eq_getElem?_getD, List.getElem?_eq_getElem hi]
  exact pairD_one (List.all_eq_true.1 h _ (List.getElem_mem hi))
theorem toV_slice {es : List (DataW Unit)} {d : DataW Unit} {m : Nat} (h : d = .slice es []) (hm : es.length = m) : toV d = .sl m (litF (toVL es)) := by
  subst h; subst hm
  simp [toV]
end Go.Abs
