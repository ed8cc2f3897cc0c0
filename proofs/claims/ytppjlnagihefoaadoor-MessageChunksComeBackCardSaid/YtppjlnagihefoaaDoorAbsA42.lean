import Derived.Test.YtppjlnagihefoaaDoorAbsA41
namespace Go.Abs
open Go Go.ChangeShapes Go.RowKit
variable {G : PG}

/- the shape of what is read -/
inductive Sh where
  | int (k : IntKind)
  | bool
  | str
  | list (s : Sh)
  | tup (l : List Sh)
def flatV : List V → List V
  | [] => []
  | v :: r => v.flat ++ flatV r
mutual
/-- of the shape, and of bulk at most m -/
def Sh.has : Sh → Nat → V → Prop
  | .int k, m, v => ∃ n, v = .int k n ∧ (Lit.int k n).wf = true ∧ 1 ≤ m
  | .bool, m, v => ∃ b, v = .bool b ∧ 1 ≤ m
  | .str, m, v => ∃ s, v = .str s ∧ s.length + 1 ≤ m ∧ s.length ≤ reachBytes
  | .list s, m, v => ∃ (l : List V) (ms : List Nat), v = .sl l.length (litF l) ∧ ms.length = l.length ∧ ms.sum + 1 ≤ m ∧ l.length ≤ reachBytes ∧ ∀ i, i < l.length → s.has (ms.getD i 0) (l.getD i .any)
  | .tup ss, m, v => ∃ (l : List V) (ms : List Nat), v = .agg (flatV l) ∧ ms.sum + 1 ≤ m ∧ Sh.hasL ss ms l
def Sh.hasL : List Sh → List Nat → List V → Prop
  | [], [], [] => True
  | s :: ss, m :: ms, v :: vs => s.has m v ∧ Sh.hasL ss ms vs
  | _, _, _ => False
end
mutual
def Sh.ofTy (P : Program) : Sh → TypeId → Bool
  | .int k, t => (match P.underlying t with
    | some (.int k') => decide (k = k')
    | _ => false)
  | .bool, t => (match P.underlying t with
    | some .bool => true
    | _ => false)
  | .str, t => (match P.underlying t with
    | some .string => true
    | _ => false)
  | .list s, t => (match P.underlying t with
    | some (.slice e) => s.ofTy P e && decide (0 < P.bytesOf e)
    | _ => false)
  | .tup ss, t => (match P.underlying t with
    | some (.struct fs) => Sh.ofTyL P ss (fs.toList.map (·.type))
    | _ => false)
def Sh.ofTyL (P : Program) : List Sh → List TypeId → Bool
  | [], [] => true
  | s :: ss, t :: ts => s.ofTy P t && Sh.ofTyL P ss ts
  | _, _ => false
end
section
variable {H : Type}
mutual
def bulkD : DataW H → Nat
  | .lit (.string bytes) => bytes.length + 1
  | .lit _ => 1
  | .nil => 1
  | .ptr d => bulkD d + 1
  | .slice elems spare => bulkL elems + bulkL spare + 1
  | .agg parts => bulkL parts + 1
  | .iface _ d => bulkD d + 1
  | .map entries => bulkEs entries + 1
  | .held _ => 1
def bulkL : List (DataW H) → Nat
  | [] => 0
  | d :: r => bulkD d + bulkL r
def bulkEs : List (Lit × DataW H) → Nat
  | [] => 0
  | x :: r => bulkE x + bulkEs r
def bulkE : Lit × DataW H → Nat
  | (.string bytes, d) => bytes.length + bulkD d + 1
  | (_, d) => bulkD d + 1
end
theorem bulkL_sum (l : List (DataW H)) : bulkL l = (l.map bulkD).sum := by
  induction l with
  | nil => rfl
  | cons d r ih => rw [bulkL, ih, List.map_cons, List.sum_cons]
theorem toVF_eq (l : List (DataW H)) : toVF l = flatV (l.map toV) := by
  induction l with
  | nil => rfl
  | cons d r ih => rw [toVF, ih, List.map_cons, flatV]
variable {P : Program} {enc : TypeId × Value → H} {W : World}
theorem weightsAll_mem {e : TypeId} {l : List (DataW H)} (h : (DataW.weightsAll P e l).all (· ≤ reachBytes) = true) {d : DataW H} (hd : d ∈ l) : (d.weights P e).all (· ≤ reachBytes) = true := by
  induction l with
  | nil => cases hd
  | cons x r ih =>
    rw [DataW.weightsAll, List.all_append, Bool.and_eq_true] at h
    rcases List.mem_cons.1 hd with rfl | hd
    · exact h.1
    · exact ih h.2 hd

theorem ofTyL_len : ∀ {ss : List Sh} {ts : List TypeId}, Sh.ofTyL P ss ts = true → ss.length = ts.length
  | [], [], _ => rfl
  | _ :: _, [], h => by simp [Sh.ofTyL] at h
  | [], _ :: _, h => by simp [Sh.ofTyL] at h
  | s :: ss, t :: ts, h => by
    simp only [Sh.ofTyL, Bool.and_eq_true] at h
    simp [ofTyL_len h.2]

theorem trod_sh {sp : Nat → Bool} {hd : Bool} : ∀ (n : Nat) (s : Sh) (t : TypeId) (cs : List Value) (x : DataW H × List MemPlace), s.ofTy P t = true → DataW.trod enc P W 0 sp hd n t cs = some x → (x.1.weights P t).all (· ≤ reachBytes) = true → s.has (bulkD x.1) (toV x.1) := by
  intro n
  induction n with
  | zero => intro s t cs x _ h; simp [DataW.trod] at h
  | succ n ih =>
    intro s t cs x hs h hw
    cases s with
    | int k =>
      unfold Sh.ofTy at hs
      split at hs
      · rename_i k' hu
        simp only [decide_eq_true_eq] at hs
        subst hs
        obtain ⟨m, rfl, rfl, hwf⟩ := DataW.trod_int hu h
        exact ⟨m, by simp only [toV], hwf, by simp only [bulkD]; omega⟩
      · cases hs
    | bool =>
      unfold Sh.ofTy at hs
      split at hs
      · rename_i hu
        obtain ⟨b, rfl, rfl⟩ := DataW.trod_bool hu h
        exact ⟨b, by simp only [toV], by simp only [bulkD]; omega⟩
      · cases hs
    | str =>
      unfold Sh.ofTy at hs
      split at hs
      · rename_i hu
        obtain ⟨b, rfl, rfl, _⟩ := DataW.trod_string hu h
        refine ⟨b.data.toList, by simp only [toV], by simp only [bulkD]; omega, ?_⟩
        simpa [DataW.weights] using hw
      · cases hs
    | list s =>
      unfold Sh.ofTy at hs
      split at hs
      · rename_i e hu
        simp only [Bool.and_eq_true, decide_eq_true_eq] at hs
        rcases DataW.trod_slice hu h with ⟨rfl, rfl⟩ | ⟨a, len, cap, elems, rest, m, hm, rfl, rfl, _, hlc, _, hel, hcell, _⟩
        · exact ⟨[], [], by simp only [toV]; rfl, rfl, by simp [bulkD], by simp [reachBytes], fun i hi => by simp at hi⟩
        · have hm' : m = n := by omega
          subst hm'
          simp only [DataW.weights, hu] at hw
          rw [List.all_cons, Bool.and_eq_true, List.all_append, Bool.and_eq_true, decide_eq_true_eq] at hw
          refine ⟨(elems.map (·.1)).map toV, (elems.map (·.1)).map bulkD, by simp only [toV, toVL_eq, List.length_map], by simp, ?_, ?_, fun i hi => ?_⟩
          · simp only [bulkD, ← bulkL_sum]; omega
          · simp only [List.length_map] at hw ⊢
            have := hw.1
            have h1 : elems.length + rest.length ≤ (elems.length + rest.length) * P.bytesOf e := Nat.le_mul_of_pos_right _ hs.2
            omega
          · simp only [List.length_map] at hi
            have h1 := hcell i (by omega)
            rw [List.getElem?_eq_getElem hi] at h1
            obtain ⟨ccs, h2, h3⟩ := Option.bind_eq_some_iff.1 h1
            have hmem : elems[i].1 ∈ elems.map (·.1) := List.mem_map_of_mem (List.getElem_mem hi)
            have := ih s e ccs _ hs.1 h3 (weightsAll_mem hw.2.1 hmem)
            simpa [List.getD_eq_getElem?_getD, hi] using this
      · cases hs
    | tup ss =>
      unfold Sh.ofTy at hs
      split at hs
      · rename_i fs hu
        obtain ⟨xs, m, hm, rfl, hl, hxs, hf⟩ := DataW.trod_struct hu h
        have hm' : m = n := by omega
        subst hm'
        simp only [DataW.weights, hu] at hw
        refine ⟨(xs.map (·.1)).map toV, (xs.map (·.1)).map bulkD, by simp only [toV, toVF_eq], by simp only [bulkD, ← bulkL_sum]; omega, ?_⟩
        have aux : ∀ (k : Nat) (gs : List Field) (ss : List Sh) (ys : List (DataW H × List MemPlace)), fs.toList.drop k = gs → xs.drop k = ys → Sh.ofTyL P ss (gs.map (·.type)) = true → (DataW.weightsEach P (gs.map (·.type)) (ys.map (·.1))).all (· ≤ reachBytes) = true →
            Sh.hasL ss ((ys.map (·.1)).map bulkD) ((ys.map (·.1)).map toV) := by
          intro k gs
          induction gs generalizing k with
          | nil =>
            intro ss ys hk hy ho _
            have hlen : ys = [] := by
              have h1 := congrArg List.length hk
              have h2 := congrArg List.length hy
              simp only [List.length_drop, List.length_nil, Array.length_toList] at h1 h2
              exact List.length_eq_zero_iff.1 (by omega)
            subst hlen
            cases ss with
            | nil => simp [Sh.hasL]
            | cons _ _ => simp [Sh.ofTyL] at ho
          | cons g gs ihg =>
            intro ss ys hk hy ho hwt
            cases ss with
            | nil => simp [Sh.ofTyL] at ho
            | cons s ss =>
              have hg : fs.toList[k]? = some g := by
                have := congrArg (fun l => l[0]?) hk
                simpa using this
              have hk' : fs.toList.drop (k + 1) = gs := by
                have := congrArg (List.drop 1) hk
                simpa [List.drop_drop, Nat.add_comm] using this
              have hkl : k < xs.length := by
                have := (List.getElem?_eq_some_iff.1 hg).1
                simp at this; omega
              have hy0 : ys = xs[k] :: xs.drop (k + 1) := by rw [← hy, List.drop_eq_getElem_cons hkl]
              subst hy0
              simp only [List.map_cons, Sh.ofTyL, Bool.and_eq_true] at ho
              simp only [List.map_cons, DataW.weightsEach] at hwt
              rw [List.all_append, Bool.and_eq_true] at hwt
              have h1 := hf k g (by simpa using hg)
              rw [List.getElem?_eq_getElem hkl] at h1
              simp only [List.map_cons, Sh.hasL]
              exact ⟨ih s g.type _ _ ho.1 h1 hwt.1, ihg (k + 1) ss _ hk' rfl ho.2 hwt.2⟩
        simpa using aux 0 fs.toList ss xs (by simp) (by simp) hs hw
      · cases hs
/-- the arguments' shapes -/
def hasD : List Sh → List (DataW H) → Prop
  | [], [] => True
  | s :: ss, d :: ds => s.has (bulkD d) (toV d) ∧ hasD ss ds
  | _, _ => False
theorem args_sh {sp : Nat → Bool} {hd : Bool} : ∀ (ss : List Sh) (ts : List TypeId) (vs : List Value) (ds : List (DataW H)) (ps : List MemPlace), Sh.ofTyL P ss ts = true → DataW.TrodAll enc P W 0 sp hd ts vs ds ps → (DataW.weightsEach P ts ds).all (· ≤ reachBytes) = true → hasD ss ds
  | [], [], vs, ds, ps, _, h, _ => by
    obtain ⟨rfl, rfl, _⟩ := trodAll_nil h
    trivial
  | _ :: _, [], _, _, _, ho, _, _ => by simp [Sh.ofTyL] at ho
  | [], _ :: _, _, _, _, ho, _, _ => by simp [Sh.ofTyL] at ho
  | s :: ss, t :: ts, vs, ds, ps, ho, h, hw => by
    obtain ⟨v, vs', d, ds', p, q, rfl, rfl, rfl, ⟨n, h1⟩, h2⟩ := trodAll_cons h
    simp only [Sh.ofTyL, Bool.and_eq_true] at ho
    simp only [DataW.weightsEach] at hw
    rw [List.all_append, Bool.and_eq_true] at hw
    exact ⟨trod_sh n s t _ _ ho.1 h1 hw.1, args_sh ss ts vs' ds' q ho.2 h2 hw.2⟩
theorem law_open {s : ChangeSpec} {fn : Func} {apart : Bool} {args : Array Value} {ds gs : List (DataW H)} {before : List MemPlace} {vt : List TypeId} (hvars : s.vars = []) (hvt : vt = []) (hW : DataW.Whole enc P fn.params.toList s.vars apart W args.toList ds gs before)
    (hsz : (DataW.weightsEach P (fn.params.toList ++ vt) (ds ++ gs)).all (· ≤ reachBytes) = true) {ss : List Sh} (ho : Sh.ofTyL P ss fn.params.toList = true) : gs = [] ∧ hasD ss ds := by
  obtain ⟨p, q, hA, hV, _, _, _⟩ := hW
  rw [hvars] at hV
  obtain ⟨rfl, rfl⟩ := trodVars_none hV
  subst hvt
  rw [List.append_nil, List.append_nil] at hsz
  exact ⟨rfl, args_sh ss _ _ ds p ho hA hsz⟩
end
end Go.Abs
