import Derived.Test.YtppjlnagihefoaaDoorAbsA30
namespace Go.Abs
open Go
variable {G : PG}

/-- what comes back: a temporary, or what a cell holds -/
def res1 (P : Program) (s : St) : ResultVar → Option V
  | .tmp t => some (s.env t)
  | .cell a t => match s.env a with
    | .ptr id off => match s.heap id with
      | some (.cells cs) => bif Nat.ble (off + (ti P t).size) cs.length && Nat.ble 1 (ti P t).size then some (sub (ti P t).isAgg cs off (ti P t).size) else none
      | _ => none
    | _ => none
def resM (P : Program) (s : St) : List ResultVar → Option (List V)
  | [] => some []
  | a :: r => match res1 P s a, resM P s r with
    | some x, some l => some (x :: l)
    | _, _ => none
def resT : Option (List V) → Option V
  | some l => some (.tup l)
  | none => none
def resV (P : Program) (rs : List ResultVar) (s : St) : Option V := match rs with
  | [a] => res1 P s a
  | l => resT (resM P s l)
abbrev resOp (tmps : Array Value) : ResultVar → Sem Value
  | .tmp t => pure (tmps.getD t undef)
  | .cell a t => do loadVar t (← asAddr (tmps.getD a undef))
theorem res1_ok {S : Sv} (hs : Sim G S) {s : St} {a : Act} (hh : S.h = s.heap) (he : RepE S s.env a.tmps) {x : V} (P : Program) (rv : ResultVar) (hr : res1 P s rv = some x) : ∃ v, (resOp a.tmps rv).run P S.w = .ok v S.w ∧ S.rep x v := by
  cases rv with
  | tmp t => simp only [res1] at hr; cases hr; exact ⟨_, rfl, he t⟩
  | cell a' t =>
    simp only [res1] at hr
    have hat := he a'
    split at hr
    · rename_i id off e
      rw [e] at hat
      obtain ⟨b, g1, hv⟩ := inv_ptr hat
      split at hr
      · rename_i cs hc
        cases hb : (Nat.ble (off + (ti P t).size) cs.length && Nat.ble 1 (ti P t).size) with
        | false => rw [hb] at hr; cases hr
        | true =>
          rw [hb] at hr
          simp only [cond_true, Option.some.injEq] at hr
          subst hr
          simp only [Bool.and_eq_true] at hb
          have hle := Nat.le_of_ble_eq_true hb.1
          have hp := Nat.le_of_ble_eq_true hb.2
          obtain ⟨b', arr, tt, lo, hi, k1, k2, k3, k4, k5⟩ := hs.blk id (.cells cs) (by rw [hh]; exact hc)
          rw [g1] at k1; cases k1
          obtain ⟨v, h1, h2⟩ := load_ok (P := P) (S := S) hp (cs := cs) (b := b) (off := off) (o := off) (fun j => arr.getD (off + j) undef) hle
            (fun j hj => by
              rw [cell_of_heap k2]
              have : off + j < arr.size := by omega
              simp [Array.getD, this])
            (fun j hj => (k5 _ (by omega)).1) (fun j hj => (k5 _ (by omega)).2)
          refine ⟨v, ?_, h2⟩
          simp only [resOp, hv]
          simpa [Instr.loadAt, Instr.sureAddr, asAddr] using h1
      · cases hr
    · cases hr
theorem resM_ok {S : Sv} (hs : Sim G S) {s : St} {a : Act} (hh : S.h = s.heap) (he : RepE S s.env a.tmps) (P : Program) : ∀ (rs : List ResultVar) (l : List V), resM P s rs = some l →
    ∃ vs : List Value, (rs.mapM (resOp a.tmps)).run P S.w = .ok vs S.w ∧ vs.length = rs.length ∧ vs.length = l.length ∧ ∀ i, i < l.length → S.rep (l.getD i .any) (vs.getD i undef)
  | [], l, hr => by
    simp only [resM] at hr
    cases hr
    exact ⟨[], rfl, rfl, rfl, fun i hi => by simp at hi⟩
  | rv :: rs, l, hr => by
    simp only [resM] at hr
    cases h1 : res1 P s rv with
    | none => rw [h1] at hr; cases hr
    | some x =>
      cases h2 : resM P s rs with
      | none => rw [h1, h2] at hr; cases hr
      | some l' =>
        rw [h1, h2] at hr
        cases hr
        obtain ⟨v, a1, a2⟩ := res1_ok hs hh he P rv h1
        obtain ⟨vs, b1, b2, b3, b4⟩ := resM_ok hs hh he P rs l' h2
        refine ⟨v :: vs, by simp only [List.mapM_cons, Sem.run_bind, a1, Result.andThen_ok, b1, Sem.run_pure], by simp [b2], by simp [b3], fun i hi => ?_⟩
        cases i with
        | zero => exact a2
        | succ i => simpa using b4 i (by simpa using hi)
theorem results_eq (fn : Func) (tmps : Array Value) (P : Program) (w : World) {vs : List Value} (h : (fn.results.toList.mapM (resOp tmps)).run P w = .ok vs w) (_hl : vs.length = fn.results.toList.length) :
    (results fn tmps).run P w = .ok (if h : vs.toArray.size = 1 then vs.toArray[0] else .tuple vs.toArray) w := by
  have e : results fn tmps = (fn.results.mapM (resOp tmps) >>= fun vs => pure (if h : vs.size = 1 then vs[0] else .tuple vs)) := by
    unfold results
    congr 1
  have e2 : fn.results.mapM (resOp tmps) = Functor.map List.toArray (fn.results.toList.mapM (resOp tmps)) := by
    rw [← List.mapM_toArray]
  rw [e, e2, map_eq_pure_bind]
  simp only [Sem.run_bind, h, Result.andThen_ok, Sem.run_pure]
theorem resV_ok {fn : Func} {s : St} {a : Act} {γ : Gh} {imm : Nat → Prop} {w : World} (hs : Sim G ⟨γ, imm, s.heap, w⟩) (he : RepE ⟨γ, imm, s.heap, w⟩ s.env a.tmps) {x : V} (P : Program) (hr : resV P fn.results.toList s = some x) :
    ∃ v, (results fn a.tmps).run P w = .ok v w ∧ RepV γ imm w x v := by
  generalize hl : fn.results.toList = rs at hr
  unfold resV at hr
  split at hr
  · rename_i rv
    obtain ⟨v, h1, h2⟩ := res1_ok hs rfl he P rv hr
    refine ⟨v, ?_, h2⟩
    have := results_eq fn a.tmps P w (vs := [v]) (by rw [hl]; simp only [List.mapM_cons, List.mapM_nil, Sem.run_bind, h1, Result.andThen_ok, Sem.run_pure]) (by rw [hl]; rfl)
    rw [this]
    simp
  · rename_i hne
    cases hm : resM P s rs with
    | none => rw [hm] at hr; cases hr
    | some l =>
      rw [hm] at hr
      simp only [resT, Option.some.injEq] at hr
      subst hr
      obtain ⟨vs, h1, h2, h3, h4⟩ := resM_ok hs rfl he P rs l hm
      have := results_eq fn a.tmps P w (vs := vs) (by rw [hl]; exact h1) (by rw [hl]; exact h2)
      have hsz : ¬ vs.toArray.size = 1 := by
        intro e
        have : rs.length = 1 := by rw [← h2]; simpa using e
        obtain ⟨rv, rfl⟩ := List.length_eq_one_iff.1 this
        exact hne rv rfl
      rw [dif_neg hsz] at this
      exact ⟨_, this, .tup l vs h3 h4⟩

def isEnd : Exit → Bool
  | .normal => true
  | .ret => true
  | _ => false
def argE (args : List V) : Env := fun t => args.getD t .any
/-- only identities of l are named -/
def onlyIds (l : HL) (r : V) : Prop := ∀ id, V.men id r = true → (hOf l id).isSome = true
theorem noId_men (x : V) : V.noId x = true → ∀ id, V.men id x = false := by
  intro h id
  revert h
  refine V.rec (motive_1 := fun x => V.noId x = true → V.men id x = false) (motive_2 := fun l => V.noIdL l = true → V.menL id l = false)
    ?_ ?_ ?_ ?_ ?_ ?_ ?_ ?_ ?_ ?_ ?_ ?_ ?_ ?_ ?_ ?_ ?_ ?_ ?_ x
  all_goals intros
  all_goals first
    | (simp only [V.men, V.menL]; done)
    | (simp_all [V.men, V.menL, V.noId, V.noIdL]; done)

/-- what the body leaves -/
def PostV (P : Program) (fn : Func) (r : V) (hl' : HL) (e : Exit) (s : St) : Prop :=
  isEnd e = true ∧ ∃ s', Le s s' ∧ (match resV P fn.results.toList s' with
    | some x => VLe x r
    | none => False) ∧ leH s' hl'

theorem fcall_of {c : Cfg} (hc : CfgOk c) {f : FuncId} {fn : Func} {code : Code} (hf : c.P.funcs[f]? = some fn) (hb : fn.body = some code) (hent : entB c.P f = true) (hn : fn.ntmps = c.n) (hn9 : c.n ≤ 8999) (hok : codeOk c.an code = true)
    {args : List V} (ha : args.length ≤ c.n) {hl hl' : HL} {r : V} (hids : ∀ id, (hOf hl id).isSome = true → 9000 ≤ id) (hids' : ∀ id, (hOf hl' id).isSome = true → (hOf hl id).isSome = true) (hr : onlyIds hl r)
    (hbl : ∀ id b, hOf hl' id = some b → ∀ j, b.men j → (hOf hl j).isSome = true)
    {K : Exit → St → Prop} (hK : ∀ e s, K e s → PostV c.P fn r hl' e s) (h : exec c code ⟨argE args, hOf hl⟩ K) : FCall c.G f args hl r hl' := by
  refine fun S vals hs hh hlen hreps => .inl ⟨hent, ?_⟩
  refine calls_of_wp hf hb ?_
  have hrel : Rel c.G c.n S ⟨argE args, hOf hl⟩ { tmps := vals.toArray ++ Array.replicate (fn.ntmps - vals.toArray.size) undef, defers := [] } S.w := by
    refine ⟨S.γ, S.imm, by rw [← hh]; exact hs, by rw [← hh]; exact Ext.refl _ _, fun t => ?_, rfl, ?_, hn9⟩
    · show RepV S.γ S.imm S.w (args.getD t .any) _
      by_cases ht : t < args.length
      · have : (vals.toArray ++ Array.replicate (fn.ntmps - vals.toArray.size) undef).getD t undef = vals.getD t undef := by
          have : t < vals.length := by omega
          simp [List.getD_eq_getElem?_getD, Array.getElem?_append, this]
        rw [this]
        exact hreps t ht
      · rw [List.getD_eq_getElem?_getD, List.getElem?_eq_none (by omega)]
        exact .any _
    · simp; omega
  refine wp_mono (exec_sound hc code hok S _ _ _ _ hrel h) fun e a w he => ?_
  obtain ⟨s, hrel', hk⟩ := he
  obtain ⟨hend, s', hle, hres, hheap⟩ := hK _ _ hk
  obtain ⟨γ, imm, q1, q2, q3, q4, q5, q6⟩ := hle _ _ _ _ _ hrel'
  have hpost : a.defers = [] ∧ ∃ v, (results fn a.tmps).run c.P w = .ok v w ∧ ∃ v' γ' imm', Ending.returned v = .returned v' ∧ Sim c.G ⟨γ', imm', hOf hl', w⟩ ∧ Ext (fun _ => False) S ⟨γ', imm', hOf hl', w⟩ ∧ (∀ id, hOf hl id = none → γ' id = S.γ id) ∧ RepV γ' imm' w r v' := by
    refine ⟨q4, ?_⟩
    cases hx : resV c.P fn.results.toList s' with
    | none => rw [hx] at hres; exact hres.elim
    | some x =>
      rw [hx] at hres
      obtain ⟨v, hv1, hv2⟩ := resV_ok (fn := fn) q1 q3 c.P hx
      have hv3 := hres _ _ _ _ hv2
      let γ' : Gh := fun id => if (hOf hl id).isSome = true then γ id else S.γ id
      have g1 : ∀ id, (hOf hl id).isSome = true → γ' id = γ id := fun id hid => by simp only [γ', hid, if_true]
      have g0 : ∀ id, hOf hl id = none → γ' id = S.γ id := fun id hid => by simp [γ', hid]
      have hsome : ∀ id, (hOf hl' id).isSome = true → (s'.heap id).isSome = true := fun id hid => by
        obtain ⟨b, hb⟩ := Option.isSome_iff_exists.1 hid
        obtain ⟨b', hb', _⟩ := leH_ok hheap id b hb
        rw [hb']; rfl
      refine ⟨v, hv1, v, γ', imm, rfl, ⟨fun id b hb => ?_, fun i j b hi hj h1 h2 => ?_, q1.immLt, fun b ⟨i, hi, hbi⟩ => ?_, q1.tab.of (fun _ h => h) fun _ _ => rfl⟩, ⟨q2.os, q2.tape, q2.output, q2.size, fun b hb ho => q2.keep b hb ho, q2.imm, q2.immNew, fun b ⟨i, hi, hbi⟩ => ?_, fun id _ => ?_⟩, g0, ?_⟩
      · obtain ⟨b', hb', hle⟩ := leH_ok hheap id b hb
        have := hle.ok (q1.blk id b' hb')
        have hsm : (hOf hl' id).isSome = true := by
          have hb2 : hOf hl' id = some b := hb
          rw [hb2]; rfl
        exact this.mono (fun _ h => h) (fun _ _ => rfl) (fun _ _ => rfl) (g1 id (hids' id hsm)) fun j hj => by
          have := g1 j (hbl id b hb j hj)
          show Evo (γ j) (γ' j)
          rw [this]; exact .refl _
      · simp only [g1 i (hids' i hi)] at h1
        simp only [g1 j (hids' j hj)] at h2
        exact q1.inj i j b (hsome i hi) (hsome j hj) h1 h2
      · simp only [g1 i (hids' i hi)] at hbi
        exact q1.disj b ⟨i, hsome i hi, hbi⟩
      · simp only [g1 i (hids' i hi)] at hbi
        exact q2.own b ⟨i, hsome i hi, hbi⟩
      · by_cases hid : (hOf hl id).isSome = true
        · show Evo (S.γ id) (γ' id)
          rw [g1 id hid]
          exact q2.evo id (by have := hids id hid; simp; omega)
        · show Evo (S.γ id) (γ' id)
          rw [g0 id (by simpa using hid)]; exact .refl _
      · exact hv3.mono (fun _ h => h) (fun _ _ => rfl) fun id hid => by rw [g1 id (hr id hid)]; exact .refl _
  cases e with
  | normal => exact hpost
  | ret => exact hpost
  | _ => cases hend

/-- a call that leaves no trace -/
theorem pcall_of {c : Cfg} (hc : CfgOk c) {f : FuncId} {fn : Func} {code : Code} (hf : c.P.funcs[f]? = some fn) (hb : fn.body = some code) (hent : entB c.P f = true) (hn : fn.ntmps = c.n) (hn9 : c.n ≤ 8999) (hok : codeOk c.an code = true)
    {args : List V} (ha : args.length ≤ c.n) {r : V} (hr : r.noId = true) {K : Exit → St → Prop} (hK : ∀ e s, K e s → PostV c.P fn r [] e s) (h : exec c code ⟨argE args, hOf []⟩ K) : PCall c.G f args r := by
  refine fcall_of hc hf hb hent hn hn9 hok ha (fun id h => by cases h) (fun id h => h) (fun id hid => ?_) (fun id b h => by cases h) hK h
  rw [noId_men r hr id] at hid; cases hid
end Go.Abs
