import Derived.Test.YtbbfmiinpdaajaaAbsA30
namespace Go.Abs
open Go

/-- what comes back -/
def resV (rs : List ResultVar) (e : Env) : Option V := match rs with
  | [] => some (.tup [])
  | [.tmp t] => some (e t)
  | [.tmp t, .tmp u] => some (.tup [e t, e u])
  | [.tmp t, .tmp u, .tmp x] => some (.tup [e t, e u, e x])
  | _ => none
theorem resV_ok {fn : Func} {e : Env} {a : Act} {γ : Gh} {imm : Nat → Prop} {h : Heap} {w : World} (he : RepE ⟨γ, imm, h, w⟩ e a.tmps) {x : V} (hr : resV fn.results.toList e = some x) (P : Program) :
    ∃ v, (results fn a.tmps).run P w = .ok v w ∧ RepV γ imm w x v := by
  have arr : ∀ l, fn.results.toList = l → fn.results = l.toArray := fun l h => by rw [← h]
  unfold resV at hr
  split at hr
  · rename_i hl
    cases hr
    exact ⟨_, results_none (arr _ hl) _ _ _, .tup [] [] rfl fun i hi => by simp at hi⟩
  · rename_i t hl
    cases hr
    exact ⟨_, results_tmp (arr _ hl) _ _ _, he t⟩
  · rename_i t u hl
    cases hr
    refine ⟨_, results_tmp2 (arr _ hl) _ _ _, .tup _ [a.tmps.getD t undef, a.tmps.getD u undef] rfl fun i hi => ?_⟩
    match i, hi with
    | 0, _ => exact he t
    | 1, _ => exact he u
  · rename_i t u y hl
    cases hr
    refine ⟨_, results_tmp3 (arr _ hl) _ _ _, .tup _ [a.tmps.getD t undef, a.tmps.getD u undef, a.tmps.getD y undef] rfl fun i hi => ?_⟩
    match i, hi with
    | 0, _ => exact he t
    | 1, _ => exact he u
    | 2, _ => exact he y
  · cases hr

def isEnd : Exit → Bool
  | .normal => true
  | .ret => true
  | _ => false
def argE (args : List V) : Env := fun t => args.getD t .any
/-- only identities of l are named -/
def onlyIds (l : HL) (r : V) : Prop := ∀ id, V.men id r = true → (hOf l id).isSome = true
theorem noId_men (x : V) : V.noId x = true → ∀ id, V.men id x = false := by
  intro h id
  revert h
  refine V.rec (motive_1 := fun x => V.noId x = true → V.men id x = false) (motive_2 := fun l => V.noIdL l = true → V.menL id l = false)
    ?_ ?_ ?_ ?_ ?_ ?_ ?_ ?_ ?_ ?_ ?_ ?_ ?_ ?_ ?_ ?_ ?_ ?_ x
  all_goals intros
  all_goals first
    | (simp only [V.men, V.menL]; done)
    | (simp_all [V.men, V.menL, V.noId, V.noIdL]; done)

/-- what the body leaves -/
def PostV (fn : Func) (r : V) (hl' : HL) (e : Exit) (s : St) : Prop :=
  isEnd e = true ∧ ∃ s', Le s s' ∧ (match resV fn.results.toList s'.env with
    | some x => VLe x r
    | none => False) ∧ leH s' hl'

theorem fcall_of {c : Cfg} (hc : CfgOk c) {f : FuncId} {fn : Func} {code : Code} (hf : c.P.funcs[f]? = some fn) (hb : fn.body = some code) (hent : entB c.P f = true) (hn : fn.ntmps = c.n) (hn9 : c.n ≤ 8999) (hok : codeOk c.an code = true)
    {args : List V} (ha : args.length ≤ c.n) {hl hl' : HL} {r : V} (hids : ∀ id, (hOf hl id).isSome = true → 9000 ≤ id) (hids' : ∀ id, (hOf hl' id).isSome = true → (hOf hl id).isSome = true) (hr : onlyIds hl r)
    (hbl : ∀ id b, hOf hl' id = some b → ∀ j, b.men j → (hOf hl j).isSome = true)
    {K : Exit → St → Prop} (hK : ∀ e s, K e s → PostV fn r hl' e s) (h : exec c code ⟨argE args, hOf hl⟩ K) : FCall c.P f args hl r hl' := by
  refine fun S vals hs hh hlen hreps => .inl ⟨hent, ?_⟩
  refine calls_of_wp hf hb ?_
  have hrel : Rel c.n S ⟨argE args, hOf hl⟩ { tmps := vals.toArray ++ Array.replicate (fn.ntmps - vals.toArray.size) undef, defers := [] } S.w := by
    refine ⟨S.γ, S.imm, by rw [← hh]; exact hs, by rw [← hh]; exact Ext.refl _ _, fun t => ?_, rfl, ?_, hn9⟩
    · show RepV S.γ S.imm S.w (args.getD t .any) _
      by_cases ht : t < args.length
      · have : (vals.toArray ++ Array.replicate (fn.ntmps - vals.toArray.size) undef).getD t undef = vals.getD t undef := by
          have : t < vals.length := by omega
          simp [List.getD_eq_getElem?_getD, Array.getElem?_append, this]
        rw [this]
        exact hreps t ht
      · rw [List.getD_eq_getElem?_getD, List.getElem?_eq_none (by omega)]
        exact .any _
    · simp; omega
  refine wp_mono (exec_sound hc code hok S _ _ _ _ hrel h) fun e a w he => ?_
  obtain ⟨s, hrel', hk⟩ := he
  obtain ⟨hend, s', hle, hres, hheap⟩ := hK _ _ hk
  obtain ⟨γ, imm, q1, q2, q3, q4, q5, q6⟩ := hle _ _ _ _ hrel'
  have hpost : a.defers = [] ∧ ∃ v, (results fn a.tmps).run c.P w = .ok v w ∧ ∃ v' γ' imm', Ending.returned v = .returned v' ∧ Sim ⟨γ', imm', hOf hl', w⟩ ∧ Ext (fun _ => False) S ⟨γ', imm', hOf hl', w⟩ ∧ (∀ id, hOf hl id = none → γ' id = S.γ id) ∧ RepV γ' imm' w r v' := by
    refine ⟨q4, ?_⟩
    cases hx : resV fn.results.toList s'.env with
    | none => rw [hx] at hres; exact hres.elim
    | some x =>
      rw [hx] at hres
      obtain ⟨v, hv1, hv2⟩ := resV_ok (fn := fn) q3 hx c.P
      have hv3 := hres _ _ _ _ hv2
      let γ' : Gh := fun id => if (hOf hl id).isSome = true then γ id else S.γ id
      have g1 : ∀ id, (hOf hl id).isSome = true → γ' id = γ id := fun id hid => by simp only [γ', hid, if_true]
      have g0 : ∀ id, hOf hl id = none → γ' id = S.γ id := fun id hid => by simp [γ', hid]
      have hsome : ∀ id, (hOf hl' id).isSome = true → (s'.heap id).isSome = true := fun id hid => by
        obtain ⟨b, hb⟩ := Option.isSome_iff_exists.1 hid
        obtain ⟨b', hb', _⟩ := leH_ok hheap id b hb
        rw [hb']; rfl
      refine ⟨v, hv1, v, γ', imm, rfl, ⟨fun id b hb => ?_, fun i j b hi hj h1 h2 => ?_, q1.immLt, fun b ⟨i, hi, hbi⟩ => ?_⟩, ⟨q2.os, q2.tape, q2.output, q2.size, fun b hb ho => q2.keep b hb ho, q2.imm, q2.immNew, fun b ⟨i, hi, hbi⟩ => ?_, fun id _ => ?_⟩, g0, ?_⟩
      · obtain ⟨b', hb', hle⟩ := leH_ok hheap id b hb
        have := hle.ok (q1.blk id b' hb')
        have hsm : (hOf hl' id).isSome = true := by
          have hb2 : hOf hl' id = some b := hb
          rw [hb2]; rfl
        exact this.mono (fun _ h => h) (fun _ _ => rfl) (fun _ _ => rfl) (g1 id (hids' id hsm)) fun j hj => by
          have := g1 j (hbl id b hb j hj)
          show Evo (γ j) (γ' j)
          rw [this]; exact .refl _
      · simp only [g1 i (hids' i hi)] at h1
        simp only [g1 j (hids' j hj)] at h2
        exact q1.inj i j b (hsome i hi) (hsome j hj) h1 h2
      · simp only [g1 i (hids' i hi)] at hbi
        exact q1.disj b ⟨i, hsome i hi, hbi⟩
      · simp only [g1 i (hids' i hi)] at hbi
        exact q2.own b ⟨i, hsome i hi, hbi⟩
      · by_cases hid : (hOf hl id).isSome = true
        · show Evo (S.γ id) (γ' id)
          rw [g1 id hid]
          exact q2.evo id (by have := hids id hid; simp; omega)
        · show Evo (S.γ id) (γ' id)
          rw [g0 id (by simpa using hid)]; exact .refl _
      · exact hv3.mono (fun _ h => h) (fun _ _ => rfl) fun id hid => by rw [g1 id (hr id hid)]; exact .refl _
  cases e with
  | normal => exact hpost
  | ret => exact hpost
  | _ => cases hend

/-- a call that leaves no trace -/
theorem pcall_of {c : Cfg} (hc : CfgOk c) {f : FuncId} {fn : Func} {code : Code} (hf : c.P.funcs[f]? = some fn) (hb : fn.body = some code) (hent : entB c.P f = true) (hn : fn.ntmps = c.n) (hn9 : c.n ≤ 8999) (hok : codeOk c.an code = true)
    {args : List V} (ha : args.length ≤ c.n) {r : V} (hr : r.noId = true) {K : Exit → St → Prop} (hK : ∀ e s, K e s → PostV fn r [] e s) (h : exec c code ⟨argE args, hOf []⟩ K) : PCall c.P f args r := by
  refine fcall_of hc hf hb hent hn hn9 hok ha (fun id h => by cases h) (fun id h => h) (fun id hid => ?_) (fun id b h => by cases h) hK h
  rw [noId_men r hr id] at hid; cases hid
end Go.Abs
