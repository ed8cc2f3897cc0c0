import Derived.Test.YtppjlnagihefoaaDoorAbsA40
namespace Go.Abs
open Go Go.ChangeShapes Go.RowKit
variable {G : PG}
section
variable {P : Program} {L : List TypeId} {H : Type} {enc : TypeId × Value → H} {W : World}

/-- an argument is represented by its datum -/
theorem arg_rep (hL : okTys P L = true) {r : Reach} {b0 : Nat} {sp : Nat → Bool} {hd : Bool} {t : TypeId} (ht : t ∈ L) {v : Value} {d : DataW H} {ps : List MemPlace} (hval : Value.okWide P W r b0 t v)
    (h : DataW.Trod enc P W 0 sp hd t v d ps) : RepP (· < W.heap.size) W (toV d) v := by
  obtain ⟨n, hn⟩ := h
  obtain ⟨h1, h2⟩ := trod_rep hL n t _ _ ht hn
  simp only at h1 h2
  rcases h2 with ⟨fs, hu⟩ | ⟨c, hc, _, hr⟩
  · unfold Value.okWide at hval
    rw [hu] at hval
    obtain ⟨cs, rfl, _, _⟩ := hval
    obtain ⟨xs, m, rfl, hx, _⟩ := DataW.trod_struct hu hn
    obtain ⟨rfl, _⟩ := Prod.mk.inj hx
    rw [flat_toV_agg] at h1
    have hcs : (Value.agg cs).cells.toList.toArray = cs := by simp [Value.cells]
    rw [toV]
    have := RepP.agg (imm := (· < W.heap.size)) (w := W) (toVF (xs.map (·.1))) (Value.agg cs).cells.toList h1.1.symm (fun i hi => (h1.2 i (by rw [← h1.1]; exact hi)).1) (fun i hi => (h1.2 i (by rw [← h1.1]; exact hi)).2)
    rw [hcs] at this
    exact this
  · have hv : v = c := by
      have hok := okTys_at hL ht
      unfold okTy1 at hok
      cases v with
      | agg cs =>
        exfalso
        unfold Value.okWide at hval
        cases hu : P.underlying t with
        | none => rw [hu] at hok; cases hok
        | some d' =>
          rw [hu] at hok hval
          cases d' with
          | struct fs =>
            obtain ⟨xs, m, rfl, hx, _⟩ := DataW.trod_struct hu hn
            obtain ⟨rfl, _⟩ := Prod.mk.inj hx
            rw [toV] at hr
            have hc' : (Value.agg cs).cells = #[c] := by
              apply Array.ext'
              exact hc
            simp only [Value.cells] at hc'
            subst hc'
            have ho := (h1.2 0 (by simp [Value.cells])).2
            cases hr with
            | agg _ vs _ _ _ => simp [one, Value.cells, Value.oneCell'] at ho
          | bool => simp [Cell.okWide, Cell.ok, hu] at hval
          | int k => simp [Cell.okWide, Cell.ok, hu] at hval
          | string => simp [Cell.okWide, Cell.ok, hu] at hval
          | slice e => simp [Cell.okWide, Cell.ok, hu] at hval
          | _ => cases hok
      | _ => simpa [Value.cells] using hc
    subst hv
    exact hr

theorem args_rep (hL : okTys P L = true) {r : Reach} {b0 : Nat} {sp : Nat → Bool} {hd : Bool} : ∀ (ts : List TypeId) (vs : List Value) (ds : List (DataW H)) (ps : List MemPlace), (∀ t ∈ ts, t ∈ L) → (∀ (j : Nat) t v, ts[j]? = some t → vs[j]? = some v → Value.okWide P W r b0 t v) →
    DataW.TrodAll enc P W 0 sp hd ts vs ds ps → vs.length = ds.length ∧ ∀ i, i < ds.length → RepP (· < W.heap.size) W ((ds.map toV).getD i .any) (vs.getD i undef)
  | [], vs, ds, ps, _, _, h => by
    obtain ⟨rfl, rfl, _⟩ := trodAll_nil h
    exact ⟨rfl, fun i hi => by simp at hi⟩
  | t :: ts, vs, ds, ps, hts, hval, h => by
    obtain ⟨v, vs', d, ds', p, q, rfl, rfl, rfl, h1, h2⟩ := trodAll_cons h
    obtain ⟨k1, k2⟩ := args_rep hL ts vs' ds' q (fun t ht => hts t (by simp [ht])) (fun j t v hj hv => hval (j + 1) t v (by simpa using hj) (by simpa using hv)) h2
    refine ⟨by simp [k1], fun i hi => ?_⟩
    cases i with
    | zero => exact arg_rep hL (hts t (by simp)) (hval 0 t v rfl rfl) h1
    | succ i => simpa using k2 i (by simpa using hi)

theorem trodAll_stays (hL : okTys P L = true) {W' : World} {n : Nat} (hsame : ∀ b, b < n → W'.heap[b]? = W.heap[b]?) {sp' : Nat → Bool} : ∀ (ts : List TypeId) (vs : List Value) (ds : List (DataW H)) (ps : List MemPlace), (∀ t ∈ ts, t ∈ L) → (∀ p ∈ ps, p.block < n) → (∀ p ∈ ps, sp' p.block = true) →
    DataW.TrodAll enc P W 0 (fun _ => true) true ts vs ds ps → DataW.TrodAll enc P W' 0 sp' true ts vs ds ps
  | [], vs, ds, ps, _, _, _, h => by
    obtain ⟨rfl, rfl, rfl⟩ := trodAll_nil h
    rfl
  | t :: ts, vs, ds, ps, hts, hlt, hsp, h => by
    obtain ⟨v, vs', d, ds', p, q, rfl, rfl, rfl, h1, h2⟩ := trodAll_cons h
    obtain ⟨m, hm⟩ := h1
    have K := kids_ok hL
    refine ⟨p, q, ⟨m, ?_⟩, trodAll_stays hL hsame ts vs' ds' q (fun t ht => hts t (by simp [ht])) (fun x hx => hlt x (by simp [hx])) (fun x hx => hsp x (by simp [hx])) h2, rfl⟩
    refine DataW.trod_stays K (fun ht hu => (okTys_slice hL ht hu).2) (fun h => by cases h) (hts t (by simp)) hm (fun x hx => ?_) (fun x hx => hsp x (by simp [show x ∈ p from hx]))
    have hb := hsame x.block (hlt x (by simp [show x ∈ p from hx]))
    cases x with
    | cell b off => exact cell_same hb off
    | map b => exact hb

theorem keptBut_of_same {W' : World} (ho : W'.os = W.os) (hout : W'.output = W.output) (hsame : ∀ b, b < W.heap.size → W'.heap[b]? = W.heap[b]?) (may : MemPlace → Prop) : W.keptBut W' may := by
  refine ⟨ho, hout, fun i hi => ?_⟩
  rw [hsame i hi]
  exact (World.keptBut_refl W may).2.2 i hi

/-- A LAW, FROM ITS CONTRACT. -/
theorem law_calls (hL : okTys P L = true) {f : FuncId} {fn : Func} {s : ChangeSpec} {tb : TypeId} (hent : entB P f = true) (hpar : fn.params.toList.all (fun t => L.contains t) = true) (hvars : s.vars = []) (hres : fn.resultTypes = #[tb])
    (htb : P.underlying tb = some .bool) {base : Nat} {args : Array Value} {ds gs : List (DataW H)} {before : List MemPlace}
    (hval : ∀ (j : Nat) t v, fn.params[j]? = some t → args[j]? = some v → Value.okWide P W .any base t v) (hW : DataW.Whole enc P fn.params.toList s.vars false W args.toList ds gs before)
    (hs : s.fn H (ds ++ gs) = { results := [.lit (.bool true)], args := ds }) {G : PG} (hG : G.prog = P) (hok : G.ok W) (hgl : G.n ≤ W.heap.size) (hp : PCall G f (ds.map toV) (.bool true)) :
    Calls P f args W fun e W' => ∃ v, e = .returned v ∧ s.post enc P fn false true false false W args v W' := by
  subst hG
  have hts : ∀ t ∈ fn.params.toList, t ∈ L := fun t ht => by simpa using List.all_eq_true.1 hpar t ht
  have hW0 := hW
  obtain ⟨p, q, hA, hV, rfl, hfz, hnd⟩ := hW
  rw [hvars] at hV
  obtain ⟨rfl, rfl⟩ := trodVars_none hV
  obtain ⟨hlen, hrep⟩ := args_rep hL fn.params.toList args.toList ds p hts (fun j t v hj hv => hval j t v (by simpa using hj) (by simpa using hv)) hA
  let S : Sv := ⟨fun _ => undef, (· < W.heap.size), fun _ => none, W⟩
  have hsim : Sim G S := ⟨fun id b hb => (by cases hb), fun i j b hi => (by cases hi), fun b hb => hb, fun b ⟨id, hi, _⟩ => (by cases hi), hok, fun b hb => Nat.lt_of_lt_of_le hb hgl⟩
  have hc := hp S args.toList hsim rfl (by simpa using hlen) (fun i hi => .pure (hrep i (by simpa using hi)))
  rcases hc with ⟨_, hc⟩ | ⟨v, w', hrun, _⟩
  · have harr : args.toList.toArray = args := by simp
    rw [harr] at hc
    refine hc.mono fun e W' ⟨v, γ', imm', he, hsim', hext, _, hr⟩ => ?_
    have hv := inv_bool (S := ⟨γ', imm', hOf [], W'⟩) hr
    subst hv
    refine ⟨_, he, ?_⟩
    have hsame : ∀ b, b < W.heap.size → W'.heap[b]? = W.heap[b]? := fun b hb => hext.keep b hb fun ⟨id, hi, _⟩ => by cases hi
    have hlt : ∀ x ∈ p, x.block < W.heap.size := fun x hx => hW0.lt x (by simp [hx])
    have hlt' : ∀ x ∈ p, (fun b => decide (b < W.heap.size)) x.block = true := fun x hx => by simpa using hlt x hx
    refine ⟨ds, [], p ++ [], [], p, [], hW0, ?_, ?_, ?_, ?_, fun h => by cases h⟩
    · rw [hs, hres]
      exact trodAll_mk1 (shut_bool htb true)
    · rw [hs]
      exact trodAll_stays hL hsame fn.params.toList args.toList ds p hts hlt hlt' hA
    · rw [hs, hvars]
      exact rfl
    · exact keptBut_of_same hext.os hext.output hsame _
  · exfalso
    have := entB_run hent args.toList.toArray W
    rw [show (callFunc f args.toList.toArray).run G.prog W = (callFunc f args.toList.toArray).run G.prog S.w from rfl, hrun] at this
    cases this
end
end Go.Abs
