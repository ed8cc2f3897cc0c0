/- the executor, part 3 -/
import Derived.Test.YtoahlpjghbhbaaaGreatDoorAbsK2

namespace Go.Abs
open Go Go.RowKit
variable {G : PG}

/- contracts of the library's functions that are handed slices of bytes -/
theorem pcall_rep {f : FuncId} (hent : entB G.prog f = true) {args : List V} {r : V}
    (h : ∀ (S : Sv) (vals : List Value), G.ok S.w → vals.length = args.length → (∀ i, i < args.length → S.rep (args.getD i .any) (vals.getD i undef)) →
      Calls G.prog f vals.toArray S.w fun e w' => ∃ v, e = .returned v ∧ World.grow S.w w' ∧ ∀ γ imm, (∀ b, S.imm b → imm b) → (∀ b, S.w.heap.size ≤ b → b < w'.heap.size → imm b) → RepV γ imm w' r v) : PCall G f args r := by
  intro S vals hs hh hl hr
  refine .inl ⟨hent, (h S vals hs.tab.1 hl hr).mono fun e w' ⟨v, he, hg, hrep⟩ => ?_⟩
  obtain ⟨g1, g2⟩ := Sim.grow hs (fun _ => False) w' (fun b => S.imm b ∨ (S.w.heap.size ≤ b ∧ b < w'.heap.size)) hg (fun _ h => .inl h) (fun b hb => hb)
  refine ⟨v, S.γ, (fun b => S.imm b ∨ (S.w.heap.size ≤ b ∧ b < w'.heap.size)), he, ?_, ?_, fun _ _ => rfl, hrep _ _ (fun b h => Or.inl h) fun b h1 h2 => Or.inr ⟨h1, h2⟩⟩
  · rw [← hh]; exact g1
  · rw [← hh]; exact g2
theorem vals2 {vals : List Value} (h : vals.length = 2) : ∃ a b, vals = [a, b] := by
  match vals, h with
  | [a, b], _ => exact ⟨a, b, rfl⟩
theorem inv_bytes {S : Sv} {b : List UInt8} {v : Value} (h : S.rep (.sl b.length (byF b)) v) :
    ∃ a c, v = .slice a b.length c ∧ b.length ≤ c ∧ (a = none → b.length = 0) ∧ ∀ B, a = some B → ∀ i, i < b.length → S.w.cell? (B.add i) = some (.int .u8 ((b.getD i 0).toNat : Int)) := by
  have h' := inv_sl h
  generalize hn : b.length = n at h'
  cases h' with
  | sl0 f a c => exact ⟨a, c, rfl, Nat.zero_le _, fun _ => rfl, fun B _ i hi => by omega⟩
  | sl n f B off c sz u hb hc hz hf hcell hone hrep =>
    refine ⟨_, c, rfl, hc, (fun h => by cases h), fun B' e i hi => ?_⟩
    cases e
    have hsz : sz = 1 := by have := hf i hi; exact this.symm
    subst hsz
    have h1 := hcell i 0 hi (by omega)
    have h2 := hrep i 0 hi (by omega)
    have h3 : u i 0 = .int .u8 ((b.getD i 0).toNat : Int) := by
      have h4 : S.rep (.int .u8 ((b.getD i 0).toNat : Int)) (u i 0) := .pure h2
      exact inv_int h4
    rw [h3, Nat.mul_one, Nat.add_zero] at h1
    have e2 : (⟨B, off, none⟩ : Addr).add i = ⟨B, off + i, none⟩ := by
      unfold Addr.add
      by_cases h0 : i = 0 <;> simp [h0]
    rw [e2]; exact h1
end Go.Abs

namespace Go.Abs
open Go
variable {G : PG}

theorem put_back {w : World} {l : Nat} {o : Obj} (h : w.heap[l]? = some o) : w.putObj l o = w := by
  unfold World.putObj
  have : w.heap.setIfInBounds l o = w.heap := by
    apply Array.ext_getElem?
    intro i
    by_cases e : i = l
    · subst e
      have hlt := (Array.getElem?_eq_some_iff.1 h).1
      simp [hlt] at h ⊢
      exact h.symm
    · rw [Array.getElem?_setIfInBounds_ne (Ne.symm e)]
  rw [this]
theorem put_put {w : World} {l : Nat} (o o' : Obj) : (w.putObj l o).putObj l o' = w.putObj l o' := by
  unfold World.putObj
  simp

/- the whole of what is owned, handed to a round and back -/
theorem lend_in {γ : Gh} {imm : Nat → Prop} {hl : HL} {w : World} (hs : Sim G ⟨γ, imm, hOf hl, w⟩) : Sim G ⟨shG γ, imm, hOf hl.shift, w⟩ ∧ ∀ b, Sv.own ⟨shG γ, imm, hOf hl.shift, w⟩ b ↔ Sv.own ⟨γ, imm, hOf hl, w⟩ b := by
  have own1 : ∀ b, Sv.own ⟨shG γ, imm, hOf hl.shift, w⟩ b → Sv.own ⟨γ, imm, hOf hl, w⟩ b := by
    rintro b ⟨id, hid, hb⟩
    obtain ⟨kk, hkk⟩ := Option.isSome_iff_exists.1 hid
    obtain ⟨i, k0, rfl, hi, _⟩ := hOf_shift_some hkk
    exact ⟨i, by show (hOf hl i).isSome = true; rw [hi]; rfl, by rwa [show (Sv.γ ⟨shG γ, imm, hOf hl.shift, w⟩) (i + 9000) = γ i from shG_shift _ _] at hb⟩
  have own2 : ∀ b, Sv.own ⟨γ, imm, hOf hl, w⟩ b → Sv.own ⟨shG γ, imm, hOf hl.shift, w⟩ b := by
    rintro b ⟨id, hid, hb⟩
    refine ⟨id + 9000, ?_, ?_⟩
    · show (hOf hl.shift (id + 9000)).isSome = true
      rw [hOf_shift]
      have : (hOf hl id).isSome = true := hid
      cases hh : hOf hl id <;> simp_all
    · show blkOf (shG γ (id + 9000)) = some b
      rw [shG_shift]; exact hb
  refine ⟨⟨fun id b hb => ?_, fun i j b hi hj hbi hbj => ?_, hs.immLt, fun b hb => hs.disj b (own1 b hb), hs.tab.of (fun _ h => h) fun _ _ => rfl⟩, fun b => ⟨own1 b, own2 b⟩⟩
  · obtain ⟨i, k0, rfl, hi, rfl⟩ := hOf_shift_some hb
    exact (hs.blk i k0 hi).toShift (shG_shift _)
  · obtain ⟨ki, hki⟩ := Option.isSome_iff_exists.1 hi
    obtain ⟨kj, hkj⟩ := Option.isSome_iff_exists.1 hj
    obtain ⟨i, _, rfl, hi', _⟩ := hOf_shift_some hki
    obtain ⟨j, _, rfl, hj', _⟩ := hOf_shift_some hkj
    simp only [shG_shift] at hbi hbj
    rw [hs.inj i j b (by show (hOf hl i).isSome = true; rw [hi']; rfl) (by show (hOf hl j).isSome = true; rw [hj']; rfl) hbi hbj]
theorem lend_back {γ γ2 : Gh} {imm imm2 : Nat → Prop} {hl hl' : HL} {w w' : World} (hs : Sim G ⟨γ, imm, hOf hl, w⟩) (q1 : Sim G ⟨γ2, imm2, hOf hl'.shift, w'⟩)
    (q2 : Ext (· < 9000) ⟨shG γ, imm, hOf hl.shift, w⟩ ⟨γ2, imm2, hOf hl'.shift, w'⟩) : Sim G ⟨unG γ2, imm2, hOf hl', w'⟩ ∧ Ext (fun _ => False) ⟨γ, imm, hOf hl, w⟩ ⟨unG γ2, imm2, hOf hl', w'⟩ := by
  have own0 := (lend_in hs).2
  have some' : ∀ i, (hOf hl' i).isSome = true → (hOf hl'.shift (i + 9000)).isSome = true := fun i hi => by
    rw [hOf_shift]; cases hh : hOf hl' i <;> simp_all
  have own' : ∀ b, Sv.own ⟨unG γ2, imm2, hOf hl', w'⟩ b → Sv.own ⟨γ2, imm2, hOf hl'.shift, w'⟩ b := fun b ⟨i, hi, hb⟩ => ⟨i + 9000, some' i hi, hb⟩
  refine ⟨⟨fun i b hb => ?_, fun i j b hi hj hbi hbj => ?_, q1.immLt, fun b hb => q1.disj b (own' b hb), q1.tab.of (fun _ h => h) fun _ _ => rfl⟩, ⟨q2.os, q2.tape, q2.output, q2.size, fun b hb ho => q2.keep b hb fun h => ho ((own0 b).1 h), q2.imm, fun b hb => ?_, fun b hb => ?_, fun j _ => ?_⟩⟩
  · exact (q1.blk (i + 9000) b.shift (by show hOf hl'.shift (i + 9000) = _; rw [hOf_shift]; rw [show hOf hl' i = some b from hb]; rfl)).ofShift (fun _ => rfl)
  · have := q1.inj (i + 9000) (j + 9000) b (some' i hi) (some' j hj) hbi hbj
    omega
  · rcases q2.immNew b hb with h | h | h
    · exact .inl h
    · exact .inr (.inl ((own0 b).1 h))
    · exact .inr (.inr h)
  · rcases q2.own b (own' b hb) with h | h
    · exact .inl ((own0 b).1 h)
    · exact .inr h
  · have := q2.evo (j + 9000) (by simp)
    rwa [show (Sv.γ ⟨shG γ, imm, hOf hl.shift, w⟩) (j + 9000) = γ j from shG_shift _ _] at this

/-- AN ITERATOR: a function, with what it has captured, that goes through xs and turns nothing of its own. -/
def IterOk (G : PG) (gf : FuncId) (lb : List V) (xs : List V) : Prop :=
  entB G.prog gf = true ∧ ∀ (S : Sv) (vals : List Value) (l : Nat) (J : Nat → World → Prop), Sim G S → vals.length = lb.length → (∀ i, i < lb.length → S.rep (lb.getD i .any) (vals.getD i undef)) →
    (∀ k W, J k W → ∀ b, S.imm b → W.heap[b]? = S.w.heap[b]?) → (∀ k W W', J k W → World.grow W W' → J k W') →
    (∀ k W v, J k W → k < xs.length → RepP S.imm S.w (xs.getD k .any) v → one v → YieldAt Fence.wide 0 G.prog l #[v] W fun e W' => e = .returned (.bool true) ∧ J (k + 1) W') →
    J 0 S.w → CallsIn Fence.wide 0 G.prog gf (#[.func (.yield l) #[] #[]] ++ vals.toArray) S.w fun e W' => (∃ v, e = .returned v) ∧ J xs.length W'

/-- within a round -/
def Cfg.rnd (c : Cfg) (l : Nat) : Cfg := { c with rd := some l, df := false }
theorem RngW.rule {c : Cfg} (hc : CfgOk c) (hrd : c.rd = none) (hdf : c.df = true) {g : Operand} {p : Tmp} {x y : Code} (hx : codeOk c.an x = true) (hy : codeOk c.an y = true) {s : St} {K : Exit → St → Prop} {T : Type}
    (l : List (Nat × V)) (hl : T → HL) (I : Nat → T → Prop) (t0 : T) (h0 : I 0 t0) (hle : Le s ⟨al l, hOf (hl t0)⟩) {gf : FuncId} {lb xs : List V} (hg : ev (al l) g = .fn (.func gf) [] lb) (hit : IterOk c.G gf lb xs) (hp : p < c.n)
    (KX : Nat → Nat → Exit → St → Prop) (KB : Nat → Exit → St → Prop) (hKX : ∀ L k e s, KX L k e s → e = .normal ∧ exec (c.rnd L) y s (KB k)) (hKB : ∀ k e s, KB k e s → e = .normal ∧ ∃ t', I (k + 1) t' ∧ Le s ⟨al [], hOf (hl t').shift⟩)
    (body : ∀ k t L, I k t → k < xs.length → exec (c.rnd L) x ⟨upd (fun q => V.shift (al l q)) p (xs.getD k .any), hOf (hl t).shift⟩ (KX L k))
    (hK : ∀ t, I xs.length t → K .normal ⟨al l, hOf (hl t)⟩) : RngW c g #[p] x y s K := by
  intro S0 act w hr
  obtain ⟨γ, imm, hs, hx0, he, hdef, hsz, hn⟩ := hle _ _ _ _ _ _ hr
  have hF : c.F = Fence.wide := by unfold Cfg.F; rw [hrd]; rfl
  have hgv := rep_at he g
  rw [hg] at hgv
  obtain ⟨_, q, hgv, _, hql, _, hqr⟩ := inv_fn (S := ⟨γ, imm, hOf (hl t0), w⟩) hgv
  rename_i pe hpe _
  have hpn : pe = [] := List.length_eq_zero_iff.1 hpe
  subst hpn
  rw [hF]
  refine wpIn_rangeFunc ?_
  intro fn _
  obtain ⟨rec, hrec⟩ : ∃ rec : LoopState → Loop, rec = fun st => { state := st, pending := none, fn, tmps := act.tmps, params := #[p], assign := x, body := y, defers := w.heap.size } := ⟨_, rfl⟩
  obtain ⟨W1, hW1⟩ : ∃ W1, (w.alloc (.deferred (some []))).alloc (.loop (rec .ready)) = W1 := ⟨_, rfl⟩
  obtain ⟨L, hL⟩ : ∃ L, L = w.heap.size + 1 := ⟨_, rfl⟩
  obtain ⟨D, hD⟩ : ∃ D, D = w.heap.size := ⟨_, rfl⟩
  have sz1 : W1.heap.size = w.heap.size + 2 := by rw [← hW1]; simp
  have hgrow : World.grow w W1 := by
    rw [← hW1]
    refine ⟨rfl, rfl, rfl, by simp; omega, fun b hb => ?_⟩
    exact (RowKit.Below.heap_alloc _ _ _ (by simp; omega)).trans (RowKit.Below.heap_alloc _ _ _ hb)
  obtain ⟨hsW, hxW⟩ := hs.grow (fun _ => False) W1 imm hgrow (fun _ h => h) (fun _ h => .inl h)
  have noO : ∀ b, w.heap.size ≤ b → ¬ Sv.own ⟨γ, imm, hOf (hl t0), W1⟩ b := fun b hb ho => by have := hs.ownLt (b := b) ho; simp only at this; omega
  have noI : ∀ b, w.heap.size ≤ b → ¬ imm b := fun b hb ho => by have := hs.immLt b ho; simp only at this; omega
  have oL : Other ⟨γ, imm, hOf (hl t0), W1⟩ L (.loop (rec .ready)) := by
    refine ⟨?_, noO L (by omega), noI L (by omega)⟩
    show W1.heap[L]? = _
    rw [← hW1, hL]
    have := World.alloc_heap_new (w.alloc (.deferred (some []))) (.loop (rec .ready))
    rwa [World.size_alloc] at this
  have oD : Other ⟨γ, imm, hOf (hl t0), W1⟩ D (.deferred (some [])) := by
    refine ⟨?_, noO D (by omega), noI D (by omega)⟩
    show W1.heap[D]? = _
    rw [← hW1, hD]
    exact (RowKit.Below.heap_alloc _ _ _ (by simp)).trans (World.alloc_heap_new w _)
  have hent := hit.1
  refine ⟨L, [{ target := .collected D, args := #[] }], W1, { target := .fn (.func gf) q.toArray, args := #[.func (.yield L) #[] #[]] }, W1, gf, #[.func (.yield L) #[] #[]] ++ q.toArray, W1, ?_, ?_, fun _ _ => trivial, ?_, (fun h => by cases h), ?_⟩
  · rw [← hW1, hrec, hL, hD]; exact run_enterLoop_outer _ _ _ _ _
  · simp only [resolve, hgv]
    simp [go_sem]
  · simp [invoke, go_sem, entB_run hent]
  have hc' : ∀ L, CfgOk (c.rnd L) := fun L => ⟨hc.ct, hc.fol⟩
  refine ((hit.2 ⟨γ, imm, hOf (hl t0), W1⟩ q L (fun k W => ∃ t γ' imm', I k t ∧ Sim c.G ⟨γ', imm', hOf (hl t), W⟩ ∧ Ext (fun _ => False) ⟨γ, imm, hOf (hl t0), w⟩ ⟨γ', imm', hOf (hl t), W⟩ ∧ Ext (fun _ => False) ⟨γ, imm, hOf (hl t0), W1⟩ ⟨γ', imm', hOf (hl t), W⟩ ∧ Other ⟨γ', imm', hOf (hl t), W⟩ L (.loop (rec .ready)) ∧ Other ⟨γ', imm', hOf (hl t), W⟩ D (.deferred (some [])))
    hsW hql (fun i hi => hxW.rep hs (hqr i hi) fun _ h => h.elim) ?_ ?_ ?_ ⟨t0, γ, imm, h0, hsW, hxW, Ext.refl _ _, oL, oD⟩)).mono ?_
  · rintro k W ⟨t, γ', imm', _, _, _, hx2, _⟩ b hb
    exact hx2.immKeep hsW b hb
  · rintro k W W' ⟨t, γ', imm', hI, hs', hx', hx2, hoL, hoD⟩ hg
    obtain ⟨g1, g2⟩ := hs'.grow (fun _ => False) W' imm' hg (fun _ h => h) (fun _ h => .inl h)
    exact ⟨t, γ', imm', hI, g1, hx'.trans g2, hx2.trans g2, hoL.ext g2, hoD.ext g2⟩
  · -- one round
    rintro k W v ⟨t, γ', imm', hI, hs', hx', hx2, hoL, hoD⟩ hk hv hv1
    have hy' := run_yield (P := c.P) (args := #[v]) hoL.at' (by rw [hrec]; rfl)
    rw [hrec] at hy'
    refine ⟨fn, _, x, y, hy', roundIn_of_wpIn trivial ?_⟩
    generalize hfold : Array.foldl _ _ _ = tm
    have htm : tm = act.tmps.setIfInBounds p v := by rw [← hfold]; simp
    clear hfold
    subst htm
    obtain ⟨hsr, hown⟩ := lend_in hs'
    have orL : Other ⟨shG γ', imm', hOf (hl t).shift, W⟩ L (.loop (rec .ready)) := ⟨hoL.at', fun h => hoL.own ((hown L).1 h), hoL.imm⟩
    have hrel : Rel c.G c.n false ⟨shG γ', imm', hOf (hl t).shift, W⟩ ⟨upd (fun q => V.shift (al l q)) p (xs.getD k .any), hOf (hl t).shift⟩ { tmps := act.tmps.setIfInBounds p v, defers := [] } W := by
      refine ⟨shG γ', imm', hsr, Ext.refl _ _, fun q => ?_, rfl, by simpa using hsz, hn⟩
      by_cases e : q = p
      · subst e
        show RepV (shG γ') imm' W (upd (fun q => V.shift (al l q)) q (xs.getD k .any) q) ((act.tmps.setIfInBounds q v).getD q undef)
        rw [upd_same]
        have : (act.tmps.setIfInBounds q v).getD q undef = v := by
          have : q < act.tmps.size := by rw [hsz]; exact hp
          simp [Array.getD, this]
        rw [this]
        exact .pure (hv.mono hx2.imm (hx2.immKeep hsW))
      · show RepV (shG γ') imm' W (upd (fun q => V.shift (al l q)) p (xs.getD k .any) q) ((act.tmps.setIfInBounds p v).getD q undef)
        rw [upd_ne _ _ e]
        have : (act.tmps.setIfInBounds p v).getD q undef = act.tmps.getD q undef := by
          simp only [Array.getD_eq_getD_getElem?]
          rw [Array.getElem?_setIfInBounds_ne (fun h => e h.symm)]
        rw [this]
        exact rep_shift (shG_shift _) (hx'.rep hs (he q) fun _ h => h.elim)
    refine wpIn_mono (exec_sound (hc' L) x hx _ _ _ _ _ hrel (body k t L hI hk)) fun e1 a1 w1 he1 => ?_
    obtain ⟨s1, hrel1, hk1⟩ := he1
    obtain ⟨en1, hk1'⟩ := hKX _ _ _ _ hk1
    subst en1
    obtain ⟨γ1, imm1, sim1, ext1, rep1, def1, sz1', hn1⟩ := hrel1
    have o1 := orL.ext ext1
    refine ⟨_, run_beginRound o1.at' (by rw [hrec]), ?_⟩
    have hrel2 : Rel c.G c.n false (Sv.put ⟨shG γ', imm', hOf (hl t).shift, W⟩ L (.loop { rec .ready with state := .busy })) s1 a1 (w1.putObj L (.loop { rec .ready with state := .busy })) := by
      refine ⟨γ1, imm1, put_sim sim1 _ o1.own o1.imm, put_ext ext1 _ orL.lt, fun q => ?_, def1, sz1', hn1⟩
      exact (rep1 q).mono (fun _ h => h) (fun b hb => World.putObj_heap_other fun e => o1.imm (e ▸ hb)) fun _ _ => .refl _
    refine wpIn_mono (exec_sound (hc' L) y hy _ _ _ _ _ hrel2 hk1') fun e2 a2 w2 he2 => ?_
    obtain ⟨s2, hrel3, hk2⟩ := he2
    obtain ⟨en2, t', hI', hle2⟩ := hKB _ _ _ hk2
    subst en2
    obtain ⟨γ2, imm2, sim2, ext2, _, _, _, _⟩ := hle2 _ _ _ _ _ _ hrel3
    have o2 := (orL.put (.loop { rec .ready with state := .busy })).ext ext2
    refine ⟨_, _, run_endRound none o2.at', rfl, ?_⟩
    have ext3 := put_ext ext2 (.loop (rec .ready)) (orL.put _).lt
    have sim3 := put_sim sim2 (.loop (rec .ready)) o2.own o2.imm
    have eb : Sv.put (Sv.put ⟨shG γ', imm', hOf (hl t).shift, W⟩ L (.loop { rec .ready with state := .busy })) L (.loop (rec .ready)) = ⟨shG γ', imm', hOf (hl t).shift, W⟩ := by
      unfold Sv.put
      simp only [put_put, put_back hoL.at']
    rw [eb] at ext3
    obtain ⟨sim4, ext4⟩ := lend_back hs' sim3 ext3
    have er : (Obj.loop { { rec .ready with state := .busy } with state := if (none : Option Code).isNone then .ready else .done, pending := none }) = .loop (rec .ready) := by rw [hrec]; rfl
    rw [er]
    exact ⟨t', _, _, hI', sim4, hx'.trans ext4, hx2.trans ext4, hoL.ext ext4, hoD.ext ext4⟩
  · -- behind it
    rintro e W2 ⟨⟨v, rfl⟩, t, γ', imm', hI, hs', hx', _, hoL, hoD⟩
    have hend := run_endLoop (P := c.P) hoL.at' (by rw [hrec]; simp)
    have hpn : (rec .ready).pending = none := by rw [hrec]
    rw [hpn] at hend
    obtain ⟨oE, hend⟩ : ∃ oE, (Instr.endLoop L).run c.P W2 = .ok none (W2.putObj L oE) := ⟨_, hend⟩
    refine ⟨none, _, hend, ?_⟩
    have hx3 := put_new hx' oE (l := L) (by show w.heap.size ≤ L; omega)
    have hsz0 : S0.w.heap.size ≤ w.heap.size := hx0.size
    refine ⟨⟨al l, hOf (hl t)⟩, ⟨γ', imm', put_sim hs' oE hoL.own hoL.imm, hx0.trans (hx3.mono fun _ h => h.elim), fun q => hx3.rep hs (he q) fun _ h => h.elim, ?_, hsz, hn⟩, hK t hI⟩
    have hdef' := hdef.ext hx3
    rw [hdf] at hdef hdef' ⊢
    obtain ⟨Ds, d1, d2, d3⟩ := hdef'
    obtain ⟨Ds', d1', _, d3'⟩ := hdef
    have eqD : Ds = Ds' := by
      rw [d1] at d1'
      have inj : ∀ a b : Nat, markOf a = markOf b → a = b := fun a b h => by unfold markOf at h; cases h; rfl
      exact (List.map_inj_right inj).1 d1'
    refine ⟨D :: Ds, by simp [d1, markOf], List.nodup_cons.2 ⟨fun hm => ?_, d2⟩, fun X hX => ?_⟩
    · rw [eqD] at hm
      have := (d3' D hm).2.1
      have := (Array.getElem?_eq_some_iff.1 this).1
      simp only at this
      omega
    · rcases List.mem_cons.1 hX with rfl | hX
      · have := hoD.put_ne oE (l := L) (by omega)
        exact ⟨by omega, this.at', this.own, this.imm⟩
      · exact d3 X hX

/- ... by lists -/
def shAl : List (Nat × V) → List (Nat × V)
  | [] => []
  | (k, v) :: r => (k, V.shift v) :: shAl r
theorem al_shift (l : List (Nat × V)) : (fun q => V.shift (al l q)) = al (shAl l) := by
  funext t
  induction l with
  | nil => rfl
  | cons p l ih => obtain ⟨k, v⟩ := p; simp only [al, shAl] at ih ⊢; cases Nat.beq k t <;> first | exact ih | rfl
/-- a round: the loop's left sides, then its body -/
def rngX (c : Cfg) (y : Code) (E : Exit → St → Prop) (e : Exit) (s : St) : Prop := e = .normal ∧ exec c y s E
def rngA {T : Type} (ad : List Adj) (hr : T → HL) (I : Nat → T → Prop) (k : Nat) (e : Exit) (s : St) : Prop := e = .normal ∧ ∃ t', I (k + 1) t' ∧ adjP ad (levS [] (hr t')) s
section
variable {T : Type} (c : Cfg) (y : Code) (E : Exit → St → Prop) (ad : List Adj) (hr : T → HL) (I : Nat → T → Prop) (k i : Nat) (s : St)
@[push_cast] theorem rngX_n : rngX c y E .normal s = exec c y s E := by simp [rngX]
@[push_cast] theorem rngX_r : rngX c y E .ret s = False := by simp [rngX]
@[push_cast] theorem rngX_e : rngX c y E (.exit i) s = False := by simp [rngX]
@[push_cast] theorem rngA_n : rngA ad hr I k .normal s = ∃ t', I (k + 1) t' ∧ adjP ad (levS [] (hr t')) s := by simp [rngA]
@[push_cast] theorem rngA_r : rngA ad hr I k .ret s = False := by simp [rngA]
@[push_cast] theorem rngA_e : rngA ad hr I k (.exit i) s = False := by simp [rngA]
@[push_cast] theorem rnd_at (G : PG) (ct : Ct) (ow : Nat → Bool) (n : Nat) (an : Nat → List Nat) (df : Bool) (rd : Option Nat) (l : Nat) : Cfg.rnd ⟨G, ct, ow, n, an, df, rd⟩ l = ⟨G, ct, ow, n, an, false, some l⟩ := rfl
end
/-- A LOOP OVER AN ITERATOR: its temporaries are l throughout; its own blocks are hl t between two rounds (a round sees them as hr t). -/
theorem RngW.adj {ct : Ct} {ow : Nat → Bool} {n : Nat} {an : Nat → List Nat} (hc : CfgOk ⟨G, ct, ow, n, an, true, none⟩) {g : Operand} {p : Tmp} {x y : Code} (hxy : (codeOk an x && codeOk an y && Nat.blt p n) = true) {s : St} {K : Exit → St → Prop} {T : Type}
    (ad ad' : List Adj) (l : List (Nat × V)) (hl hr : T → HL) (hsh : ∀ t, HL.shift (hl t) = hr t) (I : Nat → T → Prop) (t0 : T) (h0 : I 0 t0 ∧ adjP ad (levS l (hl t0)) s) {gf : FuncId} {lb : List V} (xs : List V) (hg : ev (al l) g = .fn (.func gf) [] lb) (hit : IterOk G gf lb xs)
    (body : ∀ k t L, I k t → k < xs.length → exec (Cfg.rnd ⟨G, ct, ow, n, an, true, none⟩ L) x ⟨al ((p, xs.getD k .any) :: shAl l), hOf (hr t)⟩ (rngX (Cfg.rnd ⟨G, ct, ow, n, an, true, none⟩ L) y (rngA ad' hr I k)))
    (hK : ∀ t, I xs.length t → K .normal ⟨al l, hOf (hl t)⟩) : RngW ⟨G, ct, ow, n, an, true, none⟩ g #[p] x y s K := by
  simp only [Bool.and_eq_true] at hxy
  refine RngW.rule hc rfl rfl hxy.1.1 hxy.1.2 l hl I t0 h0.1 (levS_le h0.2) hg hit (Nat.le_of_ble_eq_true hxy.2) (fun L k => rngX (Cfg.rnd ⟨G, ct, ow, n, an, true, none⟩ L) y (rngA ad' hr I k)) (fun k => rngA ad' hr I k) (fun L k e s h => h) (fun k e s h => ?_) (fun k t L hI hk => ?_) hK
  · obtain ⟨rfl, t', h1, h2⟩ := h
    exact ⟨rfl, t', h1, by rw [hsh]; exact levS_le h2⟩
  · rw [al_shift, al_upd, hsh]
    exact body k t L hI hk
end Go.Abs

