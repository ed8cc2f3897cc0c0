import Derived.Test.YtppjlnagihefoaaDoorAbsA26
namespace Go.Abs
open Go
variable {G : PG}

def anc (A : List Nat) (i j : Nat) : Bool := (A.getD j 0).testBit i
structure Stat (ops : List Oper) : Prop where
  lt : ∀ j o, ops[j]? = some o → ∀ e ∈ edges o, e < j
  dst : ∀ (i j : Nat) (p o : Oper) (t : Nat), ops[i]? = some p → ops[j]? = some o → i ≠ j → p.dst = some t → o.dst ≠ some t
  looks : ∀ (i j : Nat) (p o : Oper) (t : Nat), ops[i]? = some p → ops[j]? = some o → i ≠ j → p.dst = some t → t ∈ lkOf ops o → anc (ancs ops) i j = true ∨ anc (ancs ops) j i = true
def Dyn (A : List Nat) (rs : List Rec) : Prop := ∀ j y, rs[j]? = some y → ∀ q, y.hw = some q → ∀ i x, rs[i]? = some x → i ≠ j →
  (anc A j i = true ∨ anc A i j = true ∨ (q.1 ∉ x.ids ∧ wid x ≠ some q.1)) ∧ ∀ d, y.nw = some d → anc A j i = true ∨ NMR d x
def NwOk (rs : List Rec) (s0 : St) : Prop := ∀ (j : Nat) (y : Rec), rs[j]? = some y → ∀ d, y.nw = some d → y.hw ≠ none ∧ NoMen d s0

theorem anc_down {ops : List Oper} {L : Nat → Bool} (hd : Down ops L) {i j : Nat} (hj : L j = true) (h : anc (ancs ops) i j = true) : L i = true := ancs_ok hd j i hj h
theorem anc_le {ops : List Oper} (hs : Stat ops) {i j : Nat} (h : anc (ancs ops) i j = true) : i ≤ j := by
  have := anc_down (L := fun x => decide (x ≤ j)) (ops := ops) (fun k o hk hL e he => by have := hs.lt k o hk e he; simp only [decide_eq_true_eq] at hL ⊢; omega) (by simp) h
  simpa using this

theorem any_sound {c : Cfg} (hc : CtOk c.G c.ct) {S0 : Sv} {ops : Array Oper} {rs : List Rec} {s0 : St} {K : St → Prop} {Q : Exit → Act → World → Prop} (hQ : ∀ a w, lift c.G c.n S0 K a w → Q .normal a w)
    (hstat : Stat ops.toList) (hlen : rs.length = ops.size) (hloc : ∀ (k : Nat) (o : Oper) (r : Rec), ops.toList[k]? = some o → rs[k]? = some r → Local c ops.toList (mrg rs 0 (fun i => decide (i < k)) s0) o r)
    (hdyn : Dyn (ancs ops.toList) rs) (hnw : NwOk rs s0) (hK : K (mrg rs 0 (fun _ => true) s0)) :
    ∀ (fuel : Nat) (listed : Array Bool) (a : Act) (w : World), listed.size = ops.size → listed.toList.countP (fun b => !b) = fuel → Down ops.toList (fun i => listed.getD i false) →
      Rel c.G c.n S0 (mrg rs 0 (fun i => listed.getD i false) s0) a w → wpAny c.P .any ops Q fuel listed a w := by
  have allDone : ∀ (listed : Array Bool) (a : Act) (w : World), (∀ i, i < ops.size → listed.getD i false = true) → Rel c.G c.n S0 (mrg rs 0 (fun i => listed.getD i false) s0) a w → Q .normal a w := by
    intro listed a w hall hr
    have e : mrg rs 0 (fun i => listed.getD i false) s0 = mrg rs 0 (fun _ => true) s0 := by
      have e1 : (mrg rs 0 (fun i => listed.getD i false) s0).env = (mrg rs 0 (fun _ => true) s0).env := funext fun t => mrg_env t _ _ rs 0 s0 s0 (fun j r hj _ => by
        have : j < rs.length := (List.getElem?_eq_some_iff.1 hj).1
        rw [Nat.zero_add]; exact hall j (by omega)) rfl
      have e2 : (mrg rs 0 (fun i => listed.getD i false) s0).heap = (mrg rs 0 (fun _ => true) s0).heap := funext fun t => mrg_heap t _ _ rs 0 s0 s0 (fun j r hj _ => by
        have : j < rs.length := (List.getElem?_eq_some_iff.1 hj).1
        rw [Nat.zero_add]; exact hall j (by omega)) rfl
      generalize mrg rs 0 (fun i => listed.getD i false) s0 = A at *
      generalize mrg rs 0 (fun _ => true) s0 = B at *
      cases A; cases B
      simp only at e1 e2
      rw [e1, e2]
    exact hQ _ _ ⟨_, hr, e ▸ hK⟩
  intro fuel
  induction fuel with
  | zero =>
    intro listed a w hsz hcnt hdown hr
    have hall : ∀ i, i < ops.size → listed.getD i false = true := by
      intro i hi
      have hi' : i < listed.size := by omega
      have := List.countP_eq_zero.1 hcnt listed[i] (by simp)
      have hb : listed[i] = true := by simpa using this
      simp [Array.getD, hi', hb]
    refine ⟨?_, allDone listed a w hall hr⟩
    apply List.eq_nil_iff_forall_not_mem.2
    intro i hi
    obtain ⟨h1, o, ho, _⟩ := mem_ready.1 hi
    have hlt : i < ops.size := (Array.getElem?_eq_some_iff.1 ho).1
    have h2 := hall i hlt
    have hi' : i < listed.size := by omega
    simp [Array.getD, hi'] at h1 h2
    rw [h1] at h2; cases h2
  | succ fuel ih =>
    intro listed a w hsz hcnt hdown hr
    have same : ∀ i, i < ops.size → listed.getD i true = listed.getD i false := by
      intro i hi
      have : i < listed.size := by omega
      simp [Array.getD, this]
    have medge : ∀ (o : Oper) (e : Nat), e ∈ edges o → ∃ x ∈ o.after, Region.binds .any x = true ∧ x.on = e := by
      intro o e he
      simp only [edges, List.mem_map, List.mem_filter] at he
      obtain ⟨x, ⟨h1, h2⟩, h3⟩ := he
      exact ⟨x, by simpa using h1, h2, h3⟩
    refine ⟨fun hnil => allDone listed a w (fun i => ?_) hr, fun i hi => ?_⟩
    · induction i using Nat.strongRecOn with
      | _ i ihi =>
        intro hi
        cases hL : listed.getD i false with
        | true => rfl
        | false =>
          exfalso
          have : i ∈ Region.ready .any ops listed := mem_ready.2 ⟨by rw [same i hi]; exact hL, ops[i], by simp [hi], fun e he hb => by
            have hm : e.on ∈ edges ops[i] := List.mem_map.2 ⟨e, List.mem_filter.2 ⟨by simpa using he, hb⟩, rfl⟩
            have := hstat.lt i ops[i] (by simp [hi]) e.on hm
            exact ihi e.on this (by omega)⟩
          rw [hnil] at this; cases this
    · obtain ⟨h1, o, ho, hedge⟩ := mem_ready.1 hi
      have hlt : i < ops.size := (Array.getElem?_eq_some_iff.1 ho).1
      have hoL : ops.toList[i]? = some o := by simpa using ho
      rw [same i hlt] at h1
      have hirs : i < rs.length := by omega
      obtain ⟨r, hri⟩ : ∃ r, rs[i]? = some r := ⟨rs[i], by simp [hirs]⟩
      obtain ⟨hdst, hlooks, hl⟩ := hloc i o r hoL hri
      have opAt : ∀ (j : Nat) (x : Rec), rs[j]? = some x → ∃ p : Oper, ops.toList[j]? = some p ∧ x.dst = p.dst := fun j x hx => by
        have hj : j < ops.size := by have := (List.getElem?_eq_some_iff.1 hx).1; omega
        have hp : ops.toList[j]? = some ops[j] := by simp [hj]
        exact ⟨ops[j], hp, (hloc j _ x hp hx).1⟩
      have hdown' : Down ops.toList (fun j => listed.getD j false || j == i) := by
        intro j p hp hL e he
        simp only [Bool.or_eq_true, beq_iff_eq] at hL ⊢
        rcases hL with hL | hL
        · exact .inl (hdown j p hp hL e he)
        · subst hL
          rw [hoL] at hp; cases hp
          obtain ⟨x, hx, hb, rfl⟩ := medge o e he
          exact .inl (hedge x hx hb)
      -- who comes before, and who does not
      have before : ∀ j, j ≠ i → anc (ancs ops.toList) j i = true → listed.getD j false = true ∧ j < i := fun j hne h => by
        have h2 := anc_down hdown' (j := i) (by simp) h
        simp only [Bool.or_eq_true, beq_iff_eq] at h2
        have := anc_le hstat h
        exact ⟨h2.resolve_right hne, by omega⟩
      have after : ∀ j, j ≠ i → anc (ancs ops.toList) i j = true → listed.getD j false = false ∧ ¬ j < i := fun j hne h => by
        have := anc_le hstat h
        refine ⟨?_, by omega⟩
        cases hL : listed.getD j false with
        | false => rfl
        | true => have := anc_down hdown hL h; rw [this] at h1; cases h1
      have agreeAt : ∀ j, (j ≠ i → anc (ancs ops.toList) j i = true ∨ anc (ancs ops.toList) i j = true) → listed.getD j false = decide (j < i) := fun j h => by
        by_cases hne : j = i
        · subst hne; simp only [h1]; simp
        · rcases h hne with h | h
          · obtain ⟨a1, a2⟩ := before j hne h; rw [a1]; simp [a2]
          · obtain ⟨a1, a2⟩ := after j hne h; rw [a1]; simp; omega
      have hagree : Agree r (mrg rs 0 (fun j => decide (j < i)) s0) (mrg rs 0 (fun j => listed.getD j false) s0) := by
        refine ⟨fun t ht => mrg_env t _ _ rs 0 s0 s0 (fun j x hj hd => ?_) rfl, fun id hid => mrg_heap id _ _ rs 0 s0 s0 (fun j x hj hd => ?_) rfl, fun d hd => mrg_noMen d _ rs 0 s0 (hnw i r hri d hd).2 fun j x hj hL => ?_⟩
        · rw [Nat.zero_add]
          refine agreeAt j fun hne => ?_
          obtain ⟨p, hp, hxp⟩ := opAt j x hj
          exact hstat.looks j i p o t hp hoL hne (hxp ▸ hd) (hlooks ▸ ht)
        · rw [Nat.zero_add]
          refine agreeAt j fun hne => ?_
          unfold wid at hd
          obtain ⟨q, hq, rfl⟩ := Option.map_eq_some_iff.1 hd
          rcases (hdyn j x hj q hq i r hri (Ne.symm hne)).1 with h | h | h
          · exact .inl h
          · exact .inr h
          · exact absurd hid h.1
        · rw [Nat.zero_add] at hL
          have hne : j ≠ i := fun e => by subst e; rw [h1] at hL; cases hL
          cases hq : r.hw with
          | none => exact absurd hq (hnw i r hri d hd).1
          | some q =>
            rcases (hdyn i r hri q hq j x hj hne).2 d hd with h | h
            · have := (after j hne h).1; rw [hL] at this; cases this
            · exact h
      have hadd : mrg rs 0 (fun j => listed.getD j false || j == i) s0 = over r (mrg rs 0 (fun j => listed.getD j false) s0) := by
        have := mrg_add i r (fun j => listed.getD j false) rs 0 s0 hri (by rwa [Nat.zero_add]) fun j x hij hj hL => ?_
        · simpa [Nat.zero_add] using this
        · rw [Nat.zero_add] at hL
          have hne : j ≠ i := by omega
          obtain ⟨p, hp, hxp⟩ := opAt j x hj
          refine ⟨fun t ht hx => hstat.dst i j o p t hoL hp (Ne.symm hne) (hdst ▸ ht) (hxp ▸ hx), fun id hid hx => ?_⟩
          unfold wid at hid
          obtain ⟨q, hq, rfl⟩ := Option.map_eq_some_iff.1 hid
          rcases (hdyn i r hri q hq j x hj hne).1 with h | h | h
          · have := (after j hne h).1; rw [hL] at this; cases this
          · have := (before j hne h).2; omega
          · exact h.2 hx
      have hset : (fun j => (listed.setIfInBounds i true).getD j false) = fun j => listed.getD j false || j == i := by
        funext j
        by_cases e : j = i
        · subst e; simp [show j < listed.size by omega]
        · rw [getD_set_ne false (fun h => e h.symm)]; simp [e]
      refine wpOp_mono (fun a' w' hl' => ?_) (oneOp_sound (K := fun s => s = mrg rs 0 (fun j => listed.getD j false || j == i) s0) hc hr ho (hl _ hagree _ hadd.symm))
      obtain ⟨s', hr', rfl⟩ := hl'
      refine ih _ a' w' (by simpa using hsz) ?_ (by rw [hset]; exact hdown') (by rw [hset]; exact hr')
      have hli : i < listed.size := by omega
      have hlb : listed.toList[i] = false := by
        simp [Array.getD, hli] at h1; simpa using h1
      rw [Array.toList_setIfInBounds, List.countP_set (by simpa using hli), hcnt]
      simp [hlb]
end Go.Abs
