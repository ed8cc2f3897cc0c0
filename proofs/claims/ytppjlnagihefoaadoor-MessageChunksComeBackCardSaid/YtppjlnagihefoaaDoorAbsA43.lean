import Derived.Test.YtppjlnagihefoaaDoorAbsA42
namespace Go.Abs
open Go
variable {G : PG}

/- a function's end, its blocks adjusted -/
def resK (P : Program) (rs : List ResultVar) (r : V) (hl : HL) : St → Prop := fun s => resLe (resV P rs s) r ∧ levH s hl
def PostF (P : Program) (ad : List Adj) (rs : List ResultVar) (r : V) (hl : HL) (e : Exit) (s : St) : Prop := isEnd e = true ∧ adjP ad (resK P rs r hl) s
section
variable (P : Program) (ad : List Adj) (rs : List ResultVar) (r : V) (hl : HL) (s : St) (i : Nat)
@[push_cast] theorem resK_at : resK P rs r hl s = (resLe (resV P rs s) r ∧ levH s hl) := rfl
@[push_cast] theorem PostF_ret : PostF P ad rs r hl .ret s = adjP ad (resK P rs r hl) s := by simp [PostF, isEnd]
@[push_cast] theorem PostF_normal : PostF P ad rs r hl .normal s = adjP ad (resK P rs r hl) s := by simp [PostF, isEnd]
@[push_cast] theorem PostF_exit : PostF P ad rs r hl (.exit i) s = False := by simp [PostF, isEnd]
end
theorem PostF.post {P : Program} {fn : Func} {ad : List Adj} {rs : List ResultVar} {hl : HL} (hrs : fn.results.toList = rs) {r : V} {e : Exit} {s : St} (h : PostF P ad rs r hl e s) : PostV P fn r hl e s := by
  obtain ⟨s', h1, h2, h3⟩ := adjP_ok h.2
  refine ⟨h.1, s', h1, ?_, levH_ok h3⟩
  rw [hrs]
  cases hx : resV P rs s' with
  | none => rw [hx] at h2; exact h2.elim
  | some x => rw [hx] at h2; exact vle_ok h2

/-- a function that owns what is its own alone -/
theorem pcall_inF {ct : Ct} {ow : Nat → Bool} {n : Nat} {an : Nat → List Nat} (ad : List Adj) (hc : CtOk G ct) (hfol : G.prog.follows .mixedOrders = true) (f : FuncId) {fn : Func} {code : Code} {rs : List ResultVar} (hf : G.prog.funcs[f]? = some fn) (hb : fn.body = some code) (hrs : fn.results.toList = rs)
    (hent : entB G.prog f = true) (hn : fn.ntmps = n) (hok : (codeOk an code && Nat.ble n 8999) = true) {args : List V} (ha : Nat.ble args.length n = true) {r : V} (hr : r.noId = true) (h : exec ⟨G, ct, ow, n, an⟩ code ⟨argE args, hOf []⟩ (PostF G.prog ad rs r [])) : PCall G f args r := by
  simp only [Bool.and_eq_true] at hok
  exact pcall_of (c := ⟨G, ct, ow, n, an⟩) ⟨hc, hfol⟩ hf hb hent hn (Nat.le_of_ble_eq_true hok.2) hok.1 (Nat.le_of_ble_eq_true ha) hr (fun e s => PostF.post hrs) h

/- a function that is handed own blocks -/
def idsIn (hl : HL) (id : Nat) : Bool := hl.any fun p => Nat.beq p.1 id
theorem hOf_in {hl : HL} {id : Nat} (h : (hOf hl id).isSome = true) : idsIn hl id = true := by
  induction hl with
  | nil => cases h
  | cons p r ih =>
    obtain ⟨k, b⟩ := p
    simp only [idsIn, List.any_cons, Bool.or_eq_true]
    by_cases e : id = k
    · subst e; left; simp
    · right
      simp only [hOf] at h
      rw [upd_ne _ _ e] at h
      exact ih h
theorem in_hOf {hl : HL} {id : Nat} (h : idsIn hl id = true) : (hOf hl id).isSome = true := by
  induction hl with
  | nil => simp [idsIn] at h
  | cons p r ih =>
    obtain ⟨k, b⟩ := p
    simp only [idsIn, List.any_cons, Bool.or_eq_true] at h
    by_cases e : id = k
    · subst e; simp [hOf]
    · simp only [hOf]
      rw [upd_ne _ _ e]
      rcases h with h | h
      · exact absurd (Nat.eq_of_beq_eq_true h).symm e
      · exact ih h
mutual
/-- names only what is in the list -/
def V.menIn (p : Nat → Bool) : V → Bool
  | .agg cs => V.menInL p cs
  | .tup cs => V.menInL p cs
  | .ptr i _ => p i
  | .vec i _ => p i
  | .eptr i _ _ _ _ => p i
  | .vw i _ _ => p i
  | .map i => p i
  | .fn _ a b => V.menInL p a && V.menInL p b
  | .opt _ v => V.menIn p v
  | _ => true
def V.menInL (p : Nat → Bool) : List V → Bool
  | [] => true
  | v :: r => V.menIn p v && V.menInL p r
end
theorem menIn_ok (p : Nat → Bool) (x : V) : V.menIn p x = true → ∀ id, V.men id x = true → p id = true := by
  intro h id
  revert h
  refine V.rec (motive_1 := fun x => V.menIn p x = true → V.men id x = true → p id = true) (motive_2 := fun l => V.menInL p l = true → V.menL id l = true → p id = true)
    ?_ ?_ ?_ ?_ ?_ ?_ ?_ ?_ ?_ ?_ ?_ ?_ ?_ ?_ ?_ ?_ ?_ ?_ ?_ x
  all_goals intros
  all_goals first
    | (simp_all [V.men, V.menL, V.menIn, V.menInL]; done)
    | (rename_i h1 h2; simp only [V.men] at h2; have := eq_of_beq h2; subst this; simpa [V.menIn] using h1)
    | (rename_i a b h1 h2; simp only [V.menIn, V.menInL, V.men, V.menL, Bool.and_eq_true, Bool.or_eq_true] at h1 h2; rcases h2 with h2 | h2 <;> first | exact a h1.1 h2 | exact b h1.2 h2)
def Blk.menIn (p : Nat → Bool) : Blk → Prop
  | .cells cs => V.menInL p cs = true
  | .vec _ n f => ∀ i, i < n → V.menInL p (f i).flat = true
theorem menInL_at (p : Nat → Bool) : ∀ (l : List V) (i : Nat), V.menInL p l = true → V.menIn p (l.getD i .any) = true
  | [], i, _ => rfl
  | x :: l, 0, h => by simp only [V.menInL, Bool.and_eq_true] at h; exact h.1
  | x :: l, i + 1, h => by
    simp only [V.menInL, Bool.and_eq_true] at h
    simpa using menInL_at p l i h.2
theorem blk_menIn {p : Nat → Bool} {b : Blk} (h : b.menIn p) : ∀ j, b.men j → p j = true := by
  intro j hj
  cases b with
  | cells cs => obtain ⟨i, _, hi⟩ := hj; exact menIn_ok p _ (menInL_at p cs i h) j hi
  | vec sz n f => obtain ⟨i, k, hi, hk⟩ := hj; exact menIn_ok p _ (menInL_at p _ k (h i hi)) j hk
def hlIn (p : Nat → Bool) : HL → Prop
  | [] => True
  | (k, b) :: r => p k = true ∧ b.menIn p ∧ hlIn p r
theorem hlIn_at {p : Nat → Bool} : ∀ {l : HL}, hlIn p l → ∀ id b, hOf l id = some b → p id = true ∧ b.menIn p
  | [], _, _, _, h => by cases h
  | (k, b0) :: r, h, id, b, hb => by
    obtain ⟨h1, h2, h3⟩ := h
    simp only [hOf] at hb
    by_cases e : id = k
    · subst e
      rw [upd_same] at hb; cases hb
      exact ⟨h1, h2⟩
    · rw [upd_ne _ _ e] at hb; exact hlIn_at h3 id b hb
theorem fcall_inF {ct : Ct} {ow : Nat → Bool} {n : Nat} {an : Nat → List Nat} (ad : List Adj) (hc : CtOk G ct) (hfol : G.prog.follows .mixedOrders = true) (f : FuncId) {fn : Func} {code : Code} {rs : List ResultVar} (hf : G.prog.funcs[f]? = some fn) (hb : fn.body = some code) (hrs : fn.results.toList = rs)
    (hent : entB G.prog f = true) (hn : fn.ntmps = n) (hok : (codeOk an code && Nat.ble n 8999) = true) {args : List V} (ha : Nat.ble args.length n = true) {hl hl' : HL} {r : V} (hlo : ∀ p ∈ hl, 9000 ≤ p.1) (hin : hlIn (idsIn hl) hl') (hr : V.menIn (idsIn hl) r = true)
    (h : exec ⟨G, ct, ow, n, an⟩ code ⟨argE args, hOf hl⟩ (PostF G.prog ad rs r hl')) : FCall G f args hl r hl' := by
  simp only [Bool.and_eq_true] at hok
  refine fcall_of (c := ⟨G, ct, ow, n, an⟩) ⟨hc, hfol⟩ hf hb hent hn (Nat.le_of_ble_eq_true hok.2) hok.1 (Nat.le_of_ble_eq_true ha) (fun id hid => ?_) (fun id hid => ?_) (fun id hid => in_hOf (menIn_ok _ r hr id hid)) (fun id b hb j hj => in_hOf (blk_menIn (hlIn_at hin id b hb).2 j hj)) (fun e s => PostF.post hrs) h
  · have := hOf_in hid
    simp only [idsIn, List.any_eq_true] at this
    obtain ⟨p, hp, he⟩ := this
    rw [← Nat.eq_of_beq_eq_true he]
    exact hlo p hp
  · obtain ⟨b, hb⟩ := Option.isSome_iff_exists.1 hid
    exact in_hOf (hlIn_at hin id b hb).1

/- a function that hands back a block of its own -/
theorem newOk_men {r : V} (h : r.newOk = true) : ∀ id, V.men id r = true → id = 8999 := by
  have one : ∀ x : V, x.new1 = true → ∀ id, V.men id x = true → id = 8999 := by
    intro x hx id hid
    cases x
    case vec i n => simp only [V.new1] at hx; simp only [V.men, beq_iff_eq] at hid; rw [← hid]; exact Nat.eq_of_beq_eq_true hx
    case ptr i n => simp only [V.new1] at hx; simp only [V.men, beq_iff_eq] at hid; rw [← hid]; exact Nat.eq_of_beq_eq_true hx
    all_goals (simp only [V.new1] at hx; rw [noSl_men _ hx id] at hid; cases hid)
  intro id hid
  cases r
  case tup l =>
    simp only [V.newOk, List.all_eq_true] at h
    simp only [V.men] at hid
    induction l with
    | nil => cases hid
    | cons x l ih =>
      simp only [V.menL, Bool.or_eq_true] at hid
      rcases hid with hid | hid
      · exact one x (h x (by simp)) id hid
      · exact ih hid fun y hy => h y (by simp [hy])
  all_goals (simp only [V.newOk] at h; exact one _ h id hid)
theorem noSlB_men {b : Blk} (h : noSlB b) (j : Nat) : ¬ b.men j := by
  intro hj
  cases b with
  | cells cs => obtain ⟨i, _, hi⟩ := hj; rw [noSl_men _ (noSlL_getD cs h i) j] at hi; cases hi
  | vec sz n f => obtain ⟨i, k, hi, hk⟩ := hj; rw [noSl_men _ (noSlL_getD _ (h i hi) k) j] at hk; cases hk
theorem ncall_inF {ct : Ct} {ow : Nat → Bool} {n : Nat} {an : Nat → List Nat} (ad : List Adj) (hc : CtOk G ct) (hfol : G.prog.follows .mixedOrders = true) (f : FuncId) {fn : Func} {code : Code} {rs : List ResultVar} (hf : G.prog.funcs[f]? = some fn) (hb : fn.body = some code) (hrs : fn.results.toList = rs)
    (hent : entB G.prog f = true) (hn : fn.ntmps = n) (hok : (codeOk an code && Nat.ble n 8999) = true) {args : List V} (ha : Nat.ble args.length n = true) {r : V} {nb : Blk} (hr : r.newOk = true) (hnb : noSlB nb)
    (h : exec ⟨G, ct, ow, n, an⟩ code ⟨argE args, hOf []⟩ (PostF G.prog ad rs r [(8999, nb)])) : NCall G f args r nb := by
  simp only [Bool.and_eq_true] at hok
  have hn9 := Nat.le_of_ble_eq_true hok.2
  have ha' := Nat.le_of_ble_eq_true ha
  refine fun S vals hs hh hlen hreps => .inl ⟨hent, ?_⟩
  refine calls_of_wp hf hb ?_
  have hrel : Rel G n S ⟨argE args, hOf []⟩ { tmps := vals.toArray ++ Array.replicate (fn.ntmps - vals.toArray.size) undef, defers := [] } S.w := by
    refine ⟨S.γ, S.imm, by rw [← hh]; exact hs, by rw [← hh]; exact Ext.refl _ _, fun t => ?_, rfl, ?_, hn9⟩
    · show RepV S.γ S.imm S.w (args.getD t .any) _
      by_cases ht : t < args.length
      · have : (vals.toArray ++ Array.replicate (fn.ntmps - vals.toArray.size) undef).getD t undef = vals.getD t undef := by
          have : t < vals.length := by omega
          simp [List.getD_eq_getElem?_getD, Array.getElem?_append, this]
        rw [this]
        exact hreps t ht
      · rw [List.getD_eq_getElem?_getD, List.getElem?_eq_none (by omega)]
        exact .any _
    · simp; omega
  refine wp_mono (exec_sound (c := ⟨G, ct, ow, n, an⟩) ⟨hc, hfol⟩ code hok.1 S _ _ _ _ hrel h) fun e a w he => ?_
  obtain ⟨s, hrel', hk⟩ := he
  obtain ⟨hend, s', hle, hres, hheap⟩ := PostF.post (fn := fn) hrs hk
  obtain ⟨γ, imm, q1, q2, q3, q4, q5, q6⟩ := hle _ _ _ _ _ hrel'
  have hpost : a.defers = [] ∧ ∃ v, (results fn a.tmps).run G.prog w = .ok v w ∧ ∃ v' γ' imm', Ending.returned v = .returned v' ∧ Sim G ⟨γ', imm', hOf [(8999, nb)], w⟩ ∧ Ext (fun id => id = 8999) S ⟨γ', imm', hOf [(8999, nb)], w⟩ ∧ RepV γ' imm' w r v' := by
    refine ⟨q4, ?_⟩
    cases hx : resV G.prog fn.results.toList s' with
    | none => rw [hx] at hres; exact hres.elim
    | some x =>
      rw [hx] at hres
      obtain ⟨v, hv1, hv2⟩ := resV_ok (fn := fn) q1 q3 G.prog hx
      have hv3 := hres _ _ _ _ hv2
      let γ' : Gh := fun id => if id = 8999 then γ id else S.γ id
      have g1 : γ' 8999 = γ 8999 := by simp [γ']
      have is8 : ∀ id, (hOf [(8999, nb)] id).isSome = true → id = 8999 := fun id hid => by
        simp only [hOf] at hid
        by_cases e : id = 8999
        · exact e
        · rw [upd_ne _ _ e] at hid; cases hid
      have at8 : ∀ b, hOf [(8999, nb)] 8999 = some b → b = nb := fun b hb => by simp [hOf] at hb; exact hb.symm
      obtain ⟨b', hb', hbl⟩ := leH_ok hheap 8999 nb (by simp [hOf])
      have own8 : ∀ b, blkOf (γ 8999) = some b → Sv.own ⟨γ, imm, s'.heap, w⟩ b := fun b hb => ⟨8999, by show (s'.heap 8999).isSome = true; rw [hb']; rfl, hb⟩
      refine ⟨v, hv1, v, γ', imm, rfl, ⟨fun id b hb => ?_, fun i j b hi hj _ _ => (is8 i hi).trans (is8 j hj).symm, q1.immLt, fun b ⟨i, hi, hbi⟩ => ?_, q1.tab.of (fun _ h => h) fun _ _ => rfl⟩, ⟨q2.os, q2.tape, q2.output, q2.size, fun b hb ho => q2.keep b hb ho, q2.imm, q2.immNew, fun b ⟨i, hi, hbi⟩ => ?_, fun id hid => ?_⟩, ?_⟩
      · have e := is8 id (by rw [show hOf [(8999, nb)] id = some b from hb]; rfl)
        subst e
        have := at8 b hb
        subst this
        exact (hbl.ok (q1.blk 8999 b' hb')).mono (fun _ h => h) (fun _ _ => rfl) (fun _ _ => rfl) g1 fun j hj => absurd hj (noSlB_men hnb j)
      · have e := is8 i hi
        subst e
        simp only [g1] at hbi
        exact q1.disj b (own8 b hbi)
      · have e := is8 i hi
        subst e
        simp only [g1] at hbi
        exact q2.own b (own8 b hbi)
      · show Evo (S.γ id) (γ' id)
        have : γ' id = S.γ id := by simp [γ', hid]
        rw [this]; exact .refl _
      · exact hv3.mono (fun _ h => h) (fun _ _ => rfl) fun id hid => by
          have := newOk_men hr id hid
          subst this
          rw [g1]; exact .refl _
  cases e with
  | normal => exact hpost
  | ret => exact hpost
  | _ => cases hend
@[push_cast] theorem nbeq_self (n : Nat) : Nat.beq n n = true := by simp
@[push_cast] theorem byF_fl (s : List UInt8) (i : Nat) : (byF s i).flat = [.int .u8 (s.getD i 0).toNat] := rfl
@[push_cast] theorem shF_fl (s : List UInt8) (l i : Nat) : (shF (byF s) l i).flat = [.int .u8 (s.getD (i + l) 0).toNat] := rfl
end Go.Abs
