import Derived.Test.YtppjlnagihefoaaDoorAbsA20
namespace Go.Abs
open Go
variable {G : PG}
variable {P : Program} {S : Sv}

/- lending own slices to a callee that owns nothing -/
mutual
def bor (H : Heap) : V → V
  | .vec id n => match H id with
    | some (.vec _ _ f) => .sl n f
    | _ => .any
  | .agg cs => .agg (borL H cs)
  | .any => .any
  | .int k n => .int k n
  | .bool b => .bool b
  | .str s => .str s
  | .con v => .con v
  | .nilsl => .nilsl
  | .tup vs => V.shift (.tup vs)
  | .sl n f => .sl n f
  | .iptr cs => .iptr cs
  | .ptr i o => V.shift (.ptr i o)
  | .eptr i n s k o => V.shift (.eptr i n s k o)
  | .fn f a b => V.shift (.fn f a b)
  | .vw i o n => V.shift (.vw i o n)
  | .map i => V.shift (.map i)
  | .opt g v => V.shift (.opt g v)
def borL (H : Heap) : List V → List V
  | [] => []
  | v :: r => bor H v :: borL H r
end
mutual
def borP (H : Heap) : V → Prop
  | .vec id n => match H id with
    | some (.vec _ m f) => m = n ∧ ∀ i, i < n → (f i).isPure = true
    | _ => False
  | .agg cs => borPL H cs
  | _ => True
def borPL (H : Heap) : List V → Prop
  | [] => True
  | v :: r => borP H v ∧ borPL H r
end
theorem borL_map (H : Heap) (l : List V) : borL H l = l.map (bor H) := by
  induction l with
  | nil => rfl
  | cons v r ih => rw [borL, ih, List.map_cons]
theorem borL_len (H : Heap) (l : List V) : (borL H l).length = l.length := by rw [borL_map]; simp
mutual
def V.noSl : V → Bool
  | .any | .int _ _ | .bool _ | .str _ | .con _ => true
  | .tup vs => V.noSlL vs
  | .agg vs => V.noSlL vs
  | _ => false
def V.noSlL : List V → Bool
  | [] => true
  | v :: r => V.noSl v && V.noSlL r
end
theorem noSlL_getD (l : List V) (h : V.noSlL l = true) (i : Nat) : V.noSl (l.getD i .any) = true := by
  induction l generalizing i with
  | nil => simp [V.noSl]
  | cons v r ih =>
    simp only [V.noSlL, Bool.and_eq_true] at h
    cases i with
    | zero => simpa using h.1
    | succ i => simpa using ih h.2 i
theorem noSl_rep {γ γ' : Gh} {imm imm' : Nat → Prop} {w w' : World} {x : V} {v : Value} (h : RepV γ imm w x v) (hx : V.noSl x = true) : RepV γ' imm' w' x v := by
  induction h with
  | any v => exact .any v
  | pure h =>
    induction h with
    | agg cs vs hl hp ho ih => exact .agg cs vs hl (fun i hi => ih i hi (noSlL_getD cs (by simpa [V.noSl] using hx) i)) ho
    | int k n => exact .pure (.int k n)
    | bool b => exact .pure (.bool b)
    | str s => exact .pure (.str s)
    | con v => exact .pure (x := .con _) (.con _)
    | nilsl a => simp [V.noSl] at hx
    | sl0 f a c => simp [V.noSl] at hx
    | sl => simp [V.noSl] at hx
  | agg cs vs hl _ ho ih => exact .agg cs vs hl (fun i hi => ih i hi (noSlL_getD cs (by simpa [V.noSl] using hx) i)) ho
  | tup cs vs hl _ ih => exact .tup cs vs hl (fun i hi => ih i hi (noSlL_getD cs (by simpa [V.noSl] using hx) i))
  | _ => simp [V.noSl] at hx

/-- an own slice that holds what is pure reads as one that is for good, wherever its block counts as such -/
theorem vec_as_sl (hs : Sim G S) {imm' : Nat → Prop} (him : ∀ b, S.imm b → imm' b) {id n : Nat} {sz : Nat} {f : Nat → V} {v : Value} (hv : S.rep (.vec id n) v) (hh : S.h id = some (.vec sz n f)) (hp : ∀ i, i < n → (f i).isPure = true)
    (ho : ∀ b, blkOf (S.γ id) = some b → imm' b) : RepP imm' S.w (.sl n f) v := by
  obtain ⟨va, vm, vc, g1, g2, g3⟩ := inv_vec hv
  have em := vec_len hs hh g1
  subst em
  have hv' := g3 rfl
  obtain ⟨k1, k2, ⟨k3, a', k4⟩ | ⟨b, cap, arr, tt, lo, hi', k3, k4, kc, k5, k6, k7, k8⟩⟩ := hs.blk _ _ hh
  · rw [k4] at hv'; subst hv'; subst k3; exact .sl0 _ _ _
  · rw [k3] at hv'; subst hv'
    have hb : imm' b := ho b (by simp [k3, blkOf]; omega)
    refine .sl _ f b 0 cap sz (fun i j => arr.getD (i * sz + j) undef) hb k4 k1 k2 (fun i j hi hj => ?_) (fun i j hi hj => (k8 i j hi hj).2) (fun i j hi hj => ?_)
    · rw [Nat.zero_add, cell_of_heap k5]
      have h1 := mul_lt hi hj
      have h2 : vm * sz ≤ cap * sz := Nat.mul_le_mul_right _ k4
      have : i * sz + j < arr.size := by omega
      simp [Array.getD, this]
    · have hr := (k8 i j hi hj).1
      have hpi := hp i hi
      have hlen := k2 i hi
      have : ((f i).flat.getD j .any).isPure = true := by
        cases hf : f i with
        | agg cs =>
          rw [hf] at hpi hlen
          simp only [V.isPure, List.all_eq_true] at hpi ⊢
          simp only [V.flat] at hlen ⊢
          have : cs.getD j .any = cs[j]'(by omega) := by simp [List.getD_eq_getElem?_getD, show j < cs.length by omega]
          rw [this]
          have := hpi _ (List.getElem_mem (l := cs) (n := j) (by omega))
          revert this
          cases cs[j]'(by omega) <;> simp
        | _ =>
          rw [hf] at hpi hlen
          simp only [V.flat, List.length_singleton] at hlen
          obtain rfl : j = 0 := by omega
          simpa [V.flat] using hpi
      exact (isPure_rep (S := S) hr this).mono him (fun _ _ => rfl)

mutual
theorem bor_rep (hs : Sim G S) {imm' : Nat → Prop} (him : ∀ b, S.imm b → imm' b) (ho : ∀ b, S.own b → imm' b) : (x : V) → borP S.h x → ∀ v, S.rep x v → RepV (shG S.γ) imm' S.w (bor S.h x) v
  | .vec id n, hx, v, hv => by
    simp only [borP] at hx
    simp only [bor]
    split at hx
    · rename_i sz m f hh
      obtain ⟨rfl, hp⟩ := hx
      exact .pure (vec_as_sl hs him hv hh hp fun b hb => ho b ⟨id, by rw [hh]; rfl, hb⟩)
    · exact hx.elim
  | .agg cs, hx, v, hv => by
    obtain ⟨vs, rfl, h1, h2, h3⟩ := inv_agg hv
    simp only [bor]
    refine .agg _ vs (by rw [borL_len]; exact h1) (fun i hi => ?_) (fun i hi => h3 i (by rw [borL_len] at hi; exact hi))
    rw [borL_len] at hi
    exact bor_repL hs him ho cs hx i _ (h2 i hi)
  | .any, _, v, hv => rep_shift (x := .any) (shG_shift _) (RepV.mono him (fun _ _ => rfl) hv fun _ _ => .refl _)
  | .int k n, _, v, hv => rep_shift (x := .int k n) (shG_shift _) (RepV.mono him (fun _ _ => rfl) hv fun _ _ => .refl _)
  | .bool b, _, v, hv => rep_shift (x := .bool b) (shG_shift _) (RepV.mono him (fun _ _ => rfl) hv fun _ _ => .refl _)
  | .str s, _, v, hv => rep_shift (x := .str s) (shG_shift _) (RepV.mono him (fun _ _ => rfl) hv fun _ _ => .refl _)
  | .con u, _, v, hv => rep_shift (x := .con u) (shG_shift _) (RepV.mono him (fun _ _ => rfl) hv fun _ _ => .refl _)
  | .nilsl, _, v, hv => rep_shift (x := .nilsl) (shG_shift _) (RepV.mono him (fun _ _ => rfl) hv fun _ _ => .refl _)
  | .tup vs, _, v, hv => rep_shift (x := .tup vs) (shG_shift _) (RepV.mono him (fun _ _ => rfl) hv fun _ _ => .refl _)
  | .sl n f, _, v, hv => rep_shift (x := .sl n f) (shG_shift _) (RepV.mono him (fun _ _ => rfl) hv fun _ _ => .refl _)
  | .iptr cs, _, v, hv => rep_shift (x := .iptr cs) (shG_shift _) (RepV.mono him (fun _ _ => rfl) hv fun _ _ => .refl _)
  | .ptr i o, _, v, hv => rep_shift (x := .ptr i o) (shG_shift _) (RepV.mono him (fun _ _ => rfl) hv fun _ _ => .refl _)
  | .eptr i n s k o, _, v, hv => rep_shift (x := .eptr i n s k o) (shG_shift _) (RepV.mono him (fun _ _ => rfl) hv fun _ _ => .refl _)
  | .fn f a b, _, v, hv => rep_shift (x := .fn f a b) (shG_shift _) (RepV.mono him (fun _ _ => rfl) hv fun _ _ => .refl _)
  | .vw i o n, _, v, hv => rep_shift (x := .vw i o n) (shG_shift _) (RepV.mono him (fun _ _ => rfl) hv fun _ _ => .refl _)
  | .map i, _, v, hv => rep_shift (x := .map i) (shG_shift _) (RepV.mono him (fun _ _ => rfl) hv fun _ _ => .refl _)
  | .opt g u, _, v, hv => rep_shift (x := .opt g u) (shG_shift _) (RepV.mono him (fun _ _ => rfl) hv fun _ _ => .refl _)
theorem bor_repL (hs : Sim G S) {imm' : Nat → Prop} (him : ∀ b, S.imm b → imm' b) (ho : ∀ b, S.own b → imm' b) : (l : List V) → borPL S.h l → ∀ i v, S.rep (l.getD i .any) v → RepV (shG S.γ) imm' S.w ((borL S.h l).getD i .any) v
  | [], _, i, v, _ => by simp only [borL, List.getD_nil]; exact .any v
  | x :: l, hb, 0, v, hv => bor_rep hs him ho x hb.1 v hv
  | x :: l, hb, i + 1, v, hv => by
    simp only [borL, List.getD_cons_succ] at hv ⊢
    exact bor_repL hs him ho l hb.2 i v hv
end
def CallB (G : PG) (f : FuncId) (args : List V) (H : Heap) (k : V → Heap → Prop) : Prop :=
  ∃ r, borPL H args ∧ PCall G f (args.map (bor H)) r ∧ r.noSl = true ∧ k r H

theorem callB_sound (hs : Sim G S) {f : FuncId} {args : List V} {vals : List Value} {k : V → Heap → Prop} (hl : vals.length = args.length) (hr : ∀ i, i < args.length → S.rep (args.getD i .any) (vals.getD i undef))
    (h : CallB G f args S.h k) : CallsX G.prog f vals.toArray S.w (After G S k) := by
  obtain ⟨r, hb, hc, hn, hk⟩ := h
  have S1 : Sim G ⟨shG S.γ, fun b => S.imm b ∨ S.own b, hOf [], S.w⟩ := by
    refine ⟨fun id b hb => (by cases hb), fun i j b hi => (by cases hi), fun b (hb : S.imm b ∨ S.own b) => hb.elim (hs.immLt b) (fun h => hs.ownLt h), fun b h => ?_, hs.tab.of (fun _ h => .inl h) fun _ _ => rfl⟩
    obtain ⟨i, hi, _⟩ := h
    cases hi
  have hargs : ∀ i, i < args.length → RepV (shG S.γ) (fun b => S.imm b ∨ S.own b) S.w ((args.map (bor S.h)).getD i .any) (vals.getD i undef) := fun i hi => by
    rw [← borL_map]
    exact bor_repL hs (fun _ h => .inl h) (fun _ h => .inr h) args hb i _ (hr i hi)
  have hcall := hc ⟨shG S.γ, fun b => S.imm b ∨ S.own b, hOf [], S.w⟩ vals S1 rfl (by simpa using hl) (fun i hi => hargs i (by simpa using hi))
  refine hcall.mono fun e w' ⟨v, γ1, imm1, he, q1, q2, q3, q4⟩ => ?_
  have noOwn : ∀ b, ¬ Sv.own ⟨shG S.γ, fun b => S.imm b ∨ S.own b, hOf [], S.w⟩ b := fun b ⟨i, hi, _⟩ => by cases hi
  have hg := Sim.grow hs (fun _ => False) w' (fun b => S.imm b ∨ (imm1 b ∧ S.w.heap.size ≤ b)) ⟨q2.os, q2.tape, q2.output, q2.size, fun b hb => q2.keep b hb (noOwn b)⟩ (fun _ h => .inl h)
    (fun b hb => hb.elim .inl fun ⟨h1, h2⟩ => .inr ⟨h2, q1.immLt b h1⟩)
  exact ⟨v, S.γ, _, r, S.h, he, hg.1, hg.2, noSl_rep q4 hn, hk⟩

/-- a call that hands back ONE new block, 'id 8999' in the callee's words: from arguments without own blocks -/
def NCall (G : PG) (f : FuncId) (args : List V) (r : V) (nb : Blk) : Prop :=
  ∀ (S : Sv) (vals : List Value), Sim G S → S.h = hOf [] → vals.length = args.length → (∀ i, i < args.length → S.rep (args.getD i .any) (vals.getD i undef)) →
    CallsX G.prog f vals.toArray S.w fun e w' => ∃ v γ' imm', e = .returned v ∧ Sim G ⟨γ', imm', hOf [(8999, nb)], w'⟩ ∧ Ext (fun id => id = 8999) S ⟨γ', imm', hOf [(8999, nb)], w'⟩ ∧ RepV γ' imm' w' r v
/-- what is handed back names the new block alone -/
def V.new1 : V → Bool
  | .vec i _ => Nat.beq i 8999
  | .ptr i _ => Nat.beq i 8999
  | v => v.noSl
def V.newOk : V → Bool
  | .tup l => l.all V.new1
  | v => v.new1
def reName1 (d : Nat) : V → V
  | .vec _ n => .vec d n
  | .ptr _ o => .ptr d o
  | v => v
def reName (d : Nat) : V → V
  | .tup l => .tup (l.map (reName1 d))
  | v => reName1 d v
def noSlB : Blk → Prop
  | .cells cs => V.noSlL cs = true
  | .vec _ n f => ∀ i, i < n → V.noSlL (f i).flat = true
def CallN (G : PG) (f : FuncId) (args : List V) (H : Heap) (d : Nat) (k : V → Heap → Prop) : Prop :=
  ∃ r nb, borPL H args ∧ NCall G f (args.map (bor H)) r nb ∧ r.newOk = true ∧ noSlB nb ∧ k (reName d r) (upd (killH d H) d (some nb))
def AfterN (G : PG) (S : Sv) (d : Nat) (k : V → Heap → Prop) (e : Ending) (w' : World) : Prop :=
  ∃ v γ' imm' r h', e = .returned v ∧ Sim G ⟨γ', imm', h', w'⟩ ∧ Ext (fun id => id = d) S ⟨γ', imm', h', w'⟩ ∧ RepV γ' imm' w' r v ∧ k r h'
theorem new1_rep {γ γ' : Gh} {imm imm' : Nat → Prop} {w : World} {d : Nat} (hg : γ' d = γ 8999) {x : V} {v : Value} (h : RepV γ imm w x v) (hx : x.new1 = true) :
    RepV γ' imm' w (reName1 d x) v := by
  cases x with
  | vec i n =>
    simp only [V.new1] at hx
    have := Nat.eq_of_beq_eq_true hx; subst this
    obtain ⟨va, vm, vc, g1, g2, g3⟩ := inv_vec (S := ⟨γ, imm, fun _ => none, w⟩) h
    have ho : one v := by
      cases h with
      | vec _ _ _ _ _ _ _ _ _ h4 => exact h4
      | pure h => cases h
    exact .vec d n v va vm vc (hg.trans g1) g2 (fun e => (g3 e).trans hg.symm) ho
  | ptr i o =>
    simp only [V.new1] at hx
    have := Nat.eq_of_beq_eq_true hx; subst this
    cases h with
    | ptr _ _ b h1 => exact .ptr d o b (hg.trans h1)
    | pure h => cases h
  | _ => exact noSl_rep h hx
theorem new_rep {γ γ' : Gh} {imm imm' : Nat → Prop} {w : World} {d : Nat} (hg : γ' d = γ 8999) {x : V} {v : Value} (h : RepV γ imm w x v) (hx : x.newOk = true) : RepV γ' imm' w (reName d x) v := by
  cases x with
  | tup l =>
    obtain ⟨vs, rfl, h1, h2⟩ := inv_tup (S := ⟨γ, imm, fun _ => none, w⟩) h
    simp only [V.newOk, List.all_eq_true] at hx
    refine .tup _ vs (by simpa using h1) fun i hi => ?_
    simp only [List.length_map] at hi
    have hm : l[i] ∈ l := List.getElem_mem hi
    have r1 := h2 i hi
    have e : l.getD i .any = l[i] := by simp [List.getD_eq_getElem?_getD, hi]
    rw [e] at r1
    have := new1_rep (γ' := γ') (imm' := imm') hg r1 (hx _ hm)
    simpa [List.getD_eq_getElem?_getD, hi] using this
  | vec i n => exact new1_rep hg h hx
  | ptr i o => exact new1_rep hg h hx
  | any => exact noSl_rep h hx
  | int k n => exact noSl_rep h hx
  | bool b => exact noSl_rep h hx
  | str s => exact noSl_rep h hx
  | con u => exact noSl_rep h hx
  | agg cs => exact noSl_rep h hx
  | nilsl => simp [V.newOk, V.new1, V.noSl] at hx
  | sl => simp [V.newOk, V.new1, V.noSl] at hx
  | iptr => simp [V.newOk, V.new1, V.noSl] at hx
  | eptr => simp [V.newOk, V.new1, V.noSl] at hx
  | fn => simp [V.newOk, V.new1, V.noSl] at hx
  | vw => simp [V.newOk, V.new1, V.noSl] at hx
  | map => simp [V.newOk, V.new1, V.noSl] at hx
  | opt => simp [V.newOk, V.new1, V.noSl] at hx
theorem noSlB_ok {γ γ' : Gh} {imm imm' : Nat → Prop} {w : World} {d : Nat} {nb : Blk} (hg : γ' d = γ 8999) (h : BlkOk γ imm w 8999 nb) (hn : noSlB nb) : BlkOk γ' imm' w d nb := by
  cases nb with
  | cells cs =>
    obtain ⟨b, arr, t, lo, hi, h1, h2, h3, h4, h5⟩ := h
    exact ⟨b, arr, t, lo, hi, hg.trans h1, h2, h3, h4, fun i hlt => ⟨noSl_rep (h5 i hlt).1 (noSlL_getD cs hn i), (h5 i hlt).2⟩⟩
  | vec sz n f =>
    obtain ⟨h1, h2, h3⟩ := h
    refine ⟨h1, h2, ?_⟩
    rcases h3 with ⟨h3, a, h4⟩ | ⟨b, cap, arr, t, lo, hi', h3, h4, hc, h5, h6, h7, h8⟩
    · exact .inl ⟨h3, a, hg.trans h4⟩
    · exact .inr ⟨b, cap, arr, t, lo, hi', hg.trans h3, h4, hc, h5, h6, h7, fun i j hlt hj => ⟨noSl_rep (h8 i j hlt hj).1 (noSlL_getD _ (hn i hlt) j), (h8 i j hlt hj).2⟩⟩
theorem noSl_men (x : V) : V.noSl x = true → ∀ id, V.men id x = false := by
  intro h id
  revert h
  refine V.rec (motive_1 := fun x => V.noSl x = true → V.men id x = false) (motive_2 := fun l => V.noSlL l = true → V.menL id l = false)
    ?_ ?_ ?_ ?_ ?_ ?_ ?_ ?_ ?_ ?_ ?_ ?_ ?_ ?_ ?_ ?_ ?_ ?_ ?_ x
  all_goals intros
  all_goals first
    | (simp only [V.men, V.menL]; done)
    | (simp_all [V.men, V.menL, V.noSl, V.noSlL]; done)
theorem callN_sound (hs : Sim G S) {f : FuncId} {args : List V} {vals : List Value} {d : Nat} {k : V → Heap → Prop} (hl : vals.length = args.length) (hr : ∀ i, i < args.length → S.rep (args.getD i .any) (vals.getD i undef))
    (h : CallN G f args S.h d k) : CallsX G.prog f vals.toArray S.w (AfterN G S d k) := by
  obtain ⟨r, nb, hb, hc, hn, hnb, hk⟩ := h
  have S1 : Sim G ⟨shG S.γ, fun b => S.imm b ∨ S.own b, hOf [], S.w⟩ := by
    refine ⟨fun id b hb => (by cases hb), fun i j b hi => (by cases hi), fun b (hb : S.imm b ∨ S.own b) => hb.elim (hs.immLt b) (fun h => hs.ownLt h), fun b h => ?_, hs.tab.of (fun _ h => .inl h) fun _ _ => rfl⟩
    obtain ⟨i, hi, _⟩ := h
    cases hi
  have hargs : ∀ i, i < args.length → RepV (shG S.γ) (fun b => S.imm b ∨ S.own b) S.w ((args.map (bor S.h)).getD i .any) (vals.getD i undef) := fun i hi => by
    rw [← borL_map]
    exact bor_repL hs (fun _ h => .inl h) (fun _ h => .inr h) args hb i _ (hr i hi)
  have hcall := hc ⟨shG S.γ, fun b => S.imm b ∨ S.own b, hOf [], S.w⟩ vals S1 rfl (by simpa using hl) (fun i hi => hargs i (by simpa using hi))
  refine hcall.mono fun e w' ⟨v, γ1, imm1, he, q1, q2, q4⟩ => ?_
  have noOwn : ∀ b, ¬ Sv.own ⟨shG S.γ, fun b => S.imm b ∨ S.own b, hOf [], S.w⟩ b := fun b ⟨i, hi, _⟩ => by cases hi
  have old : ∀ b, b < S.w.heap.size → w'.heap[b]? = S.w.heap[b]? := fun b hb => q2.keep b hb (noOwn b)
  obtain ⟨k1, k2⟩ := hs.killH (fun id => id = d) d
  have hbl := q1.blk 8999 nb (by show hOf [(8999, nb)] 8999 = _; simp [hOf])
  have newB : ∀ b, blkOf (γ1 8999) = some b → S.w.heap.size ≤ b := by
    intro b hb
    rcases q2.own b ⟨8999, by show (hOf [(8999, nb)] 8999).isSome = true; simp [hOf], hb⟩ with h | h
    · exact (noOwn b h).elim
    · exact h
  obtain ⟨m1, m2⟩ := k1.upd (fun id => id = d) d (γ1 8999) nb w' q2.os q2.tape q2.output q2.size (fun b hb _ => old b hb) (fun b hb => .inr (newB b hb)) (noSlB_ok (γ' := upd S.γ d (γ1 8999)) (imm' := S.imm) (by simp) hbl hnb)
    (.inl ⟨rfl, fun j b hj hne => by
      simp only [killH, if_neg hne] at hj
      obtain ⟨k, _, rfl⟩ := Option.map_eq_some_iff.1 hj
      exact Blk.men_kill d k⟩)
  refine ⟨v, _, _, reName d r, _, he, m1, k2.trans m2, ?_, hk⟩
  exact new_rep (by simp) q4 hn

/-- A call, by either rule. -/
def CallK (G : PG) (f : FuncId) (args : List V) (H : Heap) (k : V → Heap → Prop) : Prop := CallA G f args H k ∨ CallB G f args H k
theorem callK_sound (hs : Sim G S) {f : FuncId} {args : List V} {vals : List Value} {k : V → Heap → Prop} (hl : vals.length = args.length) (hr : ∀ i, i < args.length → S.rep (args.getD i .any) (vals.getD i undef))
    (h : CallK G f args S.h k) : CallsX G.prog f vals.toArray S.w (After G S k) :=
  h.elim (callA_sound hs hl hr) (callB_sound hs hl hr)
theorem CallA.mono {f : FuncId} {args : List V} {H : Heap} {k k' : V → Heap → Prop} (h : CallA G f args H k) (hk : ∀ r h, k r h → k' r h) : CallA G f args H k' := by
  obtain ⟨l, r, l', h1, h2, h3, h4⟩ := h
  exact ⟨l, r, l', h1, h2, h3, hk _ _ h4⟩
theorem CallK.mono {f : FuncId} {args : List V} {H : Heap} {k k' : V → Heap → Prop} (h : CallK G f args H k) (hk : ∀ r h, k r h → k' r h) : CallK G f args H k' := by
  rcases h with h | ⟨r, h1, h2, h3, h4⟩
  · exact .inl (h.mono hk)
  · exact .inr ⟨r, h1, h2, h3, hk _ _ h4⟩
end Go.Abs
