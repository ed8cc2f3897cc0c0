import Derived.Test.YtbbfmiinpdaajaaAbsA20
namespace Go.Abs
open Go
variable {P : Program} {S : Sv}

/- lending own slices to a callee that owns nothing -/
def bor (H : Heap) : V → V
  | .vec id n => match H id with
    | some (.vec _ _ f) => .sl n f
    | _ => .any
  | x => x.shift
def borP (H : Heap) : V → Prop
  | .vec id n => match H id with
    | some (.vec _ m f) => m = n ∧ ∀ i, i < n → (f i).isPure = true
    | _ => False
  | _ => True
def borPL (H : Heap) : List V → Prop
  | [] => True
  | v :: r => borP H v ∧ borPL H r
mutual
def V.noSl : V → Bool
  | .any | .int _ _ | .bool _ | .str _ | .con _ => true
  | .tup vs => V.noSlL vs
  | .agg vs => V.noSlL vs
  | _ => false
def V.noSlL : List V → Bool
  | [] => true
  | v :: r => V.noSl v && V.noSlL r
end
theorem noSlL_getD (l : List V) (h : V.noSlL l = true) (i : Nat) : V.noSl (l.getD i .any) = true := by
  induction l generalizing i with
  | nil => simp [V.noSl]
  | cons v r ih =>
    simp only [V.noSlL, Bool.and_eq_true] at h
    cases i with
    | zero => simpa using h.1
    | succ i => simpa using ih h.2 i
theorem noSl_rep {γ γ' : Gh} {imm imm' : Nat → Prop} {w w' : World} {x : V} {v : Value} (h : RepV γ imm w x v) (hx : V.noSl x = true) : RepV γ' imm' w' x v := by
  induction h with
  | any v => exact .any v
  | pure h =>
    induction h with
    | agg cs vs hl hp ho ih => exact .agg cs vs hl (fun i hi => ih i hi (noSlL_getD cs (by simpa [V.noSl] using hx) i)) ho
    | int k n => exact .pure (.int k n)
    | bool b => exact .pure (.bool b)
    | str s => exact .pure (.str s)
    | con v => exact .pure (x := .con _) (.con _)
    | nilsl a => simp [V.noSl] at hx
    | sl0 f a c => simp [V.noSl] at hx
    | sl => simp [V.noSl] at hx
  | agg cs vs hl _ ho ih => exact .agg cs vs hl (fun i hi => ih i hi (noSlL_getD cs (by simpa [V.noSl] using hx) i)) ho
  | tup cs vs hl _ ih => exact .tup cs vs hl (fun i hi => ih i hi (noSlL_getD cs (by simpa [V.noSl] using hx) i))
  | _ => simp [V.noSl] at hx

/-- an own slice that holds what is pure reads as one that is for good, wherever its block counts as such -/
theorem vec_as_sl (hs : Sim S) {imm' : Nat → Prop} (him : ∀ b, S.imm b → imm' b) {id n : Nat} {sz : Nat} {f : Nat → V} {v : Value} (hv : S.rep (.vec id n) v) (hh : S.h id = some (.vec sz n f)) (hp : ∀ i, i < n → (f i).isPure = true)
    (ho : ∀ b, blkOf (S.γ id) = some b → imm' b) : RepP imm' S.w (.sl n f) v := by
  obtain ⟨va, vm, vc, g1, g2, g3⟩ := inv_vec hv
  have em := vec_len hs hh g1
  subst em
  have hv' := g3 rfl
  obtain ⟨k1, k2, ⟨k3, a', k4⟩ | ⟨b, cap, arr, tt, lo, hi', k3, k4, kc, k5, k6, k7, k8⟩⟩ := hs.blk _ _ hh
  · rw [k4] at hv'; subst hv'; subst k3; exact .sl0 _ _ _
  · rw [k3] at hv'; subst hv'
    have hb : imm' b := ho b (by simp [k3, blkOf]; omega)
    refine .sl _ f b 0 cap sz (fun i j => arr.getD (i * sz + j) undef) hb k4 k1 k2 (fun i j hi hj => ?_) (fun i j hi hj => (k8 i j hi hj).2) (fun i j hi hj => ?_)
    · rw [Nat.zero_add, cell_of_heap k5]
      have h1 := mul_lt hi hj
      have h2 : vm * sz ≤ cap * sz := Nat.mul_le_mul_right _ k4
      have : i * sz + j < arr.size := by omega
      simp [Array.getD, this]
    · have hr := (k8 i j hi hj).1
      have hpi := hp i hi
      have hlen := k2 i hi
      have : ((f i).flat.getD j .any).isPure = true := by
        cases hf : f i with
        | agg cs =>
          rw [hf] at hpi hlen
          simp only [V.isPure, List.all_eq_true] at hpi ⊢
          simp only [V.flat] at hlen ⊢
          have : cs.getD j .any = cs[j]'(by omega) := by simp [List.getD_eq_getElem?_getD, show j < cs.length by omega]
          rw [this]
          have := hpi _ (List.getElem_mem (l := cs) (n := j) (by omega))
          revert this
          cases cs[j]'(by omega) <;> simp [V.isPure]
        | _ =>
          rw [hf] at hpi hlen
          simp only [V.flat, List.length_singleton] at hlen
          obtain rfl : j = 0 := by omega
          simpa [V.flat] using hpi
      exact (isPure_rep (S := S) hr this).mono him (fun _ _ => rfl)

def CallB (P : Program) (f : FuncId) (args : List V) (H : Heap) (k : V → Heap → Prop) : Prop :=
  ∃ r, borPL H args ∧ PCall P f (args.map (bor H)) r ∧ r.noSl = true ∧ k r H

theorem callB_sound (hs : Sim S) {f : FuncId} {args : List V} {vals : List Value} {k : V → Heap → Prop} (hl : vals.length = args.length) (hr : ∀ i, i < args.length → S.rep (args.getD i .any) (vals.getD i undef))
    (h : CallB P f args S.h k) : CallsX P f vals.toArray S.w (After S k) := by
  obtain ⟨r, hb, hc, hn, hk⟩ := h
  have S1 : Sim ⟨shG S.γ, fun b => S.imm b ∨ S.own b, hOf [], S.w⟩ := by
    refine ⟨fun id b hb => (by cases hb), fun i j b hi => (by cases hi), fun b (hb : S.imm b ∨ S.own b) => hb.elim (hs.immLt b) (fun h => hs.ownLt h), fun b h => ?_⟩
    obtain ⟨i, hi, _⟩ := h
    cases hi
  have hargs : ∀ i, i < args.length → RepV (shG S.γ) (fun b => S.imm b ∨ S.own b) S.w ((args.map (bor S.h)).getD i .any) (vals.getD i undef) := by
    have gen : ∀ (l : List V), borPL S.h l → ∀ i, i < l.length → ∀ v, S.rep (l.getD i .any) v → RepV (shG S.γ) (fun b => S.imm b ∨ S.own b) S.w ((l.map (bor S.h)).getD i .any) v := by
      intro l
      induction l with
      | nil => intro _ i hi; simp at hi
      | cons x l ih =>
        intro hb i hi v hv
        cases i with
        | succ i => simpa using ih hb.2 i (by simpa using hi) v (by simpa using hv)
        | zero =>
          simp only [List.map_cons, List.getD_cons_zero] at hv ⊢
          have hx := hb.1
          cases x with
          | vec id n =>
            simp only [borP] at hx
            simp only [bor]
            split at hx
            · rename_i sz m f hh
              obtain ⟨rfl, hp⟩ := hx
              exact .pure (vec_as_sl hs (fun _ h => .inl h) hv hh hp fun b hb => .inr ⟨id, by rw [hh]; rfl, hb⟩)
            · exact hx.elim
          | _ => exact rep_shift (shG_shift _) (RepV.mono (fun _ h => .inl h) (fun _ _ => rfl) hv fun _ _ => .refl _)
    exact fun i hi => gen args hb i hi _ (hr i hi)
  have hcall := hc ⟨shG S.γ, fun b => S.imm b ∨ S.own b, hOf [], S.w⟩ vals S1 rfl (by simpa using hl) (fun i hi => hargs i (by simpa using hi))
  refine hcall.mono fun e w' ⟨v, γ1, imm1, he, q1, q2, q3, q4⟩ => ?_
  have noOwn : ∀ b, ¬ Sv.own ⟨shG S.γ, fun b => S.imm b ∨ S.own b, hOf [], S.w⟩ b := fun b ⟨i, hi, _⟩ => by cases hi
  have hg := Sim.grow hs (fun _ => False) w' (fun b => S.imm b ∨ (imm1 b ∧ S.w.heap.size ≤ b)) ⟨q2.os, q2.tape, q2.output, q2.size, fun b hb => q2.keep b hb (noOwn b)⟩ (fun _ h => .inl h)
    (fun b hb => hb.elim .inl fun ⟨h1, h2⟩ => .inr ⟨h2, q1.immLt b h1⟩)
  exact ⟨v, S.γ, _, r, S.h, he, hg.1, hg.2, noSl_rep q4 hn, hk⟩

/-- A call, by either rule. -/
def CallK (P : Program) (f : FuncId) (args : List V) (H : Heap) (k : V → Heap → Prop) : Prop := CallA P f args H k ∨ CallB P f args H k
theorem callK_sound (hs : Sim S) {f : FuncId} {args : List V} {vals : List Value} {k : V → Heap → Prop} (hl : vals.length = args.length) (hr : ∀ i, i < args.length → S.rep (args.getD i .any) (vals.getD i undef))
    (h : CallK P f args S.h k) : CallsX P f vals.toArray S.w (After S k) :=
  h.elim (callA_sound hs hl hr) (callB_sound hs hl hr)
theorem CallA.mono {f : FuncId} {args : List V} {H : Heap} {k k' : V → Heap → Prop} (h : CallA P f args H k) (hk : ∀ r h, k r h → k' r h) : CallA P f args H k' := by
  obtain ⟨l, r, l', h1, h2, h3, h4⟩ := h
  exact ⟨l, r, l', h1, h2, h3, hk _ _ h4⟩
theorem CallK.mono {f : FuncId} {args : List V} {H : Heap} {k k' : V → Heap → Prop} (h : CallK P f args H k) (hk : ∀ r h, k r h → k' r h) : CallK P f args H k' := by
  rcases h with h | ⟨r, h1, h2, h3, h4⟩
  · exact .inl (h.mono hk)
  · exact .inr ⟨r, h1, h2, h3, hk _ _ h4⟩
end Go.Abs
