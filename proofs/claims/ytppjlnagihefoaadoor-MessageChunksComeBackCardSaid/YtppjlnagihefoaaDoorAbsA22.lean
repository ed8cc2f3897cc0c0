import Derived.Test.YtppjlnagihefoaaDoorAbsA21
namespace Go.Abs
open Go
variable {G : PG}

/- what does not name an identity -/
mutual
def V.noId : V → Bool
  | .any | .int _ _ | .bool _ | .str _ | .con _ | .nilsl | .sl _ _ | .iptr _ => true
  | .tup vs => V.noIdL vs
  | .agg vs => V.noIdL vs
  | .fn _ a b => V.noIdL a && V.noIdL b
  | .opt _ v => V.noId v
  | _ => false
def V.noIdL : List V → Bool
  | [] => true
  | v :: r => V.noId v && V.noIdL r
end
theorem noId_shift (x : V) : V.noId x = true → V.shift x = x := by
  refine V.rec (motive_1 := fun x => V.noId x = true → V.shift x = x) (motive_2 := fun l => V.noIdL l = true → V.shiftL l = l)
    ?_ ?_ ?_ ?_ ?_ ?_ ?_ ?_ ?_ ?_ ?_ ?_ ?_ ?_ ?_ ?_ ?_ ?_ ?_ x
  all_goals intros
  all_goals first
    | (simp only [V.shift, V.shiftL]; done)
    | (simp_all [V.shift, V.shiftL, V.noId, V.noIdL]; done)

def St.put (s : St) (d : Option Nat) (v : V) : St := match d with
  | some d => ⟨upd s.env d v, s.heap⟩
  | none => s
def dOf (o : Option Nat) : Nat := o.getD 8999
def inN (n : Nat) (d : Option Nat) : Prop := match d with
  | some d => d < n
  | none => True

/-- The activation is as the abstract state says. -/
def Rel (G : PG) (n : Nat) (S0 : Sv) (s : St) (a : Act) (w : World) : Prop :=
  ∃ γ imm, Sim G ⟨γ, imm, s.heap, w⟩ ∧ Ext (· < 9000) S0 ⟨γ, imm, s.heap, w⟩ ∧ RepE ⟨γ, imm, s.heap, w⟩ s.env a.tmps ∧ a.defers = [] ∧ a.tmps.size = n ∧ n ≤ 8999

theorem put_size (a : Act) (d : Option Nat) (v : Value) : (a.put d v).tmps.size = a.tmps.size := by cases d <;> simp [Act.put]
theorem put_defers (a : Act) (d : Option Nat) (v : Value) : (a.put d v).defers = a.defers := by cases d <;> simp [Act.put]
theorem rep_put {S : Sv} {e : Env} {a : Act} {d : Option Nat} {v : V} {u : Value} (h : RepE S e a.tmps) (hd : inN a.tmps.size d) (hv : S.rep v u) (hp : Heap) :
    RepE S ((St.put ⟨e, hp⟩ d v).env) (a.put d u).tmps := by
  intro t
  cases d with
  | none => exact h t
  | some d =>
    simp only [St.put, Act.put, inN] at hd ⊢
    by_cases e : t = d
    · subst e
      rw [upd_same]
      have : (a.tmps.setIfInBounds t u).getD t undef = u := by simp [Array.getD, hd]
      rw [this]; exact hv
    · rw [upd_ne _ _ e]
      have : (a.tmps.setIfInBounds d u).getD t undef = a.tmps.getD t undef := by
        simp only [Array.getD_eq_getD_getElem?]
        rw [Array.getElem?_setIfInBounds_ne (fun h => e h.symm)]
      rw [this]; exact h t

/-- is it run? -/
inductive GS where
  | always | ifb (b : Bool) | bad
def dstOf (ops : List Oper) (j : Nat) : Option Nat := match ops[j]? with
  | some o => o.dst
  | none => none
def gsV (want : Bool) : V → GS
  | .bool c => .ifb (bif want then c else !c)
  | .opt g (.bool c) => .ifb (g && (bif want then c else !c))
  | _ => .bad
def gst (e : Env) (ops : List Oper) : Option (Nat × Bool) → GS
  | none => .always
  | some (j, want) => match dstOf ops j with
    | some d => gsV want (e d)
    | none => .bad
theorem bif_eq (want c : Bool) : (bif want then c else !c) = (c == want) := by cases want <;> cases c <;> rfl
theorem gst_wanted {S : Sv} {e : Env} {a : Act} (h : RepE S e a.tmps) (ops : Array Oper) (o : Oper) :
    match gst e ops.toList o.guard with
    | .always => Region.wanted o (yielded ops a.tmps) = true
    | .ifb b => Region.wanted o (yielded ops a.tmps) = b
    | .bad => True := by
  unfold gst
  cases hg : o.guard with
  | none => simp [Region.wanted, hg]
  | some p =>
    obtain ⟨j, want⟩ := p
    simp only []
    cases hd : dstOf ops.toList j with
    | none => trivial
    | some d =>
      simp only []
      have hy : yielded ops a.tmps j = match a.tmps[d]? with | some (.bool b) => some b | _ => none := by
        unfold dstOf at hd
        simp only [Array.getElem?_toList] at hd
        unfold yielded
        cases ho : ops[j]? with
        | none => rw [ho] at hd; cases hd
        | some o' =>
          rw [ho] at hd
          simp only at hd
          simp only [Option.bind_some, hd]
          generalize a.tmps[d]? = x
          cases x with
          | none => rfl
          | some v => cases v <;> rfl
      have key : ∀ c, a.tmps.getD d undef = .bool c → yielded ops a.tmps j = some c := by
        intro c hc
        rw [hy]
        rw [Array.getD_eq_getD_getElem?] at hc
        cases ht : a.tmps[d]? with
        | none => rw [ht] at hc; cases hc
        | some v => rw [ht] at hc; simp only [Option.getD_some] at hc; subst hc; rfl
      have key2 : a.tmps.getD d undef = undef → yielded ops a.tmps j = none := by
        intro hc
        rw [hy]
        rw [Array.getD_eq_getD_getElem?] at hc
        cases ht : a.tmps[d]? with
        | none => rfl
        | some v => rw [ht] at hc; simp only [Option.getD_some] at hc; subst hc; rfl
      have hv := h d
      unfold gsV
      split
      · rename_i b hb
        split at hb
        · cases hb
        · cases hb
        · cases hb
      · rename_i b hb
        split at hb
        · rename_i c hc
          cases hb
          rw [hc] at hv
          rw [bif_eq]
          simp [Region.wanted, hg, key c (inv_bool hv)]
        · rename_i g c hc
          cases hb
          rw [hc] at hv
          rw [bif_eq]
          obtain ⟨h1, h2⟩ := inv_opt hv
          cases g with
          | true => simp [Region.wanted, hg, key c (inv_bool (h1 rfl))]
          | false => simp [Region.wanted, hg, key2 (h2 rfl)]
        · cases hb
      · trivial
end Go.Abs
