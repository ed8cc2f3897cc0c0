/- what functions of this program compute: contracts, each a function's own -/
import Derived.Test.YtejiajdjgnnpdaaGreatDoorAbsK3
import Derived.Test.YtejiajdjgnnpdaaGreatDoorAbsFacts
import Derived.Test.YtejiajdjgnnpdaaGreatDoorAbsF6
import Derived.Test.YtejiajdjgnnpdaaGreatDoorAbsShelf
import Derived.Lib.SplitLaws
import Derived.Lib.SlTrimSet
import Derived.Lib.Atoi
import Derived.Lib.Itoa
import Derived.Lib.ItoaNum
import Derived.Lib.AtoiErrMem
import Derived.Lib.Join
import Derived.Lib.Repeat
import Derived.Lib.IndexMore
import Derived.Lib.AsciiSet
import Derived.Lib.IndexAny
import Derived.Sort.Walk0
import Derived.Lib.ItoaLen
import Derived.Shelf.Spec.SlicesInsert
import Derived.Shelf.Spec.SlicesInsertGrow
import Derived.Lib.Overlaps
import Derived.Lib.AppendZerosOnto
import Derived.Laws.NewBlocks
import Derived.WalkKit
import Derived.Lib.Walk
namespace Go.Abs
open Go Go.Proofs
set_option maxHeartbeats 4000000
set_option maxRecDepth 100000
set_option linter.unusedVariables false
set_option linter.unusedSimpArgs false
def idxS (l : List Sam) (w : Sam) : Int := match l.findIdx? (fun x => decide (w = x)) with
  | some k => k
  | none => -1
theorem idxS_at {l : List Sam} {w : Sam} {i : Nat} (hi : i < l.length) (h : w = l.getD i noSam) (hn : ∀ j, j < i → ¬ w = l.getD j noSam) : idxS l w = i := by
  unfold idxS
  have : l.findIdx? (fun x => decide (w = x)) = some i := by
    rw [List.findIdx?_eq_some_iff_getElem]
    refine ⟨hi, ?_, fun j hj => ?_⟩
    · rw [List.getD_eq_getElem?_getD, List.getElem?_eq_getElem hi] at h; simpa using h
    · have h1 := hn j hj
      rw [List.getD_eq_getElem?_getD, List.getElem?_eq_getElem (by omega)] at h1
      simpa using h1
  rw [this]
theorem idxS_no {l : List Sam} {w : Sam} (hn : ∀ j, j < l.length → ¬ w = l.getD j noSam) : idxS l w = -1 := by
  unfold idxS
  have : l.findIdx? (fun x => decide (w = x)) = none := by
    rw [List.findIdx?_eq_none_iff]
    intro x hx
    obtain ⟨j, hj, rfl⟩ := List.getElem_of_mem hx
    have h1 := hn j hj
    rw [List.getD_eq_getElem?_getD, List.getElem?_eq_getElem hj] at h1
    simpa using h1
  rw [this]
theorem idxS_has (l : List Sam) (w : Sam) : decide (0 ≤ idxS l w) = decide (w ∈ l) := by
  unfold idxS
  cases h : l.findIdx? (fun x => decide (w = x)) with
  | none =>
    rw [List.findIdx?_eq_none_iff] at h
    rw [decide_eq_false (by omega : ¬ (0 : Int) ≤ -1), decide_eq_false]
    intro hc
    have := h w hc
    simp at this
  | some k =>
    rw [List.findIdx?_eq_some_iff_getElem] at h
    obtain ⟨hk, h1, _⟩ := h
    have e : w = l[k] := by simpa using h1
    have hm : w ∈ l := by rw [e]; exact List.getElem_mem hk
    rw [decide_eq_true hm]
    exact decide_eq_true (Int.natCast_nonneg k)
def ckIdxSm : Ck
  | [.sl n f, .agg [.int .i64 a, .str p]] => some (isLs cSam n f ∧ n ≤ 4611686018427387904, .int .i64 (idxS (lsOf cSam n f) ⟨a, p⟩))
  | _ => none
theorem conIdxSm : Con pg 138 ckIdxSm := by
  have hct := ctN_ok pg
  intro args q r h hq
  unfold ckIdxSm at h
  split at h
  · cases h
    rename_i n f a p
    refine pcall_args (args' := [.sl (lsOf cSam n f).length (lsF cSam (lsOf cSam n f)), .agg [.int .i64 a, .str p]]) ⟨isLs.vle hq.1, VLe.refl _, trivial⟩ ?_
    have hn : (lsOf cSam n f).length ≤ 4611686018427387904 := by rw [lsOf_len]; exact hq.2
    generalize lsOf cSam n f = l at hn ⊢
    refine w138 (fun _ => false) [] rfl hct rfl rfl ?_
    push_cast (config := { maxSteps := 10000000 })
    refine LoopW.adj ⟨hct, fol⟩ (by kernel_rfl) [] (fun i : Nat => [(0, .sl l.length (lsF cSam l)), (3, .ptr 3 0), (7, .int .i64 l.length), (8, .int .i64 i)]) (fun _ => [(3, .cells [.int .i64 a, .str p])]) (fun i => i ≤ l.length ∧ ∀ j, j < i → ¬ (⟨a, p⟩ : Sam) = l.getD j noSam) (fun i => l.length - i) 0 ?_ fun i hi => ?_
    · push_cast (config := { maxSteps := 10000000 })
      exact Nat.zero_le _
    · push_cast (config := { maxSteps := 10000000 })
      obtain ⟨h1, h2⟩ := hi
      have e1 : ∀ x : Sam, (⟨a, p⟩ : Sam) = x ↔ a = x.ki ∧ p = x.nm := fun x => by
        cases x; simp
      refine ⟨fun h => ⟨h, fun h3 => (idxS_at h ((e1 _).2 h3) h2).symm, fun h3 => ⟨by omega, i + 1, ⟨by omega, fun j hj => ?_⟩, by omega, by omega⟩⟩, fun h => (idxS_no fun j hj => h2 j (by omega)).symm⟩
      by_cases e : j = i
      · subst e; rw [e1]; exact fun x => h3 x.1 x.2
      · exact h2 j (by omega)
  · cases h
attribute [push_cast] ckIdxSm
def ckCtnSm : Ck
  | [.sl n f, .agg [.int .i64 a, .str p]] => some (isLs cSam n f ∧ n ≤ 4611686018427387904, .bool (decide ((⟨a, p⟩ : Sam) ∈ lsOf cSam n f)))
  | _ => none
theorem conCtnSm : Con pg 105 ckCtnSm := by
  have hct := (ctA_ok conIdxSm (ctN_ok _))
  intro args q r h hq
  unfold ckCtnSm at h
  split at h
  · cases h
    rename_i n f a p
    refine w105 (fun _ => false) [] rfl hct rfl rfl ?_
    push_cast (config := { maxSteps := 10000000 })
    exact ⟨hq, idxS_has _ _⟩
  · cases h
attribute [push_cast] ckCtnSm

def ckHasS : Ck
  | [.sl n f, .int .i64 k, .str s] => some (isLs cSam n f ∧ n ≤ 4611686018427387904, .bool (hasSam (lsOf cSam n f) k s))
  | _ => none
theorem conHasS : Con pg 57 ckHasS := by
  have hct := (ctA_ok conCtnSm (ctN_ok _))
  intro args q r h hq
  unfold ckHasS at h
  split at h
  · cases h
    rename_i n f k s
    refine w57 (fun _ => false) [] rfl hct rfl rfl ?_
    push_cast (config := { maxSteps := 10000000 })
    exact ⟨hq, rfl⟩
  · cases h
attribute [push_cast] ckHasS

/- pieces of bytes, one behind the other -/
def slOf : V → List UInt8
  | .sl n f => bytesOf n f
  | _ => []
def isSl : V → Prop
  | .sl n f => isBy n f
  | _ => False
def cBy : Cod (List UInt8) := ⟨fun s => .sl s.length (byF s), slOf, [], fun s => bytesOf_by s⟩
@[push_cast] theorem lsF_by (l : List (List UInt8)) (i : Nat) : lsF cBy l i = .sl (l.getD i []).length (byF (l.getD i [])) := rfl
theorem isSl_ple {v : V} (h : isSl v) : pleL v.flat [.sl (slOf v).length (byF (slOf v))] := by
  cases v <;> first | exact h.elim | skip
  rename_i n f
  exact ⟨PLe.sl h.1 fun i hi => by rw [h.2 i hi]; exact pleL_refl _, trivial⟩

/- pieces of which bytes are put together -/
structure Cpy where
  fr : Int
  n : Int
  by' : List UInt8
deriving DecidableEq
def noCpy : Cpy := ⟨0, 0, []⟩
def decCpy : V → Cpy
  | .agg [.int _ fr, .int _ n, .sl k g] => ⟨fr, n, bytesOf k g⟩
  | _ => noCpy
def cCpy : Cod Cpy := ⟨fun a => .agg [.int .i64 a.fr, .int .i64 a.n, .sl a.by'.length (byF a.by')], decCpy, noCpy, fun a => by simp [decCpy, bytesOf_by]⟩
@[push_cast] theorem lsF_cpy (l : List Cpy) (i : Nat) : lsF cCpy l i = .agg [.int .i64 (l.getD i noCpy).fr, .int .i64 (l.getD i noCpy).n, .sl (l.getD i noCpy).by'.length (byF (l.getD i noCpy).by')] := rfl
/-- how far two rows are the same -/
def cpl : List UInt8 → List UInt8 → Nat
  | x :: a, y :: b => if x = y then cpl a b + 1 else 0
  | _, _ => 0
theorem cpl_le : ∀ a b : List UInt8, cpl a b ≤ a.length ∧ cpl a b ≤ b.length
  | [], _ => ⟨Nat.zero_le _, Nat.zero_le _⟩
  | _ :: _, [] => ⟨Nat.zero_le _, Nat.zero_le _⟩
  | x :: a, y :: b => by
    have := cpl_le a b
    unfold cpl
    split
    · simp; omega
    · simp
theorem cpl_take : ∀ a b : List UInt8, a.take (cpl a b) = b.take (cpl a b)
  | [], b => by cases b <;> rfl
  | _ :: _, [] => rfl
  | x :: a, y :: b => by
    unfold cpl
    split
    · rename_i h; rw [List.take_succ_cons, List.take_succ_cons, cpl_take a b, h]
    · rfl
theorem cpl_at {a b : List UInt8} : ∀ {k : Nat}, k ≤ a.length → k ≤ b.length → (∀ j, j < k → a.getD j 0 = b.getD j 0) → (k < a.length → k < b.length → a.getD k 0 ≠ b.getD k 0) → cpl a b = k := by
  induction a generalizing b with
  | nil => intro k h1 _ _ _; simp at h1; subst h1; cases b <;> rfl
  | cons x t ih =>
    intro k h1 h2 h3 h4
    cases b with
    | nil => simp at h2; subst h2; rfl
    | cons y u =>
      cases k with
      | zero =>
        have := h4 (by simp) (by simp)
        simp only [List.getD_cons_zero] at this
        unfold cpl; rw [if_neg this]
      | succ k =>
        have h0 := h3 0 (by omega)
        simp only [List.getD_cons_zero] at h0
        unfold cpl
        rw [if_pos h0, ih (k := k) (by simpa using h1) (by simpa using h2) (fun j hj => by simpa using h3 (j + 1) (by omega)) (fun a1 a2 => by simpa using h4 (by simpa using a1) (by simpa using a2))]
/-- the longest row of a base with which bytes begin, among the first places -/
def lonN (base b : List UInt8) : Nat → Nat × Nat
  | 0 => (0, 0)
  | i + 1 => if (lonN base b i).2 < cpl (base.drop i) b then (i, cpl (base.drop i) b) else lonN base b i
theorem lonN_ok (base b : List UInt8) : ∀ i, i ≤ base.length → (lonN base b i).1 + (lonN base b i).2 ≤ base.length ∧ (lonN base b i).2 ≤ b.length ∧ (base.drop (lonN base b i).1).take (lonN base b i).2 = b.take (lonN base b i).2
  | 0, _ => ⟨Nat.zero_le _, Nat.zero_le _, rfl⟩
  | i + 1, h => by
    have ih := lonN_ok base b i (by omega)
    unfold lonN
    split
    · have := cpl_le (base.drop i) b
      rw [List.length_drop] at this
      exact ⟨by show i + cpl (base.drop i) b ≤ _; omega, this.2, cpl_take _ _⟩
    · exact ih
def lonB (base b : List UInt8) : Nat × Nat := lonN base b base.length
/-- what pieces make -/
def rebC (base : List UInt8) (c : Cpy) : List UInt8 := (base.drop c.fr.toNat).take c.n.toNat ++ c.by'
def rebL (base : List UInt8) (l : List Cpy) : List UInt8 := (l.map (rebC base)).flatten
def okC (base : List UInt8) (c : Cpy) : Prop := (0 < c.n ∧ c.by' = [] ∧ 0 ≤ c.fr ∧ c.fr + c.n ≤ base.length) ∨ (c.n = 0 ∧ c.fr = 0 ∧ c.by' ≠ [])
/-- a byte more, as it stands -/
def addB (out : List Cpy) (x : UInt8) : List Cpy := match out.getLast? with
  | some c => if c.n = 0 then out.dropLast ++ [⟨c.fr, 0, c.by' ++ [x]⟩] else out ++ [⟨0, 0, [x]⟩]
  | none => [⟨0, 0, [x]⟩]
def delG (base : List UInt8) : Nat → List UInt8 → List Cpy → List Cpy
  | 0, _, out => out
  | _ + 1, [], out => out
  | f + 1, x :: t, out => if 8 ≤ (lonB base (x :: t)).2 then delG base f ((x :: t).drop (lonB base (x :: t)).2) (out ++ [⟨(lonB base (x :: t)).1, (lonB base (x :: t)).2, []⟩]) else delG base f t (addB out x)
def delL (base b : List UInt8) : List Cpy := delG base b.length b []
theorem rebL_app (base : List UInt8) (a b : List Cpy) : rebL base (a ++ b) = rebL base a ++ rebL base b := by unfold rebL; rw [List.map_append, List.flatten_append]
theorem rebL_one (base : List UInt8) (c : Cpy) : rebL base [c] = rebC base c := by unfold rebL; simp
theorem addB_ok {base : List UInt8} {out : List Cpy} {x : UInt8} (h : ∀ c ∈ out, okC base c) : (∀ c ∈ addB out x, okC base c) ∧ rebL base (addB out x) = rebL base out ++ [x] ∧ (addB out x).length ≤ out.length + 1 := by
  unfold addB
  have hx : okC base ⟨0, 0, [x]⟩ := .inr ⟨rfl, rfl, by simp⟩
  have hr : rebC base ⟨0, 0, [x]⟩ = [x] := by unfold rebC; simp
  cases hl : out.getLast? with
  | none =>
    have : out = [] := List.getLast?_eq_none_iff.1 hl
    subst this
    exact ⟨fun c hc => by rw [List.mem_singleton.1 hc]; exact hx, by rw [rebL_one, hr]; rfl, by simp⟩
  | some c =>
    obtain ⟨p, rfl⟩ := List.getLast?_eq_some_iff.1 hl
    simp only
    split
    · rename_i h0
      have hc := h c (by simp)
      rw [List.dropLast_concat]
      have hc' : c.fr = 0 := by
        rcases hc with ⟨g, _⟩ | ⟨_, g, _⟩
        · omega
        · exact g
      refine ⟨fun d hd => ?_, ?_, by simp⟩
      · rcases List.mem_append.1 hd with hd | hd
        · exact h d (List.mem_append_left _ hd)
        · rw [List.mem_singleton.1 hd]; exact .inr ⟨rfl, hc', by simp⟩
      · rw [rebL_app, rebL_app, rebL_one, rebL_one]
        unfold rebC
        simp only [h0, hc']
        simp
    · refine ⟨fun d hd => ?_, ?_, by simp⟩
      · rcases List.mem_append.1 hd with hd | hd
        · exact h d hd
        · rw [List.mem_singleton.1 hd]; exact hx
      · rw [rebL_app (a := p ++ [c]), rebL_one, hr]
theorem delG_ok {base : List UInt8} : ∀ {f : Nat} {b : List UInt8} {out : List Cpy}, b.length ≤ f → (∀ c ∈ out, okC base c) → (∀ c ∈ delG base f b out, okC base c) ∧ rebL base (delG base f b out) = rebL base out ++ b ∧ (delG base f b out).length ≤ out.length + b.length
  | 0, b, out, hf, h => by
    have : b = [] := List.length_eq_zero_iff.1 (by omega)
    subst this
    exact ⟨h, by rw [List.append_nil]; rfl, by simp [delG]⟩
  | f + 1, [], out, _, h => ⟨h, by rw [List.append_nil]; rfl, by simp [delG]⟩
  | f + 1, x :: t, out, hf, h => by
    unfold delG
    have hl := lonN_ok base (x :: t) base.length (Nat.le_refl _)
    change (lonB base (x :: t)).1 + (lonB base (x :: t)).2 ≤ base.length ∧ (lonB base (x :: t)).2 ≤ (x :: t).length ∧ (base.drop (lonB base (x :: t)).1).take (lonB base (x :: t)).2 = (x :: t).take (lonB base (x :: t)).2 at hl
    generalize lonB base (x :: t) = q at *
    split
    · rename_i h8
      obtain ⟨l1, l2, l3⟩ := hl
      have hc : okC base ⟨q.1, q.2, []⟩ := .inl ⟨by show (0 : Int) < q.2; omega, rfl, by show (0 : Int) ≤ q.1; omega, by show (q.1 : Int) + q.2 ≤ base.length; omega⟩
      have hd : ((x :: t).drop q.2).length ≤ f := by rw [List.length_drop]; omega
      obtain ⟨r1, r2, r3⟩ := delG_ok (base := base) (out := out ++ [⟨q.1, q.2, []⟩]) hd fun c hc2 => by
        rcases List.mem_append.1 hc2 with g | g
        · exact h c g
        · rw [List.mem_singleton.1 g]; exact hc
      refine ⟨r1, ?_, ?_⟩
      · rw [r2, rebL_app, rebL_one, List.append_assoc]
        congr 1
        unfold rebC
        simp only [Int.toNat_natCast, List.append_nil]
        rw [l3, List.take_append_drop]
      · rw [List.length_append, List.length_singleton, List.length_drop] at r3
        omega
    · obtain ⟨a1, a2, a3⟩ := addB_ok (x := x) h
      obtain ⟨r1, r2, r3⟩ := delG_ok (base := base) (out := addB out x) (b := t) (f := f) (by simpa using hf) a1
      exact ⟨r1, by rw [r2, a2]; simp, by simp; omega⟩
theorem delL_ok (base b : List UInt8) : (∀ c ∈ delL base b, okC base c) ∧ rebL base (delL base b) = b ∧ (delL base b).length ≤ b.length := by
  obtain ⟨h1, h2, h3⟩ := delG_ok (base := base) (f := b.length) (b := b) (out := []) (Nat.le_refl _) fun c hc => by cases hc
  exact ⟨h1, by rw [show delL base b = delG base b.length b [] from rfl, h2]; rfl, by rw [List.length_nil, Nat.zero_add] at h3; exact h3⟩

def ckLongest : Ck
  | [.sl n f, .sl m g] => some (isBy n f ∧ isBy m g ∧ n ≤ 3000 ∧ m ≤ 3000, .tup [.int .i64 (lonB (bytesOf n f) (bytesOf m g)).1, .int .i64 (lonB (bytesOf n f) (bytesOf m g)).2])
  | _ => none
attribute [push_cast] ckLongest
def decCpG : V → Cpy
  | .agg [.int _ fr, .int _ n, .sl k g] => ⟨fr, n, bytesOf k g⟩
  | .agg [.int _ fr, .int _ n, _] => ⟨fr, n, []⟩
  | _ => noCpy
/-- pieces, with nil where there are no bytes -/
def cCpG : Cod Cpy := ⟨fun a => .agg [.int .i64 a.fr, .int .i64 a.n, bif a.by'.isEmpty then .nilsl else .sl a.by'.length (byF a.by')], decCpG, noCpy, fun a => by
  obtain ⟨x, y, z⟩ := a
  cases z with
  | nil => rfl
  | cons c t => show decCpG (.agg [.int .i64 x, .int .i64 y, .sl (c :: t).length (byF (c :: t))]) = _; simp only [decCpG, bytesOf_by]⟩
abbrev Own := Option Nat
def dlB (o : Own) (out : List Cpy) : List UInt8 := match o with
  | none => []
  | some i => (out.getD i noCpy).by'
def dlF (o : Own) (out : List Cpy) : Nat → V := fun i => bif decide (o = some i) then .agg [.int .i64 0, .int .i64 0, .vec 8001 (dlB o out).length] else lsF cCpG out i
structure DlOk (base b : List UInt8) (r : List UInt8) (out : List Cpy) (o : Own) : Prop where
  go : delG base r.length r out = delL base b
  len : out.length + r.length ≤ b.length
  own : ∀ i, o = some i → i < out.length ∧ (out.getD i noCpy).n = 0 ∧ (out.getD i noCpy).fr = 0 ∧ (out.getD i noCpy).by' ≠ []
  size : (dlB o out).length + r.length ≤ b.length
  last : ∀ p c, out = p ++ [c] → o ≠ some p.length → 0 < c.n ∧ c.by' = []
theorem delG_nil (base : List UInt8) (f : Nat) (out : List Cpy) : delG base f [] out = out := by cases f <;> rfl
theorem getD_appL {α : Type} (p : List α) (c d : α) {j : Nat} (h : j < p.length) : (p ++ [c]).getD j d = p.getD j d := by
  rw [List.getD_eq_getElem?_getD, List.getElem?_append_left h, ← List.getD_eq_getElem?_getD]
theorem getD_appR {α : Type} (p : List α) (c d : α) : (p ++ [c]).getD p.length d = c := by
  rw [List.getD_eq_getElem?_getD, List.getElem?_append_right (Nat.le_refl _), Nat.sub_self]; rfl
theorem enc_cpG (c : Cpy) : (∀ d, V.kill d (cCpG.enc c) = cCpG.enc c) ∧ (∀ a b, V.ren a b (cCpG.enc c) = cCpG.enc c) ∧ ∀ d z n f, frzV d z n f (cCpG.enc c) = cCpG.enc c := by
  obtain ⟨x, y, z⟩ := c
  cases z <;> exact ⟨fun _ => rfl, fun _ _ => rfl, fun _ _ _ _ => rfl⟩
@[push_cast] theorem kill_cpG (d : Nat) (l : List Cpy) (i : Nat) : V.kill d (lsF cCpG l i) = lsF cCpG l i := (enc_cpG _).1 d
theorem pure_cpG (l : List Cpy) (i : Nat) : (lsF cCpG l i).isPure = true := by
  show (cCpG.enc (l.getD i noCpy)).isPure = true
  obtain ⟨x, y, z⟩ := l.getD i noCpy
  cases z <;> rfl
theorem ren_cpG (a b : Nat) (l : List Cpy) (i : Nat) : V.ren a b (lsF cCpG l i) = lsF cCpG l i := (enc_cpG _).2.1 a b
theorem frz_cpG (d z n : Nat) (f : Nat → V) (l : List Cpy) (i : Nat) : frzV d z n f (lsF cCpG l i) = lsF cCpG l i := (enc_cpG _).2.2 d z n f
theorem cpG_at (l : List Cpy) {i : Nat} {c : Cpy} (h : l.getD i noCpy = c) (hb : c.by' = []) : lsF cCpG l i = .agg [.int .i64 c.fr, .int .i64 c.n, .nilsl] := by
  show cCpG.enc (l.getD i noCpy) = _
  rw [h]
  obtain ⟨x, y, z⟩ := c
  cases z with
  | nil => rfl
  | cons _ _ => cases hb
theorem cpG_lit (l : List Cpy) {i : Nat} {c : Cpy} (h : l.getD i noCpy = c) (hb : c.by' ≠ []) : lsF cCpG l i = .agg [.int .i64 c.fr, .int .i64 c.n, .sl c.by'.length (byF c.by')] := by
  show cCpG.enc (l.getD i noCpy) = _
  rw [h]
  obtain ⟨x, y, z⟩ := c
  cases z with
  | nil => exact absurd rfl hb
  | cons _ _ => rfl
@[push_cast] theorem nvO_any2 (t d sz : Nat) (f : Nat → V) (s : St) : nvO t d sz f s .any = s := rfl
@[push_cast] theorem toM1 (n : Nat) : ((n : Int) + 1 - 1).toNat = n := by omega
@[push_cast] theorem appF_at (n : Nat) (f g : Nat → V) : appF n f g n = g 0 := by unfold appF; rw [decide_eq_false (Nat.lt_irrefl n), cond_false, Nat.sub_self]
/-- the last literal, closed -/
theorem dlF_frz {base b r : List UInt8} {out : List Cpy} {o : Own} (h : DlOk base b r out o) (i : Nat) : frzV 8001 1 (dlB o out).length (byF (dlB o out)) (dlF o out i) = lsF cCpG out i := by
  unfold dlF
  by_cases e : o = some i
  · rw [decide_eq_true e, cond_true]
    obtain ⟨_, h2, h3, h4⟩ := h.own i e
    subst e
    rw [cpG_lit out rfl h4, h2, h3]
    show V.agg [.int .i64 0, .int .i64 0, frzV _ _ _ _ _] = _
    simp [frzV, dlB]
  · rw [decide_eq_false e, cond_false, frz_cpG]
theorem delG_fuel {base : List UInt8} : ∀ {f g : Nat} {r : List UInt8} {out : List Cpy}, r.length ≤ f → r.length ≤ g → delG base f r out = delG base g r out
  | 0, g, r, out, h, _ => by
    obtain rfl : r = [] := List.length_eq_zero_iff.1 (by omega)
    rw [delG_nil, delG_nil]
  | f + 1, 0, r, out, _, h => by
    obtain rfl : r = [] := List.length_eq_zero_iff.1 (by omega)
    rw [delG_nil, delG_nil]
  | f + 1, g + 1, [], out, _, _ => by rw [delG_nil, delG_nil]
  | f + 1, g + 1, x :: t, out, h1, h2 => by
    simp only [List.length_cons] at h1 h2
    unfold delG
    split
    · rename_i h8
      exact delG_fuel (by rw [List.length_drop, List.length_cons]; omega) (by rw [List.length_drop, List.length_cons]; omega)
    · exact delG_fuel (by omega) (by omega)
theorem lonB_le (base r : List UInt8) : (lonB base r).2 ≤ r.length := (lonN_ok base r base.length (Nat.le_refl _)).2.1
theorem kill_dlF {d : Nat} (hd : d ≠ 8001) (o : Own) (out : List Cpy) (i : Nat) : V.kill d (dlF o out i) = dlF o out i := by
  unfold dlF
  by_cases e : o = some i
  · rw [decide_eq_true e]
    show V.agg [_, _, bif (8001 : Nat) == d then V.any else _] = _
    rw [show ((8001 : Nat) == d) = false by simpa using fun x => hd x.symm]; rfl
  · rw [decide_eq_false e]; exact kill_cpG _ _ _
theorem shF_by (r : List UInt8) (k j : Nat) : shF (byF r) k j = byF (r.drop k) j := by
  unfold shF byF
  rw [List.getD_eq_getElem?_getD, List.getD_eq_getElem?_getD, List.getElem?_drop, Nat.add_comm]
theorem dlB_app {base b r : List UInt8} {out : List Cpy} {o : Own} (h : DlOk base b r out o) (c : Cpy) : dlB o (out ++ [c]) = dlB o out := by
  cases o with
  | none => rfl
  | some i =>
    show ((out ++ [c]).getD i noCpy).by' = _
    rw [getD_appL _ _ _ (h.own i rfl).1]; rfl
theorem lsF_appL {α : Type} (k : Cod α) (out : List α) (c : α) {j : Nat} (h : j < out.length) : lsF k (out ++ [c]) j = lsF k out j := by
  unfold lsF
  rw [getD_appL _ _ _ h]
theorem snoc_inj {α : Type} {p q : List α} {a b : α} (h : p ++ [a] = q ++ [b]) : p = q ∧ a = b := by
  have := List.append_inj' h rfl
  exact ⟨this.1, by simpa using this.2⟩
theorem dl_copy {base b r : List UInt8} {out : List Cpy} {o : Own} (h : DlOk base b r out o) (hr : 0 < r.length) (h8 : 8 ≤ (lonB base r).2) : DlOk base b (r.drop (lonB base r).2) (out ++ [⟨(lonB base r).1, (lonB base r).2, []⟩]) o ∧ ∀ j, j < out.length + 1 → appF out.length (fun i => V.kill 25 (V.kill 24 (dlF o out i))) (litF [.agg [.int .i64 (lonB base r).1, .int .i64 (lonB base r).2, .nilsl]]) j = dlF o (out ++ [⟨(lonB base r).1, (lonB base r).2, []⟩]) j := by
  obtain ⟨x, t, rfl⟩ : ∃ x t, r = x :: t := by
    cases r with
    | nil => simp at hr
    | cons x t => exact ⟨x, t, rfl⟩
  have hq := lonB_le base (x :: t)
  have hgo := h.go
  have hlen := h.len
  have hsz := h.size
  rw [List.length_cons] at hq hlen hsz
  refine ⟨⟨?_, ?_, fun i hi => ?_, ?_, fun p c e ho => ?_⟩, fun j hj => ?_⟩
  · rw [← hgo, List.length_cons, delG, if_pos h8]
    exact delG_fuel (Nat.le_refl _) (by rw [List.length_drop, List.length_cons]; omega)
  · rw [List.length_append, List.length_drop, List.length_singleton, List.length_cons]; omega
  · have := h.own i hi
    rw [getD_appL _ _ _ this.1]
    exact ⟨by rw [List.length_append]; omega, this.2⟩
  · rw [dlB_app h, List.length_drop, List.length_cons]; omega
  · obtain ⟨rfl, rfl⟩ := snoc_inj e
    exact ⟨by show (0 : Int) < ((lonB base (x :: t)).2 : Int); omega, rfl⟩
  · unfold appF
    by_cases e : j < out.length
    · rw [decide_eq_true e, cond_true]
      show V.kill 25 (V.kill 24 (dlF o out j)) = _
      rw [kill_dlF (d := 24) (by decide), kill_dlF (d := 25) (by decide)]
      unfold dlF
      rw [lsF_appL _ _ _ e, dlB_app h]
    · rw [decide_eq_false e, cond_false]
      obtain rfl : j = out.length := by omega
      unfold dlF
      rw [decide_eq_false (fun x => by have := (h.own _ x).1; omega), cond_false, Nat.sub_self, cpG_at _ (getD_appR out _ noCpy) rfl]; rfl
theorem dl_new {base b t : List UInt8} {x : UInt8} {out : List Cpy} {o : Own} (h : DlOk base b (x :: t) out o) (h8 : ¬ 8 ≤ (lonB base (x :: t)).2) (hl : ∀ p c, out = p ++ [c] → o ≠ some p.length) : DlOk base b t (out ++ [⟨0, 0, [x]⟩]) (some out.length) ∧ ∀ j, j < out.length + 1 → V.ren 60 8001 (V.kill 8001 (frzV 8001 1 (dlB o out).length (byF (dlB o out)) (appF out.length (fun i => V.kill 62 (V.kill 60 (dlF o out i))) (fun i => V.kill 62 (litF [.agg [.int .i64 0, .int .i64 0, .vec 60 1]] i)) j))) = dlF (some out.length) (out ++ [⟨0, 0, [x]⟩]) j := by
  have hgo := h.go
  have hlen := h.len
  have hsz := h.size
  rw [List.length_cons] at hlen hsz
  have hadd : addB out x = out ++ [⟨0, 0, [x]⟩] := by
    unfold addB
    cases e : out.getLast? with
    | none => rw [List.getLast?_eq_none_iff.1 e]; rfl
    | some c =>
      obtain ⟨p, rfl⟩ := List.getLast?_eq_some_iff.1 e
      have := (h.last p c rfl (hl p c rfl)).1
      simp only
      rw [if_neg (by omega)]
  have hB : dlB (some out.length) (out ++ [⟨0, 0, [x]⟩]) = [x] := by
    show ((out ++ [_]).getD out.length noCpy).by' = _
    rw [getD_appR]
  refine ⟨⟨?_, ?_, fun i hi => ?_, ?_, fun p c e ho => ?_⟩, fun j hj => ?_⟩
  · rw [← hgo, List.length_cons, delG, if_neg h8, hadd]
  · rw [List.length_append, List.length_singleton]; omega
  · obtain rfl : out.length = i := by simpa using hi
    rw [getD_appR]
    exact ⟨by rw [List.length_append, List.length_singleton]; omega, rfl, rfl, by simp⟩
  · rw [hB, List.length_singleton]; omega
  · obtain ⟨rfl, rfl⟩ := snoc_inj e
    exact absurd rfl ho
  · unfold appF
    by_cases e : j < out.length
    · rw [decide_eq_true e, cond_true]
      show V.ren 60 8001 (V.kill 8001 (frzV 8001 1 (dlB o out).length (byF (dlB o out)) (V.kill 62 (V.kill 60 (dlF o out j))))) = _
      rw [kill_dlF (d := 60) (by decide), kill_dlF (d := 62) (by decide), dlF_frz h, kill_cpG, ren_cpG]
      unfold dlF
      rw [decide_eq_false (fun x => by simp at x; omega), cond_false, lsF_appL _ _ _ e]
    · rw [decide_eq_false e, cond_false]
      obtain rfl : j = out.length := by omega
      unfold dlF
      rw [decide_eq_true rfl, cond_true, hB, Nat.sub_self]; rfl
theorem dl_grow {base b t : List UInt8} {x : UInt8} {p : List Cpy} {c : Cpy} (h : DlOk base b (x :: t) (p ++ [c]) (some p.length)) (h8 : ¬ 8 ≤ (lonB base (x :: t)).2) : DlOk base b t (p ++ [⟨0, 0, c.by' ++ [x]⟩]) (some p.length) ∧ ∀ j, j < p.length + 1 → setF (fun i => V.kill 53 (V.kill 52 (dlF (some p.length) (p ++ [c]) i))) p.length (.agg [.int .i64 0, .int .i64 0, .vec 8001 (c.by'.length + 1)]) j = dlF (some p.length) (p ++ [⟨0, 0, c.by' ++ [x]⟩]) j := by
  have hgo := h.go
  have hlen := h.len
  have hsz := h.size
  have ho := h.own _ rfl
  rw [getD_appR] at ho
  have hB : ∀ d : Cpy, dlB (some p.length) (p ++ [d]) = d.by' := fun d => by
    show ((p ++ [d]).getD p.length noCpy).by' = _
    rw [getD_appR]
  rw [hB] at hsz
  rw [List.length_cons] at hlen hsz
  have hadd : addB (p ++ [c]) x = p ++ [⟨0, 0, c.by' ++ [x]⟩] := by
    unfold addB
    rw [List.getLast?_concat]
    simp only
    rw [if_pos ho.2.1, List.dropLast_concat, ho.2.2.1]
  refine ⟨⟨?_, ?_, fun i hi => ?_, ?_, fun q d e ho2 => ?_⟩, fun j hj => ?_⟩
  · rw [← hgo, List.length_cons, delG, if_neg h8, hadd]
  · rw [List.length_append, List.length_singleton] at hlen ⊢; omega
  · obtain rfl : p.length = i := by simpa using hi
    rw [getD_appR]
    exact ⟨by rw [List.length_append, List.length_singleton]; omega, rfl, rfl, by simp⟩
  · rw [hB]; simp; omega
  · obtain ⟨rfl, rfl⟩ := snoc_inj e
    exact absurd rfl ho2
  · unfold setF
    by_cases e : j = p.length
    · subst e
      rw [decide_eq_true rfl, cond_true]
      unfold dlF
      rw [decide_eq_true rfl, cond_true, hB]
      simp
    · rw [decide_eq_false e, cond_false]
      show V.kill 53 (V.kill 52 (dlF (some p.length) (p ++ [c]) j)) = _
      rw [kill_dlF (d := 52) (by decide), kill_dlF (d := 53) (by decide)]
      unfold dlF
      rw [decide_eq_false (fun x => e (by simpa using x.symm)), cond_false, cond_false, lsF_appL _ _ _ (by omega), lsF_appL _ _ _ (by omega)]
def ckDeltaG : Ck
  | [.sl n f, .sl m g] => some (isBy n f ∧ isBy m g ∧ n ≤ 3000 ∧ m ≤ 3000, .sl (delL (bytesOf n f) (bytesOf m g)).length (lsF cCpG (delL (bytesOf n f) (bytesOf m g))))
  | _ => none
attribute [push_cast] ckDeltaG
theorem pcall_resD {f : FuncId} {args : List V} {r r' : V} (hv : VLe r r') (h : PCall pg f args r) : PCall pg f args r' := by
  intro S vals hs hh hlen hr
  exact (h S vals hs hh hlen hr).mono fun e w' ⟨v, γ', imm', e1, e2, e3, e4, e5⟩ => ⟨v, γ', imm', e1, e2, e3, e4, hv _ _ _ _ e5⟩
theorem VLe.tup2D {a b c : V} (h : VLe a b) : VLe (.tup [a, c]) (.tup [b, c]) := by
  intro γ imm w v hr
  obtain ⟨vs, rfl, h1, h2⟩ := inv_tup (S := ⟨γ, imm, fun _ => none, w⟩) hr
  exact .tup _ vs h1 fun i hi => by
    match i, hi with
    | 0, _ => exact h _ _ _ _ (h2 0 (by simp))
    | 1, _ => exact h2 1 (by simp)
theorem ple_nilD (f : Nat → V) : PLe .nilsl (.sl 0 f) := by
  intro imm w v h
  cases h
  exact .sl0 _ _ _
theorem cpG_ple (c : Cpy) : pleL (cCpG.enc c).flat (cCpy.enc c).flat := by
  obtain ⟨x, y, z⟩ := c
  refine ⟨PLe.refl _, PLe.refl _, ?_, trivial⟩
  cases z with
  | nil => exact ple_nilD _
  | cons _ _ => exact PLe.refl _
def ckDelta : Ck
  | [.sl n f, .sl m g] => some (isBy n f ∧ isBy m g ∧ n ≤ 3000 ∧ m ≤ 3000, .sl (delL (bytesOf n f) (bytesOf m g)).length (lsF cCpy (delL (bytesOf n f) (bytesOf m g))))
  | _ => none
attribute [push_cast] ckDelta

/- keys of addresses, by rules of sameness -/
/-- the letters of a path made small, but those behind % -/
def smP : Nat → List UInt8 → List UInt8
  | 0, _ => []
  | _ + 1, [] => []
  | f + 1, c :: t => if c = 37 then c :: (t.take 2 ++ smP f (t.drop 2)) else (if 65 ≤ c.toNat ∧ c.toNat ≤ 90 then UInt8.ofNat (c.toNat + 32) else c) :: smP f t
theorem smP_len : ∀ (f : Nat) (s : List UInt8), s.length ≤ f → (smP f s).length = s.length
  | 0, s, h => by have : s = [] := List.length_eq_zero_iff.1 (by omega); subst this; rfl
  | f + 1, [], h => rfl
  | f + 1, c :: t, h => by
    unfold smP
    simp only [List.length_cons] at h
    by_cases hc : c = 37
    · rw [if_pos hc, List.length_cons, List.length_append, smP_len f (t.drop 2) (by rw [List.length_drop]; omega), List.length_take, List.length_drop, List.length_cons]; omega
    · rw [if_neg hc, List.length_cons, List.length_cons, smP_len f t (by omega)]
def smallP (s : List UInt8) : List UInt8 := smP s.length s
theorem smP_fuel : ∀ (f g : Nat) (s : List UInt8), s.length ≤ f → s.length ≤ g → smP f s = smP g s
  | 0, g, s, h, _ => by
    have : s = [] := List.length_eq_zero_iff.1 (by omega)
    subst this
    cases g <;> rfl
  | f + 1, 0, s, _, h => by
    have : s = [] := List.length_eq_zero_iff.1 (by omega)
    subst this; rfl
  | f + 1, g + 1, [], _, _ => rfl
  | f + 1, g + 1, c :: t, h1, h2 => by
    simp only [List.length_cons] at h1 h2
    unfold smP
    rw [smP_fuel f g (t.drop 2) (by rw [List.length_drop]; omega) (by rw [List.length_drop]; omega), smP_fuel f g t (by omega) (by omega)]
theorem smP_s (f : Nat) (c : UInt8) (t : List UInt8) : smP (f + 1) (c :: t) = if c = 37 then c :: (t.take 2 ++ smP f (t.drop 2)) else (if 65 ≤ c.toNat ∧ c.toNat ≤ 90 then UInt8.ofNat (c.toNat + 32) else c) :: smP f t := rfl
/-- between the rounds of smallPath -/
def smI (s : List UInt8) (t : List UInt8 × Nat) : Prop := t.1.length = s.length ∧ t.1.drop t.2 = s.drop t.2 ∧ t.1.take t.2 ++ smP (s.length - t.2) (s.drop t.2) = smallP s ∧ t.2 ≤ s.length + 2
theorem smI_0 (s : List UInt8) : smI s (s, 0) := ⟨rfl, rfl, rfl, by simp⟩
theorem smI_end {s D : List UInt8} {i : Nat} (h : smI s (D, i)) (hi : s.length ≤ i) : D = smallP s := by
  obtain ⟨h1, h2, h3, -⟩ := h
  have h3 : D.take i ++ smP (s.length - i) (s.drop i) = smallP s := h3
  have h1 : D.length = s.length := h1
  rw [show s.length - i = 0 by omega, List.take_of_length_le (by omega)] at h3
  simpa [smP] using h3
theorem smI_c {s D : List UInt8} {i : Nat} (h : smI s (D, i)) (hi : i < s.length) : s.drop i = D.getD i 0 :: s.drop (i + 1) ∧ D.drop (i + 1) = s.drop (i + 1) := by
  obtain ⟨h1, h2, -, -⟩ := h
  have h1 : D.length = s.length := h1
  have h2 : D.drop i = s.drop i := h2
  have e : D.drop i = D.getD i 0 :: D.drop (i + 1) := by
    rw [List.drop_eq_getElem_cons (by omega), List.getD_eq_getElem?_getD, List.getElem?_eq_getElem (by omega)]; rfl
  have e2 : D.drop (i + 1) = s.drop (i + 1) := by
    have := congrArg List.tail h2
    simpa using this
  exact ⟨by rw [← h2, e, e2], e2⟩
theorem smI_37 {s D : List UInt8} {i : Nat} (h : smI s (D, i)) (hi : i < s.length) (hc : D.getD i 0 = 37) : smI s (D, i + 3) := by
  obtain ⟨c1, c2⟩ := smI_c h hi
  obtain ⟨h1, h2, h3, h4⟩ := h
  have h1 : D.length = s.length := h1
  have h2 : D.drop i = s.drop i := h2
  have h3 : D.take i ++ smP (s.length - i) (s.drop i) = smallP s := h3
  refine ⟨h1, ?_, ?_, ?_⟩
  · show D.drop (i + 3) = s.drop (i + 3)
    have := congrArg (List.drop 2) c2
    simpa [List.drop_drop] using this
  · show D.take (i + 3) ++ smP (s.length - (i + 3)) (s.drop (i + 3)) = smallP s
    rw [← h3, c1, show s.length - i = (s.length - i - 1) + 1 by omega]
    rw [smP_s, if_pos hc, List.drop_drop, smP_fuel (s.length - i - 1) (s.length - (i + 3)) (s.drop (i + 1 + 2)) (by rw [List.length_drop]; omega) (by rw [List.length_drop]; omega)]
    have e : D.take (i + 3) = D.take i ++ (D.getD i 0 :: (s.drop (i + 1)).take 2) := by
      rw [show i + 3 = i + 3 from rfl, List.take_add, h2, c1]; rfl
    rw [e]
    simp
  · show i + 3 ≤ s.length + 2
    omega
theorem smI_one {s D : List UInt8} {i : Nat} (h : smI s (D, i)) (hi : i < s.length) (hc : ¬ D.getD i 0 = 37) : smI s (D.set i (if 65 ≤ (D.getD i 0).toNat ∧ (D.getD i 0).toNat ≤ 90 then UInt8.ofNat ((D.getD i 0).toNat + 32) else D.getD i 0), i + 1) := by
  obtain ⟨c1, c2⟩ := smI_c h hi
  obtain ⟨h1, h2, h3, h4⟩ := h
  have h1 : D.length = s.length := h1
  have h3 : D.take i ++ smP (s.length - i) (s.drop i) = smallP s := h3
  generalize hx : (if 65 ≤ (D.getD i 0).toNat ∧ (D.getD i 0).toNat ≤ 90 then UInt8.ofNat ((D.getD i 0).toNat + 32) else D.getD i 0) = x
  refine ⟨by show (D.set i x).length = _; rw [List.length_set]; exact h1, ?_, ?_, by show i + 1 ≤ _; omega⟩
  · show (D.set i x).drop (i + 1) = s.drop (i + 1)
    rw [List.drop_set_of_lt (by omega)]; exact c2
  · show (D.set i x).take (i + 1) ++ smP (s.length - (i + 1)) (s.drop (i + 1)) = smallP s
    rw [← h3, c1, show s.length - i = (s.length - (i + 1)) + 1 by omega]
    rw [smP_s, if_neg hc, hx]
    have e : (D.set i x).take (i + 1) = D.take i ++ [x] := by
      rw [List.take_succ_eq_append_getElem (by rw [List.length_set]; omega), List.take_set, List.getElem_set_self]
      congr 1
      exact List.set_eq_of_length_le (by rw [List.length_take]; omega)
    rw [e, List.append_assoc]
    rfl
def trS : Nat → List UInt8 → List UInt8
  | 0, s => s
  | f + 1, s => if 1 < s.length ∧ s.getD (s.length - 1) 0 = 47 then trS f (s.take (s.length - 1)) else s
theorem trS_len : ∀ (f : Nat) (s : List UInt8), (trS f s).length ≤ s.length
  | 0, s => Nat.le_refl _
  | f + 1, s => by
    unfold trS
    split
    · have := trS_len f (s.take (s.length - 1))
      rw [List.length_take] at this; omega
    · exact Nat.le_refl _
theorem trS_end (f : Nat) {s : List UInt8} (h : ¬ (1 < s.length ∧ s.getD (s.length - 1) 0 = 47)) : trS f s = s := by
  cases f with
  | zero => rfl
  | succ f => unfold trS; rw [if_neg h]

def ckSmallP : Ck
  | [.str s] => some (s.length ≤ 1000000000, .str (smallP s))
  | _ => none
theorem conSmallP : Con pg 108 ckSmallP := by
  have hct := ctN_ok pg
  intro args q r h hq
  unfold ckSmallP at h
  split at h
  · cases h
    rename_i s
    refine w108 (fun _ => false) [] rfl hct rfl rfl ?_
    push_cast (config := { maxSteps := 10000000 })
    have hl : s.length ≤ 1000000000 := hq
    refine LoopW.adj ⟨hct, fol⟩ (by kernel_rfl) [] (fun t : List UInt8 × Nat => [(3, .vec 6 s.length), (4, .int .i64 t.2)]) (fun t => [(6, .vec 1 s.length (byF t.1))]) (smI s) (fun t => s.length + 2 - t.2) (s, 0) ?_ fun t ht => ?_
    · push_cast (config := { maxSteps := 10000000 })
      exact smI_0 s
    · obtain ⟨D, i⟩ := t
      have h1 : D.length = s.length := ht.1
      have e37 : ((D.getD i 0).toNat : Int) = 37 ↔ D.getD i 0 = 37 := by
        constructor
        · intro h
          apply UInt8.toNat_inj.1
          have e : (37 : UInt8).toNat = 37 := rfl
          omega
        · intro h; rw [h]; rfl
      push_cast (config := { maxSteps := 10000000 })
      refine ⟨fun hi => ?_, fun hi => ?_⟩
      · have hone := @smI_one s D i ht hi
        refine ⟨hi, hi, fun hc => ⟨⟨by omega, by omega⟩, ⟨by omega, by omega⟩, (D, i + 3), smI_37 ht hi (e37.1 hc), by show s.length + 2 - (i + 3) < _; omega, by show (i : Int) + 2 + 1 = ((i + 3 : Nat) : Int); omega, fun _ _ => rfl⟩, fun hc => ⟨hi, hi, fun h => ⟨h, hi⟩, fun h => ⟨h, hi⟩, fun hb => ⟨hi, hi, hi, hi, ⟨by omega, by omega⟩, (D.set i (UInt8.ofNat ((D.getD i 0).toNat + 32)), i + 1), ?_, by show s.length + 2 - (i + 1) < _; omega, by show (i : Int) + 1 = ((i + 1 : Nat) : Int); omega, fun j hj => ?_⟩, fun hb => ⟨⟨by omega, by omega⟩, (D, i + 1), ?_, by show s.length + 2 - (i + 1) < _; omega, by show (i : Int) + 1 = ((i + 1 : Nat) : Int); omega, fun _ _ => rfl⟩⟩⟩
        · have h := hone fun h => hc (e37.2 h)
          rw [if_pos (by omega)] at h
          exact h
        · show setF (byF D) i (V.int .u8 ((((D.getD i 0).toNat : Int) + 32) % 256)) j = byF (D.set i (UInt8.ofNat ((D.getD i 0).toNat + 32))) j
          unfold setF byF
          by_cases e : j = i
          · subst e
            rw [decide_eq_true rfl, cond_true, List.getD_eq_getElem?_getD (l := D.set j _), List.getElem?_set_self (by omega)]
            show V.int .u8 _ = V.int .u8 ((UInt8.ofNat ((D.getD j 0).toNat + 32)).toNat : Int)
            rw [UInt8.toNat_ofNat']
            congr 1
          · rw [decide_eq_false e, cond_false, List.getD_eq_getElem?_getD, List.getD_eq_getElem?_getD, List.getElem?_set_ne (fun h => e h.symm)]
        · have h := hone fun h => hc (e37.2 h)
          rw [if_neg (by omega)] at h
          have e : D.set i (D.getD i 0) = D := by
            rw [List.getD_eq_getElem?_getD, List.getElem?_eq_getElem (by omega)]
            exact List.set_getElem_self _
          rw [e] at h
          exact h
      · rw [← smI_end ht (by omega), ← h1]
        exact (ByI.by D).bytes
  · cases h
attribute [push_cast] ckSmallP

def pk1 (l : List Sam) (s : List UInt8) : List UInt8 := if hasSam l 3 [] = true then smallP s else s
def pk2 (l : List Sam) (p : List UInt8) : List UInt8 := if ¬ p.drop (lastI p 47 p.length + 1).toNat = [] ∧ hasSam l 5 (p.drop (lastI p 47 p.length + 1).toNat) = true then p.take (lastI p 47 p.length + 1).toNat else p
def pk3 (l : List Sam) (p : List UInt8) : List UInt8 := if hasSam l 4 [] = true then trS p.length p else p
theorem pk1_len (l : List Sam) (s : List UInt8) : (pk1 l s).length = s.length := by
  unfold pk1
  split
  · exact smP_len _ _ (Nat.le_refl _)
  · rfl
def ckPathO : Ck
  | [.str s, .sl n f] => some (s.length ≤ 1000000000 ∧ isLs cSam n f ∧ n ≤ 4611686018427387904, .str (pk3 (lsOf cSam n f) (pk2 (lsOf cSam n f) (pk1 (lsOf cSam n f) s))))
  | _ => none
theorem conPathO : Con pg 59 ckPathO := by
  have hct := (ctA_ok conHasS (ctA_ok conSmallP (ctA_ok conLastIdx (ctN_ok _))))
  intro args q r h hq
  unfold ckPathO at h
  split at h
  · cases h
    rename_i s n f
    refine w59 (fun d => decide (d = 20003 ∨ d = 20006)) [] rfl hct rfl rfl ?_
    push_cast (config := { maxSteps := 10000000 })
    obtain ⟨hs, hl, hn⟩ := hq
    have hl1 := pk1_len (lsOf cSam n f) s
    refine SeqW.cut ⟨hct, fol⟩ (by kernel_rfl) (by kernel_rfl) [] (fun p : List UInt8 => [(0, .str p), (1, .sl n f)]) (fun _ => []) (fun p => p = pk1 (lsOf cSam n f) s) ?_ fun p hp => ?_
    · push_cast (config := { maxSteps := 10000000 })
      refine ⟨⟨hl, hn⟩, fun h => ⟨hs, _, rfl, ?_⟩, fun h => ⟨_, rfl, ?_⟩⟩
      · unfold pk1; rw [if_pos h]
      · unfold pk1; rw [if_neg (by rw [h]; simp)]
    rw [← hp] at hl1 ⊢
    clear hp
    refine SeqW.cut ⟨hct, fol⟩ (by kernel_rfl) (by kernel_rfl) [] (fun q : List UInt8 => [(0, .str q), (1, .sl n f)]) (fun _ => []) (fun q => q = pk2 (lsOf cSam n f) p) ?_ fun q hq2 => ?_
    · have hb := lastI_b p 47 p.length
      push_cast (config := { maxSteps := 10000000 })
      refine ⟨by omega, ⟨by omega, by omega⟩, ⟨⟨by omega, by omega⟩, by omega⟩, fun h => ⟨h, by omega, by omega⟩, fun h => ⟨h, ⟨by omega, by omega⟩, by omega⟩, fun h => ⟨h, hl, hn⟩, fun h => ⟨⟨by omega, by omega⟩, ⟨⟨by omega, by omega⟩, by omega⟩, _, rfl, ?_⟩, fun h => ⟨_, rfl, ?_⟩⟩
      · unfold pk2; rw [if_pos h]
      · unfold pk2; rw [if_neg (fun x => by rw [h x.1] at x; cases x.2)]
    rw [← hq2]
    have hql : q.length ≤ s.length := by
      rw [hq2, ← hl1]
      unfold pk2
      split
      · rw [List.length_take]; omega
      · exact Nat.le_refl _
    clear hq2
    push_cast (config := { maxSteps := 10000000 })
    refine ⟨⟨hl, hn⟩, fun h => ?_, fun h => ?_⟩
    · have e : pk3 (lsOf cSam n f) q = trS q.length q := by unfold pk3; rw [if_pos h]
      rw [e]
      refine LoopW.adj ⟨hct, fol⟩ (by kernel_rfl) [] (fun r : List UInt8 => [(0, .str r)]) (fun _ => []) (fun r => trS r.length r = trS q.length q ∧ r.length ≤ q.length) (fun r => r.length) q ?_ fun r hr => ?_
      · push_cast (config := { maxSteps := 10000000 })
        exact Nat.le_refl _
      · obtain ⟨r1, r2⟩ := hr
        have e47 : ∀ c : UInt8, (c.toNat : Int) = 47 ↔ c = 47 := fun c => by
          constructor
          · intro h
            apply UInt8.toNat_inj.1
            have e : (47 : UInt8).toNat = 47 := rfl
            omega
          · intro h; rw [h]; rfl
        push_cast (config := { maxSteps := 10000000 })
        rw [show ((r.length : Int) - 1).toNat = r.length - 1 by omega]
        simp only [e47]
        refine ⟨fun h => ⟨h, by omega, by omega⟩, fun h => ⟨h, by omega, by omega⟩, fun h => ⟨⟨by omega, by omega⟩, ⟨⟨by omega, by omega⟩, by omega⟩, _, ⟨?_, ?_⟩, ?_, rfl⟩, fun h => ?_⟩
        · rw [← r1]
          have e2 : (r.take (r.length - 1)).length = r.length - 1 := by rw [List.length_take]; omega
          rw [e2]
          conv => rhs; rw [show r.length = (r.length - 1) + 1 by omega]
          unfold trS
          rw [if_pos ⟨by omega, by simpa using h.2⟩]
          cases r.length - 1 <;> rfl
        · rw [List.length_take]; omega
        · rw [List.length_take]; omega
        · rw [← r1, trS_end]
          exact fun x => h (by omega) x.2
    · unfold pk3; rw [if_neg (by rw [h]; simp)]
  · cases h
attribute [push_cast] ckPathO

/- the key of an address, by rules of sameness (plain) -/
def qryP (l : List Sam) (q : List UInt8) : List (List UInt8) := (splitL q 38).filter fun p => decide ((Lib.cut p [61]).1 = []) || !hasSam l 7 (Lib.cut p [61]).1
def qryL (l : List Sam) (q : List UInt8) : List UInt8 :=
  if qryP l q = [] then []
  else [63] ++ Lib.join (if hasSam l 6 [] = true then (qryP l q).mergeSort (fun x y => decide (x ≤ y)) else qryP l q) [38]
def wWww : List UInt8 := [119, 119, 119, 46]
def hostK (l : List Sam) (h : List UInt8) : List UInt8 := if hasPre h wWww = true ∧ hasSam l 2 [] = true then h.drop 4 else h
/-- of a right address that is normal -/
def keyN (l : List Sam) (a : Adr) : List UInt8 :=
  Lib.join (splitL (hostK l a.ho) 46).reverse [44] ++ (if a.po = [] then [] else [58] ++ a.po) ++ [41] ++ (if a.sc = [104, 116, 116, 112, 115] ∧ hasSam l 1 [] = false then [115] else []) ++ pk3 l (pk2 l (pk1 l a.pa)) ++ (if a.hq = true then qryL l a.qu else [])
def keyL (l : List Sam) (a : Adr) : List UInt8 := keyN l (normA a)

/- how long keys are -/
theorem jn_len {k : Nat} : ∀ {L : List (List UInt8)}, (∀ x ∈ L, x.length ≤ k) → ∀ c : List UInt8, (Lib.join L c).length ≤ L.length * (k + c.length)
  | [], _, c => Nat.zero_le _
  | [x], h, c => by
    have := h x List.mem_cons_self
    have e : Lib.join [x] c = x := by simp [Lib.join, List.intercalate]
    rw [e, List.length_singleton]; omega
  | x :: y :: t, h, c => by
    have h1 := h x List.mem_cons_self
    have h2 := jn_len (L := y :: t) (fun z hz => h z (List.mem_cons_of_mem _ hz)) c
    have e : Lib.join (x :: y :: t) c = x ++ (c ++ Lib.join (y :: t) c) := by simp [Lib.join, List.intercalate]
    rw [e, List.length_append, List.length_append, List.length_cons, Nat.succ_mul]
    omega
theorem sp_mem {s : List UInt8} {c : UInt8} : ∀ x ∈ splitL s c, x.length ≤ s.length := fun x hx => by
  rw [splitL_eq] at hx
  exact spl_len c s x hx
/-- labels in the contrary order -/
theorem turn_len {s d : List UInt8} {c : UInt8} (h : s.length ≤ 2001) (hd : d.length ≤ 1) : (Lib.join (splitL s c).reverse d).length ≤ 4008004 := by
  have h1 := jn_len (k := 2001) (L := (splitL s c).reverse) (fun x hx => Nat.le_trans (sp_mem x (List.mem_reverse.1 hx)) h) d
  have h2 := splitL_le s c
  rw [List.length_reverse] at h1
  have h3 : (splitL s c).length * (2001 + d.length) ≤ 2002 * 2002 := Nat.mul_le_mul (by omega) (by omega)
  omega
theorem qry_len {l : List Sam} {q : List UInt8} (h : q.length ≤ 2001) : (qryL l q).length ≤ 4008005 ∧ ∀ P : List (List UInt8), (∀ x ∈ P, x ∈ qryP l q) → P.length = (qryP l q).length → (Lib.join P [38]).length ≤ 4008004 := by
  have hP : ∀ P : List (List UInt8), (∀ x ∈ P, x ∈ qryP l q) → P.length = (qryP l q).length → (Lib.join P [38]).length ≤ 4008004 := fun P hm hl => by
    have h1 := jn_len (k := 2001) (L := P) (fun x hx => by
      have := hm x hx
      unfold qryP at this
      exact Nat.le_trans (sp_mem x (List.mem_filter.1 this).1) h) [38]
    have h2 := splitL_le q 38
    have h3 : (qryP l q).length ≤ (splitL q 38).length := by unfold qryP; exact List.length_filter_le _ _
    have h4 : P.length * (2001 + [(38 : UInt8)].length) ≤ 2002 * 2002 := Nat.mul_le_mul (by omega) (by show 2001 + 1 ≤ 2002; omega)
    omega
  refine ⟨?_, hP⟩
  unfold qryL
  split
  · exact Nat.zero_le _
  · rw [List.length_append]
    show 1 + _ ≤ _
    split
    · have := hP ((qryP l q).mergeSort (fun x y => decide (x ≤ y))) (fun x hx => List.mem_mergeSort.1 hx) (List.length_mergeSort _)
      omega
    · have := hP _ (fun x hx => hx) rfl
      omega
theorem norm_sz {a : Adr} (h : checkAdrL a = 0) : (normA a).sc.length ≤ 2000 ∧ (normA a).ho.length ≤ 2000 ∧ (normA a).po.length ≤ 2000 ∧ (normA a).pa.length ≤ 2001 ∧ (normA a).qu.length ≤ 2000 := by
  obtain ⟨z1, z2, z3, z4, z5, z6, z7, z8⟩ := check_sz h
  have h1 := undotL_len (normL a.pa)
  have h2 := normL_len a.pa
  have h3 := normL_len a.qu
  have h4 := trimZ_len a.po
  have h5 : (portA a).length ≤ (trimZ a.po).length := by unfold portA; split <;> simp
  have h6 : (npL a).length ≤ 2001 := by
    unfold npL
    split
    · simp
    · omega
  have h7 := lowL_len a.sc
  have h8 := lowL_len a.ho
  exact ⟨by show (lowL a.sc).length ≤ _; omega, by show (lowL a.ho).length ≤ _; omega, by show (portA a).length ≤ _; omega, by show (npL a).length ≤ _; omega, by show (normL a.qu).length ≤ _; omega⟩
theorem pk2_len (l : List Sam) (p : List UInt8) : (pk2 l p).length ≤ p.length := by
  unfold pk2
  split
  · rw [List.length_take]; omega
  · exact Nat.le_refl _
theorem pk3_len (l : List Sam) (p : List UInt8) : (pk3 l p).length ≤ p.length := by
  unfold pk3
  split
  · exact trS_len _ _
  · exact Nat.le_refl _
theorem pkk_len (l : List Sam) (p : List UInt8) : (pk3 l (pk2 l (pk1 l p))).length ≤ p.length := by
  have h1 := pk3_len l (pk2 l (pk1 l p))
  have h2 := pk2_len l (pk1 l p)
  have h3 := pk1_len l p
  omega
/-- a key has a ) -/
theorem key_has (l : List Sam) (a : Adr) : 41 ∈ keyL l a := by
  unfold keyL keyN
  simp

/- slices.Sort of strings -/
def srtS (l : List (List UInt8)) : List (List UInt8) := l.mergeSort (fun x y => decide (x ≤ y))
theorem srtS_nil : srtS [] = [] := by simp [srtS]
theorem srtS_len (l : List (List UInt8)) : (srtS l).length = l.length := List.length_mergeSort _
def ckSortSK : List V → List Blk → Option (Prop × V × List Blk)
  | [.vec _ n], [.vec 1 k g] => some (k = n ∧ isLs cStr n g ∧ n ≤ 1000000, .tup [], [.vec 1 n (lsF cStr (srtS (lsOf cStr n g)))])
  | _, _ => none
def ckSortS : Cf := ⟨fun | .vec i _ :: _ => [i] | _ => [], ckSortSK⟩
theorem frozen_noS {w : World} {b : Nat} {arr : Array Value} {t : TypeId} {lo hi : Nat} (hb : w.heap[b]? = some (.cells arr t (lo, hi))) (h : lo = hi ∨ arr.size ≤ lo) (q : Nat) (hq : q < arr.size) : w.frozen? ⟨b, q, none⟩ = false := by
  simp only [World.frozen?, hb, Bool.and_eq_false_iff, decide_eq_false_iff_not]; omega
theorem put_heap {w : World} {b : Nat} {arr : Array Value} {t : TypeId} {fr : Nat × Nat} (hb : w.heap[b]? = some (.cells arr t fr)) (n : Nat) (d : Array (List UInt8)) (os : Array Obj) :
    (Sort.grow (Sort.putRow Go.Proofs.encStr (Sort.ahead w n) b 0 d) os).heap[b]? = some (.cells (Sort.putCells Go.Proofs.encStr 0 d arr) t fr) ∧ (∀ c, c < w.heap.size → c ≠ b → (Sort.grow (Sort.putRow Go.Proofs.encStr (Sort.ahead w n) b 0 d) os).heap[c]? = w.heap[c]?) := by
  have hlt : b < w.heap.size := (Array.getElem?_eq_some_iff.1 hb).1
  have e : (Sort.putRow Go.Proofs.encStr (Sort.ahead w n) b 0 d).heap = w.heap.modify b (Sort.onCells (Sort.putCells Go.Proofs.encStr 0 d)) := rfl
  constructor
  · show ((Sort.putRow Go.Proofs.encStr (Sort.ahead w n) b 0 d).heap ++ os)[b]? = _
    rw [e, Array.getElem?_append, if_pos (by rw [Array.size_modify]; exact hlt), Array.getElem?_modify, if_pos rfl, hb]
    rfl
  · intro c hc hcb
    show ((Sort.putRow Go.Proofs.encStr (Sort.ahead w n) b 0 d).heap ++ os)[c]? = _
    rw [e, Array.getElem?_append, if_pos (by rw [Array.size_modify]; exact hc), Array.getElem?_modify, if_neg (fun x => hcb x.symm)]
theorem conSortS : FCon pg 12 ckSortS := by
  intro args bs q r bs' h hq
  replace h : ckSortSK args bs = some (q, r, bs') := h
  unfold ckSortSK at h
  split at h
  · cases h
    rename_i i n k f
    refine ⟨rfl, Nat.le_refl _, ?_⟩
    obtain ⟨rfl, hf, hn⟩ := hq
    show FCall pg 12 [.vec (i + 9000) k] [(i + 9000, .vec 1 k fun j => V.shift (f j))] (.tup []) [(i + 9000, .vec 1 k (lsF cStr (srtS (lsOf cStr k f))))]
    refine fcall_blk (hm := [(i + 9000, .vec 1 (lsOf cStr k f).length (lsF cStr (lsOf cStr k f)))]) ⟨rfl, ⟨rfl, (lsOf_len k f).symm, fun j hj => by show V.shift (f j) = _; rw [hf.2 j hj]; rfl⟩, trivial⟩ ?_
    have hk := lsOf_len (c := cStr) k f
    generalize lsOf cStr k f = l at hk ⊢
    subst hk
    intro S vals hs hh hl hr
    obtain ⟨v0, rfl⟩ : ∃ v0, vals = [v0] := by
      match vals, hl with
      | [x], _ => exact ⟨x, rfl⟩
    have r0 : S.rep (.vec (i + 9000) l.length) v0 := hr 0 (by simp)
    have hid : S.h (i + 9000) = some (.vec 1 l.length (lsF cStr l)) := by rw [hh]; simp [hOf]
    obtain ⟨va, vm, vc, g1, g2, g3⟩ := inv_vec r0
    have em := vec_len hs hid g1
    subst em
    obtain rfl := g3 rfl
    refine .inl ⟨by kernel_rfl, ?_⟩
    by_cases h0 : l.length = 0
    · have hl0 : l = [] := List.length_eq_zero_iff.1 h0
      subst hl0
      show Calls pg.prog _ #[S.γ (i + 9000)] S.w _
      rw [g1]
      refine (Tryz.slices_Sort_string_none va vc S.w).mono fun e w' h => ?_
      obtain ⟨rfl, rfl⟩ := h
      rw [srtS_nil, show hOf [(i + 9000, Blk.vec 1 ([] : List (List UInt8)).length (lsF cStr []))] = S.h from hh.symm]
      exact ⟨.tuple #[], S.γ, S.imm, rfl, hs, Ext.refl _ S, fun _ _ => rfl, .tup [] [] rfl (fun i hi => by cases hi)⟩
    obtain ⟨k1, k2, ⟨k3, va', k4⟩ | ⟨b, cap, arr, tt, lo, hi', k3, k4, kc, k5, k6, k7, k8⟩⟩ := hs.blk _ _ hid
    · omega
    have bi : blkOf (S.γ (i + 9000)) = some b := by rw [k3]; simp [blkOf]; omega
    have si : (S.h (i + 9000)).isSome = true := by rw [hid]; rfl
    have hblt : b < S.w.heap.size := hs.ownLt ⟨_, si, bi⟩
    have el : ∀ j, j < l.length → arr.getD j undef = Go.Proofs.encStr (l.getD j []) := fun j hj => by
      have := (k8 j 0 hj (by omega)).1
      rw [Nat.mul_one, Nat.add_zero] at this
      have e1 : (lsF cStr l j).flat.getD 0 .any = .str (l.getD j []) := rfl
      rw [e1] at this
      exact (inv_str this)
    have hH : Sort.Holds Go.Proofs.encStr S.w b 0 l.toArray := fun j hj => by
      have hj' : j < l.length := by simpa using hj
      refine ⟨?_, ?_⟩
      · rw [Nat.zero_add, cell_of_heap k5, Array.getElem?_eq_getElem (by omega)]
        have := el j hj'
        rw [Array.getD_eq_getD_getElem?, Array.getElem?_eq_getElem (by omega), Option.getD_some] at this
        rw [this, List.getD_eq_getElem?_getD, List.getElem?_eq_getElem hj']
        simp [hj']
      · rw [Nat.zero_add]
        exact frozen_noS k5 (mk1 k7) j (by omega)
    show Calls pg.prog _ #[S.γ (i + 9000)] S.w _
    rw [k3]
    refine (Tryz.slices_Sort_string b 0 cap l S.w hH hblt (by omega)).mono fun e w' h => ?_
    obtain ⟨rfl, N, os, hw⟩ := h
    obtain ⟨p1, p2⟩ := put_heap k5 N (srtS l).toArray os
    have hw' : w' = Sort.grow (Sort.putRow Go.Proofs.encStr (Sort.ahead S.w N) b 0 (srtS l).toArray) os := hw
    rw [← hw'] at p1 p2
    have hsize : S.w.heap.size ≤ w'.heap.size := by rw [hw', Sort.size_grow, Sort.size_putRow]; exact Nat.le_add_right _ _
    have h1 : w'.os = S.w.os := by rw [hw']; rfl
    have h2 : w'.tape = S.w.tape := by rw [hw']; rfl
    have h3 : w'.output = S.w.output := by rw [hw']; rfl
    clear hw hw'
    have hA2 : ∀ j, j < l.length → (Sort.putCells Go.Proofs.encStr 0 (srtS l).toArray arr).getD j undef = Go.Proofs.encStr ((srtS l).getD j []) := fun j hj => by
      have hjs : j < (srtS l).length := by rw [srtS_len]; exact hj
      unfold Sort.putCells
      rw [Array.getD_eq_getD_getElem?, Array.getElem?_mapIdx, Array.getElem?_eq_getElem (by omega), Option.map_some, Option.getD_some, if_pos ⟨Nat.zero_le _, by simpa using hjs⟩, List.getD_eq_getElem?_getD, List.getElem?_eq_getElem hjs]
      simp [hjs]
    obtain ⟨m1, m2⟩ := Sim.upd hs (fun _ => False) (i + 9000) (.slice (some ⟨b, 0, none⟩) l.length cap) (.vec 1 l.length (lsF cStr (srtS l))) w' h1 h2 h3 hsize
      (fun c hc hno => p2 c hc fun e => hno ⟨si, e ▸ bi⟩) (fun c hc => .inl ⟨si, by rw [bi]; simp only [blkOf] at hc; split at hc <;> simp_all⟩)
      ⟨by decide, fun e he => rfl, .inr ⟨b, cap, _, tt, lo, hi', upd_same _ _ _, k4, kc, p1, by unfold Sort.putCells; rw [Array.size_mapIdx]; exact k6, by unfold Sort.putCells; rw [Array.size_mapIdx]; exact k7, fun e q he hq => by
        obtain rfl : q = 0 := by omega
        simp only [Nat.mul_one, Nat.add_zero]
        rw [hA2 e he]
        exact ⟨.pure (.str _), rfl⟩⟩⟩
      (.inr (.inl k3.symm))
    have hK : Abs.upd S.h (i + 9000) (some (.vec 1 l.length (lsF cStr (srtS l)))) = hOf [(i + 9000, .vec 1 l.length (lsF cStr (srtS l)))] := by
      rw [hh]
      funext id
      simp only [hOf]
      by_cases e : id = i + 9000
      · subst e; rw [upd_same, upd_same]
      · rw [upd_ne _ _ e, upd_ne _ _ e, upd_ne _ _ e]
    rw [hK] at m1 m2
    refine ⟨.tuple #[], _, _, rfl, m1, m2, fun id h => ?_, .tup [] [] rfl (fun i hi => by cases hi)⟩
    by_cases e : id = i + 9000
    · subst e; simp [hOf] at h
    · rw [upd_ne _ _ e]
  · cases h
@[push_cast] theorem sortS_ids (i n : Nat) (l : List V) : ckSortS.ids (.vec i n :: l) = [i] := rfl
@[push_cast] theorem sortS_k (i n k : Nat) (g : Nat → V) : ckSortS.k [.vec i n] [.vec 1 k g] = some (k = n ∧ isLs cStr n g ∧ n ≤ 1000000, .tup [], [.vec 1 n (lsF cStr (srtS (lsOf cStr n g)))]) := rfl

def keepP (l : List Sam) (p : List UInt8) : Bool := decide ((Lib.cut p [61]).1 = []) || !hasSam l 7 (Lib.cut p [61]).1
theorem qryP_eq (l : List Sam) (q : List UInt8) : qryP l q = (splitL q 38).filter (keepP l) := rfl
theorem take_fil {α : Type} {p : α → Bool} {l : List α} {i : Nat} {d : α} (h : i < l.length) : (l.take (i + 1)).filter p = (l.take i).filter p ++ if p (l.getD i d) = true then [l.getD i d] else [] := by
  have e : l.getD i d = l[i] := by rw [List.getD_eq_getElem?_getD, List.getElem?_eq_getElem h]; rfl
  rw [List.take_succ_eq_append_getElem h, List.filter_append, e]
  congr 1
  by_cases hp : p l[i] = true
  · rw [if_pos hp]; simp [hp]
  · rw [if_neg hp]; simp [hp]
theorem app_one {D : List (List UInt8)} {x : List UInt8} {j : Nat} (h : j < D.length + 1) : appF D.length (lsF cStr D) (litF [V.str x]) j = V.str ((D ++ [x]).getD j []) := by
  unfold appF
  by_cases e : j < D.length
  · rw [decide_eq_true e, List.getD_eq_getElem?_getD, List.getElem?_append_left e, ← List.getD_eq_getElem?_getD]; rfl
  · obtain rfl : j = D.length := by omega
    rw [decide_eq_false e, Nat.sub_self, List.getD_eq_getElem?_getD, List.getElem?_append_right (Nat.le_refl _), Nat.sub_self]; rfl
def ckQryO : Ck
  | [.str q, .sl n f] => some (q.length ≤ 2001 ∧ isLs cSam n f ∧ n ≤ 4611686018427387904, .str (qryL (lsOf cSam n f) q))
  | _ => none
theorem conQryO : Con pg 60 ckQryO := by
  have hct := (ctA_ok conSplit (ctA_ok conCut (ctA_ok conHasS (ctF_ok conSortS (ctA_ok conJoin (ctN_ok _))))))
  intro args q r h hq
  unfold ckQryO at h
  split at h
  · cases h
    rename_i q n f
    refine w60 (fun _ => false) [] rfl hct rfl rfl ?_
    push_cast (config := { maxSteps := 10000000 })
    obtain ⟨h0, hl, hn⟩ := hq
    have hsl := splitL_le q 38
    have hsm : ∀ x ∈ splitL q 38, x.length ≤ 2001 := fun x hx => Nat.le_trans (sp_mem x hx) h0
    have hqe : qryP (lsOf cSam n f) q = (splitL q 38).filter (keepP (lsOf cSam n f)) := rfl
    have hJ := qry_len (l := lsOf cSam n f) h0
    have hQ : qryL (lsOf cSam n f) q = if qryP (lsOf cSam n f) q = [] then [] else [63] ++ Lib.join (if hasSam (lsOf cSam n f) 6 [] = true then srtS (qryP (lsOf cSam n f) q) else qryP (lsOf cSam n f) q) [38] := rfl
    rw [hQ]
    generalize qryP (lsOf cSam n f) q = Q at hqe hJ ⊢
    generalize splitL q 38 = P at *
    refine ⟨by omega, ?_⟩
    refine LoopW.adj ⟨hct, fol⟩ (by kernel_rfl) [.nv 6 8000 1 (lsF cStr [])] (fun t : Nat × List (List UInt8) => [(1, .sl n f), (6, .vec 8000 t.2.length), (14, .sl P.length (lsF cStr P)), (15, .int .i64 P.length), (16, .int .i64 t.1)]) (fun t => [(8000, .vec 1 t.2.length (lsF cStr t.2))]) (fun t => t.1 ≤ P.length ∧ t.2 = (P.take t.1).filter (keepP (lsOf cSam n f))) (fun t => P.length - t.1) (0, []) ?_ fun t ht => ?_
    · push_cast (config := { maxSteps := 10000000 })
      exact ⟨Nat.zero_le _, rfl⟩
    · obtain ⟨i, D⟩ := t
      obtain ⟨i1, i2⟩ : i ≤ P.length ∧ D = (P.take i).filter (keepP (lsOf cSam n f)) := ht
      have hD : D.length ≤ P.length := by rw [i2]; exact Nat.le_trans (List.length_filter_le _ _) (List.length_take_le' _ _)
      have ht := @take_fil _ (keepP (lsOf cSam n f)) P i []
      push_cast (config := { maxSteps := 10000000 })
      refine ⟨fun h => ⟨h, ?_, fun h2 => ⟨h2, hl, hn⟩, fun h2 => ⟨by omega, by omega, (i + 1, D ++ [P.getD i []]), ⟨h, ?_⟩, by show P.length - (i + 1) < _; omega, ⟨by simp, rfl⟩, by simp, fun j hj => app_one hj⟩, fun h2 => ⟨by omega, (i + 1, D), ⟨h, ?_⟩, by show P.length - (i + 1) < _; omega, ⟨rfl, rfl⟩, rfl, fun _ _ => rfl⟩⟩, fun h => ?_⟩
      · have := hsm (P.getD i []) (by rw [List.getD_eq_getElem?_getD, List.getElem?_eq_getElem h]; exact List.getElem_mem h)
        omega
      · show D ++ [P.getD i []] = (P.take (i + 1)).filter _
        rw [ht h, ← i2, if_pos]
        unfold keepP
        simp only [Bool.or_eq_true, decide_eq_true_eq, Bool.not_eq_true']
        exact h2
      · show D = (P.take (i + 1)).filter _
        rw [ht h, ← i2, if_neg, List.append_nil]
        unfold keepP
        simp only [Bool.or_eq_true, decide_eq_true_eq, Bool.not_eq_true', not_or, Bool.not_eq_false]
        exact h2
      · have hDQ : D = Q := by rw [i2, hqe, List.take_of_length_le (by omega)]
        subst hDQ
        have hR : LsI cStr D.length (lsF cStr (srtS D)) (srtS D) := LsI.len (LsI.ls _) (srtS_len D)
        have j1 := hJ.2 (srtS D) (fun x hx => List.mem_mergeSort.1 hx) (srtS_len D)
        have j2 := hJ.2 D (fun x hx => hx) rfl
        rw [hR.of]
        refine ⟨fun h0 => ?_, fun h0 => ?_⟩
        · rw [if_pos (List.length_eq_zero_iff.1 (by omega))]
        · have hne : ¬ D = [] := fun e => h0 (by rw [e]; rfl)
          rw [if_neg hne]
          exact ⟨⟨hl, hn⟩, fun h6 => ⟨by omega, ⟨hR.is, by omega, by omega⟩, by omega, by rw [if_pos h6]⟩, fun h6 => ⟨⟨by omega, by omega⟩, by omega, by rw [if_neg (by rw [h6]; simp)]⟩⟩
  · cases h
attribute [push_cast] ckQryO

end Go.Abs
