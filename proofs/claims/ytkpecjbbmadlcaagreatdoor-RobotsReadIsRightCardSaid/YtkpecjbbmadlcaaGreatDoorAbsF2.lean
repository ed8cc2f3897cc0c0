/- what functions of this program compute: contracts, each a function's own -/
import Derived.Test.YtkpecjbbmadlcaaGreatDoorAbsK3
import Derived.Test.YtkpecjbbmadlcaaGreatDoorAbsFacts
import Derived.Test.YtkpecjbbmadlcaaGreatDoorAbsF1
import Derived.Test.YtkpecjbbmadlcaaGreatDoorAbsShelf
import Derived.Lib.SplitLaws
import Derived.Lib.SlTrimSet
import Derived.Lib.Atoi
import Derived.Lib.Itoa
import Derived.Lib.ItoaNum
import Derived.Lib.ItoaLen
import Derived.Lib.Replace
import Derived.Lib.ReplaceLaws
import Derived.Lib.AtoiErrMem
import Derived.Lib.Overlaps
import Derived.Deep.AppendSrc
import Derived.Laws.NewBlocks
import Derived.WalkKit
import Derived.Lib.Walk
import Derived.Lib.AppendStr
import Derived.Lib.AppendZeros
import Derived.Lib.UnsafeStr
import Derived.Lib.Builder
import Derived.Laws.Externs
import Derived.Lib.Repeat
import Derived.Lib.Join
namespace Go.Abs
open Go Go.Proofs
set_option maxHeartbeats 4000000
set_option maxRecDepth 100000
set_option linter.unusedVariables false
set_option linter.unusedSimpArgs false
/-- how a thing is coded -/
structure Cod (α : Type) where
  enc : α → V
  dec : V → α
  d : α
  ok : ∀ a, dec (enc a) = a
section
variable {α : Type} (c : Cod α)
def lsF (l : List α) : Nat → V := fun i => c.enc (l.getD i c.d)
/-- f's first n are the things l -/
def LsI (n : Nat) (f : Nat → V) (l : List α) : Prop := n = l.length ∧ ∀ i, i < n → f i = lsF c l i
def lsOf (n : Nat) (f : Nat → V) : List α := (List.range n).map fun i => c.dec (f i)
def isLs (n : Nat) (f : Nat → V) : Prop := LsI c n f (lsOf c n f)
variable {c}
theorem lsOf_len (n : Nat) (f : Nat → V) : (lsOf c n f).length = n := by simp [lsOf]
theorem LsI.ls (l : List α) : LsI c l.length (lsF c l) l := ⟨rfl, fun _ _ => rfl⟩
theorem LsI.of {n : Nat} {f : Nat → V} {l : List α} (h : LsI c n f l) : lsOf c n f = l := by
  obtain ⟨rfl, h⟩ := h
  apply List.ext_getElem
  · simp [lsOf]
  · intro i h1 h2
    simp only [lsOf, List.getElem_map, List.getElem_range]
    rw [h i h2]
    unfold lsF
    rw [c.ok, List.getD_eq_getElem?_getD, List.getElem?_eq_getElem h2]; rfl
theorem LsI.is {n : Nat} {f : Nat → V} {l : List α} (h : LsI c n f l) : isLs c n f := by unfold isLs; rw [h.of]; exact h
theorem LsI.vle {n : Nat} {f : Nat → V} {l : List α} (h : LsI c n f l) : VLe (.sl n f) (.sl l.length (lsF c l)) := VLe.sl h.1 h.2
theorem isLs.vle {n : Nat} {f : Nat → V} (h : isLs c n f) : VLe (.sl n f) (.sl (lsOf c n f).length (lsF c (lsOf c n f))) := LsI.vle h
theorem isLs_ls (l : List α) : isLs c l.length (lsF c l) := (LsI.ls l).is
theorem lsOf_ls (l : List α) : lsOf c l.length (lsF c l) = l := (LsI.ls l).of
theorem LsI.app {n m k : Nat} {f g : Nat → V} {a b : List α} (h1 : LsI c n f a) (h2 : LsI c m g b) (hk : k = n + m) : LsI c k (appF n f g) (a ++ b) := by
  obtain ⟨e1, h1⟩ := h1
  obtain ⟨e2, h2⟩ := h2
  refine ⟨by simp; omega, fun i hi => ?_⟩
  unfold appF
  by_cases h : i < n
  · rw [show decide (i < n) = true from by simp [h], cond_true, h1 i h]
    unfold lsF
    rw [List.getD_eq_getElem?_getD, List.getD_eq_getElem?_getD, List.getElem?_append_left (by omega)]
  · rw [show decide (i < n) = false from by simp [h], cond_false, h2 (i - n) (by omega)]
    unfold lsF
    rw [List.getD_eq_getElem?_getD, List.getD_eq_getElem?_getD, List.getElem?_append_right (by omega), e1]
theorem LsI.one {f : Nat → V} {a : α} (h : f 0 = c.enc a) : LsI c 1 f [a] := ⟨rfl, fun i hi => by
  have : i = 0 := by omega
  subst this
  exact h⟩
theorem LsI.nil (f : Nat → V) : LsI c 0 f [] := ⟨rfl, fun i hi => by omega⟩
theorem LsI.sh {n l k : Nat} {f : Nat → V} {s : List α} (h : LsI c n f s) (hk : l + k ≤ n) : LsI c k (shF f l) ((s.drop l).take k) := by
  obtain ⟨e, h⟩ := h
  refine ⟨by simp; omega, fun i hi => ?_⟩
  unfold shF
  rw [h (i + l) (by omega)]
  unfold lsF
  rw [List.getD_eq_getElem?_getD, List.getD_eq_getElem?_getD, List.getElem?_take_of_lt hi, List.getElem?_drop, Nat.add_comm]
theorem LsI.eq {n : Nat} {f : Nat → V} {s t : List α} (h : LsI c n f s) (e : s = t) : LsI c n f t := e ▸ h
theorem LsI.len {n m : Nat} {f : Nat → V} {s : List α} (h : LsI c n f s) (e : n = m) : LsI c m f s := e ▸ h
theorem LsI.pure {n : Nat} {f : Nat → V} {s : List α} (h : LsI c n f s) (hc : ∀ a, (c.enc a).isPure = true) : ∀ i, i < n → (f i).isPure = true := fun i hi => by rw [h.2 i hi]; exact hc _
theorem LsI.flat {n m : Nat} {f : Nat → V} {s : List α} (h : LsI c n f s) (hc : ∀ a, (c.enc a).flat.length = m) : ∀ i, i < n → (f i).flat.length = m := fun i hi => by rw [h.2 i hi]; exact hc _
end
/- strings -/
def decStr : V → List UInt8
  | .str s => s
  | _ => []
def cStr : Cod (List UInt8) := ⟨.str, decStr, [], fun _ => rfl⟩
@[push_cast] theorem lsF_str (l : List (List UInt8)) (i : Nat) : lsF cStr l i = .str (l.getD i []) := rfl
/- numbers -/
def decInt : V → Int
  | .int _ n => n
  | _ => 0
def cInt : Cod Int := ⟨.int .i64, decInt, 0, fun _ => rfl⟩
@[push_cast] theorem lsF_int (l : List Int) (i : Nat) : lsF cInt l i = .int .i64 (l.getD i 0) := rfl
/- a name and a value -/
structure Hd where
  name : List UInt8
  value : List UInt8
deriving DecidableEq
def decHd : V → Hd
  | .agg [.str a, .str b] => ⟨a, b⟩
  | _ => ⟨[], []⟩
def cHd : Cod Hd := ⟨fun h => .agg [.str h.name, .str h.value], decHd, ⟨[], []⟩, fun _ => rfl⟩
@[push_cast] theorem lsF_hd (l : List Hd) (i : Nat) : lsF cHd l i = .agg [.str (l.getD i ⟨[], []⟩).name, .str (l.getD i ⟨[], []⟩).value] := rfl
/- lists, place by place -/
theorem all_at' {α : Type} {p : α → Bool} {d : α} {s : List α} (h : ∀ j, j < s.length → p (s.getD j d) = true) : s.all p = true := by
  rw [List.all_eq_true]
  intro x hx
  obtain ⟨j, hj, rfl⟩ := List.getElem_of_mem hx
  have := h j hj
  rwa [List.getD_eq_getElem?_getD, List.getElem?_eq_getElem hj] at this
theorem all_no' {α : Type} {p : α → Bool} {d : α} {s : List α} {j : Nat} (hj : j < s.length) (h : p (s.getD j d) = false) : s.all p = false := by
  rw [List.all_eq_false]
  refine ⟨s[j], List.getElem_mem hj, ?_⟩
  rw [List.getD_eq_getElem?_getD, List.getElem?_eq_getElem hj] at h
  simpa using h
theorem dropG {α : Type} {d : α} {s : List α} {i : Nat} (h : i < s.length) : s.drop i = s.getD i d :: s.drop (i + 1) := by
  rw [List.drop_eq_getElem_cons h, List.getD_eq_getElem?_getD, List.getElem?_eq_getElem h]; rfl
theorem takeG {α : Type} {d : α} {s : List α} {k : Nat} (h : k < s.length) : s.take (k + 1) = s.take k ++ [s.getD k d] := by
  rw [List.take_add_one, List.getD_eq_getElem?_getD, List.getElem?_eq_getElem h]; rfl
@[push_cast] theorem appF_z (f g : Nat → V) : appF 0 f g = g := by funext i; simp [appF]
attribute [push_cast] Nat.zero_add Nat.not_lt_zero
@[push_cast] theorem litF_zero (x : V) (l : List V) : litF (x :: l) 0 = x := rfl
@[push_cast] theorem litF_succ (x : V) (l : List V) (k : Nat) : litF (x :: l) (k + 1) = litF l k := by simp [litF]
@[push_cast] theorem ble_dec (a b : Nat) : Nat.ble a b = decide (a ≤ b) := by
  rw [Bool.eq_iff_iff, Nat.ble_eq]; simp
attribute [push_cast] lsOf_ls bytesOf_by
@[push_cast] theorem isLs_lsT {α : Type} {c : Cod α} (l : List α) : isLs c l.length (lsF c l) = True := eq_true (isLs_ls l)
@[push_cast] theorem isBy_byT (s : List UInt8) : isBy s.length (byF s) = True := eq_true (isBy_by s)
@[push_cast] theorem hd_eta (h : Hd) : (⟨h.name, h.value⟩ : Hd) = h := rfl
@[push_cast] theorem kill_by (d : Nat) (s : List UInt8) (i : Nat) : V.kill d (byF s i) = byF s i := rfl
@[push_cast] theorem frz_by (d z n : Nat) (f : Nat → V) (s : List UInt8) (i : Nat) : frzV d z n f (byF s i) = byF s i := rfl
@[push_cast] theorem pure_by (s : List UInt8) (i : Nat) : (byF s i).isPure = true := rfl
@[push_cast] theorem ren_by (a b : Nat) (s : List UInt8) (i : Nat) : V.ren a b (byF s i) = byF s i := rfl
@[push_cast] theorem beq_dec (a b : Nat) : Nat.beq a b = decide (a = b) := by
  rw [Bool.eq_iff_iff]; simp

theorem maxLen {w : World} (h : pg.ok w) : ∃ m, w.cell? ⟨0, 0, none⟩ = some (.int .i64 m) := by
  obtain ⟨w0, ⟨_, h1⟩, h2⟩ := h
  obtain ⟨m, hm⟩ := (Tryz.laysM145).s1_3 w0 h1
  exact ⟨m, by rw [cell_same (h2 0 (by decide))]; exact hm⟩
theorem grow_drewN (w : World) (n : Nat) : World.grow w (w.drewN n) := ⟨rfl, rfl, rfl, Nat.le_refl _, fun _ _ => rfl⟩
def ckCut : Ck
  | [.str s, .str sep] => some (s.length < 4294967281, .tup [.str (Lib.cut s sep).1, .str (Lib.cut s sep).2.1, .bool (Lib.cut s sep).2.2])
  | _ => none
theorem conCut : Con pg 40 ckCut := by
  intro args q r h hq
  unfold ckCut at h
  split at h
  · cases h
    rename_i s sep
    refine pcall_shelf (by kernel_rfl) rfl fun w hw => ?_
    obtain ⟨m, hm⟩ := maxLen hw
    refine (Tryz.strings_Cut ⟨s.toArray⟩ ⟨sep.toArray⟩ m w (by show s.toArray.size < _; simpa using hq) hm).mono fun e w' h => ?_
    obtain ⟨he, n, rfl⟩ := h
    refine ⟨_, he, grow_drewN _ _, fun γ imm => .tup _ [_, _, _] rfl fun i hi => ?_⟩
    match i, hi with
    | 0, _ => exact .pure (.str _)
    | 1, _ => exact .pure (.str _)
    | 2, _ => exact .pure (.bool _)
  · cases h
attribute [push_cast] ckCut
def ckContains : Ck
  | [.str s, .str sub] => some (s.length < 4294967281, .bool (Lib.contains s sub))
  | _ => none
theorem conContains : Con pg 17 ckContains := by
  intro args q r h hq
  unfold ckContains at h
  split at h
  · cases h
    rename_i s sub
    refine pcall_shelf (by kernel_rfl) rfl fun w hw => ?_
    obtain ⟨m, hm⟩ := maxLen hw
    exact (Tryz.strings_Contains ⟨s.toArray⟩ ⟨sub.toArray⟩ m w (by show s.toArray.size < _; simpa using hq) hm).mono fun e w' h => shelf_bool h.1 (grow_eq h.2)
  · cases h
attribute [push_cast] ckContains
/-- the parts of a string between a byte -/
def splitL (s : List UInt8) (c : UInt8) : List (List UInt8) := (Lib.splitB ⟨#[c]⟩ 0 (Lib.countB ⟨s.toArray⟩ ⟨#[c]⟩) ⟨s.toArray⟩).map fun b => b.data.toList
def ckSplit : Ck
  | [.str s, .str [c]] => some (s.length < 4294967281, .sl (splitL s c).length (lsF cStr (splitL s c)))
  | _ => none
theorem conSplit : Con pg 21 ckSplit := by
  intro args q r h hq
  unfold ckSplit at h
  split at h
  · cases h
    rename_i s c
    refine pcall_shelf2 (by kernel_rfl) rfl fun w hw => ?_
    obtain ⟨m, hm⟩ := maxLen hw
    refine (Tryz.strings_Split ⟨s.toArray⟩ ⟨#[c]⟩ m w (by show s.toArray.size < _; simpa using hq) hm (Nat.le_refl 1)).mono fun e w' h => ?_
    have hl : (splitL s c).length = Lib.countB ⟨s.toArray⟩ ⟨#[c]⟩ + 1 := by
      unfold splitL
      rw [List.length_map]
      exact Lib.splitB_all ⟨#[c]⟩ (Nat.le_refl 1) 0 _ _ rfl
    refine shelf_strs (l := fun i => (splitL s c).getD i []) (by rw [hl]; exact h.1) h.2 (by omega) (fun i hi => ?_) fun i hi => rfl
    unfold splitL at hi ⊢
    rw [List.length_map] at hi
    simp [List.getD_eq_getElem?_getD, List.getElem?_eq_getElem hi]
  · cases h
attribute [push_cast] ckSplit

/-- the parts of a string between a byte, part by part -/
def spl (c : UInt8) : List UInt8 → List (List UInt8)
  | [] => [[]]
  | x :: t => if x = c then [] :: spl c t else (x :: (spl c t).headD []) :: (spl c t).tail
theorem spl_ne (c : UInt8) (s : List UInt8) : spl c s ≠ [] := by
  cases s with
  | nil => simp [spl]
  | cons x t => rw [spl]; split <;> simp
theorem splitK_spl (c : UInt8) : ∀ s : List UInt8, Lib.splitK [c] 0 (s.count c) s = spl c s
  | [] => rfl
  | x :: t => by
    have ih := splitK_spl c t
    by_cases h : x = c
    · subst h
      have hix : Lib.index (x :: t) [x] = 0 := by rw [Lib.index]; simp [List.isPrefixOf]
      rw [show (x :: t).count x = t.count x + 1 by simp, Lib.splitK, hix]
      rw [spl, if_pos rfl, ← ih]
      rfl
    · have hp : ([c] : List UInt8).isPrefixOf (x :: t) = false := by simp [List.isPrefixOf, Ne.symm h]
      have hix : Lib.index (x :: t) [c] = if Lib.index t [c] == -1 then -1 else Lib.index t [c] + 1 := by rw [Lib.index, hp]; simp
      rw [show (x :: t).count c = t.count c by rw [List.count_cons_of_ne (by simpa using h)]]
      rw [spl, if_neg h]
      cases hk : t.count c with
      | zero =>
        rw [hk] at ih
        rw [← ih]; rfl
      | succ k =>
        rw [hk] at ih
        rw [← ih]
        simp only [Lib.splitK]
        rw [hix]
        by_cases hm : (Lib.index t [c] == -1) = true
        · simp only [hm, if_true]; rfl
        · have hge := Lib.index_ge t [c]
          have hn : Lib.index t [c] ≠ -1 := fun e => hm (beq_iff_eq.2 e)
          have hm2 : (Lib.index t [c] + 1 == -1) = false := by rw [beq_eq_false_iff_ne]; omega
          simp only [hm, if_false, Bool.false_eq_true, hm2]
          rw [show (Lib.index t [c] + 1).toNat = (Lib.index t [c]).toNat + 1 by omega]
          simp
theorem splitL_eq (s : List UInt8) (c : UInt8) : splitL s c = spl c s := by
  unfold splitL
  rw [Lib.splitB_data]
  have e : Lib.countB ⟨s.toArray⟩ ⟨#[c]⟩ = s.count c := by
    unfold Lib.countB
    rw [show (⟨s.toArray⟩ : ByteArray).data.toList = s by simp]
    exact Lib.count_one c s
  rw [e]
  simpa using splitK_spl c s
theorem spl_len (c : UInt8) : ∀ s : List UInt8, ∀ p ∈ spl c s, p.length ≤ s.length
  | [], p, h => by simp [spl] at h; simp [h]
  | x :: t, p, h => by
    have ih := spl_len c t
    rw [spl] at h
    split at h
    · rcases List.mem_cons.1 h with rfl | h
      · simp
      · have := ih p h; simp only [List.length_cons]; omega
    · rcases List.mem_cons.1 h with rfl | h
      · cases hs : spl c t with
        | nil => exact absurd hs (spl_ne c t)
        | cons a r =>
          have := ih a (by rw [hs]; simp)
          simp only [List.headD_cons, List.length_cons]; omega
      · have := ih p (List.mem_of_mem_tail h); simp only [List.length_cons]; omega
/-- the parts, joined again -/
theorem spl_join (c : UInt8) : ∀ s : List UInt8, List.intercalate [c] (spl c s) = s
  | [] => rfl
  | x :: t => by
    have ih := spl_join c t
    have hne := spl_ne c t
    rw [spl]
    cases hs : spl c t with
    | nil => exact absurd hs hne
    | cons a r =>
      rw [hs] at ih
      split
      · rename_i h; subst h
        rw [← ih]
        simp [List.intercalate, List.intersperse]
      · rw [← ih]
        cases r <;> simp [List.intercalate, List.intersperse]

def labB (c : UInt8) : Bool := isLet (c.toNat : Int) || isDig (c.toNat : Int) || decide (c.toNat = 45)
/-- a label, a host -/
def labelL (s : List UInt8) : Bool := decide (1 ≤ s.length) && decide (s.length ≤ 63) && decide ((s.getD 0 0).toNat ≠ 45) && decide ((s.getD (s.length - 1) 0).toNat ≠ 45) && s.all labB
def hostL (s : List UInt8) : Bool := decide (s.length ≤ 253) && (splitL s 46).all labelL
theorem conLetter : Con pg 142 ckIsLet := by
  have hct := ctN_ok pg
  intro args q r h hq
  unfold ckIsLet at h
  split at h
  · cases h
    rename_i c
    refine w142 (fun _ => false) [] rfl hct rfl rfl ?_
    push_cast (config := { maxSteps := 10000000 })
    exact ⟨by grind, rfl⟩
  · cases h
theorem conDigit : Con pg 141 ckIsDig := by
  have hct := ctN_ok pg
  intro args q r h hq
  unfold ckIsDig at h
  split at h
  · cases h
    rename_i c
    refine w141 (fun _ => false) [] rfl hct rfl rfl ?_
    push_cast (config := { maxSteps := 10000000 })
    rfl
  · cases h
def ckIsLabel : Ck
  | [.str s] => some (s.length ≤ 4611686018427387904, .bool (labelL s))
  | _ => none
theorem conIsLabel : Con pg 108 ckIsLabel := by
  have hct := (ctA_ok conIsLet (ctA_ok conIsDig (ctN_ok _)))
  intro args q r h hq
  unfold ckIsLabel at h
  split at h
  · cases h
    rename_i s
    refine w108 (fun _ => false) [] rfl hct rfl rfl ?_
    push_cast (config := { maxSteps := 10000000 })
    have ee : ∀ h : 1 ≤ s.length, s.getD ((s.length : Int) - 1).toNat 0 = s.getD (s.length - 1) 0 := fun h => by rw [show ((s.length : Int) - 1).toNat = s.length - 1 by omega]
    refine ⟨fun h => ⟨h, by omega⟩, fun h => ⟨h, by omega, by omega⟩, fun h => ⟨h, by omega, by omega⟩, fun h => ?_, fun h => ?_⟩
    · unfold labelL
      by_cases h1 : 1 ≤ s.length
      · rw [ee h1] at h
        by_cases h2 : s.length ≤ 63
        · by_cases h3 : (s.getD 0 0).toNat = 45
          · rw [decide_eq_false (show ¬ (s.getD 0 0).toNat ≠ 45 from fun x => x h3)]; simp
          · rw [decide_eq_false (show ¬ (s.getD (s.length - 1) 0).toNat ≠ 45 from fun x => x (by omega))]; simp
        · rw [decide_eq_false h2]; simp
      · rw [decide_eq_false h1]; rfl
    have h1 : 1 ≤ s.length := by omega
    rw [ee h1] at h
    have e0 : labelL s = s.all labB := by
      unfold labelL
      rw [decide_eq_true h1, decide_eq_true (show s.length ≤ 63 by omega), decide_eq_true (show (s.getD 0 0).toNat ≠ 45 by omega), decide_eq_true (show (s.getD (s.length - 1) 0).toNat ≠ 45 by omega)]; rfl
    rw [e0]
    refine LoopW.adj ⟨hct, fol⟩ (by kernel_rfl) [] (fun i : Nat => [(0, .str s), (26, .int .i64 s.length), (27, .int .i64 i)]) (fun _ => []) (fun i => i ≤ s.length ∧ ∀ j, j < i → labB (s.getD j 0) = true) (fun i => s.length - i) 0 ?_ fun i hi => ?_
    · push_cast (config := { maxSteps := 10000000 })
      exact Nat.zero_le _
    · push_cast (config := { maxSteps := 10000000 })
      obtain ⟨h3, h4⟩ := hi
      refine ⟨fun hw => ⟨hw, fun a => ⟨a, hw⟩, fun a => ⟨a, hw⟩, fun a => ?_, fun a => ⟨by omega, i + 1, ⟨by omega, fun j hj => ?_⟩, by omega, by omega⟩⟩, fun hw => ?_⟩
      · refine (all_no hw ?_).symm
        unfold labB
        rw [a.1.1, a.1.2, decide_eq_false (by omega)]; rfl
      · by_cases e : j = i
        · subst e
          unfold labB
          cases g1 : isLet ((s.getD j 0).toNat : Int) with
          | true => rfl
          | false =>
            cases g2 : isDig ((s.getD j 0).toNat : Int) with
            | true => rfl
            | false => rw [decide_eq_true (show (s.getD j 0).toNat = 45 by have := a ⟨g1, g2⟩; omega)]; rfl
        · exact h4 j (by omega)
      · exact (all_at fun j hj => h4 j (by omega)).symm
  · cases h
attribute [push_cast] ckIsLabel
theorem conIsLabel2 : Con pg 143 ckIsLabel := by
  have hct := (ctA_ok conLetter (ctA_ok conDigit (ctN_ok _)))
  intro args q r h hq
  unfold ckIsLabel at h
  split at h
  · cases h
    rename_i s
    refine w143 (fun _ => false) [] rfl hct rfl rfl ?_
    push_cast (config := { maxSteps := 10000000 })
    have hs : (s = []) = ((s.length : Int) < 1) := propext ⟨fun h => by rw [h]; simp, fun h => List.length_eq_zero_iff.1 (by omega)⟩
    rw [hs]
    have ee : ∀ h : 1 ≤ s.length, s.getD ((s.length : Int) - 1).toNat 0 = s.getD (s.length - 1) 0 := fun h => by rw [show ((s.length : Int) - 1).toNat = s.length - 1 by omega]
    refine ⟨fun h => ⟨h, by omega⟩, fun h => ⟨h, by omega, by omega⟩, fun h => ⟨h, by omega, by omega⟩, fun h => ?_, fun h => ?_⟩
    · unfold labelL
      by_cases h1 : 1 ≤ s.length
      · rw [ee h1] at h
        by_cases h2 : s.length ≤ 63
        · by_cases h3 : (s.getD 0 0).toNat = 45
          · rw [decide_eq_false (show ¬ (s.getD 0 0).toNat ≠ 45 from fun x => x h3)]; simp
          · rw [decide_eq_false (show ¬ (s.getD (s.length - 1) 0).toNat ≠ 45 from fun x => x (by omega))]; simp
        · rw [decide_eq_false h2]; simp
      · rw [decide_eq_false h1]; rfl
    have h1 : 1 ≤ s.length := by omega
    rw [ee h1] at h
    have e0 : labelL s = s.all labB := by
      unfold labelL
      rw [decide_eq_true h1, decide_eq_true (show s.length ≤ 63 by omega), decide_eq_true (show (s.getD 0 0).toNat ≠ 45 by omega), decide_eq_true (show (s.getD (s.length - 1) 0).toNat ≠ 45 by omega)]; rfl
    rw [e0]
    refine LoopW.adj ⟨hct, fol⟩ (by kernel_rfl) [] (fun i : Nat => [(0, .str s), (3, .int .i64 i)]) (fun _ => []) (fun i => i ≤ s.length ∧ ∀ j, j < i → labB (s.getD j 0) = true) (fun i => s.length - i) 0 ?_ fun i hi => ?_
    · push_cast (config := { maxSteps := 10000000 })
      exact Nat.zero_le _
    · push_cast (config := { maxSteps := 10000000 })
      obtain ⟨h3, h4⟩ := hi
      refine ⟨fun hw => ⟨hw, fun a => ⟨a, hw⟩, fun a => ⟨a, hw⟩, fun a => ?_, fun a => ⟨by omega, i + 1, ⟨by omega, fun j hj => ?_⟩, by omega, by omega⟩⟩, fun hw => ?_⟩
      · refine (all_no hw ?_).symm
        unfold labB
        rw [a.1.1, a.1.2, decide_eq_false (by omega)]; rfl
      · by_cases e : j = i
        · subst e
          unfold labB
          cases g1 : isLet ((s.getD j 0).toNat : Int) with
          | true => rfl
          | false =>
            cases g2 : isDig ((s.getD j 0).toNat : Int) with
            | true => rfl
            | false => rw [decide_eq_true (show (s.getD j 0).toNat = 45 by have := a ⟨g1, g2⟩; omega)]; rfl
        · exact h4 j (by omega)
      · exact (all_at fun j hj => h4 j (by omega)).symm
  · cases h
def ckIsHost : Ck
  | [.str s] => some (s.length ≤ 4611686018427387904, .bool (hostL s))
  | _ => none
theorem splitL_le (s : List UInt8) (c : UInt8) : (splitL s c).length ≤ s.length + 1 := by
  rw [splitL_eq]
  induction s with
  | nil => simp [spl]
  | cons x t ih =>
    rw [spl]
    have := List.length_pos_iff.2 (spl_ne c t)
    split
    · simp only [List.length_cons]; omega
    · simp only [List.length_cons, List.length_tail]; omega
theorem conIsHost0 : Con pg 79 ckIsHost := by
  have hct := (ctA_ok conSplit (ctA_ok conIsLabel (ctN_ok _)))
  intro args q r h hq
  unfold ckIsHost at h
  split at h
  · cases h
    rename_i s
    refine w79 (fun _ => false) [] rfl hct rfl rfl ?_
    push_cast (config := { maxSteps := 10000000 })
    refine ⟨fun h => by unfold hostL; rw [decide_eq_false (by omega)]; rfl, fun h => ⟨by omega, ?_⟩⟩
    have e0 : hostL s = (splitL s 46).all labelL := by unfold hostL; rw [decide_eq_true (by omega)]; rfl
    have hw : ∀ i, ((splitL s 46).getD i []).length ≤ s.length := fun i => by
      rw [splitL_eq]
      by_cases hi : i < (spl 46 s).length
      · rw [List.getD_eq_getElem?_getD, List.getElem?_eq_getElem hi]
        exact spl_len 46 _ _ (List.getElem_mem hi)
      · rw [List.getD_eq_getElem?_getD, List.getElem?_eq_none (by omega)]; simp
    rw [e0]
    have hl := splitL_le s 46
    generalize splitL s 46 = l at *
    refine LoopW.adj ⟨hct, fol⟩ (by kernel_rfl) [] (fun i : Nat => [(9, .sl l.length (lsF cStr l)), (10, .int .i64 l.length), (11, .int .i64 i)]) (fun _ => []) (fun i => i ≤ l.length ∧ ∀ j, j < i → labelL (l.getD j []) = true) (fun i => l.length - i) 0 ?_ fun i hi => ?_
    · push_cast (config := { maxSteps := 10000000 })
      exact Nat.zero_le _
    · push_cast (config := { maxSteps := 10000000 })
      obtain ⟨h3, h4⟩ := hi
      refine ⟨fun h5 => ⟨h5, by have := hw i; omega, fun h6 => (all_no' (d := []) h5 h6).symm, fun h6 => ⟨⟨by omega, by omega⟩, i + 1, ⟨by omega, fun j hj => ?_⟩, by omega, by omega⟩⟩, fun h5 => (all_at' fun j hj => h4 j (by omega)).symm⟩
      by_cases e : j = i
      · subst e; exact h6
      · exact h4 j (by omega)
  · cases h
attribute [push_cast] ckIsHost
theorem conIsHost2 : Con pg 120 ckIsHost := by
  have hct := (ctA_ok conSplit (ctA_ok conIsLabel2 (ctN_ok _)))
  intro args q r h hq
  unfold ckIsHost at h
  split at h
  · cases h
    rename_i s
    refine w120 (fun _ => false) [] rfl hct rfl rfl ?_
    push_cast (config := { maxSteps := 10000000 })
    refine ⟨fun h => by unfold hostL; rw [decide_eq_false (by omega)]; rfl, fun h => ⟨by omega, ?_⟩⟩
    have e0 : hostL s = (splitL s 46).all labelL := by unfold hostL; rw [decide_eq_true (by omega)]; rfl
    have hw : ∀ i, ((splitL s 46).getD i []).length ≤ s.length := fun i => by
      rw [splitL_eq]
      by_cases hi : i < (spl 46 s).length
      · rw [List.getD_eq_getElem?_getD, List.getElem?_eq_getElem hi]
        exact spl_len 46 _ _ (List.getElem_mem hi)
      · rw [List.getD_eq_getElem?_getD, List.getElem?_eq_none (by omega)]; simp
    rw [e0]
    have hl := splitL_le s 46
    generalize splitL s 46 = l at *
    refine LoopW.adj ⟨hct, fol⟩ (by kernel_rfl) [] (fun i : Nat => [(3, .sl l.length (lsF cStr l)), (4, .int .i64 i)]) (fun _ => []) (fun i => i ≤ l.length ∧ ∀ j, j < i → labelL (l.getD j []) = true) (fun i => l.length - i) 0 ?_ fun i hi => ?_
    · push_cast (config := { maxSteps := 10000000 })
      exact Nat.zero_le _
    · push_cast (config := { maxSteps := 10000000 })
      obtain ⟨h3, h4⟩ := hi
      refine ⟨fun h5 => ⟨h5, by have := hw i; omega, fun h6 => (all_no' (d := []) h5 h6).symm, fun h6 => ⟨⟨by omega, by omega⟩, i + 1, ⟨by omega, fun j hj => ?_⟩, by omega, by omega⟩⟩, fun h5 => (all_at' fun j hj => h4 j (by omega)).symm⟩
      by_cases e : j = i
      · subst e; exact h6
      · exact h4 j (by omega)
  · cases h
def ckIsHostA : Ck
  | [.str s] => some (s.length ≤ 140737488355328, .bool (hostL s && lowL s == s))
  | _ => none
attribute [push_cast] ckIsHostA
def rowB (c : UInt8) : Bool := decide (33 ≤ c.toNat) && decide (c.toNat ≤ 126) && decide (Lib.indexByte [34, 35, 60, 62, 92, 94, 123, 124, 125, 96] c < 0)
/-- % and two digits at a place, or another byte -/
def pctB (s : List UInt8) (i : Nat) : Bool := decide (i + 2 < s.length) && isHex ((s.getD (i + 1) 0).toNat : Int) && isHex ((s.getD (i + 2) 0).toNat : Int)
/-- how far a row goes -/
def reL (s w : List UInt8) : Nat → Nat → Nat × Bool
  | 0, _ => (s.length, true)
  | k + 1, i => if s.length ≤ i then (s.length, true) else if 0 ≤ Lib.indexByte w (s.getD i 0) then (i, true) else if rowB (s.getD i 0) = false then (i, false) else if (s.getD i 0).toNat = 37 then (if pctB s i = true then reL s w k (i + 3) else (i, false)) else reL s w k (i + 1)
def ckRowEnd : Ck
  | [.str s, .str w] => some (s.length ≤ 4611686018427387900, .tup [.int .i64 (reL s w (s.length + 1) 0).1, .bool (reL s w (s.length + 1) 0).2])
  | _ => none
theorem conRowEnd : Con pg 110 ckRowEnd := by
  have hct := (ctA_ok conIndexByte (ctA_ok conIsHex (ctN_ok _)))
  intro args q r h hq
  unfold ckRowEnd at h
  split at h
  · cases h
    rename_i s w
    refine w110 (fun _ => false) [] rfl hct rfl rfl ?_
    push_cast (config := { maxSteps := 10000000 })
    generalize hR : reL s w (s.length + 1) 0 = R
    refine LoopW.adj ⟨hct, fol⟩ (by kernel_rfl) [] (fun i : Nat => [(0, .str s), (1, .str w), (6, .int .i64 i)]) (fun _ => []) (fun i => i ≤ s.length ∧ ∃ k, s.length < i + k ∧ reL s w k i = R) (fun i => s.length - i) 0 ?_ fun i hi => ?_
    · push_cast (config := { maxSteps := 10000000 })
      exact ⟨Nat.zero_le _, _, by omega, hR⟩
    · obtain ⟨i1, k, i3, i4⟩ := hi
      push_cast (config := { maxSteps := 10000000 })
      obtain ⟨k, rfl⟩ : ∃ k', k = k' + 1 := ⟨k - 1, by omega⟩
      rw [reL] at i4
      refine ⟨fun h => ?_, fun h => ?_⟩
      · rw [if_neg (by omega)] at i4
        refine ⟨h, fun h1 => ?_, fun h1 => ⟨fun h2 => ?_, fun h2 => ?_⟩⟩
        · rw [if_pos h1] at i4; rw [← i4]; exact ⟨rfl, rfl⟩
        · have hb : rowB (s.getD i 0) = false := by
            unfold rowB
            rcases h2 with (h2 | h2) | h2
            · rw [decide_eq_false (by omega)]; rfl
            · rw [decide_eq_false (show ¬ (s.getD i 0).toNat ≤ 126 by omega)]; simp
            · rw [decide_eq_false (show ¬ Lib.indexByte [34, 35, 60, 62, 92, 94, 123, 124, 125, 96] (s.getD i 0) < 0 by omega)]; simp
          rw [if_neg h1, if_pos hb] at i4; rw [← i4]; exact ⟨rfl, rfl⟩
        · have hb : rowB (s.getD i 0) = true := by
            unfold rowB
            rw [decide_eq_true (by omega), decide_eq_true (by omega), decide_eq_true (by omega)]; rfl
          rw [if_neg h1, if_neg (by rw [hb]; simp)] at i4
          refine ⟨fun h3 => ⟨⟨by omega, by omega⟩, fun h4 => ⟨h4, by omega, by omega⟩, fun h4 => ⟨h4, by omega, by omega⟩, fun h4 => ⟨h4, by omega, by omega⟩, fun h4 => ⟨h4, by omega, by omega⟩, fun h4 => ?_, fun h4 => ?_⟩, fun h3 => ?_⟩
          · have hp : ¬ pctB s i = true := fun hp => by
              simp only [pctB, Bool.and_eq_true, decide_eq_true_eq] at hp
              rcases h4 with (h4 | h4) | h4
              · omega
              · rw [hp.1.2] at h4; cases h4
              · rw [hp.2] at h4; cases h4
            rw [if_pos (by omega), if_neg hp] at i4; rw [← i4]; exact ⟨rfl, rfl⟩
          · have hp : pctB s i = true := by
              simp only [pctB, Bool.and_eq_true, decide_eq_true_eq]
              exact ⟨⟨by have := h4.1.1; omega, h4.1.2⟩, h4.2⟩
            rw [if_pos (by omega), if_pos hp] at i4
            have := h4.1.1
            exact ⟨⟨by omega, by omega⟩, ⟨by omega, by omega⟩, i + 3, ⟨by omega, k, by omega, i4⟩, by omega, by omega⟩
          · rw [if_neg (by omega)] at i4
            exact ⟨⟨by omega, by omega⟩, i + 1, ⟨by omega, k, by omega, i4⟩, by omega, by omega⟩
      · rw [if_pos (by omega)] at i4; rw [← i4]; exact ⟨rfl, rfl⟩
  · cases h
attribute [push_cast] ckRowEnd
def ckIsRow : Ck
  | [.str s, .str w] => some (s.length ≤ 4611686018427387900, .bool ((reL s w (s.length + 1) 0).2 && ((reL s w (s.length + 1) 0).1 == s.length)))
  | _ => none
attribute [push_cast] ckIsRow
theorem conHex2 : Con pg 153 ckIsHex := by
  have hct := (ctA_ok conDigit (ctN_ok _))
  intro args q r h hq
  unfold ckIsHex at h
  split at h
  · cases h
    rename_i c
    refine w153 (fun _ => false) [] rfl hct rfl rfl ?_
    push_cast (config := { maxSteps := 10000000 })
    exact ⟨by grind, by grind, rfl⟩
  · cases h
theorem row_eq (n : Nat) (h : n < 256) : (decide (33 ≤ (n : Int)) && decide ((n : Int) ≤ 126) && ((n : Int) != 96) && decide (Lib.indexByte [34, 35, 60, 62, 92, 94, 123, 124, 125] n.toUInt8 < 0)) = rowB (UInt8.ofNat n) := by
  revert n
  decide +kernel
def ckRowByte : Ck
  | [.int .u8 c] => some (0 ≤ c ∧ c < 256, .bool (rowB (UInt8.ofNat c.toNat)))
  | _ => none
theorem conRowByte : Con pg 152 ckRowByte := by
  have hct := (ctA_ok conIndexByte (ctN_ok _))
  intro args q r h hq
  unfold ckRowByte at h
  split at h
  · cases h
    rename_i c
    refine w152 (fun _ => false) [] rfl hct rfl rfl ?_
    push_cast (config := { maxSteps := 10000000 })
    have := row_eq c.toNat (by omega)
    rw [show ((c.toNat : Nat) : Int) = c by omega] at this
    exact this
  · cases h
attribute [push_cast] ckRowByte
def cellP (s : List UInt8) (j : Nat) : Bool := rowB (s.getD j 0) && decide ((s.getD j 0).toNat ≠ 63) && (decide ((s.getD j 0).toNat ≠ 37) || pctB s j)
/-- a row without a question mark -/
def rowP (s : List UInt8) : Bool := (List.range s.length).all (cellP s)
def rbL (s : List UInt8) : Nat → Nat → Int
  | 0, _ => -1
  | k + 1, i => if s.length ≤ i then -1 else if cellP s i = true then rbL s k (i + 1) else i
def ckRowBad : Ck
  | [.str s, .int .u8 c] => some (c = 63 ∧ s.length ≤ 4611686018427387900, .int .i64 (rbL s (s.length + 1) 0))
  | _ => none
theorem conRowBad : Con pg 145 ckRowBad := by
  have hct := (ctA_ok conRowByte (ctA_ok conHex2 (ctN_ok _)))
  intro args q r h hq
  unfold ckRowBad at h
  split at h
  · cases h
    rename_i s c
    refine w145 (fun _ => false) [] rfl hct rfl rfl ?_
    push_cast (config := { maxSteps := 10000000 })
    obtain ⟨rfl, hs⟩ := hq
    generalize hR : rbL s (s.length + 1) 0 = R
    refine LoopW.adj ⟨hct, fol⟩ (by kernel_rfl) [] (fun i : Nat => [(0, .str s), (1, .int .u8 63), (5, .int .i64 i)]) (fun _ => []) (fun i => i ≤ s.length ∧ ∃ k, s.length < i + k ∧ rbL s k i = R) (fun i => s.length - i) 0 ?_ fun i hi => ?_
    · push_cast (config := { maxSteps := 10000000 })
      exact ⟨Nat.zero_le _, _, by omega, hR⟩
    · obtain ⟨i1, k, i3, i4⟩ := hi
      push_cast (config := { maxSteps := 10000000 })
      obtain ⟨k, rfl⟩ : ∃ k', k = k' + 1 := ⟨k - 1, by omega⟩
      rw [rbL] at i4
      refine ⟨fun h => ⟨h, by have := UInt8.toNat_lt (s.getD i 0); omega, fun a => ⟨a, h⟩, fun a => ?_, fun a => ⟨h, fun b => ⟨b, by omega, by omega⟩, fun b => ⟨b, by omega, by omega⟩, fun b => ⟨b, by omega, by omega⟩, fun b => ⟨b, fun c => ⟨b, c⟩⟩, fun b => ⟨b, by omega, by omega⟩, fun b => ⟨b, by omega, by omega⟩, fun b => ⟨b, fun c => ⟨b, c⟩⟩, fun b => ?_, fun b => ?_⟩⟩, fun h => ?_⟩
      · have hc : ¬ cellP s i = true := fun hc => by
          simp only [cellP, Bool.and_eq_true, decide_eq_true_eq] at hc
          rcases a with a | a
          · rw [hc.1.1] at a; cases a
          · exact hc.1.2 (by omega)
        rw [if_neg (by omega), if_neg hc] at i4
        exact i4
      · have hc : ¬ cellP s i = true := fun hc => by
          simp only [cellP, pctB, Bool.and_eq_true, Bool.or_eq_true, decide_eq_true_eq] at hc
          rcases hc.2 with hc | hc
          · exact hc (by omega)
          · rcases b.2 with (b | b) | b
            · omega
            · rw [hc.1.2] at b; cases b
            · rw [hc.2] at b; cases b
        rw [if_neg (by omega), if_neg hc] at i4
        exact i4
      · have hc : cellP s i = true := by
          simp only [cellP, pctB, Bool.and_eq_true, Bool.or_eq_true, decide_eq_true_eq]
          refine ⟨⟨a.1, fun x => a.2 (by omega)⟩, ?_⟩
          by_cases e : (s.getD i 0).toNat = 37
          · have := b (by omega)
            exact .inr ⟨⟨by have := this.1.1; omega, this.1.2⟩, this.2⟩
          · exact .inl e
        rw [if_neg (by omega), if_pos hc] at i4
        exact ⟨⟨by omega, by omega⟩, i + 1, ⟨by omega, k, by omega, i4⟩, by omega, by omega⟩
      · rw [if_pos (by omega)] at i4
        exact i4
  · cases h
attribute [push_cast] ckRowBad
theorem cell_hex (c : UInt8) : isHex (c.toNat : Int) = true → rowB c = true ∧ c.toNat ≠ 63 ∧ c.toNat ≠ 37 := by
  have key : ∀ n, n < 256 → isHex ((UInt8.ofNat n).toNat : Int) = true → rowB (UInt8.ofNat n) = true ∧ (UInt8.ofNat n).toNat ≠ 63 ∧ (UInt8.ofNat n).toNat ≠ 37 := by decide +kernel
  have := key c.toNat (UInt8.toNat_lt c)
  simpa using this
theorem rb_all {s : List UInt8} : ∀ (k i : Nat), s.length < i + k → (rbL s k i < 0 ↔ ∀ j, i ≤ j → j < s.length → cellP s j = true)
  | 0, i, h => ⟨fun _ j h1 h2 => by omega, fun _ => by show (-1 : Int) < 0; omega⟩
  | k + 1, i, h => by
    rw [rbL]
    by_cases h1 : s.length ≤ i
    · rw [if_pos h1]; exact ⟨fun _ j h1 h2 => by omega, fun _ => by omega⟩
    rw [if_neg h1]
    by_cases hc : cellP s i = true
    · rw [if_pos hc, rb_all k (i + 1) (by omega)]
      refine ⟨fun hh j h2 h3 => ?_, fun hh j h2 h3 => hh j (by omega) h3⟩
      by_cases e : j = i
      · subst e; exact hc
      · exact hh j (by omega) h3
    · rw [if_neg hc]
      exact ⟨fun hh => by omega, fun hh => absurd (hh i (Nat.le_refl _) (by omega)) hc⟩
theorem idx_one (d c : UInt8) : 0 ≤ Lib.indexByte [d] c ↔ c = d := by
  have e : Lib.indexByte [d] c = if d == c then 0 else -1 := rfl
  rw [e]
  by_cases h : d = c
  · subst h; simp
  · rw [if_neg (by simpa using h)]
    exact ⟨fun x => by omega, fun x => absurd x.symm h⟩
theorem re_all {s : List UInt8} : ∀ (k i : Nat), s.length < i + k → (((reL s [63] k i).2 = true ∧ (reL s [63] k i).1 = s.length) ↔ ∀ j, i ≤ j → j < s.length → cellP s j = true)
  | 0, i, h => ⟨fun _ j h1 h2 => by omega, fun _ => ⟨rfl, rfl⟩⟩
  | k + 1, i, h => by
    have hq : (0 ≤ Lib.indexByte [63] (s.getD i 0)) ↔ (s.getD i 0).toNat = 63 := by
      have : (s.getD i 0).toNat = 63 ↔ s.getD i 0 = 63 := ⟨fun e => UInt8.toNat_inj.1 e, fun e => by rw [e]; rfl⟩
      rw [this]
      exact idx_one 63 _
    rw [reL]
    by_cases h1 : s.length ≤ i
    · rw [if_pos h1]; exact ⟨fun _ j h1 h2 => by omega, fun _ => ⟨rfl, rfl⟩⟩
    rw [if_neg h1]
    by_cases h2 : 0 ≤ Lib.indexByte [63] (s.getD i 0)
    · rw [if_pos h2]
      refine ⟨fun hh => absurd hh.2 (by show i ≠ s.length; omega), fun hh => ?_⟩
      have := hh i (Nat.le_refl _) (by omega)
      simp only [cellP, Bool.and_eq_true, decide_eq_true_eq] at this
      exact absurd (hq.1 h2) this.1.2
    rw [if_neg h2]
    have h63 : (s.getD i 0).toNat ≠ 63 := fun e => h2 (hq.2 e)
    by_cases h3 : rowB (s.getD i 0) = false
    · rw [if_pos h3]
      refine ⟨fun hh => absurd hh.1 (by simp), fun hh => ?_⟩
      have := hh i (Nat.le_refl _) (by omega)
      simp only [cellP, Bool.and_eq_true, h3] at this
      exact absurd this.1.1 (by simp)
    rw [if_neg h3]
    have h3' : rowB (s.getD i 0) = true := by simpa using h3
    by_cases h4 : (s.getD i 0).toNat = 37
    · rw [if_pos h4]
      by_cases hp : pctB s i = true
      · rw [if_pos hp, re_all k (i + 3) (by omega)]
        have hp' := hp
        simp only [pctB, Bool.and_eq_true, decide_eq_true_eq] at hp'
        refine ⟨fun hh j h5 h6 => ?_, fun hh j h5 h6 => hh j (by omega) h6⟩
        rcases (by omega : j = i ∨ j = i + 1 ∨ j = i + 2 ∨ i + 3 ≤ j) with rfl | rfl | rfl | h7
        · simp only [cellP, Bool.and_eq_true, Bool.or_eq_true, decide_eq_true_eq]
          exact ⟨⟨h3', h63⟩, .inr hp⟩
        · have := cell_hex _ hp'.1.2
          simp only [cellP, Bool.and_eq_true, Bool.or_eq_true, decide_eq_true_eq]
          exact ⟨⟨this.1, this.2.1⟩, .inl this.2.2⟩
        · have := cell_hex _ hp'.2
          simp only [cellP, Bool.and_eq_true, Bool.or_eq_true, decide_eq_true_eq]
          exact ⟨⟨this.1, this.2.1⟩, .inl this.2.2⟩
        · exact hh j h7 h6
      · rw [if_neg hp]
        refine ⟨fun hh => absurd hh.1 (by simp), fun hh => ?_⟩
        have := hh i (Nat.le_refl _) (by omega)
        simp only [cellP, Bool.and_eq_true, Bool.or_eq_true, decide_eq_true_eq] at this
        rcases this.2 with h | h
        · exact absurd h4 h
        · exact absurd h hp
    · rw [if_neg h4, re_all k (i + 1) (by omega)]
      refine ⟨fun hh j h5 h6 => ?_, fun hh j h5 h6 => hh j (by omega) h6⟩
      by_cases e : j = i
      · subst e
        simp only [cellP, Bool.and_eq_true, Bool.or_eq_true, decide_eq_true_eq]
        exact ⟨⟨h3', h63⟩, .inl h4⟩
      · exact hh j (by omega) h6
theorem rowP_rb (s : List UInt8) : decide (rbL s (s.length + 1) 0 < 0) = rowP s := by
  rw [Bool.eq_iff_iff, decide_eq_true_eq, rb_all _ 0 (by omega)]
  simp [rowP, List.all_eq_true]
theorem rowP_re (s : List UInt8) : ((reL s [63] (s.length + 1) 0).2 && ((reL s [63] (s.length + 1) 0).1 == s.length)) = rowP s := by
  rw [Bool.eq_iff_iff, Bool.and_eq_true, beq_iff_eq, re_all _ 0 (by omega)]
  simp [rowP, List.all_eq_true]
/-- a cookie's path -/
def cpathL (s : List UInt8) : Bool := decide (1 ≤ s.length) && decide ((s.getD 0 0).toNat = 47) && rowP s && decide (s.length ≤ 2000)
def ckIsPath1 : Ck
  | [.str s] => some (s.length ≤ 4611686018427387900, .bool (s == [] || (decide ((s.getD 0 0).toNat = 47) && rowP s)))
  | _ => none
theorem i47 (c : UInt8) : (((c.toNat : Int)) == 47) = decide (c.toNat = 47) := by
  rw [Bool.eq_iff_iff, beq_iff_eq, decide_eq_true_eq]; omega
theorem sne_pos {s : List UInt8} (h : ¬ s = []) : 0 < (s.length : Int) := by
  have := List.length_pos_iff.2 h; omega
attribute [push_cast] ckIsPath1
def ckCPath2 : Ck
  | [.str s] => some (s.length ≤ 4611686018427387900, .bool (cpathL s))
  | _ => none
attribute [push_cast] ckCPath2
/- an address -/
structure Adr where
  sc : List UInt8
  ho : List UInt8
  po : List UInt8
  pa : List UInt8
  qu : List UInt8
  hq : Bool
  fr : List UInt8
  hf : Bool
deriving DecidableEq
def noAdr : Adr := ⟨[], [], [], [], [], false, [], false⟩
def decAdr : V → Adr
  | .agg [.str sc, .str ho, .str po, .str pa, .str qu, .bool hq, .str fr, .bool hf] => ⟨sc, ho, po, pa, qu, hq, fr, hf⟩
  | _ => noAdr
def cAdr : Cod Adr := ⟨fun a => .agg [.str a.sc, .str a.ho, .str a.po, .str a.pa, .str a.qu, .bool a.hq, .str a.fr, .bool a.hf], decAdr, noAdr, fun _ => rfl⟩
@[push_cast] theorem enc_adr (a : Adr) : cAdr.enc a = .agg [.str a.sc, .str a.ho, .str a.po, .str a.pa, .str a.qu, .bool a.hq, .str a.fr, .bool a.hf] := rfl
@[push_cast] theorem dec_adr (sc ho po pa qu fr : List UInt8) (hq hf : Bool) : cAdr.dec (.agg [.str sc, .str ho, .str po, .str pa, .str qu, .bool hq, .str fr, .bool hf]) = ⟨sc, ho, po, pa, qu, hq, fr, hf⟩ := rfl
/- how far bytes of a kind go -/
def runN (p : UInt8 → Bool) (s : List UInt8) : Nat := (s.takeWhile p).length
theorem runN_le (p : UInt8 → Bool) (s : List UInt8) : runN p s ≤ s.length := by
  induction s with
  | nil => simp [runN]
  | cons c t ih =>
    unfold runN at *
    rw [List.takeWhile_cons]
    split <;> simp at *; omega
theorem runN_in {p : UInt8 → Bool} : ∀ {s : List UInt8} {j : Nat}, j < runN p s → p (s.getD j 0) = true
  | [], j, h => by simp [runN] at h
  | c :: t, j, h => by
    unfold runN at h
    rw [List.takeWhile_cons] at h
    split at h
    · rename_i hc
      cases j with
      | zero => simpa using hc
      | succ j =>
        rw [List.getD_cons_succ]
        exact runN_in (by simpa [runN] using h)
    · simp at h
theorem runN_at {p : UInt8 → Bool} : ∀ {s : List UInt8} {n : Nat}, n ≤ s.length → (∀ j, j < n → p (s.getD j 0) = true) → (n < s.length → p (s.getD n 0) = false) → runN p s = n
  | [], n, h, _, _ => by simp at h; subst h; rfl
  | c :: t, 0, h, _, h2 => by
    have := h2 (by simp)
    unfold runN
    rw [List.takeWhile_cons, if_neg (by simpa using this)]; rfl
  | c :: t, n + 1, h, h1, h2 => by
    have h0 := h1 0 (by omega)
    unfold runN
    rw [List.takeWhile_cons, if_pos (by simpa using h0), List.length_cons]
    congr 1
    exact runN_at (by simpa using h) (fun j hj => by have := h1 (j + 1) (by omega); simpa using this) (fun hn => by have := h2 (by simpa using hn); simpa using this)
theorem runN_out {p : UInt8 → Bool} : ∀ {s : List UInt8}, runN p s < s.length → p (s.getD (runN p s) 0) = false
  | [], h => by simp [runN] at h
  | c :: t, h => by
    unfold runN at h ⊢
    rw [List.takeWhile_cons] at h ⊢
    split at h
    · rename_i hc
      rw [if_pos hc, List.length_cons, List.getD_cons_succ]
      exact runN_out (by simpa [runN] using h)
    · rename_i hc
      rw [if_neg hc]
      simpa using hc
/- the beginning of a text, in small letters -/
def mt : List UInt8 → List UInt8 → Nat
  | c :: s, d :: w => if lowB c = d then mt s w + 1 else 0
  | _, _ => 0
theorem mt_le : ∀ (s w : List UInt8), mt s w ≤ s.length ∧ mt s w ≤ w.length
  | [], w => by simp [mt]
  | c :: s, [] => by simp [mt]
  | c :: s, d :: w => by
    have := mt_le s w
    rw [mt]
    split
    · simp only [List.length_cons]; omega
    · simp
theorem mt_at : ∀ {s w : List UInt8} {n : Nat}, n ≤ s.length → n ≤ w.length → (∀ j, j < n → lowB (s.getD j 0) = w.getD j 0) → (n < s.length → n < w.length → ¬ lowB (s.getD n 0) = w.getD n 0) → mt s w = n
  | [], w, n, h, _, _, _ => by simp at h; subst h; rfl
  | c :: s, [], n, _, h, _, _ => by simp at h; subst h; rfl
  | c :: s, d :: w, 0, _, _, _, h => by
    have := h (by simp) (by simp)
    rw [mt, if_neg (by simpa using this)]
  | c :: s, d :: w, n + 1, h1, h2, h3, h4 => by
    have h0 := h3 0 (by omega)
    rw [mt, if_pos (by simpa using h0)]
    congr 1
    exact mt_at (by simpa using h1) (by simpa using h2) (fun j hj => by have := h3 (j + 1) (by omega); simpa using this) (fun a b => by have := h4 (by simpa using a) (by simpa using b); simpa using this)
theorem mt_app : ∀ (s w v : List UInt8), mt s (w ++ v) = if mt s w = w.length then w.length + mt (s.drop w.length) v else mt s w
  | s, [], v => by
    cases s <;> simp [mt]
  | [], d :: w, v => by simp [mt]
  | c :: s, d :: w, v => by
    rw [List.cons_append, mt, mt]
    by_cases h : lowB c = d
    · rw [if_pos h, if_pos h, mt_app s w v]
      simp only [List.length_cons, List.drop_succ_cons]
      by_cases h2 : mt s w = w.length
      · rw [if_pos h2, if_pos (by omega)]; omega
      · rw [if_neg h2, if_neg (by omega)]
    · rw [if_neg h, if_neg h, if_neg (by simp)]
def wHttp : List UInt8 := [104, 116, 116, 112]
def wHttps : List UInt8 := [104, 116, 116, 112, 115]
def wSep : List UInt8 := [58, 47, 47]
/-- the scheme and what is behind it: how far; or the place of what is wrong -/
def schL (s : List UInt8) : Bool × Nat :=
  if mt s (wHttp ++ wSep) = 7 then (true, 7) else if mt s (wHttps ++ wSep) = 8 then (true, 8) else (false, max (mt s (wHttp ++ wSep)) (mt s (wHttps ++ wSep)))
def pasL (s w : List UInt8) (a : Nat) : Int := if mt (s.drop a) w = w.length then -1 else ((a + mt (s.drop a) w : Nat) : Int)
/-- the same, as the reference has it: the place of what is wrong or -1; the scheme's length -/
def sch2N (s : List UInt8) : Nat := if pasL s wHttp 0 < 0 ∧ 4 < s.length ∧ ((s.getD 4 0).toNat = 115 ∨ (s.getD 4 0).toNat = 83) then 5 else 4
def sch2K (s : List UInt8) : Int := if pasL s wHttp 0 < 0 then pasL s wSep (sch2N s) else pasL s wHttp 0
theorem low115 (c : UInt8) : lowB c = 115 ↔ (c.toNat = 115 ∨ c.toNat = 83) := by
  have key : ∀ n, n < 256 → (lowB (UInt8.ofNat n) = 115 ↔ ((UInt8.ofNat n).toNat = 115 ∨ (UInt8.ofNat n).toNat = 83)) := by decide +kernel
  have := key c.toNat (UInt8.toNat_lt c)
  simpa using this
theorem dropD (s : List UInt8) (a : Nat) (h : a < s.length) : s.drop a = s.getD a 0 :: s.drop (a + 1) := dropG (d := 0) h
theorem sch_same (s : List UInt8) : (0 ≤ sch2K s → schL s = (false, (sch2K s).toNat)) ∧ (sch2K s < 0 → schL s = (true, sch2N s + 3)) := by
  have e1 : mt s (wHttp ++ wSep) = if mt s wHttp = 4 then 4 + mt (s.drop 4) wSep else mt s wHttp := mt_app s wHttp wSep
  have e2 : mt s (wHttps ++ wSep) = if mt s wHttp = 4 then 4 + mt (s.drop 4) (115 :: wSep) else mt s wHttp := mt_app s wHttp (115 :: wSep)
  have hl := mt_le s wHttp
  have hl2 : mt s wHttp ≤ 4 := hl.2
  have hp : pasL s wHttp 0 = if mt s wHttp = 4 then -1 else (mt s wHttp : Int) := by
    unfold pasL; rw [List.drop_zero, Nat.zero_add]; rfl
  by_cases h : mt s wHttp = 4
  · have hp' : pasL s wHttp 0 = -1 := by rw [hp, if_pos h]
    rw [if_pos h] at e1 e2
    have hs3 := (mt_le (s.drop 4) wSep).2
    have hs3 : mt (s.drop 4) wSep ≤ 3 := hs3
    by_cases h4 : 4 < s.length ∧ ((s.getD 4 0).toNat = 115 ∨ (s.getD 4 0).toNat = 83)
    · have hN : sch2N s = 5 := by unfold sch2N; rw [if_pos ⟨by rw [hp']; omega, h4⟩]
      have ed := dropD s 4 h4.1
      have hlo := (low115 _).2 h4.2
      have z1 : mt (s.drop 4) wSep = 0 := by
        rw [ed]
        show (if lowB (s.getD 4 0) = 58 then _ else 0) = 0
        rw [if_neg (by rw [hlo]; decide)]
      have z2 : mt (s.drop 4) (115 :: wSep) = mt (s.drop 5) wSep + 1 := by rw [ed, mt, if_pos hlo]
      have h53 : mt (s.drop 5) wSep ≤ 3 := (mt_le (s.drop 5) wSep).2
      rw [z1] at e1
      rw [z2] at e2
      have hK : sch2K s = if mt (s.drop 5) wSep = 3 then -1 else ((5 + mt (s.drop 5) wSep : Nat) : Int) := by
        unfold sch2K; rw [hp', if_pos (by omega), hN]; rfl
      unfold schL
      rw [e1, e2, hK, hN, if_neg (show ¬ (4 + 0 = 7) by omega)]
      by_cases h5 : mt (s.drop 5) wSep = 3
      · rw [if_pos h5]
        exact ⟨fun x => by omega, fun _ => by rw [if_pos (by omega)]⟩
      · rw [if_neg h5]
        exact ⟨fun _ => by rw [if_neg (by omega)]; congr 1; omega, fun x => by omega⟩
    · have hN : sch2N s = 4 := by unfold sch2N; rw [if_neg (fun x => h4 x.2)]
      have z2 : mt (s.drop 4) (115 :: wSep) = 0 := by
        by_cases h5 : 4 < s.length
        · rw [dropD s 4 h5, mt, if_neg (fun x => h4 ⟨h5, (low115 _).1 x⟩)]
        · rw [List.drop_eq_nil_of_le (by omega)]; rfl
      rw [z2] at e2
      have hK : sch2K s = if mt (s.drop 4) wSep = 3 then -1 else ((4 + mt (s.drop 4) wSep : Nat) : Int) := by
        unfold sch2K; rw [hp', if_pos (by omega), hN]; rfl
      unfold schL
      rw [e1, e2, hK, hN]
      by_cases h5 : mt (s.drop 4) wSep = 3
      · rw [if_pos h5]
        exact ⟨fun x => by omega, fun _ => by rw [if_pos (by omega)]⟩
      · rw [if_neg h5]
        exact ⟨fun _ => by rw [if_neg (by omega), if_neg (by omega)]; congr 1; omega, fun x => by omega⟩
  · have hp' : pasL s wHttp 0 = (mt s wHttp : Int) := by rw [hp, if_neg h]
    rw [if_neg h] at e1 e2
    have hK : sch2K s = (mt s wHttp : Int) := by unfold sch2K; rw [hp', if_neg (by omega)]
    unfold schL
    rw [e1, e2, hK, if_neg (show ¬ mt s wHttp = 7 by omega), if_neg (show ¬ mt s wHttp = 8 by omega)]
    exact ⟨fun _ => by congr 1; omega, fun x => by omega⟩
theorem sch_b (s : List UInt8) : (schL s).2 ≤ s.length := by
  have h1 := mt_le s (wHttp ++ wSep)
  have h2 := mt_le s (wHttps ++ wSep)
  unfold schL
  split
  · show 7 ≤ _; omega
  · split
    · show 8 ≤ _; omega
    · show max _ _ ≤ _; omega
/- host and port -/
def hostB (c : UInt8) : Bool := isLet (c.toNat : Int) || isDig (c.toNat : Int) || decide (c.toNat = 45) || decide (c.toNat = 46)
def digB (c : UInt8) : Bool := isDig (c.toNat : Int)
def portV (s : List UInt8) : Int := s.foldl (fun n c => 10 * n + ((c.toNat : Int) - 48)) 0
/-- the number of a port, or 0 -/
def portN (s : List UInt8) : Int := if 1 ≤ s.length ∧ s.length ≤ 5 ∧ s.all digB = true ∧ portV s ≤ 65535 then portV s else 0
def isAt (s : List UInt8) (a : Nat) (c : Nat) : Bool := decide (a < s.length) && decide ((s.getD a 0).toNat = c)
def cutS (s : List UInt8) (a n : Nat) : List UInt8 := (s.drop a).take n
def hoN (s : List UInt8) (a : Nat) : Nat := runN hostB (s.drop a)
def poN (s : List UInt8) (a : Nat) : Nat := runN digB (s.drop a)
def endB (s : List UInt8) (b : Nat) : Bool := decide (b = s.length) || decide (0 ≤ Lib.indexByte [47, 63, 35] (s.getD b 0))
structure Plc where
  ok : Bool
  at' : Nat
  ho : List UInt8
  po : List UInt8
def plcL (s : List UInt8) (a : Nat) : Plc :=
  if hostL (cutS s a (hoN s a)) = false then ⟨false, a, cutS s a (hoN s a), []⟩
  else if isAt s (a + hoN s a) 58 = true then
    (if portN (cutS s (a + hoN s a + 1) (poN s (a + hoN s a + 1))) = 0 then ⟨false, a + hoN s a + 1, cutS s a (hoN s a), cutS s (a + hoN s a + 1) (poN s (a + hoN s a + 1))⟩
     else ⟨endB s (a + hoN s a + 1 + poN s (a + hoN s a + 1)), a + hoN s a + 1 + poN s (a + hoN s a + 1), cutS s a (hoN s a), cutS s (a + hoN s a + 1) (poN s (a + hoN s a + 1))⟩)
  else ⟨endB s (a + hoN s a), a + hoN s a, cutS s a (hoN s a), []⟩
theorem cutS_len {s : List UInt8} {a n : Nat} (h : a + n ≤ s.length) : (cutS s a n).length = n := by
  unfold cutS; rw [List.length_take, List.length_drop]; omega
theorem hoN_le {s : List UInt8} {a : Nat} (h : a ≤ s.length) : a + hoN s a ≤ s.length := by
  have := runN_le hostB (s.drop a)
  rw [List.length_drop] at this
  unfold hoN; omega
theorem poN_le {s : List UInt8} {a : Nat} (h : a ≤ s.length) : a + poN s a ≤ s.length := by
  have := runN_le digB (s.drop a)
  rw [List.length_drop] at this
  unfold poN; omega
theorem isAt_lt {s : List UInt8} {a c : Nat} (h : isAt s a c = true) : a < s.length := by
  unfold isAt at h
  rw [Bool.and_eq_true, decide_eq_true_eq] at h
  exact h.1
theorem plc_b {s : List UInt8} {a : Nat} (h : a ≤ s.length) : (plcL s a).at' ≤ s.length := by
  have h1 := hoN_le h
  unfold plcL
  split
  · exact h
  · split
    · rename_i hc
      have hc := isAt_lt hc
      have h2 := poN_le (s := s) (a := a + hoN s a + 1) (by omega)
      split
      · exact hc
      · exact h2
    · exact h1
/- rows -/
def rdRow (s : List UInt8) (a : Nat) (w : List UInt8) : Nat × Bool := reL (s.drop a) w ((s.drop a).length + 1) 0
structure Rst where
  ok : Bool
  at' : Nat
  pa : List UInt8
  qu : List UInt8
  hq : Bool
  fr : List UInt8
  hf : Bool
def rst3 (s : List UInt8) (d : Nat) (pa qu : List UInt8) (hq : Bool) : Rst :=
  if isAt s d 35 = true then ⟨(rdRow s (d + 1) []).2, d + 1 + (rdRow s (d + 1) []).1, pa, qu, hq, cutS s (d + 1) (rdRow s (d + 1) []).1, true⟩ else ⟨true, d, pa, qu, hq, [], false⟩
def rst2 (s : List UInt8) (c : Nat) (pa : List UInt8) : Rst :=
  if isAt s c 63 = true then (if (rdRow s (c + 1) [35]).2 = false then ⟨false, c + 1 + (rdRow s (c + 1) [35]).1, pa, cutS s (c + 1) (rdRow s (c + 1) [35]).1, true, [], false⟩ else rst3 s (c + 1 + (rdRow s (c + 1) [35]).1) pa (cutS s (c + 1) (rdRow s (c + 1) [35]).1) true)
  else rst3 s c pa [] false
def rstL (s : List UInt8) (b : Nat) : Rst :=
  if (rdRow s b [63, 35]).2 = false then ⟨false, b + (rdRow s b [63, 35]).1, cutS s b (rdRow s b [63, 35]).1, [], false, [], false⟩ else rst2 s (b + (rdRow s b [63, 35]).1) (cutS s b (rdRow s b [63, 35]).1)
/-- an address, read -/
def readA (s : List UInt8) : Adr × Int × Int :=
  if 2000 < s.length then (noAdr, 0, 2)
  else if (schL s).1 = false then (noAdr, (schL s).2, 10)
  else if (plcL s (schL s).2).ok = false then (noAdr, (plcL s (schL s).2).at', 10)
  else if (rstL s (plcL s (schL s).2).at').ok = false then (noAdr, (rstL s (plcL s (schL s).2).at').at', 10)
  else (⟨s.take ((schL s).2 - 3), (plcL s (schL s).2).ho, (plcL s (schL s).2).po, (rstL s (plcL s (schL s).2).at').pa, (rstL s (plcL s (schL s).2).at').qu, (rstL s (plcL s (schL s).2).at').hq, (rstL s (plcL s (schL s).2).at').fr, (rstL s (plcL s (schL s).2).at').hf⟩, 0, 0)
theorem reL_le (s w : List UInt8) : ∀ k i, i ≤ s.length → (reL s w k i).1 ≤ s.length
  | 0, i, h => Nat.le_refl _
  | k + 1, i, h => by
    rw [reL]
    split
    · exact Nat.le_refl _
    · split
      · exact h
      · split
        · exact h
        · split
          · split
            · rename_i hp
              simp only [pctB, Bool.and_eq_true, decide_eq_true_eq] at hp
              exact reL_le s w k _ (by omega)
            · exact h
          · exact reL_le s w k _ (by omega)
theorem rdRow_le {s : List UInt8} {a : Nat} {w : List UInt8} (h : a ≤ s.length) : a + (rdRow s a w).1 ≤ s.length := by
  have := reL_le (s.drop a) w ((s.drop a).length + 1) 0 (Nat.zero_le _)
  unfold rdRow
  rw [List.length_drop] at this ⊢
  omega
/- the reference's rows: up to a byte that ends them, and the first place that is none of a row -/
def cell0 (s : List UInt8) (j : Nat) : Bool := rowB (s.getD j 0) && (decide ((s.getD j 0).toNat ≠ 37) || pctB s j)
def rb0 (s : List UInt8) : Int := match (List.range s.length).find? (fun j => !cell0 s j) with
  | some j => (j : Int)
  | none => -1
theorem rb0_at {s : List UInt8} {i : Nat} (hi : i < s.length) (h : ∀ j, j < i → cell0 s j = true) (hc : cell0 s i = false) : rb0 s = i := by
  unfold rb0
  have : (List.range s.length).find? (fun j => !cell0 s j) = some i := by
    rw [List.find?_range_eq_some]
    exact ⟨by simpa using hc, List.mem_range.2 hi, fun j hj => by simpa using h j hj⟩
  rw [this]
theorem rb0_no {s : List UInt8} (h : ∀ j, j < s.length → cell0 s j = true) : rb0 s = -1 := by
  unfold rb0
  have : (List.range s.length).find? (fun j => !cell0 s j) = none := by
    rw [List.find?_eq_none]
    intro j hj
    rw [h j (List.mem_range.1 hj)]; simp
  rw [this]
theorem rb0_b (s : List UInt8) : -1 ≤ rb0 s ∧ rb0 s < s.length := by
  unfold rb0
  split
  · rename_i j h
    have := List.mem_range.1 (List.mem_of_find?_eq_some h)
    omega
  · omega
def stopB (w : List UInt8) (c : UInt8) : Bool := decide (Lib.indexByte w c < 0)
def utN (s : List UInt8) (a : Nat) (w : List UInt8) : Nat := runN (stopB w) (s.drop a)
def okStop (w : List UInt8) : Prop := ∀ c : UInt8, isHex (c.toNat : Int) = true → stopB w c = true
theorem okStop_of {w : List UInt8} (h : (List.range 256).all (fun n => !isHex (n : Int) || stopB w (UInt8.ofNat n)) = true) : okStop w := by
  intro c hc
  rw [List.all_eq_true] at h
  have := h c.toNat (List.mem_range.2 (UInt8.toNat_lt c))
  rw [hc] at this
  simpa using this
theorem ok_1 : okStop [63, 35] := okStop_of (by decide +kernel)
theorem ok_2 : okStop [35] := okStop_of (by decide +kernel)
theorem ok_3 : okStop [] := okStop_of (by decide +kernel)
theorem getD_take {s : List UInt8} {n j : Nat} (h : j < n) : (s.take n).getD j 0 = s.getD j 0 := by
  rw [List.getD_eq_getElem?_getD, List.getD_eq_getElem?_getD, List.getElem?_take_of_lt h]
theorem row_go {t w : List UInt8} (hw : okStop w) : ∀ (k i : Nat), t.length < i + k → i ≤ runN (stopB w) t → (∀ j, j < i → cell0 (t.take (runN (stopB w) t)) j = true) → reL t w k i = if rb0 (t.take (runN (stopB w) t)) < 0 then (runN (stopB w) t, true) else ((rb0 (t.take (runN (stopB w) t))).toNat, false)
  | 0, i, h, hi, _ => by have := runN_le (stopB w) t; omega
  | k + 1, i, h, hi, hc => by
    have hN := runN_le (stopB w) t
    have hin := fun j => runN_in (p := stopB w) (s := t) (j := j)
    have hout := runN_out (p := stopB w) (s := t)
    generalize hNe : runN (stopB w) t = N at hi hc hN hin hout ⊢
    have hlen : (t.take N).length = N := by rw [List.length_take]; omega
    have eN : i = N → rb0 (t.take N) = -1 := fun e => rb0_no fun j hj => hc j (by omega)
    rw [reL]
    by_cases h1 : t.length ≤ i
    · rw [if_pos h1, eN (by omega), if_pos (by omega)]
      congr 1; omega
    rw [if_neg h1]
    by_cases h2 : i = N
    · subst h2
      have := hout (by omega)
      unfold stopB at this
      rw [decide_eq_false_iff_not] at this
      rw [if_pos (by omega), eN rfl, if_pos (by omega)]
    have hs := hin i (by omega)
    unfold stopB at hs
    rw [decide_eq_true_eq] at hs
    rw [if_neg (by omega)]
    have hg : (t.take N).getD i 0 = t.getD i 0 := getD_take (by omega)
    have hp : pctB (t.take N) i = pctB t i := by
      rw [Bool.eq_iff_iff]
      unfold pctB
      simp only [Bool.and_eq_true, decide_eq_true_eq, hlen]
      constructor
      · rintro ⟨⟨a, b⟩, c⟩
        rw [getD_take (by omega)] at b c
        exact ⟨⟨by omega, b⟩, c⟩
      · rintro ⟨⟨a, b⟩, c⟩
        have b' := hw _ b
        have c' := hw _ c
        have n1 : i + 1 ≠ N := fun e => by rw [e, hout (by omega)] at b'; cases b'
        have n2 : i + 2 ≠ N := fun e => by rw [e, hout (by omega)] at c'; cases c'
        refine ⟨⟨by omega, ?_⟩, ?_⟩
        · rw [getD_take (by omega)]; exact b
        · rw [getD_take (by omega)]; exact c
    have bad : cell0 (t.take N) i = false → (i, false) = if rb0 (t.take N) < 0 then (N, true) else ((rb0 (t.take N)).toNat, false) := fun hb => by
      rw [rb0_at (by omega) hc hb, if_neg (by omega), Int.toNat_natCast]
    by_cases h3 : rowB (t.getD i 0) = false
    · rw [if_pos h3]
      exact bad (by unfold cell0; rw [hg, h3]; rfl)
    rw [if_neg h3]
    have h3' : rowB (t.getD i 0) = true := by simpa using h3
    by_cases h4 : (t.getD i 0).toNat = 37
    · rw [if_pos h4]
      by_cases hpc : pctB t i = true
      · rw [if_pos hpc]
        have hp' := hp.trans hpc
        simp only [pctB, Bool.and_eq_true, decide_eq_true_eq, hlen] at hp'
        have key := row_go (t := t) hw k (i + 3) (by omega) (by rw [hNe]; omega) (fun j hj => by
          rw [hNe]
          by_cases e : j < i
          · exact hc j e
          rcases (by omega : j = i ∨ j = i + 1 ∨ j = i + 2) with rfl | rfl | rfl
          · unfold cell0; rw [hg, h3', hp, hpc]; simp
          · have := cell_hex _ hp'.1.2
            unfold cell0; rw [this.1, decide_eq_true this.2.2]; rfl
          · have := cell_hex _ hp'.2
            unfold cell0; rw [this.1, decide_eq_true this.2.2]; rfl)
        rw [hNe] at key
        exact key
      · rw [if_neg hpc]
        exact bad (by unfold cell0; rw [hg, h3', hp, decide_eq_false (fun x => x h4)]; simpa using hpc)
    · rw [if_neg h4]
      have key := row_go (t := t) hw k (i + 1) (by omega) (by rw [hNe]; omega) (fun j hj => by
        rw [hNe]
        by_cases e : j < i
        · exact hc j e
        obtain rfl : j = i := by omega
        unfold cell0; rw [hg, h3', decide_eq_true h4]; rfl)
      rw [hNe] at key
      exact key
/-- both ways to read a row -/
theorem row_same {s w : List UInt8} (hw : okStop w) (a : Nat) : rdRow s a w = if rb0 (cutS s a (utN s a w)) < 0 then (utN s a w, true) else ((rb0 (cutS s a (utN s a w))).toNat, false) :=
  row_go hw _ 0 (by omega) (Nat.zero_le _) (fun j hj => by omega)
theorem utN_le {s : List UInt8} {a : Nat} {w : List UInt8} (h : a ≤ s.length) : a + utN s a w ≤ s.length := by
  have := runN_le (stopB w) (s.drop a)
  rw [List.length_drop] at this
  unfold utN; omega

end Go.Abs
