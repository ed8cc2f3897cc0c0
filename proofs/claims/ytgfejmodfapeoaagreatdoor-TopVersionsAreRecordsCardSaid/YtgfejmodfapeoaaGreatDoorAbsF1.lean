/- what functions of this program compute: contracts, each a function's own -/
import Derived.Test.YtgfejmodfapeoaaGreatDoorAbsK2
import Derived.Test.YtgfejmodfapeoaaGreatDoorAbsFacts
import Derived.Test.YtgfejmodfapeoaaGreatDoorAbsF0
import Derived.Test.YtgfejmodfapeoaaGreatDoorAbsShelf
import Derived.Lib.SplitLaws
import Derived.Lib.SlTrimSet
import Derived.Lib.Atoi
import Derived.Lib.Itoa
import Derived.Lib.ItoaNum
import Derived.Lib.AtoiErrMem
import Derived.Lib.Join
import Derived.Lib.IndexMore
import Derived.Lib.Repeat
import Derived.Lib.ItoaLen
import Derived.Lib.Index
import Derived.Lib.IndexBytes
namespace Go.Abs
open Go Go.Proofs
set_option maxHeartbeats 4000000
set_option maxRecDepth 100000
set_option linter.unusedVariables false
set_option linter.unusedSimpArgs false
/-- how a thing is coded -/
structure Cod (α : Type) where
  enc : α → V
  dec : V → α
  d : α
  ok : ∀ a, dec (enc a) = a
section
variable {α : Type} (c : Cod α)
def lsF (l : List α) : Nat → V := fun i => c.enc (l.getD i c.d)
/-- f's first n are the things l -/
def LsI (n : Nat) (f : Nat → V) (l : List α) : Prop := n = l.length ∧ ∀ i, i < n → f i = lsF c l i
def lsOf (n : Nat) (f : Nat → V) : List α := (List.range n).map fun i => c.dec (f i)
def isLs (n : Nat) (f : Nat → V) : Prop := LsI c n f (lsOf c n f)
variable {c}
theorem lsOf_len (n : Nat) (f : Nat → V) : (lsOf c n f).length = n := by simp [lsOf]
theorem LsI.ls (l : List α) : LsI c l.length (lsF c l) l := ⟨rfl, fun _ _ => rfl⟩
theorem LsI.of {n : Nat} {f : Nat → V} {l : List α} (h : LsI c n f l) : lsOf c n f = l := by
  obtain ⟨rfl, h⟩ := h
  apply List.ext_getElem
  · simp [lsOf]
  · intro i h1 h2
    simp only [lsOf, List.getElem_map, List.getElem_range]
    rw [h i h2]
    unfold lsF
    rw [c.ok, List.getD_eq_getElem?_getD, List.getElem?_eq_getElem h2]; rfl
theorem LsI.is {n : Nat} {f : Nat → V} {l : List α} (h : LsI c n f l) : isLs c n f := by unfold isLs; rw [h.of]; exact h
theorem LsI.vle {n : Nat} {f : Nat → V} {l : List α} (h : LsI c n f l) : VLe (.sl n f) (.sl l.length (lsF c l)) := VLe.sl h.1 h.2
theorem isLs.vle {n : Nat} {f : Nat → V} (h : isLs c n f) : VLe (.sl n f) (.sl (lsOf c n f).length (lsF c (lsOf c n f))) := LsI.vle h
theorem isLs_ls (l : List α) : isLs c l.length (lsF c l) := (LsI.ls l).is
theorem lsOf_ls (l : List α) : lsOf c l.length (lsF c l) = l := (LsI.ls l).of
theorem LsI.app {n m k : Nat} {f g : Nat → V} {a b : List α} (h1 : LsI c n f a) (h2 : LsI c m g b) (hk : k = n + m) : LsI c k (appF n f g) (a ++ b) := by
  obtain ⟨e1, h1⟩ := h1
  obtain ⟨e2, h2⟩ := h2
  refine ⟨by simp; omega, fun i hi => ?_⟩
  unfold appF
  by_cases h : i < n
  · rw [show decide (i < n) = true from by simp [h], cond_true, h1 i h]
    unfold lsF
    rw [List.getD_eq_getElem?_getD, List.getD_eq_getElem?_getD, List.getElem?_append_left (by omega)]
  · rw [show decide (i < n) = false from by simp [h], cond_false, h2 (i - n) (by omega)]
    unfold lsF
    rw [List.getD_eq_getElem?_getD, List.getD_eq_getElem?_getD, List.getElem?_append_right (by omega), e1]
theorem LsI.one {f : Nat → V} {a : α} (h : f 0 = c.enc a) : LsI c 1 f [a] := ⟨rfl, fun i hi => by
  have : i = 0 := by omega
  subst this
  exact h⟩
theorem LsI.nil (f : Nat → V) : LsI c 0 f [] := ⟨rfl, fun i hi => by omega⟩
theorem LsI.sh {n l k : Nat} {f : Nat → V} {s : List α} (h : LsI c n f s) (hk : l + k ≤ n) : LsI c k (shF f l) ((s.drop l).take k) := by
  obtain ⟨e, h⟩ := h
  refine ⟨by simp; omega, fun i hi => ?_⟩
  unfold shF
  rw [h (i + l) (by omega)]
  unfold lsF
  rw [List.getD_eq_getElem?_getD, List.getD_eq_getElem?_getD, List.getElem?_take_of_lt hi, List.getElem?_drop, Nat.add_comm]
theorem LsI.eq {n : Nat} {f : Nat → V} {s t : List α} (h : LsI c n f s) (e : s = t) : LsI c n f t := e ▸ h
theorem LsI.len {n m : Nat} {f : Nat → V} {s : List α} (h : LsI c n f s) (e : n = m) : LsI c m f s := e ▸ h
theorem LsI.pure {n : Nat} {f : Nat → V} {s : List α} (h : LsI c n f s) (hc : ∀ a, (c.enc a).isPure = true) : ∀ i, i < n → (f i).isPure = true := fun i hi => by rw [h.2 i hi]; exact hc _
theorem LsI.flat {n m : Nat} {f : Nat → V} {s : List α} (h : LsI c n f s) (hc : ∀ a, (c.enc a).flat.length = m) : ∀ i, i < n → (f i).flat.length = m := fun i hi => by rw [h.2 i hi]; exact hc _
end
/- strings -/
def decStr : V → List UInt8
  | .str s => s
  | _ => []
def cStr : Cod (List UInt8) := ⟨.str, decStr, [], fun _ => rfl⟩
@[push_cast] theorem lsF_str (l : List (List UInt8)) (i : Nat) : lsF cStr l i = .str (l.getD i []) := rfl
/- numbers -/
def decInt : V → Int
  | .int _ n => n
  | _ => 0
def cInt : Cod Int := ⟨.int .i64, decInt, 0, fun _ => rfl⟩
@[push_cast] theorem lsF_int (l : List Int) (i : Nat) : lsF cInt l i = .int .i64 (l.getD i 0) := rfl
/- a name and a value -/
structure Hd where
  name : List UInt8
  value : List UInt8
deriving DecidableEq
def decHd : V → Hd
  | .agg [.str a, .str b] => ⟨a, b⟩
  | _ => ⟨[], []⟩
def cHd : Cod Hd := ⟨fun h => .agg [.str h.name, .str h.value], decHd, ⟨[], []⟩, fun _ => rfl⟩
@[push_cast] theorem lsF_hd (l : List Hd) (i : Nat) : lsF cHd l i = .agg [.str (l.getD i ⟨[], []⟩).name, .str (l.getD i ⟨[], []⟩).value] := rfl
/- lists, place by place -/
theorem all_at' {α : Type} {p : α → Bool} {d : α} {s : List α} (h : ∀ j, j < s.length → p (s.getD j d) = true) : s.all p = true := by
  rw [List.all_eq_true]
  intro x hx
  obtain ⟨j, hj, rfl⟩ := List.getElem_of_mem hx
  have := h j hj
  rwa [List.getD_eq_getElem?_getD, List.getElem?_eq_getElem hj] at this
theorem all_no' {α : Type} {p : α → Bool} {d : α} {s : List α} {j : Nat} (hj : j < s.length) (h : p (s.getD j d) = false) : s.all p = false := by
  rw [List.all_eq_false]
  refine ⟨s[j], List.getElem_mem hj, ?_⟩
  rw [List.getD_eq_getElem?_getD, List.getElem?_eq_getElem hj] at h
  simpa using h
theorem dropG {α : Type} {d : α} {s : List α} {i : Nat} (h : i < s.length) : s.drop i = s.getD i d :: s.drop (i + 1) := by
  rw [List.drop_eq_getElem_cons h, List.getD_eq_getElem?_getD, List.getElem?_eq_getElem h]; rfl
theorem takeG {α : Type} {d : α} {s : List α} {k : Nat} (h : k < s.length) : s.take (k + 1) = s.take k ++ [s.getD k d] := by
  rw [List.take_add_one, List.getD_eq_getElem?_getD, List.getElem?_eq_getElem h]; rfl
@[push_cast] theorem appF_z (f g : Nat → V) : appF 0 f g = g := by funext i; simp [appF]
attribute [push_cast] Nat.zero_add Nat.not_lt_zero
@[push_cast] theorem litF_zero (x : V) (l : List V) : litF (x :: l) 0 = x := rfl
@[push_cast] theorem litF_succ (x : V) (l : List V) (k : Nat) : litF (x :: l) (k + 1) = litF l k := by simp [litF]
@[push_cast] theorem ble_dec (a b : Nat) : Nat.ble a b = decide (a ≤ b) := by
  rw [Bool.eq_iff_iff, Nat.ble_eq]; simp
attribute [push_cast] lsOf_ls bytesOf_by
@[push_cast] theorem isLs_lsT {α : Type} {c : Cod α} (l : List α) : isLs c l.length (lsF c l) = True := eq_true (isLs_ls l)
@[push_cast] theorem isBy_byT (s : List UInt8) : isBy s.length (byF s) = True := eq_true (isBy_by s)
@[push_cast] theorem hd_eta (h : Hd) : (⟨h.name, h.value⟩ : Hd) = h := rfl
@[push_cast] theorem kill_by (d : Nat) (s : List UInt8) (i : Nat) : V.kill d (byF s i) = byF s i := rfl
@[push_cast] theorem frz_by (d z n : Nat) (f : Nat → V) (s : List UInt8) (i : Nat) : frzV d z n f (byF s i) = byF s i := rfl
@[push_cast] theorem pure_by (s : List UInt8) (i : Nat) : (byF s i).isPure = true := rfl
@[push_cast] theorem ren_by (a b : Nat) (s : List UInt8) (i : Nat) : V.ren a b (byF s i) = byF s i := rfl
@[push_cast] theorem beq_dec (a b : Nat) : Nat.beq a b = decide (a = b) := by
  rw [Bool.eq_iff_iff]; simp

/-- a value that stands for a coded thing -/
def isC {α : Type} (c : Cod α) (x : V) : Prop := VLe x (c.enc (c.dec x))
theorem isC_enc {α : Type} (c : Cod α) (a : α) : isC c (c.enc a) := by unfold isC; rw [c.ok]; exact VLe.refl _
/-- strings of heads are not long -/
def hdsOk (l : List Hd) : Prop := ∀ h ∈ l, h.name.length ≤ 140737488355328 ∧ h.value.length ≤ 140737488355328
theorem hdsOk_at {l : List Hd} (h : hdsOk l) {i : Nat} (hi : i < l.length) : (l.getD i ⟨[], []⟩).name.length ≤ 140737488355328 ∧ (l.getD i ⟨[], []⟩).value.length ≤ 140737488355328 := by
  rw [List.getD_eq_getElem?_getD, List.getElem?_eq_getElem hi]; exact h _ (List.getElem_mem hi)
@[push_cast] theorem lsF_hdfl (l : List Hd) (i : Nat) : (lsF cHd l i).flat = [.str (l.getD i ⟨[], []⟩).name, .str (l.getD i ⟨[], []⟩).value] := rfl
/-- an answer -/
structure Ans where
  st : Int
  re : List UInt8
  hd : List Hd
  bd : List UInt8
deriving DecidableEq
def decAns : V → Ans
  | .agg [.int _ st, .str re, .sl n f, .sl m g] => ⟨st, re, lsOf cHd n f, bytesOf m g⟩
  | _ => ⟨0, [], [], []⟩
def cAns : Cod Ans := ⟨fun a => .agg [.int .i64 a.st, .str a.re, .sl a.hd.length (lsF cHd a.hd), .sl a.bd.length (byF a.bd)], decAns, ⟨0, [], [], []⟩, fun a => by simp [decAns, lsOf_ls, bytesOf_by]⟩
@[push_cast] theorem enc_ans (a : Ans) : cAns.enc a = .agg [.int .i64 a.st, .str a.re, .sl a.hd.length (lsF cHd a.hd), .sl a.bd.length (byF a.bd)] := rfl
@[push_cast] theorem dec_ans (k : IntKind) (st : Int) (re : List UInt8) (n m : Nat) (f g : Nat → V) : cAns.dec (.agg [.int k st, .str re, .sl n f, .sl m g]) = ⟨st, re, lsOf cHd n f, bytesOf m g⟩ := rfl
theorem isC_ans {st : Int} {re : List UInt8} {n m : Nat} {f g : Nat → V} (h1 : isLs cHd n f) (h2 : isBy m g) : isC cAns (.agg [.int .i64 st, .str re, .sl n f, .sl m g]) :=
  VLe.agg ⟨VLe.refl _, VLe.refl _, isLs.vle h1, isBy.vle h2, trivial⟩
def ansOk (a : Ans) : Prop := hdsOk a.hd ∧ a.re.length ≤ 140737488355328 ∧ a.hd.length ≤ 140737488355328 ∧ a.bd.length ≤ 140737488355328
theorem reach_le : reachBytes ≤ 140737488355328 := by unfold reachBytes; omega
theorem hasL_cons {s : Sh} {ss : List Sh} {ms : List Nat} {vs : List V} (h : Sh.hasL (s :: ss) ms vs) : ∃ m v ms' vs', vs = v :: vs' ∧ s.has m v ∧ Sh.hasL ss ms' vs' := by
  cases ms with
  | nil => simp [Sh.hasL] at h
  | cons m ms => cases vs with
    | nil => simp [Sh.hasL] at h
    | cons v vs => exact ⟨m, v, ms, vs, rfl, h.1, h.2⟩
theorem hasL_nil {ms : List Nat} {vs : List V} (h : Sh.hasL [] ms vs) : vs = [] := by
  cases ms with
  | nil => cases vs with
    | nil => rfl
    | cons _ _ => simp [Sh.hasL] at h
  | cons _ _ => simp [Sh.hasL] at h
theorem shHead {m : Nat} {v : V} (h : Sh.has (.tup [.str, .str]) m v) : ∃ a, v = cHd.enc a ∧ a.name.length ≤ 140737488355328 ∧ a.value.length ≤ 140737488355328 := by
  obtain ⟨l, ms, rfl, -, hl⟩ := h
  obtain ⟨m1, v1, ms, l, rfl, h1, hl⟩ := hasL_cons hl
  obtain ⟨m2, v2, ms, l, rfl, h2, hl⟩ := hasL_cons hl
  obtain rfl := hasL_nil hl
  obtain ⟨s, rfl, -, b1⟩ := h1
  obtain ⟨t, rfl, -, b2⟩ := h2
  have := reach_le
  exact ⟨⟨s, t⟩, rfl, by show s.length ≤ _; omega, by show t.length ≤ _; omega⟩
theorem shList {α : Type} {c : Cod α} {s : Sh} {p : α → Prop} (hs : ∀ m v, s.has m v → ∃ a, v = c.enc a ∧ p a) {m : Nat} {v : V} (h : Sh.has (.list s) m v) : ∃ (n : Nat) (f : Nat → V), v = .sl n f ∧ isLs c n f ∧ n ≤ 140737488355328 ∧ ∀ a ∈ lsOf c n f, p a := by
  obtain ⟨l, ms, rfl, h1, h2, h3, h4⟩ := h
  have at' : ∀ i, i < l.length → ∃ a, litF l i = c.enc a ∧ p a := fun i hi => hs _ _ (h4 i hi)
  have := reach_le
  refine ⟨_, _, rfl, ⟨by simp [lsOf], fun i hi => ?_⟩, by omega, fun a ha => ?_⟩
  · obtain ⟨a, e, _⟩ := at' i hi
    unfold lsF lsOf
    rw [List.getD_eq_getElem?_getD, List.getElem?_map, List.getElem?_range hi]
    simp only [Option.map_some, Option.getD_some]
    rw [e, c.ok]
  · simp only [lsOf, List.mem_map, List.mem_range] at ha
    obtain ⟨i, hi, rfl⟩ := ha
    obtain ⟨a, e, hp⟩ := at' i hi
    rw [e, c.ok]; exact hp
theorem shStr {m : Nat} {v : V} (h : Sh.has .str m v) : ∃ a, v = cStr.enc a ∧ a.length ≤ 140737488355328 := by
  obtain ⟨s, rfl, -, b⟩ := h
  have := reach_le
  exact ⟨s, rfl, by omega⟩
theorem shAns {m : Nat} {v : V} (h : Sh.has (.tup [.int .i64, .str, .list (.tup [.str, .str]), .list (.int .u8)]) m v) : isC cAns v ∧ ansOk (cAns.dec v) := by
  obtain ⟨l, ms, rfl, -, hl⟩ := h
  obtain ⟨m1, v1, ms, l, rfl, h1, hl⟩ := hasL_cons hl
  obtain ⟨m2, v2, ms, l, rfl, h2, hl⟩ := hasL_cons hl
  obtain ⟨m3, v3, ms, l, rfl, h3, hl⟩ := hasL_cons hl
  obtain ⟨m4, v4, ms, l, rfl, h4, hl⟩ := hasL_cons hl
  obtain rfl := hasL_nil hl
  obtain ⟨st, rfl, _⟩ := shInt h1
  obtain ⟨re, rfl, b2⟩ := shStr h2
  obtain ⟨n, f, rfl, i3, b3, k3⟩ := shList (c := cHd) (fun m v h => shHead h) h3
  obtain ⟨k, g, rfl, i4, b4⟩ := shBytes h4
  have := reach_le
  refine ⟨isC_ans i3 i4, ?_⟩
  show ansOk ⟨st, re, lsOf cHd n f, bytesOf k g⟩
  refine ⟨k3, b2, ?_, ?_⟩
  · show (lsOf cHd n f).length ≤ _
    rw [lsOf_len]; exact b3
  · show (bytesOf k g).length ≤ _
    rw [bytesOf_len]; omega
theorem hasD2 {H : Type} {s1 s2 : Sh} {ds : List (DataW H)} (h : hasD [s1, s2] ds) : ∃ a b, ds = [a, b] ∧ s1.has (bulkD a) (toV a) ∧ s2.has (bulkD b) (toV b) := by
  match ds, h with
  | [a, b], ⟨h1, h2, _⟩ => exact ⟨a, b, rfl, h1, h2⟩
theorem hasD1 {H : Type} {s1 : Sh} {ds : List (DataW H)} (h : hasD [s1] ds) : ∃ a, ds = [a] ∧ s1.has (bulkD a) (toV a) := by
  match ds, h with
  | [a], ⟨h1, _⟩ => exact ⟨a, rfl, h1⟩
theorem hasD4 {H : Type} {s1 s2 s3 s4 : Sh} {ds : List (DataW H)} (h : hasD [s1, s2, s3, s4] ds) : ∃ a b c d, ds = [a, b, c, d] ∧ s1.has (bulkD a) (toV a) ∧ s2.has (bulkD b) (toV b) ∧ s3.has (bulkD c) (toV c) ∧ s4.has (bulkD d) (toV d) := by
  match ds, h with
  | [a, b, c, d], ⟨h1, h2, h3, h4, _⟩ => exact ⟨a, b, c, d, rfl, h1, h2, h3, h4⟩
@[push_cast] theorem isC_ansT (a : Ans) : isC cAns (.agg [.int .i64 a.st, .str a.re, .sl a.hd.length (lsF cHd a.hd), .sl a.bd.length (byF a.bd)]) = True := eq_true (isC_enc cAns a)
@[push_cast] theorem ans_eta (a : Ans) : (⟨a.st, a.re, a.hd, a.bd⟩ : Ans) = a := rfl

/- pieces of bytes, one behind the other -/
def slOf : V → List UInt8
  | .sl n f => bytesOf n f
  | _ => []
def isSl : V → Prop
  | .sl n f => isBy n f
  | _ => False
def cBy : Cod (List UInt8) := ⟨fun s => .sl s.length (byF s), slOf, [], fun s => bytesOf_by s⟩
@[push_cast] theorem lsF_by (l : List (List UInt8)) (i : Nat) : lsF cBy l i = .sl (l.getD i []).length (byF (l.getD i [])) := rfl
theorem isSl_ple {v : V} (h : isSl v) : pleL v.flat [.sl (slOf v).length (byF (slOf v))] := by
  cases v <;> first | exact h.elim | skip
  rename_i n f
  exact ⟨PLe.sl h.1 fun i hi => by rw [h.2 i hi]; exact pleL_refl _, trivial⟩

/- pieces of which bytes are put together -/
structure Cpy where
  fr : Int
  n : Int
  by' : List UInt8
deriving DecidableEq
def noCpy : Cpy := ⟨0, 0, []⟩
def decCpy : V → Cpy
  | .agg [.int _ fr, .int _ n, .sl k g] => ⟨fr, n, bytesOf k g⟩
  | _ => noCpy
def cCpy : Cod Cpy := ⟨fun a => .agg [.int .i64 a.fr, .int .i64 a.n, .sl a.by'.length (byF a.by')], decCpy, noCpy, fun a => by simp [decCpy, bytesOf_by]⟩
@[push_cast] theorem lsF_cpy (l : List Cpy) (i : Nat) : lsF cCpy l i = .agg [.int .i64 (l.getD i noCpy).fr, .int .i64 (l.getD i noCpy).n, .sl (l.getD i noCpy).by'.length (byF (l.getD i noCpy).by')] := rfl
/-- how far two rows are the same -/
def cpl : List UInt8 → List UInt8 → Nat
  | x :: a, y :: b => if x = y then cpl a b + 1 else 0
  | _, _ => 0
theorem cpl_le : ∀ a b : List UInt8, cpl a b ≤ a.length ∧ cpl a b ≤ b.length
  | [], _ => ⟨Nat.zero_le _, Nat.zero_le _⟩
  | _ :: _, [] => ⟨Nat.zero_le _, Nat.zero_le _⟩
  | x :: a, y :: b => by
    have := cpl_le a b
    unfold cpl
    split
    · simp; omega
    · simp
theorem cpl_take : ∀ a b : List UInt8, a.take (cpl a b) = b.take (cpl a b)
  | [], b => by cases b <;> rfl
  | _ :: _, [] => rfl
  | x :: a, y :: b => by
    unfold cpl
    split
    · rename_i h; rw [List.take_succ_cons, List.take_succ_cons, cpl_take a b, h]
    · rfl
theorem cpl_at {a b : List UInt8} : ∀ {k : Nat}, k ≤ a.length → k ≤ b.length → (∀ j, j < k → a.getD j 0 = b.getD j 0) → (k < a.length → k < b.length → a.getD k 0 ≠ b.getD k 0) → cpl a b = k := by
  induction a generalizing b with
  | nil => intro k h1 _ _ _; simp at h1; subst h1; cases b <;> rfl
  | cons x t ih =>
    intro k h1 h2 h3 h4
    cases b with
    | nil => simp at h2; subst h2; rfl
    | cons y u =>
      cases k with
      | zero =>
        have := h4 (by simp) (by simp)
        simp only [List.getD_cons_zero] at this
        unfold cpl; rw [if_neg this]
      | succ k =>
        have h0 := h3 0 (by omega)
        simp only [List.getD_cons_zero] at h0
        unfold cpl
        rw [if_pos h0, ih (k := k) (by simpa using h1) (by simpa using h2) (fun j hj => by simpa using h3 (j + 1) (by omega)) (fun a1 a2 => by simpa using h4 (by simpa using a1) (by simpa using a2))]
/-- the longest row of a base with which bytes begin, among the first places -/
def lonN (base b : List UInt8) : Nat → Nat × Nat
  | 0 => (0, 0)
  | i + 1 => if (lonN base b i).2 < cpl (base.drop i) b then (i, cpl (base.drop i) b) else lonN base b i
theorem lonN_ok (base b : List UInt8) : ∀ i, i ≤ base.length → (lonN base b i).1 + (lonN base b i).2 ≤ base.length ∧ (lonN base b i).2 ≤ b.length ∧ (base.drop (lonN base b i).1).take (lonN base b i).2 = b.take (lonN base b i).2
  | 0, _ => ⟨Nat.zero_le _, Nat.zero_le _, rfl⟩
  | i + 1, h => by
    have ih := lonN_ok base b i (by omega)
    unfold lonN
    split
    · have := cpl_le (base.drop i) b
      rw [List.length_drop] at this
      exact ⟨by show i + cpl (base.drop i) b ≤ _; omega, this.2, cpl_take _ _⟩
    · exact ih
def lonB (base b : List UInt8) : Nat × Nat := lonN base b base.length
/-- what pieces make -/
def rebC (base : List UInt8) (c : Cpy) : List UInt8 := (base.drop c.fr.toNat).take c.n.toNat ++ c.by'
def rebL (base : List UInt8) (l : List Cpy) : List UInt8 := (l.map (rebC base)).flatten
def okC (base : List UInt8) (c : Cpy) : Prop := (0 < c.n ∧ c.by' = [] ∧ 0 ≤ c.fr ∧ c.fr + c.n ≤ base.length) ∨ (c.n = 0 ∧ c.fr = 0 ∧ c.by' ≠ [])
/-- a byte more, as it stands -/
def addB (out : List Cpy) (x : UInt8) : List Cpy := match out.getLast? with
  | some c => if c.n = 0 then out.dropLast ++ [⟨c.fr, 0, c.by' ++ [x]⟩] else out ++ [⟨0, 0, [x]⟩]
  | none => [⟨0, 0, [x]⟩]
def delG (base : List UInt8) : Nat → List UInt8 → List Cpy → List Cpy
  | 0, _, out => out
  | _ + 1, [], out => out
  | f + 1, x :: t, out => if 8 ≤ (lonB base (x :: t)).2 then delG base f ((x :: t).drop (lonB base (x :: t)).2) (out ++ [⟨(lonB base (x :: t)).1, (lonB base (x :: t)).2, []⟩]) else delG base f t (addB out x)
def delL (base b : List UInt8) : List Cpy := delG base b.length b []
theorem rebL_app (base : List UInt8) (a b : List Cpy) : rebL base (a ++ b) = rebL base a ++ rebL base b := by unfold rebL; rw [List.map_append, List.flatten_append]
theorem rebL_one (base : List UInt8) (c : Cpy) : rebL base [c] = rebC base c := by unfold rebL; simp
theorem addB_ok {base : List UInt8} {out : List Cpy} {x : UInt8} (h : ∀ c ∈ out, okC base c) : (∀ c ∈ addB out x, okC base c) ∧ rebL base (addB out x) = rebL base out ++ [x] ∧ (addB out x).length ≤ out.length + 1 := by
  unfold addB
  have hx : okC base ⟨0, 0, [x]⟩ := .inr ⟨rfl, rfl, by simp⟩
  have hr : rebC base ⟨0, 0, [x]⟩ = [x] := by unfold rebC; simp
  cases hl : out.getLast? with
  | none =>
    have : out = [] := List.getLast?_eq_none_iff.1 hl
    subst this
    exact ⟨fun c hc => by rw [List.mem_singleton.1 hc]; exact hx, by rw [rebL_one, hr]; rfl, by simp⟩
  | some c =>
    obtain ⟨p, rfl⟩ := List.getLast?_eq_some_iff.1 hl
    simp only
    split
    · rename_i h0
      have hc := h c (by simp)
      rw [List.dropLast_concat]
      have hc' : c.fr = 0 := by
        rcases hc with ⟨g, _⟩ | ⟨_, g, _⟩
        · omega
        · exact g
      refine ⟨fun d hd => ?_, ?_, by simp⟩
      · rcases List.mem_append.1 hd with hd | hd
        · exact h d (List.mem_append_left _ hd)
        · rw [List.mem_singleton.1 hd]; exact .inr ⟨rfl, hc', by simp⟩
      · rw [rebL_app, rebL_app, rebL_one, rebL_one]
        unfold rebC
        simp only [h0, hc']
        simp
    · refine ⟨fun d hd => ?_, ?_, by simp⟩
      · rcases List.mem_append.1 hd with hd | hd
        · exact h d hd
        · rw [List.mem_singleton.1 hd]; exact hx
      · rw [rebL_app (a := p ++ [c]), rebL_one, hr]
theorem delG_ok {base : List UInt8} : ∀ {f : Nat} {b : List UInt8} {out : List Cpy}, b.length ≤ f → (∀ c ∈ out, okC base c) → (∀ c ∈ delG base f b out, okC base c) ∧ rebL base (delG base f b out) = rebL base out ++ b ∧ (delG base f b out).length ≤ out.length + b.length
  | 0, b, out, hf, h => by
    have : b = [] := List.length_eq_zero_iff.1 (by omega)
    subst this
    exact ⟨h, by rw [List.append_nil]; rfl, by simp [delG]⟩
  | f + 1, [], out, _, h => ⟨h, by rw [List.append_nil]; rfl, by simp [delG]⟩
  | f + 1, x :: t, out, hf, h => by
    unfold delG
    have hl := lonN_ok base (x :: t) base.length (Nat.le_refl _)
    change (lonB base (x :: t)).1 + (lonB base (x :: t)).2 ≤ base.length ∧ (lonB base (x :: t)).2 ≤ (x :: t).length ∧ (base.drop (lonB base (x :: t)).1).take (lonB base (x :: t)).2 = (x :: t).take (lonB base (x :: t)).2 at hl
    generalize lonB base (x :: t) = q at *
    split
    · rename_i h8
      obtain ⟨l1, l2, l3⟩ := hl
      have hc : okC base ⟨q.1, q.2, []⟩ := .inl ⟨by show (0 : Int) < q.2; omega, rfl, by show (0 : Int) ≤ q.1; omega, by show (q.1 : Int) + q.2 ≤ base.length; omega⟩
      have hd : ((x :: t).drop q.2).length ≤ f := by rw [List.length_drop]; omega
      obtain ⟨r1, r2, r3⟩ := delG_ok (base := base) (out := out ++ [⟨q.1, q.2, []⟩]) hd fun c hc2 => by
        rcases List.mem_append.1 hc2 with g | g
        · exact h c g
        · rw [List.mem_singleton.1 g]; exact hc
      refine ⟨r1, ?_, ?_⟩
      · rw [r2, rebL_app, rebL_one, List.append_assoc]
        congr 1
        unfold rebC
        simp only [Int.toNat_natCast, List.append_nil]
        rw [l3, List.take_append_drop]
      · rw [List.length_append, List.length_singleton, List.length_drop] at r3
        omega
    · obtain ⟨a1, a2, a3⟩ := addB_ok (x := x) h
      obtain ⟨r1, r2, r3⟩ := delG_ok (base := base) (out := addB out x) (b := t) (f := f) (by simpa using hf) a1
      exact ⟨r1, by rw [r2, a2]; simp, by simp; omega⟩
theorem delL_ok (base b : List UInt8) : (∀ c ∈ delL base b, okC base c) ∧ rebL base (delL base b) = b ∧ (delL base b).length ≤ b.length := by
  obtain ⟨h1, h2, h3⟩ := delG_ok (base := base) (f := b.length) (b := b) (out := []) (Nat.le_refl _) fun c hc => by cases hc
  exact ⟨h1, by rw [show delL base b = delG base b.length b [] from rfl, h2]; rfl, by rw [List.length_nil, Nat.zero_add] at h3; exact h3⟩

/- versions: whole ones, and pieces of the one before -/
structure Ver where
  wh : Bool
  wb : List UInt8
  ps : List Cpy
deriving DecidableEq
def noVer : Ver := ⟨false, [], []⟩
def decVer : V → Ver
  | .agg [.bool b, .sl k g, .sl n f] => ⟨b, bytesOf k g, lsOf cCpy n f⟩
  | _ => noVer
def cVer : Cod Ver := ⟨fun a => .agg [.bool a.wh, .sl a.wb.length (byF a.wb), .sl a.ps.length (lsF cCpy a.ps)], decVer, noVer, fun a => by simp [decVer, bytesOf_by, lsOf_ls]⟩
@[push_cast] theorem lsF_ver (l : List Ver) (i : Nat) : lsF cVer l i = .agg [.bool (l.getD i noVer).wh, .sl (l.getD i noVer).wb.length (byF (l.getD i noVer).wb), .sl (l.getD i noVer).ps.length (lsF cCpy (l.getD i noVer).ps)] := rfl
def twoN (n : Int) : List UInt8 := [UInt8.ofNat (n / 256 % 256).toNat, UInt8.ofNat (n % 256).toNat]
def cpyB (c : Cpy) : List UInt8 := if 0 < c.n then 1 :: (twoN c.fr ++ twoN c.n) else 2 :: (twoN c.by'.length ++ c.by')
def delB (l : List Cpy) : List UInt8 := (l.map cpyB).flatten
def keptN (l : List (List UInt8)) (most : Int) : Nat → List Ver × Int
  | 0 => ([], 0)
  | i + 1 => if 0 < i ∧ (keptN l most i).2 < most ∧ (delB (delL (l.getD (i - 1) []) (l.getD i []))).length < (l.getD i []).length
      then ((keptN l most i).1 ++ [⟨false, [], delL (l.getD (i - 1) []) (l.getD i [])⟩], (keptN l most i).2 + 1) else ((keptN l most i).1 ++ [⟨true, l.getD i [], []⟩], 0)
theorem keptN_len (l : List (List UInt8)) (m : Int) : ∀ i, (keptN l m i).1.length = i ∧ 0 ≤ (keptN l m i).2 ∧ (keptN l m i).2 ≤ i
  | 0 => ⟨rfl, Int.le_refl _, Int.le_refl _⟩
  | i + 1 => by
    obtain ⟨a, b, c⟩ := keptN_len l m i
    unfold keptN
    split
    · exact ⟨by simp [a], by show 0 ≤ (keptN l m i).2 + 1; omega, by show (keptN l m i).2 + 1 ≤ ((i + 1 : Nat) : Int); omega⟩
    · exact ⟨by simp [a], Int.le_refl _, by show (0 : Int) ≤ ((i + 1 : Nat) : Int); omega⟩
theorem keptN_at (l : List (List UInt8)) (m : Int) : ∀ {n j : Nat}, j < n → (keptN l m n).1.getD j noVer = ⟨true, l.getD j [], []⟩ ∨ (0 < j ∧ (keptN l m n).1.getD j noVer = ⟨false, [], delL (l.getD (j - 1) []) (l.getD j [])⟩)
  | 0, j, h => by omega
  | n + 1, j, h => by
    have hl := (keptN_len l m n).1
    by_cases e : j = n
    · subst e
      unfold keptN
      split
      · rename_i g
        refine .inr ⟨g.1, ?_⟩
        rw [List.getD_eq_getElem?_getD, List.getElem?_append_right (by omega), hl, Nat.sub_self]; rfl
      · refine .inl ?_
        rw [List.getD_eq_getElem?_getD, List.getElem?_append_right (by omega), hl, Nat.sub_self]; rfl
    · have ih := keptN_at l m (n := n) (j := j) (by omega)
      have hx : ∀ x : Ver, ((keptN l m n).1 ++ [x]).getD j noVer = (keptN l m n).1.getD j noVer := fun x => by
        rw [List.getD_eq_getElem?_getD, List.getD_eq_getElem?_getD, List.getElem?_append_left (by omega)]
      unfold keptN
      split
      · simp only; rw [hx]; exact ih
      · simp only; rw [hx]; exact ih
/-- what a version is, by those before it -/
def chV (v : List Ver) : Nat → List UInt8
  | 0 => (v.getD 0 noVer).wb
  | j + 1 => if (v.getD (j + 1) noVer).wh = true then (v.getD (j + 1) noVer).wb else rebL (chV v j) (v.getD (j + 1) noVer).ps
structure VerOk (v : List Ver) (n : Nat) : Prop where
  first : (v.getD 0 noVer).wh = true
  whole : ∀ j, j ≤ n → (v.getD j noVer).wh = true → (v.getD j noVer).ps = [] ∧ (v.getD j noVer).wb.length ≤ 3000
  part : ∀ j, j < n → (v.getD (j + 1) noVer).wh = false → (v.getD (j + 1) noVer).wb = [] ∧ (v.getD (j + 1) noVer).ps.length ≤ 3000 ∧ ∀ c ∈ (v.getD (j + 1) noVer).ps, okC (chV v j) c
  size : ∀ j, j ≤ n → (chV v j).length ≤ 3000
theorem kept_ch {l : List (List UInt8)} {m : Int} {v : List Ver} (hv : v = (keptN l m l.length).1) : ∀ j, j < l.length → chV v j = l.getD j []
  | 0, h => by
    rcases keptN_at l m h with e | ⟨g, _⟩
    · unfold chV; rw [hv, e]
    · omega
  | j + 1, h => by
    have ih := kept_ch hv j (by omega)
    unfold chV
    rcases keptN_at l m h with e | ⟨_, e⟩
    · rw [hv, e]; rfl
    · rw [ih, hv, e]
      exact (delL_ok _ _).2.1
theorem kept_ok {l : List (List UInt8)} {m : Int} (hl : ∀ b ∈ l, b.length ≤ 3000) {n : Nat} (hn : n < l.length) : VerOk (keptN l m l.length).1 n := by
  have hb : ∀ j, j < l.length → (l.getD j []).length ≤ 3000 := fun j hj => hl _ (by rw [List.getD_eq_getElem?_getD, List.getElem?_eq_getElem hj]; exact List.getElem_mem hj)
  have hc := fun j hj => kept_ch (l := l) (m := m) rfl j hj
  refine ⟨?_, fun j hj hw => ?_, fun j hj hw => ?_, fun j hj => by rw [hc j (by omega)]; exact hb j (by omega)⟩
  · rcases keptN_at l m (show 0 < l.length by omega) with e | ⟨g, _⟩
    · rw [e]
    · omega
  · rcases keptN_at l m (show j < l.length by omega) with e | ⟨_, e⟩
    · rw [e]; exact ⟨rfl, hb j (by omega)⟩
    · rw [e] at hw; cases hw
  · rcases keptN_at l m (show j + 1 < l.length by omega) with e | ⟨_, e⟩
    · rw [e] at hw; cases hw
    · have hd := delL_ok (l.getD (j + 1 - 1) []) (l.getD (j + 1) [])
      rw [e, hc j (by omega)]
      have := hb (j + 1) (by omega)
      exact ⟨rfl, Nat.le_trans hd.2.2 this, hd.1⟩

def ckLongest : Ck
  | [.sl n f, .sl m g] => some (isBy n f ∧ isBy m g ∧ n ≤ 3000 ∧ m ≤ 3000, .tup [.int .i64 (lonB (bytesOf n f) (bytesOf m g)).1, .int .i64 (lonB (bytesOf n f) (bytesOf m g)).2])
  | _ => none
theorem conLongest : Con pg 36 ckLongest := by
  have hct := ctN_ok pg
  intro args q r h hq
  unfold ckLongest at h
  split at h
  · cases h
    rename_i n f m g
    refine pcall_args (args' := [.sl (bytesOf n f).length (byF (bytesOf n f)), .sl (bytesOf m g).length (byF (bytesOf m g))]) ⟨isBy.vle hq.1, isBy.vle hq.2.1, trivial⟩ ?_
    obtain ⟨-, -, hn, hm⟩ := hq
    rw [← bytesOf_len n f] at hn
    rw [← bytesOf_len m g] at hm
    generalize bytesOf n f = base at hn ⊢
    generalize bytesOf m g = b at hm ⊢
    refine w36 (fun _ => false) [] rfl hct rfl rfl ?_
    push_cast (config := { maxSteps := 10000000 })
    refine LoopW.adj ⟨hct, fol⟩ (by kernel_rfl) [] (fun i : Nat => [(0, .sl base.length (byF base)), (1, .sl b.length (byF b)), (4, .int .i64 (lonN base b i).1), (5, .int .i64 (lonN base b i).2), (9, .int .i64 base.length), (10, .int .i64 i)]) (fun _ => []) (fun i => i ≤ base.length) (fun i => base.length - i) 0 ?_ fun i hi => ?_
    · push_cast (config := { maxSteps := 10000000 })
      exact ⟨Nat.zero_le _, rfl, rfl⟩
    · push_cast (config := { maxSteps := 10000000 })
      refine ⟨fun h => ?_, fun h => ?_⟩
      · refine LoopW.adj ⟨hct, fol⟩ (by kernel_rfl) [] (fun k : Nat => [(0, .sl base.length (byF base)), (1, .sl b.length (byF b)), (4, .int .i64 (lonN base b i).1), (5, .int .i64 (lonN base b i).2), (6, .int .i64 i), (7, .int .i64 k), (9, .int .i64 base.length), (10, .int .i64 i)]) (fun _ => []) (fun k => k ≤ (base.drop i).length ∧ k ≤ b.length ∧ ∀ j, j < k → (base.drop i).getD j 0 = b.getD j 0) (fun k => b.length - k) 0 ?_ fun k hk => ?_
        · push_cast (config := { maxSteps := 10000000 })
          exact ⟨Nat.zero_le _, Nat.zero_le _⟩
        · obtain ⟨k1, k2, k3⟩ : k ≤ (base.drop i).length ∧ k ≤ b.length ∧ ∀ j, j < k → (base.drop i).getD j 0 = b.getD j 0 := hk
          have hd : (base.drop i).length = base.length - i := List.length_drop
          have hg : (base.drop i).getD k 0 = base.getD (i + k) 0 := by rw [List.getD_eq_getElem?_getD, List.getElem?_drop, ← List.getD_eq_getElem?_getD]
          have ei : ((i : Int) + k).toNat = i + k := by omega
          push_cast (config := { maxSteps := 10000000 })
          rw [ei, ← hg]
          refine ⟨fun a => ⟨a, by omega, by omega⟩, fun a => ⟨a, by omega, by omega⟩, fun a => ⟨a, by omega, by omega⟩, fun a => ⟨a, a.1⟩, fun a => ⟨⟨by omega, by omega⟩, k + 1, ⟨by omega, by omega, fun j hj => ?_⟩, by omega, by omega⟩, fun a => ?_⟩
          · by_cases e : j = k
            · subst e; exact UInt8.toNat_inj.1 a.2
            · exact k3 j (by omega)
          · have hc : cpl (base.drop i) b = k := cpl_at k1 k2 k3 fun a1 a2 e => a ⟨a2, by omega⟩ (by rw [e])
            refine ⟨fun g => ⟨⟨by omega, by omega⟩, i + 1, by omega, by omega, ?_, ?_, by omega⟩, fun g => ⟨⟨by omega, by omega⟩, i + 1, by omega, by omega, ?_, ?_, by omega⟩⟩
            all_goals
              rw [show lonN base b (i + 1) = if (lonN base b i).2 < cpl (base.drop i) b then (i, cpl (base.drop i) b) else lonN base b i from rfl, hc]
            · rw [if_pos g]
            · rw [if_pos g]
            · rw [if_neg g]
            · rw [if_neg g]
      · obtain rfl : i = base.length := by omega
        exact ⟨rfl, rfl⟩
  · cases h
attribute [push_cast] ckLongest
def decCpG : V → Cpy
  | .agg [.int _ fr, .int _ n, .sl k g] => ⟨fr, n, bytesOf k g⟩
  | .agg [.int _ fr, .int _ n, _] => ⟨fr, n, []⟩
  | _ => noCpy
/-- pieces, with nil where there are no bytes -/
def cCpG : Cod Cpy := ⟨fun a => .agg [.int .i64 a.fr, .int .i64 a.n, bif a.by'.isEmpty then .nilsl else .sl a.by'.length (byF a.by')], decCpG, noCpy, fun a => by
  obtain ⟨x, y, z⟩ := a
  cases z with
  | nil => rfl
  | cons c t => show decCpG (.agg [.int .i64 x, .int .i64 y, .sl (c :: t).length (byF (c :: t))]) = _; simp only [decCpG, bytesOf_by]⟩
abbrev Own := Option Nat
def dlB (o : Own) (out : List Cpy) : List UInt8 := match o with
  | none => []
  | some i => (out.getD i noCpy).by'
def dlF (o : Own) (out : List Cpy) : Nat → V := fun i => bif decide (o = some i) then .agg [.int .i64 0, .int .i64 0, .vec 8001 (dlB o out).length] else lsF cCpG out i
structure DlOk (base b : List UInt8) (r : List UInt8) (out : List Cpy) (o : Own) : Prop where
  go : delG base r.length r out = delL base b
  len : out.length + r.length ≤ b.length
  own : ∀ i, o = some i → i < out.length ∧ (out.getD i noCpy).n = 0 ∧ (out.getD i noCpy).fr = 0 ∧ (out.getD i noCpy).by' ≠ []
  size : (dlB o out).length + r.length ≤ b.length
  last : ∀ p c, out = p ++ [c] → o ≠ some p.length → 0 < c.n ∧ c.by' = []
theorem delG_nil (base : List UInt8) (f : Nat) (out : List Cpy) : delG base f [] out = out := by cases f <;> rfl
theorem getD_appL {α : Type} (p : List α) (c d : α) {j : Nat} (h : j < p.length) : (p ++ [c]).getD j d = p.getD j d := by
  rw [List.getD_eq_getElem?_getD, List.getElem?_append_left h, ← List.getD_eq_getElem?_getD]
theorem getD_appR {α : Type} (p : List α) (c d : α) : (p ++ [c]).getD p.length d = c := by
  rw [List.getD_eq_getElem?_getD, List.getElem?_append_right (Nat.le_refl _), Nat.sub_self]; rfl
theorem enc_cpG (c : Cpy) : (∀ d, V.kill d (cCpG.enc c) = cCpG.enc c) ∧ (∀ a b, V.ren a b (cCpG.enc c) = cCpG.enc c) ∧ ∀ d z n f, frzV d z n f (cCpG.enc c) = cCpG.enc c := by
  obtain ⟨x, y, z⟩ := c
  cases z <;> exact ⟨fun _ => rfl, fun _ _ => rfl, fun _ _ _ _ => rfl⟩
@[push_cast] theorem kill_cpG (d : Nat) (l : List Cpy) (i : Nat) : V.kill d (lsF cCpG l i) = lsF cCpG l i := (enc_cpG _).1 d
theorem pure_cpG (l : List Cpy) (i : Nat) : (lsF cCpG l i).isPure = true := by
  show (cCpG.enc (l.getD i noCpy)).isPure = true
  obtain ⟨x, y, z⟩ := l.getD i noCpy
  cases z <;> rfl
theorem ren_cpG (a b : Nat) (l : List Cpy) (i : Nat) : V.ren a b (lsF cCpG l i) = lsF cCpG l i := (enc_cpG _).2.1 a b
theorem frz_cpG (d z n : Nat) (f : Nat → V) (l : List Cpy) (i : Nat) : frzV d z n f (lsF cCpG l i) = lsF cCpG l i := (enc_cpG _).2.2 d z n f
theorem cpG_at (l : List Cpy) {i : Nat} {c : Cpy} (h : l.getD i noCpy = c) (hb : c.by' = []) : lsF cCpG l i = .agg [.int .i64 c.fr, .int .i64 c.n, .nilsl] := by
  show cCpG.enc (l.getD i noCpy) = _
  rw [h]
  obtain ⟨x, y, z⟩ := c
  cases z with
  | nil => rfl
  | cons _ _ => cases hb
theorem cpG_lit (l : List Cpy) {i : Nat} {c : Cpy} (h : l.getD i noCpy = c) (hb : c.by' ≠ []) : lsF cCpG l i = .agg [.int .i64 c.fr, .int .i64 c.n, .sl c.by'.length (byF c.by')] := by
  show cCpG.enc (l.getD i noCpy) = _
  rw [h]
  obtain ⟨x, y, z⟩ := c
  cases z with
  | nil => exact absurd rfl hb
  | cons _ _ => rfl
@[push_cast] theorem nvO_any2 (t d sz : Nat) (f : Nat → V) (s : St) : nvO t d sz f s .any = s := rfl
@[push_cast] theorem toM1 (n : Nat) : ((n : Int) + 1 - 1).toNat = n := by omega
@[push_cast] theorem appF_at (n : Nat) (f g : Nat → V) : appF n f g n = g 0 := by unfold appF; rw [decide_eq_false (Nat.lt_irrefl n), cond_false, Nat.sub_self]
/-- the last literal, closed -/
theorem dlF_frz {base b r : List UInt8} {out : List Cpy} {o : Own} (h : DlOk base b r out o) (i : Nat) : frzV 8001 1 (dlB o out).length (byF (dlB o out)) (dlF o out i) = lsF cCpG out i := by
  unfold dlF
  by_cases e : o = some i
  · rw [decide_eq_true e, cond_true]
    obtain ⟨_, h2, h3, h4⟩ := h.own i e
    subst e
    rw [cpG_lit out rfl h4, h2, h3]
    show V.agg [.int .i64 0, .int .i64 0, frzV _ _ _ _ _] = _
    simp [frzV, dlB]
  · rw [decide_eq_false e, cond_false, frz_cpG]
theorem delG_fuel {base : List UInt8} : ∀ {f g : Nat} {r : List UInt8} {out : List Cpy}, r.length ≤ f → r.length ≤ g → delG base f r out = delG base g r out
  | 0, g, r, out, h, _ => by
    obtain rfl : r = [] := List.length_eq_zero_iff.1 (by omega)
    rw [delG_nil, delG_nil]
  | f + 1, 0, r, out, _, h => by
    obtain rfl : r = [] := List.length_eq_zero_iff.1 (by omega)
    rw [delG_nil, delG_nil]
  | f + 1, g + 1, [], out, _, _ => by rw [delG_nil, delG_nil]
  | f + 1, g + 1, x :: t, out, h1, h2 => by
    simp only [List.length_cons] at h1 h2
    unfold delG
    split
    · rename_i h8
      exact delG_fuel (by rw [List.length_drop, List.length_cons]; omega) (by rw [List.length_drop, List.length_cons]; omega)
    · exact delG_fuel (by omega) (by omega)
theorem lonB_le (base r : List UInt8) : (lonB base r).2 ≤ r.length := (lonN_ok base r base.length (Nat.le_refl _)).2.1
theorem kill_dlF {d : Nat} (hd : d ≠ 8001) (o : Own) (out : List Cpy) (i : Nat) : V.kill d (dlF o out i) = dlF o out i := by
  unfold dlF
  by_cases e : o = some i
  · rw [decide_eq_true e]
    show V.agg [_, _, bif (8001 : Nat) == d then V.any else _] = _
    rw [show ((8001 : Nat) == d) = false by simpa using fun x => hd x.symm]; rfl
  · rw [decide_eq_false e]; exact kill_cpG _ _ _
theorem shF_by (r : List UInt8) (k j : Nat) : shF (byF r) k j = byF (r.drop k) j := by
  unfold shF byF
  rw [List.getD_eq_getElem?_getD, List.getD_eq_getElem?_getD, List.getElem?_drop, Nat.add_comm]
theorem dlB_app {base b r : List UInt8} {out : List Cpy} {o : Own} (h : DlOk base b r out o) (c : Cpy) : dlB o (out ++ [c]) = dlB o out := by
  cases o with
  | none => rfl
  | some i =>
    show ((out ++ [c]).getD i noCpy).by' = _
    rw [getD_appL _ _ _ (h.own i rfl).1]; rfl
theorem lsF_appL {α : Type} (k : Cod α) (out : List α) (c : α) {j : Nat} (h : j < out.length) : lsF k (out ++ [c]) j = lsF k out j := by
  unfold lsF
  rw [getD_appL _ _ _ h]
theorem snoc_inj {α : Type} {p q : List α} {a b : α} (h : p ++ [a] = q ++ [b]) : p = q ∧ a = b := by
  have := List.append_inj' h rfl
  exact ⟨this.1, by simpa using this.2⟩
theorem dl_copy {base b r : List UInt8} {out : List Cpy} {o : Own} (h : DlOk base b r out o) (hr : 0 < r.length) (h8 : 8 ≤ (lonB base r).2) : DlOk base b (r.drop (lonB base r).2) (out ++ [⟨(lonB base r).1, (lonB base r).2, []⟩]) o ∧ ∀ j, j < out.length + 1 → appF out.length (fun i => V.kill 25 (V.kill 24 (dlF o out i))) (litF [.agg [.int .i64 (lonB base r).1, .int .i64 (lonB base r).2, .nilsl]]) j = dlF o (out ++ [⟨(lonB base r).1, (lonB base r).2, []⟩]) j := by
  obtain ⟨x, t, rfl⟩ : ∃ x t, r = x :: t := by
    cases r with
    | nil => simp at hr
    | cons x t => exact ⟨x, t, rfl⟩
  have hq := lonB_le base (x :: t)
  have hgo := h.go
  have hlen := h.len
  have hsz := h.size
  rw [List.length_cons] at hq hlen hsz
  refine ⟨⟨?_, ?_, fun i hi => ?_, ?_, fun p c e ho => ?_⟩, fun j hj => ?_⟩
  · rw [← hgo, List.length_cons, delG, if_pos h8]
    exact delG_fuel (Nat.le_refl _) (by rw [List.length_drop, List.length_cons]; omega)
  · rw [List.length_append, List.length_drop, List.length_singleton, List.length_cons]; omega
  · have := h.own i hi
    rw [getD_appL _ _ _ this.1]
    exact ⟨by rw [List.length_append]; omega, this.2⟩
  · rw [dlB_app h, List.length_drop, List.length_cons]; omega
  · obtain ⟨rfl, rfl⟩ := snoc_inj e
    exact ⟨by show (0 : Int) < ((lonB base (x :: t)).2 : Int); omega, rfl⟩
  · unfold appF
    by_cases e : j < out.length
    · rw [decide_eq_true e, cond_true]
      show V.kill 25 (V.kill 24 (dlF o out j)) = _
      rw [kill_dlF (d := 24) (by decide), kill_dlF (d := 25) (by decide)]
      unfold dlF
      rw [lsF_appL _ _ _ e, dlB_app h]
    · rw [decide_eq_false e, cond_false]
      obtain rfl : j = out.length := by omega
      unfold dlF
      rw [decide_eq_false (fun x => by have := (h.own _ x).1; omega), cond_false, Nat.sub_self, cpG_at _ (getD_appR out _ noCpy) rfl]; rfl
theorem dl_new {base b t : List UInt8} {x : UInt8} {out : List Cpy} {o : Own} (h : DlOk base b (x :: t) out o) (h8 : ¬ 8 ≤ (lonB base (x :: t)).2) (hl : ∀ p c, out = p ++ [c] → o ≠ some p.length) : DlOk base b t (out ++ [⟨0, 0, [x]⟩]) (some out.length) ∧ ∀ j, j < out.length + 1 → V.ren 60 8001 (V.kill 8001 (frzV 8001 1 (dlB o out).length (byF (dlB o out)) (appF out.length (fun i => V.kill 62 (V.kill 60 (dlF o out i))) (fun i => V.kill 62 (litF [.agg [.int .i64 0, .int .i64 0, .vec 60 1]] i)) j))) = dlF (some out.length) (out ++ [⟨0, 0, [x]⟩]) j := by
  have hgo := h.go
  have hlen := h.len
  have hsz := h.size
  rw [List.length_cons] at hlen hsz
  have hadd : addB out x = out ++ [⟨0, 0, [x]⟩] := by
    unfold addB
    cases e : out.getLast? with
    | none => rw [List.getLast?_eq_none_iff.1 e]; rfl
    | some c =>
      obtain ⟨p, rfl⟩ := List.getLast?_eq_some_iff.1 e
      have := (h.last p c rfl (hl p c rfl)).1
      simp only
      rw [if_neg (by omega)]
  have hB : dlB (some out.length) (out ++ [⟨0, 0, [x]⟩]) = [x] := by
    show ((out ++ [_]).getD out.length noCpy).by' = _
    rw [getD_appR]
  refine ⟨⟨?_, ?_, fun i hi => ?_, ?_, fun p c e ho => ?_⟩, fun j hj => ?_⟩
  · rw [← hgo, List.length_cons, delG, if_neg h8, hadd]
  · rw [List.length_append, List.length_singleton]; omega
  · obtain rfl : out.length = i := by simpa using hi
    rw [getD_appR]
    exact ⟨by rw [List.length_append, List.length_singleton]; omega, rfl, rfl, by simp⟩
  · rw [hB, List.length_singleton]; omega
  · obtain ⟨rfl, rfl⟩ := snoc_inj e
    exact absurd rfl ho
  · unfold appF
    by_cases e : j < out.length
    · rw [decide_eq_true e, cond_true]
      show V.ren 60 8001 (V.kill 8001 (frzV 8001 1 (dlB o out).length (byF (dlB o out)) (V.kill 62 (V.kill 60 (dlF o out j))))) = _
      rw [kill_dlF (d := 60) (by decide), kill_dlF (d := 62) (by decide), dlF_frz h, kill_cpG, ren_cpG]
      unfold dlF
      rw [decide_eq_false (fun x => by simp at x; omega), cond_false, lsF_appL _ _ _ e]
    · rw [decide_eq_false e, cond_false]
      obtain rfl : j = out.length := by omega
      unfold dlF
      rw [decide_eq_true rfl, cond_true, hB, Nat.sub_self]; rfl
theorem dl_grow {base b t : List UInt8} {x : UInt8} {p : List Cpy} {c : Cpy} (h : DlOk base b (x :: t) (p ++ [c]) (some p.length)) (h8 : ¬ 8 ≤ (lonB base (x :: t)).2) : DlOk base b t (p ++ [⟨0, 0, c.by' ++ [x]⟩]) (some p.length) ∧ ∀ j, j < p.length + 1 → setF (fun i => V.kill 53 (V.kill 52 (dlF (some p.length) (p ++ [c]) i))) p.length (.agg [.int .i64 0, .int .i64 0, .vec 8001 (c.by'.length + 1)]) j = dlF (some p.length) (p ++ [⟨0, 0, c.by' ++ [x]⟩]) j := by
  have hgo := h.go
  have hlen := h.len
  have hsz := h.size
  have ho := h.own _ rfl
  rw [getD_appR] at ho
  have hB : ∀ d : Cpy, dlB (some p.length) (p ++ [d]) = d.by' := fun d => by
    show ((p ++ [d]).getD p.length noCpy).by' = _
    rw [getD_appR]
  rw [hB] at hsz
  rw [List.length_cons] at hlen hsz
  have hadd : addB (p ++ [c]) x = p ++ [⟨0, 0, c.by' ++ [x]⟩] := by
    unfold addB
    rw [List.getLast?_concat]
    simp only
    rw [if_pos ho.2.1, List.dropLast_concat, ho.2.2.1]
  refine ⟨⟨?_, ?_, fun i hi => ?_, ?_, fun q d e ho2 => ?_⟩, fun j hj => ?_⟩
  · rw [← hgo, List.length_cons, delG, if_neg h8, hadd]
  · rw [List.length_append, List.length_singleton] at hlen ⊢; omega
  · obtain rfl : p.length = i := by simpa using hi
    rw [getD_appR]
    exact ⟨by rw [List.length_append, List.length_singleton]; omega, rfl, rfl, by simp⟩
  · rw [hB]; simp; omega
  · obtain ⟨rfl, rfl⟩ := snoc_inj e
    exact absurd rfl ho2
  · unfold setF
    by_cases e : j = p.length
    · subst e
      rw [decide_eq_true rfl, cond_true]
      unfold dlF
      rw [decide_eq_true rfl, cond_true, hB]
      simp
    · rw [decide_eq_false e, cond_false]
      show V.kill 53 (V.kill 52 (dlF (some p.length) (p ++ [c]) j)) = _
      rw [kill_dlF (d := 52) (by decide), kill_dlF (d := 53) (by decide)]
      unfold dlF
      rw [decide_eq_false (fun x => e (by simpa using x.symm)), cond_false, cond_false, lsF_appL _ _ _ (by omega), lsF_appL _ _ _ (by omega)]
def ckDeltaG : Ck
  | [.sl n f, .sl m g] => some (isBy n f ∧ isBy m g ∧ n ≤ 3000 ∧ m ≤ 3000, .sl (delL (bytesOf n f) (bytesOf m g)).length (lsF cCpG (delL (bytesOf n f) (bytesOf m g))))
  | _ => none
theorem conDeltaG : Con pg 14 ckDeltaG := by
  have hct := (ctA_ok conLongest (ctN_ok _))
  intro args q r h hq
  unfold ckDeltaG at h
  split at h
  · cases h
    rename_i n f m g
    refine pcall_args (args' := [.sl (bytesOf n f).length (byF (bytesOf n f)), .sl (bytesOf m g).length (byF (bytesOf m g))]) ⟨isBy.vle hq.1, isBy.vle hq.2.1, trivial⟩ ?_
    obtain ⟨-, -, hn, hm⟩ := hq
    rw [← bytesOf_len n f] at hn
    rw [← bytesOf_len m g] at hm
    generalize bytesOf n f = base at hn ⊢
    generalize bytesOf m g = b at hm ⊢
    refine w14 (fun d => decide (d = 60 ∨ d = 62)) [.frz 8001,.frz 8000] rfl hct rfl rfl ?_
    push_cast (config := { maxSteps := 10000000 })
    refine LoopW.adj ⟨hct, fol⟩ (by kernel_rfl) [.nv 5 8000 3 (dlF none []), .nv 4 8001 1 (byF []), .frzIf 8001 60, .ren 60 8001] (fun t : List UInt8 × List Cpy × Own => [(0, .sl base.length (byF base)), (1, .sl t.1.length (byF t.1)), (5, .vec 8000 t.2.1.length)]) (fun t => [(8000, .vec 3 t.2.1.length (dlF t.2.2 t.2.1)), (8001, .vec 1 (dlB t.2.2 t.2.1).length (byF (dlB t.2.2 t.2.1)))]) (fun t => DlOk base b t.1 t.2.1 t.2.2) (fun t => t.1.length) (b, [], none) ?_ fun t ht => ?_
    · push_cast (config := { maxSteps := 10000000 })
      exact ⟨⟨rfl, by simp, fun i hi => by (cases hi), by simp [dlB], fun p c e _ => by simp at e⟩, rfl⟩
    · obtain ⟨r, out, o⟩ := t
      replace ht : DlOk base b r out o := ht
      have hlen := ht.len
      have hsz := ht.size
      have hend : ∀ {j : Nat}, ¬ 0 < (r.length : Int) → out = delL base b := fun {_} h => by
        obtain rfl : r = [] := List.length_eq_zero_iff.1 (by omega)
        rw [← ht.go, delG_nil]
      rcases (show out = [] ∨ ∃ p c, out = p ++ [c] from by
        rcases List.eq_nil_or_concat out with e | ⟨p, c, e⟩
        · exact .inl e
        · exact .inr ⟨p, c, by rw [e, List.concat_eq_append]⟩) with rfl | ⟨p, c, rfl⟩
      · have ho : o = none := by
          cases o with
          | none => rfl
          | some i => exact absurd (ht.own i rfl).1 (Nat.not_lt_zero _)
        subst ho
        obtain ⟨F, hF⟩ : ∃ F, F = dlF none [] := ⟨_, rfl⟩
        simp only [← hF]
        have hl : F 0 = .agg [.int .i64 0, .int .i64 0, .nilsl] := by rw [hF]; rfl
        push_cast (config := { maxSteps := 10000000 }) [hl]
        refine ⟨fun h => ⟨⟨hn, by omega⟩, fun h8 => ?_, fun h8 => ?_⟩, fun h => by rw [← hend (j := 0) h]; rfl⟩
        · obtain ⟨n1, n2⟩ := dl_copy ht (by omega) (by omega)
          refine ⟨lonB_le _ _, (_, _, _), n1, by show (r.drop _).length < _; rw [List.length_drop]; omega, ⟨⟨by show _ = (r.drop _).length; rw [List.length_drop], fun j _ => shF_by _ _ _⟩, rfl⟩, ⟨rfl, fun j hj => ?_⟩, rfl, fun j hj => absurd hj (Nat.not_lt_zero _)⟩
          have := n2 j hj
          rw [← this]; unfold appF; rw [decide_eq_false (show ¬ j < ([] : List Cpy).length from Nat.not_lt_zero _)]; rfl
        · obtain ⟨x, t, rfl⟩ : ∃ x t, r = x :: t := by
            cases r with
            | nil => simp at h
            | cons x t => exact ⟨x, t, rfl⟩
          obtain ⟨n1, n2⟩ := dl_new ht (by omega) fun p c e => by simp at e
          refine ⟨by omega, by omega, (_, _, _), n1, by simp, ⟨⟨by simp, fun j _ => shF_by _ _ _⟩, rfl⟩, ⟨rfl, fun j hj => ?_⟩, rfl, fun j hj => ?_⟩
          · rw [← n2 j hj]; unfold appF; rw [decide_eq_false (show ¬ j < ([] : List Cpy).length from Nat.not_lt_zero _)]; rfl
          · obtain rfl : j = 0 := by omega
            rfl
      · obtain ⟨F, hF⟩ : ∃ F, F = dlF o (p ++ [c]) := ⟨_, rfl⟩
        have hpl : (p ++ [c]).length = p.length + 1 := by simp
        simp only [← hF]
        by_cases ho : o = some p.length
        · have hl : F p.length = .agg [.int .i64 0, .int .i64 0, .vec 8001 (dlB o (p ++ [c])).length] := by rw [hF]; unfold dlF; rw [decide_eq_true ho]; rfl
          push_cast (config := { maxSteps := 10000000 }) [hl]
          rw [hpl] at hlen
          subst hF
          refine ⟨fun h => ⟨⟨hn, by omega⟩, fun h8 => ?_, fun h8 => ?_⟩, fun h => ?_⟩
          · obtain ⟨n1, n2⟩ := dl_copy ht (by omega) (by omega)
            rw [hpl] at n2
            exact ⟨⟨by omega, by omega⟩, lonB_le _ _, (_, _, _), n1, by show (r.drop _).length < _; rw [List.length_drop]; omega, ⟨⟨by show _ = (r.drop _).length; rw [List.length_drop], fun j _ => shF_by _ _ _⟩, by simp⟩, ⟨by simp, n2⟩, by rw [dlB_app ht], fun j hj => by rw [dlB_app ht]⟩
          · obtain ⟨x, t, rfl⟩ : ∃ x t, r = x :: t := by
              cases r with
              | nil => simp at h
              | cons x t => exact ⟨x, t, rfl⟩
            subst ho
            have hB : ∀ d : Cpy, dlB (some p.length) (p ++ [d]) = d.by' := fun d => by
              show ((p ++ [d]).getD p.length noCpy).by' = _
              rw [getD_appR]
            rw [hB] at hsz
            obtain ⟨n1, n2⟩ := dl_grow ht (by omega)
            simp only [hB]
            have app := (ByI.app (g := litF [.int .u8 (x.toNat : Int)]) (ByI.by c.by') (b := [x]) ⟨rfl, fun j hj => by
              obtain rfl : j = 0 := by simp at hj; exact hj
              rfl⟩ rfl).2
            refine ⟨⟨by omega, by omega⟩, fun _ => ⟨by omega, by omega, by omega⟩, fun _ => ⟨by omega, by omega⟩, fun _ => ⟨⟨by omega, by omega⟩, by omega, by omega, ⟨by omega, by omega⟩, ⟨by omega, by omega⟩, by omega, by omega, (_, _, _), n1, by simp, ⟨⟨by simp, fun j _ => shF_by _ _ _⟩, by simp⟩, ⟨by simp, n2⟩, by show _ = (dlB (some p.length) (p ++ [_])).length; rw [hB]; simp, fun j hj => ?_⟩, fun a => absurd (show (0 : Int) ≤ p.length + 1 - 1 by omega) a⟩
            show _ = byF (dlB (some p.length) (p ++ [_])) j
            rw [hB]
            exact app j hj
          · rw [← hend (j := 0) h]
            exact ⟨fun j hj => by rw [dlF_frz ht]; exact pure_cpG _ _, by simp, fun j hj => dlF_frz ht j⟩
        · obtain ⟨c1, c2⟩ := ht.last p c rfl ho
          have hl : F p.length = .agg [.int .i64 c.fr, .int .i64 c.n, .nilsl] := by rw [hF]; unfold dlF; rw [decide_eq_false ho, cond_false, cpG_at _ (getD_appR p c noCpy) c2]
          push_cast (config := { maxSteps := 10000000 }) [hl]
          rw [hpl] at hlen
          subst hF
          refine ⟨fun h => ⟨⟨hn, by omega⟩, fun h8 => ?_, fun h8 => ?_⟩, fun h => ?_⟩
          · obtain ⟨n1, n2⟩ := dl_copy ht (by omega) (by omega)
            rw [hpl] at n2
            exact ⟨⟨by omega, by omega⟩, lonB_le _ _, (_, _, _), n1, by show (r.drop _).length < _; rw [List.length_drop]; omega, ⟨⟨by show _ = (r.drop _).length; rw [List.length_drop], fun j _ => shF_by _ _ _⟩, by simp⟩, ⟨by simp, n2⟩, by rw [dlB_app ht], fun j hj => by rw [dlB_app ht]⟩
          · obtain ⟨x, t, rfl⟩ : ∃ x t, r = x :: t := by
              cases r with
              | nil => simp at h
              | cons x t => exact ⟨x, t, rfl⟩
            obtain ⟨n1, n2⟩ := dl_new ht (by omega) fun q d e => by obtain ⟨rfl, rfl⟩ := snoc_inj e; exact ho
            refine ⟨⟨by omega, by omega⟩, fun _ => ⟨by omega, by omega, by omega⟩, fun _ => ⟨by omega, by omega⟩, fun a => by omega, fun _ => ⟨by omega, ⟨by omega, by omega⟩, by omega, (_, _, _), n1, by simp, ⟨⟨by simp, fun j _ => shF_by _ _ _⟩, by simp⟩, ⟨by simp, fun j hj => by have := n2 j (by omega); rw [hpl] at this; exact this.trans (by rw [← hpl])⟩, ?_, fun j hj => ?_⟩⟩
            · show 1 = ((p ++ [c] ++ [(⟨0, 0, [x]⟩ : Cpy)]).getD (p ++ [c]).length noCpy).by'.length
              rw [getD_appR]; rfl
            · obtain rfl : j = 0 := by omega
              show _ = byF ((p ++ [c] ++ [(⟨0, 0, [x]⟩ : Cpy)]).getD (p ++ [c]).length noCpy).by' 0
              rw [getD_appR]; rfl
          · rw [← hend (j := 0) h]
            exact ⟨fun j hj => by rw [dlF_frz ht]; exact pure_cpG _ _, by simp, fun j hj => dlF_frz ht j⟩
  · cases h
attribute [push_cast] ckDeltaG
theorem pcall_resD {f : FuncId} {args : List V} {r r' : V} (hv : VLe r r') (h : PCall pg f args r) : PCall pg f args r' := by
  intro S vals hs hh hlen hr
  exact (h S vals hs hh hlen hr).mono fun e w' ⟨v, γ', imm', e1, e2, e3, e4, e5⟩ => ⟨v, γ', imm', e1, e2, e3, e4, hv _ _ _ _ e5⟩
theorem VLe.tup2D {a b c : V} (h : VLe a b) : VLe (.tup [a, c]) (.tup [b, c]) := by
  intro γ imm w v hr
  obtain ⟨vs, rfl, h1, h2⟩ := inv_tup (S := ⟨γ, imm, fun _ => none, w⟩) hr
  exact .tup _ vs h1 fun i hi => by
    match i, hi with
    | 0, _ => exact h _ _ _ _ (h2 0 (by simp))
    | 1, _ => exact h2 1 (by simp)
theorem ple_nilD (f : Nat → V) : PLe .nilsl (.sl 0 f) := by
  intro imm w v h
  cases h
  exact .sl0 _ _ _
theorem cpG_ple (c : Cpy) : pleL (cCpG.enc c).flat (cCpy.enc c).flat := by
  obtain ⟨x, y, z⟩ := c
  refine ⟨PLe.refl _, PLe.refl _, ?_, trivial⟩
  cases z with
  | nil => exact ple_nilD _
  | cons _ _ => exact PLe.refl _
def ckDelta : Ck
  | [.sl n f, .sl m g] => some (isBy n f ∧ isBy m g ∧ n ≤ 3000 ∧ m ≤ 3000, .sl (delL (bytesOf n f) (bytesOf m g)).length (lsF cCpy (delL (bytesOf n f) (bytesOf m g))))
  | _ => none
theorem conDelta : Con pg 14 ckDelta := by
  intro args q r h hq
  unfold ckDelta at h
  split at h
  · cases h
    exact pcall_resD (VLe.slP rfl fun i _ => cpG_ple _) (conDeltaG _ _ _ rfl hq)
  · cases h
attribute [push_cast] ckDelta

def ckCloneBy : Ck
  | [.sl n f] => some (isBy n f ∧ n ≤ 140737488355328, .sl n f)
  | _ => none
theorem conCloneBy : Con pg 16 ckCloneBy := by
  have hct := ctN_ok pg
  intro args q r h hq
  unfold ckCloneBy at h
  split at h
  · cases h
    rename_i n f
    by_cases hn : n = 0
    · subst hn
      refine pcall_nil1 fun a c => ?_
      refine w16 (fun d => decide (d < 9999)) [.frz 5] rfl hct rfl rfl ?_
      push_cast (config := { maxSteps := 10000000 })
      cases a
      · push_cast (config := { maxSteps := 10000000 })
      · push_cast (config := { maxSteps := 10000000 })
    · refine w16 (fun d => decide (d < 9999)) [.frz 5] rfl hct rfl rfl ?_
      push_cast (config := { maxSteps := 10000000 })
      obtain ⟨h1, h2⟩ := hq
      exact ⟨by omega, ⟨h1.flat, by omega, by omega⟩, h1.pure⟩
  · cases h
attribute [push_cast] ckCloneBy

end Go.Abs
