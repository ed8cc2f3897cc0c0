/- what functions of this program compute: contracts, each a function's own -/
import Derived.Test.YtjehocmnedconaaGreatDoorAbsK3
import Derived.Test.YtjehocmnedconaaGreatDoorAbsFacts
import Derived.Test.YtjehocmnedconaaGreatDoorAbsF1
import Derived.Test.YtjehocmnedconaaGreatDoorAbsShelf
import Derived.Lib.SlTrimSet
import Derived.Lib.Atoi
import Derived.Lib.Itoa
import Derived.Lib.ItoaNum
import Derived.Lib.AtoiErrMem
import Derived.Lib.Repeat
import Derived.Lib.ItoaLen
import Derived.Lib.SplitLaws
import Derived.Lib.Join
import Derived.Lib.Index
import Derived.Lib.IndexBytes
import Derived.Lib.Fold
import Derived.Lib.Walk
import Derived.WalkKit
import Derived.ScopeJumps
import Derived.Deep.LoopGhost
import Derived.Laws.RangeAny
import Derived.Lib.BitFns
import Derived.Lib.TrailingZeros
import Derived.Sort.Walk0
namespace Go.Abs
open Go Go.Proofs
set_option maxHeartbeats 4000000
set_option maxRecDepth 100000
set_option linter.unusedVariables false
set_option linter.unusedSimpArgs false
def ckCmpS : Ck
  | [.str a, .str b] => some (True, .int .i64 (Lib.compareBytes a b))
  | _ => none
theorem conCmpS : Con pg 62 ckCmpS := by
  intro args q r h hq
  unfold ckCmpS at h
  split at h
  · cases h
    rename_i a b
    exact pcall_shelf (by kernel_rfl) rfl fun w hw => (Tryz.strings_Compare ⟨a.toArray⟩ ⟨b.toArray⟩ w).mono fun e w' h => shelf_int h.1 (grow_eq h.2)
  · cases h
attribute [push_cast] ckCmpS
structure Cod (α : Type) where
  enc : α → V
  dec : V → α
  d : α
  ok : ∀ a, dec (enc a) = a
section
variable {α : Type} (c : Cod α)
def lsF (l : List α) : Nat → V := fun i => c.enc (l.getD i c.d)
def LsI (n : Nat) (f : Nat → V) (l : List α) : Prop := n = l.length ∧ ∀ i, i < n → f i = lsF c l i
def lsOf (n : Nat) (f : Nat → V) : List α := (List.range n).map fun i => c.dec (f i)
def isLs (n : Nat) (f : Nat → V) : Prop := LsI c n f (lsOf c n f)
variable {c}
theorem lsOf_len (n : Nat) (f : Nat → V) : (lsOf c n f).length = n := by simp [lsOf]
theorem LsI.ls (l : List α) : LsI c l.length (lsF c l) l := ⟨rfl, fun _ _ => rfl⟩
theorem LsI.of {n : Nat} {f : Nat → V} {l : List α} (h : LsI c n f l) : lsOf c n f = l := by
  obtain ⟨rfl, h⟩ := h
  apply List.ext_getElem
  · simp [lsOf]
  · intro i h1 h2
    simp only [lsOf, List.getElem_map, List.getElem_range]
    rw [h i h2]
    unfold lsF
    rw [c.ok, List.getD_eq_getElem?_getD, List.getElem?_eq_getElem h2]; rfl
theorem LsI.is {n : Nat} {f : Nat → V} {l : List α} (h : LsI c n f l) : isLs c n f := by unfold isLs; rw [h.of]; exact h
theorem LsI.vle {n : Nat} {f : Nat → V} {l : List α} (h : LsI c n f l) : VLe (.sl n f) (.sl l.length (lsF c l)) := VLe.sl h.1 h.2
theorem isLs.vle {n : Nat} {f : Nat → V} (h : isLs c n f) : VLe (.sl n f) (.sl (lsOf c n f).length (lsF c (lsOf c n f))) := LsI.vle h
theorem isLs_ls (l : List α) : isLs c l.length (lsF c l) := (LsI.ls l).is
theorem lsOf_ls (l : List α) : lsOf c l.length (lsF c l) = l := (LsI.ls l).of
theorem LsI.app {n m k : Nat} {f g : Nat → V} {a b : List α} (h1 : LsI c n f a) (h2 : LsI c m g b) (hk : k = n + m) : LsI c k (appF n f g) (a ++ b) := by
  obtain ⟨e1, h1⟩ := h1
  obtain ⟨e2, h2⟩ := h2
  refine ⟨by simp; omega, fun i hi => ?_⟩
  unfold appF
  by_cases h : i < n
  · rw [show decide (i < n) = true from by simp [h], cond_true, h1 i h]
    unfold lsF
    rw [List.getD_eq_getElem?_getD, List.getD_eq_getElem?_getD, List.getElem?_append_left (by omega)]
  · rw [show decide (i < n) = false from by simp [h], cond_false, h2 (i - n) (by omega)]
    unfold lsF
    rw [List.getD_eq_getElem?_getD, List.getD_eq_getElem?_getD, List.getElem?_append_right (by omega), e1]
theorem LsI.one {f : Nat → V} {a : α} (h : f 0 = c.enc a) : LsI c 1 f [a] := ⟨rfl, fun i hi => by
  have : i = 0 := by omega
  subst this
  exact h⟩
theorem LsI.nil (f : Nat → V) : LsI c 0 f [] := ⟨rfl, fun i hi => by omega⟩
theorem LsI.sh {n l k : Nat} {f : Nat → V} {s : List α} (h : LsI c n f s) (hk : l + k ≤ n) : LsI c k (shF f l) ((s.drop l).take k) := by
  obtain ⟨e, h⟩ := h
  refine ⟨by simp; omega, fun i hi => ?_⟩
  unfold shF
  rw [h (i + l) (by omega)]
  unfold lsF
  rw [List.getD_eq_getElem?_getD, List.getD_eq_getElem?_getD, List.getElem?_take_of_lt hi, List.getElem?_drop, Nat.add_comm]
theorem LsI.eq {n : Nat} {f : Nat → V} {s t : List α} (h : LsI c n f s) (e : s = t) : LsI c n f t := e ▸ h
theorem LsI.len {n m : Nat} {f : Nat → V} {s : List α} (h : LsI c n f s) (e : n = m) : LsI c m f s := e ▸ h
theorem LsI.pure {n : Nat} {f : Nat → V} {s : List α} (h : LsI c n f s) (hc : ∀ a, (c.enc a).isPure = true) : ∀ i, i < n → (f i).isPure = true := fun i hi => by rw [h.2 i hi]; exact hc _
theorem LsI.flat {n m : Nat} {f : Nat → V} {s : List α} (h : LsI c n f s) (hc : ∀ a, (c.enc a).flat.length = m) : ∀ i, i < n → (f i).flat.length = m := fun i hi => by rw [h.2 i hi]; exact hc _
end
def decStr : V → List UInt8
  | .str s => s
  | _ => []
def cStr : Cod (List UInt8) := ⟨.str, decStr, [], fun _ => rfl⟩
@[push_cast] theorem lsF_str (l : List (List UInt8)) (i : Nat) : lsF cStr l i = .str (l.getD i []) := rfl
def decInt : V → Int
  | .int _ n => n
  | _ => 0
def cInt : Cod Int := ⟨.int .i64, decInt, 0, fun _ => rfl⟩
@[push_cast] theorem lsF_int (l : List Int) (i : Nat) : lsF cInt l i = .int .i64 (l.getD i 0) := rfl
structure Hd where
  name : List UInt8
  value : List UInt8
deriving DecidableEq
def decHd : V → Hd
  | .agg [.str a, .str b] => ⟨a, b⟩
  | _ => ⟨[], []⟩
def cHd : Cod Hd := ⟨fun h => .agg [.str h.name, .str h.value], decHd, ⟨[], []⟩, fun _ => rfl⟩
@[push_cast] theorem lsF_hd (l : List Hd) (i : Nat) : lsF cHd l i = .agg [.str (l.getD i ⟨[], []⟩).name, .str (l.getD i ⟨[], []⟩).value] := rfl
theorem all_at' {α : Type} {p : α → Bool} {d : α} {s : List α} (h : ∀ j, j < s.length → p (s.getD j d) = true) : s.all p = true := by
  rw [List.all_eq_true]
  intro x hx
  obtain ⟨j, hj, rfl⟩ := List.getElem_of_mem hx
  have := h j hj
  rwa [List.getD_eq_getElem?_getD, List.getElem?_eq_getElem hj] at this
theorem all_no' {α : Type} {p : α → Bool} {d : α} {s : List α} {j : Nat} (hj : j < s.length) (h : p (s.getD j d) = false) : s.all p = false := by
  rw [List.all_eq_false]
  refine ⟨s[j], List.getElem_mem hj, ?_⟩
  rw [List.getD_eq_getElem?_getD, List.getElem?_eq_getElem hj] at h
  simpa using h
theorem dropG {α : Type} {d : α} {s : List α} {i : Nat} (h : i < s.length) : s.drop i = s.getD i d :: s.drop (i + 1) := by
  rw [List.drop_eq_getElem_cons h, List.getD_eq_getElem?_getD, List.getElem?_eq_getElem h]; rfl
theorem takeG {α : Type} {d : α} {s : List α} {k : Nat} (h : k < s.length) : s.take (k + 1) = s.take k ++ [s.getD k d] := by
  rw [List.take_add_one, List.getD_eq_getElem?_getD, List.getElem?_eq_getElem h]; rfl
@[push_cast] theorem appF_z (f g : Nat → V) : appF 0 f g = g := by funext i; simp [appF]
attribute [push_cast] Nat.zero_add Nat.not_lt_zero
@[push_cast] theorem litF_zero (x : V) (l : List V) : litF (x :: l) 0 = x := rfl
@[push_cast] theorem ble_dec (a b : Nat) : Nat.ble a b = decide (a ≤ b) := by
  rw [Bool.eq_iff_iff, Nat.ble_eq]; simp
attribute [push_cast] lsOf_ls bytesOf_by
@[push_cast] theorem isLs_lsT {α : Type} {c : Cod α} (l : List α) : isLs c l.length (lsF c l) = True := eq_true (isLs_ls l)
@[push_cast] theorem isBy_byT (s : List UInt8) : isBy s.length (byF s) = True := eq_true (isBy_by s)
@[push_cast] theorem hd_eta (h : Hd) : (⟨h.name, h.value⟩ : Hd) = h := rfl
@[push_cast] theorem kill_by (d : Nat) (s : List UInt8) (i : Nat) : V.kill d (byF s i) = byF s i := rfl
@[push_cast] theorem frz_by (d z n : Nat) (f : Nat → V) (s : List UInt8) (i : Nat) : frzV d z n f (byF s i) = byF s i := rfl
@[push_cast] theorem pure_by (s : List UInt8) (i : Nat) : (byF s i).isPure = true := rfl
@[push_cast] theorem ren_by (a b : Nat) (s : List UInt8) (i : Nat) : V.ren a b (byF s i) = byF s i := rfl
@[push_cast] theorem beq_dec (a b : Nat) : Nat.beq a b = decide (a = b) := by
  rw [Bool.eq_iff_iff]; simp
def isC {α : Type} (c : Cod α) (x : V) : Prop := VLe x (c.enc (c.dec x))
theorem isC_enc {α : Type} (c : Cod α) (a : α) : isC c (c.enc a) := by unfold isC; rw [c.ok]; exact VLe.refl _
def hdsOk (l : List Hd) : Prop := ∀ h ∈ l, h.name.length ≤ 140737488355328 ∧ h.value.length ≤ 140737488355328
theorem hdsOk_at {l : List Hd} (h : hdsOk l) {i : Nat} (hi : i < l.length) : (l.getD i ⟨[], []⟩).name.length ≤ 140737488355328 ∧ (l.getD i ⟨[], []⟩).value.length ≤ 140737488355328 := by
  rw [List.getD_eq_getElem?_getD, List.getElem?_eq_getElem hi]; exact h _ (List.getElem_mem hi)
@[push_cast] theorem lsF_hdfl (l : List Hd) (i : Nat) : (lsF cHd l i).flat = [.str (l.getD i ⟨[], []⟩).name, .str (l.getD i ⟨[], []⟩).value] := rfl
structure Ans where
  st : Int
  re : List UInt8
  hd : List Hd
  bd : List UInt8
deriving DecidableEq
def decAns : V → Ans
  | .agg [.int _ st, .str re, .sl n f, .sl m g] => ⟨st, re, lsOf cHd n f, bytesOf m g⟩
  | _ => ⟨0, [], [], []⟩
def cAns : Cod Ans := ⟨fun a => .agg [.int .i64 a.st, .str a.re, .sl a.hd.length (lsF cHd a.hd), .sl a.bd.length (byF a.bd)], decAns, ⟨0, [], [], []⟩, fun a => by simp [decAns, lsOf_ls, bytesOf_by]⟩
@[push_cast] theorem enc_ans (a : Ans) : cAns.enc a = .agg [.int .i64 a.st, .str a.re, .sl a.hd.length (lsF cHd a.hd), .sl a.bd.length (byF a.bd)] := rfl
@[push_cast] theorem dec_ans (k : IntKind) (st : Int) (re : List UInt8) (n m : Nat) (f g : Nat → V) : cAns.dec (.agg [.int k st, .str re, .sl n f, .sl m g]) = ⟨st, re, lsOf cHd n f, bytesOf m g⟩ := rfl
theorem isC_ans {st : Int} {re : List UInt8} {n m : Nat} {f g : Nat → V} (h1 : isLs cHd n f) (h2 : isBy m g) : isC cAns (.agg [.int .i64 st, .str re, .sl n f, .sl m g]) :=
  VLe.agg ⟨VLe.refl _, VLe.refl _, isLs.vle h1, isBy.vle h2, trivial⟩
def ansOk (a : Ans) : Prop := hdsOk a.hd ∧ a.re.length ≤ 140737488355328 ∧ a.hd.length ≤ 140737488355328 ∧ a.bd.length ≤ 140737488355328
theorem reach_le : reachBytes ≤ 140737488355328 := by unfold reachBytes; omega
theorem hasL_cons {s : Sh} {ss : List Sh} {ms : List Nat} {vs : List V} (h : Sh.hasL (s :: ss) ms vs) : ∃ m v ms' vs', vs = v :: vs' ∧ s.has m v ∧ Sh.hasL ss ms' vs' := by
  cases ms with
  | nil => simp [Sh.hasL] at h
  | cons m ms => cases vs with
    | nil => simp [Sh.hasL] at h
    | cons v vs => exact ⟨m, v, ms, vs, rfl, h.1, h.2⟩
theorem hasL_nil {ms : List Nat} {vs : List V} (h : Sh.hasL [] ms vs) : vs = [] := by
  cases ms with
  | nil => cases vs with
    | nil => rfl
    | cons _ _ => simp [Sh.hasL] at h
  | cons _ _ => simp [Sh.hasL] at h
theorem shHead {m : Nat} {v : V} (h : Sh.has (.tup [.str, .str]) m v) : ∃ a, v = cHd.enc a ∧ a.name.length ≤ 140737488355328 ∧ a.value.length ≤ 140737488355328 := by
  obtain ⟨l, ms, rfl, -, hl⟩ := h
  obtain ⟨m1, v1, ms, l, rfl, h1, hl⟩ := hasL_cons hl
  obtain ⟨m2, v2, ms, l, rfl, h2, hl⟩ := hasL_cons hl
  obtain rfl := hasL_nil hl
  obtain ⟨s, rfl, -, b1⟩ := h1
  obtain ⟨t, rfl, -, b2⟩ := h2
  have := reach_le
  exact ⟨⟨s, t⟩, rfl, by show s.length ≤ _; omega, by show t.length ≤ _; omega⟩
theorem shList {α : Type} {c : Cod α} {s : Sh} {p : α → Prop} (hs : ∀ m v, s.has m v → ∃ a, v = c.enc a ∧ p a) {m : Nat} {v : V} (h : Sh.has (.list s) m v) : ∃ (n : Nat) (f : Nat → V), v = .sl n f ∧ isLs c n f ∧ n ≤ 140737488355328 ∧ ∀ a ∈ lsOf c n f, p a := by
  obtain ⟨l, ms, rfl, h1, h2, h3, h4⟩ := h
  have at' : ∀ i, i < l.length → ∃ a, litF l i = c.enc a ∧ p a := fun i hi => hs _ _ (h4 i hi)
  have := reach_le
  refine ⟨_, _, rfl, ⟨by simp [lsOf], fun i hi => ?_⟩, by omega, fun a ha => ?_⟩
  · obtain ⟨a, e, _⟩ := at' i hi
    unfold lsF lsOf
    rw [List.getD_eq_getElem?_getD, List.getElem?_map, List.getElem?_range hi]
    simp only [Option.map_some, Option.getD_some]
    rw [e, c.ok]
  · simp only [lsOf, List.mem_map, List.mem_range] at ha
    obtain ⟨i, hi, rfl⟩ := ha
    obtain ⟨a, e, hp⟩ := at' i hi
    rw [e, c.ok]; exact hp
theorem shStr {m : Nat} {v : V} (h : Sh.has .str m v) : ∃ a, v = cStr.enc a ∧ a.length ≤ 140737488355328 := by
  obtain ⟨s, rfl, -, b⟩ := h
  have := reach_le
  exact ⟨s, rfl, by omega⟩
theorem shAns {m : Nat} {v : V} (h : Sh.has (.tup [.int .i64, .str, .list (.tup [.str, .str]), .list (.int .u8)]) m v) : isC cAns v ∧ ansOk (cAns.dec v) := by
  obtain ⟨l, ms, rfl, -, hl⟩ := h
  obtain ⟨m1, v1, ms, l, rfl, h1, hl⟩ := hasL_cons hl
  obtain ⟨m2, v2, ms, l, rfl, h2, hl⟩ := hasL_cons hl
  obtain ⟨m3, v3, ms, l, rfl, h3, hl⟩ := hasL_cons hl
  obtain ⟨m4, v4, ms, l, rfl, h4, hl⟩ := hasL_cons hl
  obtain rfl := hasL_nil hl
  obtain ⟨st, rfl, _⟩ := shInt h1
  obtain ⟨re, rfl, b2⟩ := shStr h2
  obtain ⟨n, f, rfl, i3, b3, k3⟩ := shList (c := cHd) (fun m v h => shHead h) h3
  obtain ⟨k, g, rfl, i4, b4⟩ := shBytes h4
  have := reach_le
  refine ⟨isC_ans i3 i4, ?_⟩
  show ansOk ⟨st, re, lsOf cHd n f, bytesOf k g⟩
  refine ⟨k3, b2, ?_, ?_⟩
  · show (lsOf cHd n f).length ≤ _
    rw [lsOf_len]; exact b3
  · show (bytesOf k g).length ≤ _
    rw [bytesOf_len]; omega
theorem hasD4 {H : Type} {s1 s2 s3 s4 : Sh} {ds : List (DataW H)} (h : hasD [s1, s2, s3, s4] ds) : ∃ a b c d, ds = [a, b, c, d] ∧ s1.has (bulkD a) (toV a) ∧ s2.has (bulkD b) (toV b) ∧ s3.has (bulkD c) (toV c) ∧ s4.has (bulkD d) (toV d) := by
  match ds, h with
  | [a, b, c, d], ⟨h1, h2, h3, h4, _⟩ => exact ⟨a, b, c, d, rfl, h1, h2, h3, h4⟩
@[push_cast] theorem isC_ansT (a : Ans) : isC cAns (.agg [.int .i64 a.st, .str a.re, .sl a.hd.length (lsF cHd a.hd), .sl a.bd.length (byF a.bd)]) = True := eq_true (isC_enc cAns a)
@[push_cast] theorem ans_eta (a : Ans) : (⟨a.st, a.re, a.hd, a.bd⟩ : Ans) = a := rfl
structure Ind where
  ky : List UInt8
  ti : Int
  st : Int
  ty : List UInt8
  dg : List UInt8
  fi : List UInt8
  fr : Int
  to' : Int
  sm : Bool
deriving DecidableEq
def noInd : Ind := ⟨[], 0, 0, [], [], [], 0, 0, false⟩
def decInd : V → Ind
  | .agg [.str ky, .int _ ti, .int _ st, .str ty, .str dg, .str fi, .int _ fr, .int _ t2, .bool sm] => ⟨ky, ti, st, ty, dg, fi, fr, t2, sm⟩
  | _ => noInd
def cInd : Cod Ind := ⟨fun e => .agg [.str e.ky, .int .i64 e.ti, .int .i64 e.st, .str e.ty, .str e.dg, .str e.fi, .int .i64 e.fr, .int .i64 e.to', .bool e.sm], decInd, noInd, fun _ => rfl⟩
@[push_cast] theorem enc_ind (e : Ind) : cInd.enc e = .agg [.str e.ky, .int .i64 e.ti, .int .i64 e.st, .str e.ty, .str e.dg, .str e.fi, .int .i64 e.fr, .int .i64 e.to', .bool e.sm] := rfl
@[push_cast] theorem lsF_ind (l : List Ind) (i : Nat) : lsF cInd l i = .agg [.str (l.getD i noInd).ky, .int .i64 (l.getD i noInd).ti, .int .i64 (l.getD i noInd).st, .str (l.getD i noInd).ty, .str (l.getD i noInd).dg, .str (l.getD i noInd).fi, .int .i64 (l.getD i noInd).fr, .int .i64 (l.getD i noInd).to', .bool (l.getD i noInd).sm] := rfl
def isDg (c : UInt8) : Bool := decide (48 ≤ c.toNat ∧ c.toNat ≤ 57)
def digs : List UInt8 := [48, 49, 50, 51, 52, 53, 54, 55, 56, 57]
theorem digs_has (c : UInt8) : digs.contains c = isDg c := by
  have key : ∀ n, n < 256 → digs.contains (UInt8.ofNat n) = isDg (UInt8.ofNat n) := by decide +kernel
  have := key c.toNat (UInt8.toNat_lt c)
  simpa using this
theorem dropW_nil {p : UInt8 → Bool} : ∀ {l : List UInt8}, l.dropWhile p = [] ↔ ∀ x ∈ l, p x = true
  | [] => by simp
  | a :: l => by
    rw [List.dropWhile_cons]
    cases h : p a with
    | true => simp only [if_true, dropW_nil, List.mem_cons, forall_eq_or_imp, h, true_and]
    | false => simp [h]
theorem dropW_head {p : UInt8 → Bool} : ∀ {l : List UInt8} {a : UInt8} {t : List UInt8}, l.dropWhile p = a :: t → p a = false
  | [], _, _, h => by simp at h
  | b :: l, a, t, h => by
    rw [List.dropWhile_cons] at h
    cases hb : p b with
    | true => rw [hb] at h; exact dropW_head h
    | false => rw [hb] at h; simp only [Bool.false_eq_true, if_false, List.cons.injEq] at h; rw [← h.1]; exact hb
theorem dropW_sub {p : UInt8 → Bool} : ∀ {l : List UInt8} {x : UInt8}, x ∈ l.dropWhile p → x ∈ l
  | [], _, h => by simp at h
  | b :: l, x, h => by
    rw [List.dropWhile_cons] at h
    split at h
    · exact List.mem_cons_of_mem _ (dropW_sub h)
    · exact h
theorem snoc_ind {α : Type} {P : List α → Prop} (h0 : P []) (h : ∀ s c, P s → P (s ++ [c])) (s : List α) : P s := by
  have : ∀ t : List α, P t.reverse := by
    intro t
    induction t with
    | nil => exact h0
    | cons a t ih => rw [List.reverse_cons]; exact h _ _ ih
  simpa using this s.reverse
theorem trimS_nil (s cs : List UInt8) : Lib.trimS s cs = [] ↔ s.all (cs.contains ·) = true := by
  unfold Lib.trimS Lib.trimLeftS Lib.trimRightS
  rw [dropW_nil, List.all_eq_true]
  constructor
  · intro h x hx
    have hr : s.reverse.dropWhile (fun x => cs.contains x) = [] := by
      cases hd : s.reverse.dropWhile (fun x => cs.contains x) with
      | nil => rfl
      | cons a t =>
        have h1 := dropW_head hd
        have h2 := h a (by rw [hd]; simp)
        rw [h1] at h2; cases h2
    rw [dropW_nil] at hr
    exact hr x (by simpa using hx)
  · intro h x hx
    exact h x (by have := dropW_sub (by simpa using hx); simpa using this)
theorem trim_dig (s : List UInt8) : Lib.trimS s digs = [] ↔ s.all isDg = true := by
  rw [trimS_nil]
  have : (fun x => digs.contains x) = isDg := funext digs_has
  rw [this]
def natOf (s : List UInt8) : Nat := s.foldl (fun a c => a * 10 + (c.toNat - 48)) 0
theorem natOf_snoc (s : List UInt8) (c : UInt8) : natOf (s ++ [c]) = natOf s * 10 + (c.toNat - 48) := by simp [natOf, List.foldl_append]
theorem decFrom_dig : ∀ (s : List UInt8) (a : Nat), s.all isDg = true → Lib.decFrom a s = some (s.foldl (fun a c => a * 10 + (c.toNat - 48)) a)
  | [], a, _ => rfl
  | c :: s, a, h => by
    simp only [List.all_cons, Bool.and_eq_true] at h
    have hc : 48 ≤ c.toNat ∧ c.toNat ≤ 57 := of_decide_eq_true h.1
    simp only [Lib.decFrom, Lib.digitVal, if_pos hc, List.foldl_cons]
    exact decFrom_dig s _ h.2
theorem atoi_dig {s : List UInt8} (h0 : s ≠ []) (h : s.all isDg = true) : Lib.atoi s = some (natOf s : Int) := by
  cases s with
  | nil => exact absurd rfl h0
  | cons c s =>
    have hc : 48 ≤ c.toNat ∧ c.toNat ≤ 57 := of_decide_eq_true (by simp only [List.all_cons, Bool.and_eq_true] at h; exact h.1)
    have h1 : (c == 45) = false := by
      simp only [beq_eq_false_iff_ne]; intro e; subst e; revert hc; decide
    have h2 : (c == 43) = false := by
      simp only [beq_eq_false_iff_ne]; intro e; subst e; revert hc; decide
    unfold Lib.atoi
    simp only [h1, h2, Bool.false_eq_true, if_false]
    unfold Lib.decNat
    simp only [List.isEmpty_cons, Bool.false_eq_true, if_false]
    rw [decFrom_dig _ _ h]
    rfl
theorem natOf_lt (s : List UInt8) : s.all isDg = true → natOf s < 10 ^ s.length := by
  refine snoc_ind (P := fun s => s.all isDg = true → natOf s < 10 ^ s.length) (fun _ => by simp [natOf]) (fun s c ih h => ?_) s
  simp only [List.all_append, List.all_cons, List.all_nil, Bool.and_true, Bool.and_eq_true] at h
  have hc : 48 ≤ c.toNat ∧ c.toNat ≤ 57 := of_decide_eq_true h.2
  have := ih h.1
  rw [natOf_snoc, List.length_append, List.length_singleton, Nat.pow_succ]
  omega
def digL (s : List UInt8) (n : Int) : Bool := decide (1 ≤ s.length) && decide ((s.length : Int) ≤ n) && s.all isDg && (decide (s.getD 0 0 ≠ 48) || s == [48])
theorem itoa_nat (n : Nat) : Lib.itoa (n : Int) = Lib.decDigits n := by unfold Lib.itoa; rw [if_neg (by omega)]; simp
theorem dec_step {n : Nat} (h : 10 ≤ n) : Lib.decDigits n = Lib.decDigits (n / 10) ++ [UInt8.ofNat (48 + n % 10)] := by
  rw [Lib.decDigits, dif_neg (by omega)]
theorem dec_small {n : Nat} (h : n < 10) : Lib.decDigits n = [UInt8.ofNat (48 + n)] := by
  rw [Lib.decDigits, dif_pos h]
theorem natOf_pos {s : List UInt8} (h : s.all isDg = true) (h0 : 1 ≤ s.length) (h1 : s.getD 0 0 ≠ 48) : 1 ≤ natOf s := by
  revert h h0 h1
  refine snoc_ind (P := fun s => s.all isDg = true → 1 ≤ s.length → s.getD 0 0 ≠ 48 → 1 ≤ natOf s) (fun _ h => by simp at h) (fun s c ih h _ h1 => ?_) s
  simp only [List.all_append, List.all_cons, List.all_nil, Bool.and_true, Bool.and_eq_true] at h
  have hc : 48 ≤ c.toNat ∧ c.toNat ≤ 57 := of_decide_eq_true h.2
  rw [natOf_snoc]
  cases s with
  | nil =>
    simp only [List.nil_append, List.getD_cons_zero] at h1
    have : c.toNat ≠ 48 := fun e => h1 (UInt8.toNat_inj.1 e)
    omega
  | cons a s =>
    have := ih h.1 (by simp) (by simpa using h1)
    omega
theorem dec_natOf {s : List UInt8} (h : s.all isDg = true) (h0 : 1 ≤ s.length) (h1 : s.getD 0 0 ≠ 48 ∨ s.length = 1) : Lib.decDigits (natOf s) = s := by
  revert h h0 h1
  refine snoc_ind (P := fun s => s.all isDg = true → 1 ≤ s.length → (s.getD 0 0 ≠ 48 ∨ s.length = 1) → Lib.decDigits (natOf s) = s) (fun _ h => by simp at h) (fun s c ih h _ h1 => ?_) s
  simp only [List.all_append, List.all_cons, List.all_nil, Bool.and_true, Bool.and_eq_true] at h
  have hc : 48 ≤ c.toNat ∧ c.toNat ≤ 57 := of_decide_eq_true h.2
  have hcc : UInt8.ofNat (48 + (c.toNat - 48)) = c := by rw [show 48 + (c.toNat - 48) = c.toNat by omega]; simp
  rw [natOf_snoc]
  cases s with
  | nil =>
    simp only [natOf, List.foldl_nil, Nat.zero_mul, Nat.zero_add, List.nil_append]
    rw [dec_small (by omega), hcc]
  | cons a s =>
    have h48 : (a :: s).getD 0 0 ≠ 48 := by
      rcases h1 with h1 | h1
      · simpa using h1
      · simp at h1
    have hp := natOf_pos h.1 (by simp) h48
    rw [dec_step (by omega), show (natOf (a :: s) * 10 + (c.toNat - 48)) / 10 = natOf (a :: s) by omega, show (natOf (a :: s) * 10 + (c.toNat - 48)) % 10 = c.toNat - 48 by omega, hcc, ih h.1 (by simp) (.inl h48)]
theorem dec_dig (n : Nat) : (Lib.decDigits n).all isDg = true ∧ natOf (Lib.decDigits n) = n ∧ 1 ≤ (Lib.decDigits n).length ∧ ((Lib.decDigits n).getD 0 0 ≠ 48 ∨ (Lib.decDigits n).length = 1) ∧ (10 ≤ n → (Lib.decDigits n).getD 0 0 ≠ 48) := by
  have one : ∀ m, m < 10 → isDg (UInt8.ofNat (48 + m)) = true ∧ (UInt8.ofNat (48 + m)).toNat = 48 + m := fun m hm => by
    have e : (UInt8.ofNat (48 + m)).toNat = 48 + m := by rw [UInt8.toNat_ofNat']; omega
    exact ⟨decide_eq_true (by omega), e⟩
  induction n using Nat.strongRecOn with
  | _ n ih =>
    by_cases h : n < 10
    · rw [dec_small h]
      obtain ⟨a, b⟩ := one n h
      refine ⟨by simp only [List.all_cons, a, List.all_nil, Bool.and_true], by simp only [natOf, List.foldl_cons, List.foldl_nil, b]; omega, by simp, .inr rfl, fun h => by omega⟩
    · rw [dec_step (by omega)]
      obtain ⟨a, b⟩ := one (n % 10) (by omega)
      obtain ⟨i1, i2, i3, i4, i5⟩ := ih (n / 10) (by omega)
      have hg : (Lib.decDigits (n / 10)).getD 0 0 ≠ 48 := by
        by_cases h10 : n / 10 < 10
        · rw [dec_small h10]
          simp only [List.getD_cons_zero]
          intro e
          have := congrArg UInt8.toNat e
          rw [(one (n / 10) h10).2] at this
          have : (48 : UInt8).toNat = 48 := rfl
          omega
        · exact i5 (by omega)
      have hg2 : (Lib.decDigits (n / 10) ++ [UInt8.ofNat (48 + n % 10)]).getD 0 0 ≠ 48 := by
        cases hd : Lib.decDigits (n / 10) with
        | nil => rw [hd] at i3; simp at i3
        | cons x t => rw [hd] at hg; simpa using hg
      refine ⟨by simp only [List.all_append, i1, List.all_cons, a, List.all_nil, Bool.and_true], by rw [natOf_snoc, i2, b]; omega, by simp, .inl hg2, fun _ => hg2⟩
theorem dec_len : ∀ (k n : Nat), n < 10 ^ (k + 1) → (Lib.decDigits n).length ≤ k + 1
  | 0, n, h => by rw [dec_small (by omega)]; simp
  | k + 1, n, h => by
    by_cases h1 : n < 10
    · rw [dec_small h1]; simp
    · rw [dec_step (by omega)]
      have := dec_len k (n / 10) (by rw [Nat.pow_succ] at h; omega)
      simp; omega
structure Inq where
  me : List UInt8
  tg : List UInt8
  hd : List Hd
  bd : List UInt8
deriving DecidableEq
def decInq : V → Inq
  | .agg [.str me, .str tg, .sl n f, .sl m g] => ⟨me, tg, lsOf cHd n f, bytesOf m g⟩
  | _ => ⟨[], [], [], []⟩
def cInq : Cod Inq := ⟨fun a => .agg [.str a.me, .str a.tg, .sl a.hd.length (lsF cHd a.hd), .sl a.bd.length (byF a.bd)], decInq, ⟨[], [], [], []⟩, fun a => by simp [decInq, lsOf_ls, bytesOf_by]⟩
@[push_cast] theorem enc_inq (a : Inq) : cInq.enc a = .agg [.str a.me, .str a.tg, .sl a.hd.length (lsF cHd a.hd), .sl a.bd.length (byF a.bd)] := rfl
@[push_cast] theorem dec_inq (me tg : List UInt8) (n m : Nat) (f g : Nat → V) : cInq.dec (.agg [.str me, .str tg, .sl n f, .sl m g]) = ⟨me, tg, lsOf cHd n f, bytesOf m g⟩ := rfl
@[push_cast] theorem inq_eta (a : Inq) : (⟨a.me, a.tg, a.hd, a.bd⟩ : Inq) = a := rfl
def headB (h : Hd) : List UInt8 := h.name ++ [58, 32] ++ h.value ++ [13, 10]
def headsB : List Hd → List UInt8
  | [] => []
  | h :: l => headB h ++ headsB l
structure Rcd where
  ki : Int
  id : List UInt8
  ow : List UInt8
  ti : Int
  ke : List UInt8
  hd : List Hd
  bd : List UInt8
deriving DecidableEq
def noRec : Rcd := ⟨0, [], [], 0, [], [], []⟩
def decRec : V → Rcd
  | .agg [.int _ ki, .str id, .str ow, .int _ ti, .str ke, .sl n f, .sl m g] => ⟨ki, id, ow, ti, ke, lsOf cHd n f, bytesOf m g⟩
  | _ => noRec
def cRec : Cod Rcd := ⟨fun a => .agg [.int .i64 a.ki, .str a.id, .str a.ow, .int .i64 a.ti, .str a.ke, .sl a.hd.length (lsF cHd a.hd), .sl a.bd.length (byF a.bd)], decRec, noRec, fun a => by simp [decRec, lsOf_ls, bytesOf_by]⟩
@[push_cast] theorem enc_rec (a : Rcd) : cRec.enc a = .agg [.int .i64 a.ki, .str a.id, .str a.ow, .int .i64 a.ti, .str a.ke, .sl a.hd.length (lsF cHd a.hd), .sl a.bd.length (byF a.bd)] := rfl
@[push_cast] theorem dec_rec (k k' : IntKind) (ki ti : Int) (id ow ke : List UInt8) (n m : Nat) (f g : Nat → V) : cRec.dec (.agg [.int k ki, .str id, .str ow, .int k' ti, .str ke, .sl n f, .sl m g]) = ⟨ki, id, ow, ti, ke, lsOf cHd n f, bytesOf m g⟩ := rfl
theorem isC_rec {ki ti : Int} {id ow ke : List UInt8} {n m : Nat} {f g : Nat → V} (h1 : isLs cHd n f) (h2 : isBy m g) : isC cRec (.agg [.int .i64 ki, .str id, .str ow, .int .i64 ti, .str ke, .sl n f, .sl m g]) :=
  VLe.agg ⟨VLe.refl _, VLe.refl _, VLe.refl _, VLe.refl _, VLe.refl _, isLs.vle h1, isBy.vle h2, trivial⟩
@[push_cast] theorem isC_recT (a : Rcd) : isC cRec (.agg [.int .i64 a.ki, .str a.id, .str a.ow, .int .i64 a.ti, .str a.ke, .sl a.hd.length (lsF cHd a.hd), .sl a.bd.length (byF a.bd)]) = True := eq_true (isC_enc cRec a)
@[push_cast] theorem rec_eta (a : Rcd) : (⟨a.ki, a.id, a.ow, a.ti, a.ke, a.hd, a.bd⟩ : Rcd) = a := rfl
def recOk (a : Rcd) : Prop := hdsOk a.hd ∧ a.id.length ≤ 140737488355328 ∧ a.ow.length ≤ 140737488355328 ∧ a.ke.length ≤ 140737488355328 ∧ a.hd.length ≤ 140737488355328 ∧ a.bd.length ≤ 140737488355328 ∧ -9223372036854775808 ≤ a.ti ∧ a.ti ≤ 9223372036854775807 ∧ -9223372036854775808 ≤ a.ki ∧ a.ki ≤ 9223372036854775807
theorem shRec {m : Nat} {v : V} (h : Sh.has (.tup [.int .i64, .str, .str, .int .i64, .str, .list (.tup [.str, .str]), .list (.int .u8)]) m v) : isC cRec v ∧ recOk (cRec.dec v) := by
  obtain ⟨l, ms, rfl, -, hl⟩ := h
  obtain ⟨m1, v1, ms, l, rfl, h1, hl⟩ := hasL_cons hl
  obtain ⟨m2, v2, ms, l, rfl, h2, hl⟩ := hasL_cons hl
  obtain ⟨m3, v3, ms, l, rfl, h3, hl⟩ := hasL_cons hl
  obtain ⟨m4, v4, ms, l, rfl, h4, hl⟩ := hasL_cons hl
  obtain ⟨m5, v5, ms, l, rfl, h5, hl⟩ := hasL_cons hl
  obtain ⟨m6, v6, ms, l, rfl, h6, hl⟩ := hasL_cons hl
  obtain ⟨m7, v7, ms, l, rfl, h7, hl⟩ := hasL_cons hl
  obtain rfl := hasL_nil hl
  obtain ⟨ki, rfl, c1⟩ := shInt h1
  obtain ⟨id, rfl, b2⟩ := shStr h2
  obtain ⟨ow, rfl, b3⟩ := shStr h3
  obtain ⟨ti, rfl, c4⟩ := shInt h4
  obtain ⟨ke, rfl, b5⟩ := shStr h5
  obtain ⟨n, f, rfl, i6, b6, k6⟩ := shList (c := cHd) (fun m v h => shHead h) h6
  obtain ⟨k, g, rfl, i7, b7⟩ := shBytes h7
  have := reach_le
  simp only [Lit.wf, Bool.and_eq_true, decide_eq_true_eq] at c1 c4
  refine ⟨isC_rec i6 i7, ?_⟩
  show recOk ⟨ki, id, ow, ti, ke, lsOf cHd n f, bytesOf k g⟩
  refine ⟨k6, b2, b3, b5, ?_, ?_, c4.1, c4.2, c1.1, c1.2⟩
  · show (lsOf cHd n f).length ≤ _
    rw [lsOf_len]; exact b6
  · show (bytesOf k g).length ≤ _
    rw [bytesOf_len]; omega
def nmB (c : UInt8) : Bool := decide (97 ≤ c.toNat ∧ c.toNat ≤ 122 ∨ 48 ≤ c.toNat ∧ c.toNat ≤ 57 ∨ c.toNat = 45)
def smB (c : UInt8) : Bool := decide (97 ≤ c.toNat ∧ c.toNat ≤ 122)
def nameL (s : List UInt8) : Bool := decide (1 ≤ s.length) && decide (s.length ≤ 40) && smB (s.getD 0 0) && s.all nmB
def nmS : List UInt8 := [97, 98, 99, 100, 101, 102, 103, 104, 105, 106, 107, 108, 109, 110, 111, 112, 113, 114, 115, 116, 117, 118, 119, 120, 121, 122, 48, 49, 50, 51, 52, 53, 54, 55, 56, 57, 45]
theorem nmS_has (c : UInt8) : nmS.contains c = nmB c := by
  have key : ∀ n, n < 256 → nmS.contains (UInt8.ofNat n) = nmB (UInt8.ofNat n) := by decide +kernel
  have := key c.toNat (UInt8.toNat_lt c)
  simpa using this
theorem trim_nm (s : List UInt8) : Lib.trimS s nmS = [] ↔ s.all nmB = true := by
  rw [trimS_nil]
  have : (fun x => nmS.contains x) = nmB := funext nmS_has
  rw [this]
def mixS (n : Int) (c : UInt8) : Int := bitsI .xor .u64 n (c.toNat % 18446744073709551616) * 1099511628211 % 18446744073709551616
def mixL (s : List UInt8) : Int := s.foldl mixS 14695981039346656037
theorem mix_b (s : List UInt8) : 0 ≤ mixL s ∧ mixL s < 18446744073709551616 := by
  have : ∀ (s : List UInt8) (n : Int), (0 ≤ n ∧ n < 18446744073709551616) → 0 ≤ s.foldl mixS n ∧ s.foldl mixS n < 18446744073709551616 := by
    intro s
    induction s with
    | nil => intro n h; exact h
    | cons c t ih => intro n h; rw [List.foldl_cons]; exact ih _ (by unfold mixS; omega)
  exact this s _ (by omega)
theorem mixL_snoc (s : List UInt8) (c : UInt8) : mixL (s ++ [c]) = mixS (mixL s) c := by simp [mixL, List.foldl_append]
theorem andF (n : Int) (h0 : 0 ≤ n) (h : n < 18446744073709551616) : bitsI .and .u64 n 15 = n % 16 := by
  obtain ⟨u, rfl⟩ : ∃ u : Nat, n = u := ⟨n.toNat, by omega⟩
  show IntKind.u64.wrap (((BitVec.ofInt 64 (u : Int) &&& BitVec.ofInt 64 15 : BitVec 64).toNat : Nat) : Int) = _
  have e3 : (BitVec.ofInt 64 (u : Int) &&& BitVec.ofInt 64 15 : BitVec 64).toNat = u % 16 := by
    rw [BitVec.ofInt_natCast, BitVec.toNat_and, show (BitVec.ofInt 64 15 : BitVec 64).toNat = 2 ^ 4 - 1 from rfl, BitVec.toNat_ofNat, Nat.mod_eq_of_lt (by omega), Nat.and_two_pow_sub_one_eq_mod]
  rw [e3, wrap_u64]
  omega
theorem shrF (n : Int) (h0 : 0 ≤ n) : n.fdiv (2 ^ min 4 IntKind.u64.bits) = n / 16 := by
  rw [show (2 : Int) ^ min 4 IntKind.u64.bits = 16 from rfl, Int.fdiv_eq_ediv_of_nonneg _ (by omega)]
def hexT : List UInt8 := [48, 49, 50, 51, 52, 53, 54, 55, 56, 57, 97, 98, 99, 100, 101, 102]
def hex16 (n : Int) : List UInt8 := (List.range 16).map fun j => hexT.getD ((n / 16 ^ (15 - j)) % 16).toNat 0
def digestL (s : List UInt8) : List UInt8 := hex16 (mixL s)
theorem hex16_len (n : Int) : (hex16 n).length = 16 := by simp [hex16]
def ownW : List (List UInt8) := [[105, 100], [111, 102], [107, 105, 110, 100], [100, 97, 116, 101], [107, 101, 121], [108, 101, 110, 103, 116, 104], [100, 105, 103, 101, 115, 116]]
def kindW : List (List UInt8) := [[105, 110, 102, 111], [114, 101, 113, 117, 101, 115, 116], [97, 110, 115, 119, 101, 114], [114, 101, 118, 105, 115, 105, 116], [112, 105, 101, 99, 101]]
def hexD (n : Int) : UInt8 := hexT.getD (n % 16).toNat 0
def lnB2 (w v : List UInt8) : List UInt8 := w ++ [58, 32] ++ v ++ [13, 10]
def valB (c : UInt8) : Bool := decide (c.toNat = 9 ∨ 32 ≤ c.toNat ∧ c.toNat ≤ 126)
def valueL (s : List UInt8) : Bool := decide (s.length ≤ 1000) && (Lib.trimS s [32, 9] == s) && s.all valB
def ckMTrim : Ck
  | [.str s] => some (s.length ≤ 4611686018427387904, .str (Lib.trimS s [32, 9]))
  | _ => none
theorem conMTrim : Con pg 107 ckMTrim := by
  have hct := (ctA_ok conTrim (ctN_ok _))
  intro args q r h hq
  unfold ckMTrim at h
  split at h
  · cases h
    rename_i s
    refine w107 (fun _ => false) [] rfl hct rfl rfl ?_
    push_cast (config := { maxSteps := 10000000 })
    exact hq
  · cases h
attribute [push_cast] ckMTrim
def ckIsValue : Ck
  | [.str s] => some (s.length ≤ 4611686018427387904, .bool (valueL s))
  | _ => none
theorem valueL_no {s : List UInt8} (h : s.all valB = false) : false = valueL s := by unfold valueL; rw [h, Bool.and_false]
theorem conIsValue : Con pg 72 ckIsValue := by
  have hct := (ctA_ok conMTrim (ctN_ok _))
  intro args q r h hq
  unfold ckIsValue at h
  split at h
  · cases h
    rename_i s
    refine w72 (fun _ => false) [] rfl hct rfl rfl ?_
    push_cast (config := { maxSteps := 10000000 })
    refine ⟨fun h => ⟨h, hq⟩, fun h => ?_, fun h => ?_⟩
    · unfold valueL
      rcases h with h | h
      · rw [show decide (s.length ≤ 1000) = false from decide_eq_false (by omega)]; rfl
      · rw [show (Lib.trimS s [32, 9] == s) = false by simpa using h]; simp
    · refine LoopW.adj ⟨hct, fol⟩ (by kernel_rfl) [] (fun i : Nat => [(0, .str s), (14, .int .i64 s.length), (15, .int .i64 i)]) (fun _ => []) (fun i => i ≤ s.length ∧ ∀ j, j < i → valB (s.getD j 0) = true) (fun i => s.length - i) 0 ?_ fun i hi => ?_
      · push_cast (config := { maxSteps := 10000000 })
        exact Nat.zero_le _
      · push_cast (config := { maxSteps := 10000000 })
        obtain ⟨h1, h2⟩ := hi
        (repeat' (first | apply And.intro | intro _)) <;> (try first | assumption | contradiction | omega | exact rfl | exact trivial)
        · rename_i a b
          exact valueL_no (all_no' (d := 0) a (by unfold valB; exact decide_eq_false (by omega)))
        · rename_i a b
          refine ⟨i + 1, ⟨by omega, fun j hj => ?_⟩, by omega, by omega⟩
          by_cases e : j = i
          · subst e
            refine decide_eq_true (Classical.byContradiction fun hn => ?_)
            have := b (by omega)
            omega
          · exact h2 j (by omega)
        · unfold valueL
          rw [all_at' fun j hj => h2 j (by omega), show decide (s.length ≤ 1000) = true from decide_eq_true (by omega), show (Lib.trimS s [32, 9] == s) = true by simpa using h.2]; rfl
  · cases h
attribute [push_cast] ckIsValue
def headsGo : List Hd → Int
  | [] => 0
  | h :: t => if tokL h.name = true then (if valueL h.value = true then headsGo t else 3) else 5
def checkHeadsL (l : List Hd) : Int := if 100 < l.length then 2 else headsGo l
def ckCheckHeads : Ck
  | [.sl n f] => some (isLs cHd n f ∧ hdsOk (lsOf cHd n f), .int .i64 (checkHeadsL (lsOf cHd n f)))
  | _ => none
theorem headsGo_tok {l : List Hd} {i : Nat} (hi : i < l.length) (h : ¬ tokL (l.getD i ⟨[], []⟩).name = true) : headsGo (l.drop i) = 5 := by
  rw [dropG (d := ⟨[], []⟩) hi, headsGo, if_neg h]
theorem headsGo_val {l : List Hd} {i : Nat} (hi : i < l.length) (h : tokL (l.getD i ⟨[], []⟩).name = true) (h2 : ¬ valueL (l.getD i ⟨[], []⟩).value = true) : headsGo (l.drop i) = 3 := by
  rw [dropG (d := ⟨[], []⟩) hi, headsGo, if_pos h, if_neg h2]
theorem headsGo_next {l : List Hd} {i : Nat} (hi : i < l.length) (h : tokL (l.getD i ⟨[], []⟩).name = true) (h2 : valueL (l.getD i ⟨[], []⟩).value = true) : headsGo (l.drop i) = headsGo (l.drop (i + 1)) := by
  rw [dropG (d := ⟨[], []⟩) hi, headsGo, if_pos h, if_pos h2]
theorem conCheckHeads : Con pg 73 ckCheckHeads := by
  have hct := (ctA_ok conIsToken (ctA_ok conIsValue (ctN_ok _)))
  intro args q r h hq
  unfold ckCheckHeads at h
  split at h
  · cases h
    rename_i n f
    refine pcall_args (args' := [.sl (lsOf cHd n f).length (lsF cHd (lsOf cHd n f))]) ⟨isLs.vle hq.1, trivial⟩ ?_
    obtain ⟨-, hl⟩ := hq
    generalize lsOf cHd n f = l at hl ⊢
    refine w73 (fun _ => false) [] rfl hct rfl rfl ?_
    push_cast (config := { maxSteps := 10000000 })
    refine ⟨fun h => ?_, fun h => ?_⟩
    · unfold checkHeadsL; rw [if_pos (by omega)]
    have e0 : checkHeadsL l = headsGo l := by unfold checkHeadsL; rw [if_neg (by omega)]
    rw [e0]
    refine LoopW.adj ⟨hct, fol⟩ (by kernel_rfl) [] (fun i : Nat => [(8, .sl l.length (lsF cHd l)), (9, .int .i64 l.length), (10, .int .i64 i)]) (fun _ => []) (fun i => i ≤ l.length ∧ headsGo (l.drop i) = headsGo l) (fun i => l.length - i) 0 ?_ fun i hi => ?_
    · push_cast (config := { maxSteps := 10000000 })
      exact Nat.zero_le _
    · push_cast (config := { maxSteps := 10000000 })
      obtain ⟨h1, h2⟩ := hi
      refine ⟨fun hlt => ?_, fun hlt => ?_⟩
      · have hb := hdsOk_at hl hlt
        (repeat' (first | apply And.intro | intro _)) <;> (try first | assumption | contradiction | omega | exact rfl | exact trivial)
        · rw [← h2, headsGo_tok hlt (by simp_all)]
        · rw [← h2, headsGo_val hlt (by assumption) (by simp_all)]
        · refine ⟨i + 1, ⟨by omega, ?_⟩, by omega, by omega⟩
          rw [← h2, headsGo_next hlt (by assumption) (by assumption)]
      · rw [← h2, List.drop_eq_nil_of_le (by omega)]; rfl
  · cases h
attribute [push_cast] ckCheckHeads
def valuesL (l : List Hd) (name : List UInt8) : List (List UInt8) := (l.filter fun h => lowL h.name == name).map Hd.value
def ckValues : Ck
  | [.sl n f, .str name] => some (isLs cHd n f ∧ hdsOk (lsOf cHd n f) ∧ n ≤ 1000000, .sl (valuesL (lsOf cHd n f) name).length (lsF cStr (valuesL (lsOf cHd n f) name)))
  | _ => none
theorem valuesL_hit {l : List Hd} {i : Nat} {name : List UInt8} (hi : i < l.length) (h : lowL (l.getD i ⟨[], []⟩).name = name) : valuesL (l.drop i) name = (l.getD i ⟨[], []⟩).value :: valuesL (l.drop (i + 1)) name := by
  unfold valuesL
  rw [dropG (d := ⟨[], []⟩) hi, List.filter_cons, if_pos (beq_iff_eq.2 h), List.map_cons]
theorem valuesL_miss {l : List Hd} {i : Nat} {name : List UInt8} (hi : i < l.length) (h : ¬ lowL (l.getD i ⟨[], []⟩).name = name) : valuesL (l.drop i) name = valuesL (l.drop (i + 1)) name := by
  unfold valuesL
  rw [dropG (d := ⟨[], []⟩) hi, List.filter_cons, if_neg (fun e => h (beq_iff_eq.1 e))]
theorem conValues : Con pg 74 ckValues := by
  have hct := (ctA_ok conSmallA (ctN_ok _))
  intro args q r h hq
  unfold ckValues at h
  split at h
  · cases h
    rename_i n f name
    refine pcall_args (args' := [.sl (lsOf cHd n f).length (lsF cHd (lsOf cHd n f)), .str name]) ⟨isLs.vle hq.1, VLe.refl _, trivial⟩ ?_
    obtain ⟨-, hl, hn⟩ := hq
    have hn2 : (lsOf cHd n f).length ≤ 1000000 := by rw [lsOf_len]; exact hn
    generalize lsOf cHd n f = l at hl hn2 ⊢
    refine w74 (fun _ => false) [.frz 90] rfl hct rfl rfl ?_
    push_cast (config := { maxSteps := 10000000 })
    refine LoopW.adj ⟨hct, fol⟩ (by kernel_rfl) [.nv 5 90 1 (lsF cStr [])] (fun t : Nat × List (List UInt8) => [(1, .str name), (5, .vec 90 t.2.length), (8, .sl l.length (lsF cHd l)), (9, .int .i64 l.length), (10, .int .i64 t.1)]) (fun t => [(90, .vec 1 t.2.length (lsF cStr t.2))]) (fun t => t.1 ≤ l.length ∧ t.2.length ≤ t.1 ∧ t.2 ++ valuesL (l.drop t.1) name = valuesL l name) (fun t => l.length - t.1) (0, []) ?_ fun t ht => ?_
    · push_cast (config := { maxSteps := 10000000 })
      exact Nat.zero_le _
    · obtain ⟨i, o⟩ := t
      obtain ⟨h1, h2, h3⟩ : i ≤ l.length ∧ o.length ≤ i ∧ o ++ valuesL (l.drop i) name = valuesL l name := ht
      push_cast (config := { maxSteps := 10000000 })
      refine ⟨fun hlt => ?_, fun hlt => ?_⟩
      · have hb := hdsOk_at hl hlt
        (repeat' (first | apply And.intro | intro _)) <;> (try first | assumption | contradiction | omega | exact rfl | exact trivial)
        · exact ⟨(i + 1, o ++ [(l.getD i ⟨[], []⟩).value]), ⟨by show i + 1 ≤ l.length; omega, by simp; omega, by rw [← h3, valuesL_hit hlt (by assumption)]; simp⟩, by show l.length - (i + 1) < l.length - i; omega, ⟨by simp, by simp⟩, LsI.app (c := cStr) (LsI.ls o) (LsI.one (c := cStr) rfl) (by simp)⟩
        · exact ⟨(i + 1, o), ⟨by show i + 1 ≤ l.length; omega, by show o.length ≤ i + 1; omega, by rw [← h3, valuesL_miss hlt (by assumption)]⟩, by show l.length - (i + 1) < l.length - i; omega, ⟨rfl, by simp⟩, LsI.ls (c := cStr) o⟩
      · have e : o = valuesL l name := by rw [← h3, List.drop_eq_nil_of_le (by omega)]; simp [valuesL]
        rw [← e]
        exact ⟨rfl, fun _ _ => rfl⟩
  · cases h
attribute [push_cast] ckValues
def ckAtoi : Ck
  | [.str s] => some (1 ≤ s.length ∧ s.length ≤ 18 ∧ s.all isDg = true, .tup [.int .i64 (natOf s), .any])
  | _ => none
theorem conAtoi : Con pg 76 ckAtoi := by
  intro args q r h hq
  unfold ckAtoi at h
  split at h
  · cases h
    rename_i s
    refine pcall_shelf (by kernel_rfl) rfl fun w hw => (Tryz.strconv_Atoi ⟨s.toArray⟩ (natOf s) (by show s.toArray.size ≤ _; have := hq.2.1; simp; omega) ?_ w).mono fun e w' h => ?_
    · exact atoi_dig (show s ≠ [] from fun e => by have := hq.1; rw [e] at this; simp at this) hq.2.2
    · obtain ⟨he, t, rfl⟩ := h
      exact ⟨_, he, grow_below (Lib.bytesWorld_below _ _ _), fun γ imm => .tup _ [_, _] rfl fun i hi => by
        match i, hi with
        | 0, _ => exact .pure (.int _ _)
        | 1, _ => exact .any _⟩
  · cases h
attribute [push_cast] ckAtoi
def tgB (c : UInt8) : Bool := decide (33 ≤ c.toNat ∧ c.toNat ≤ 126)
def targetL (s : List UInt8) : Bool := decide (1 ≤ s.length) && decide (s.length ≤ 2000) && s.all tgB
def ckIsTarget : Ck
  | [.str s] => some (s.length ≤ 4611686018427387904, .bool (targetL s))
  | _ => none
attribute [push_cast] ckIsTarget
def ckDigits : Ck
  | [.str s, .int .i64 n] => some (s.length ≤ 4611686018427387904, .bool (digL s n))
  | _ => none
theorem conDigits : Con pg 75 ckDigits := by
  have hct := (ctA_ok conTrim (ctN_ok _))
  intro args q r h hq
  unfold ckDigits at h
  split at h
  · cases h
    rename_i s n
    refine w75 (fun _ => false) [] rfl hct rfl rfl ?_
    push_cast (config := { maxSteps := 10000000 })
    refine ⟨fun h => ⟨h, hq⟩, fun h => ⟨h, by have := h.1.1; omega⟩, fun h => ⟨h, fun h2 => ⟨h, h2⟩⟩, ?_⟩
    unfold digL
    have e1 : (Lib.trimS s [48, 49, 50, 51, 52, 53, 54, 55, 56, 57] == []) = s.all isDg := by
      rw [Bool.eq_iff_iff, beq_iff_eq]; exact trim_dig s
    have e2 : (((s.getD 0 0).toNat : Int) != 48) = decide (s.getD 0 0 ≠ 48) := by
      rw [Bool.eq_iff_iff, bne_iff_ne, decide_eq_true_eq, ne_eq, ne_eq, u8_eq]; rfl
    rw [e1, e2]
    congr 3
    exact decide_eq_decide.2 (by omega)
  · cases h
attribute [push_cast] ckDigits
def lenV : List (List UInt8) → Int × Bool
  | [v] => if digL v 1000 = true then (if 9 < v.length then (200001, true) else (min (natOf v : Int) 200001, true)) else (0, false)
  | _ => (0, false)
def lengthL (l : List Hd) : Int × Bool := lenV (valuesL l [108, 101, 110, 103, 116, 104])
def ckLength : Ck
  | [.sl n f] => some (isLs cHd n f ∧ hdsOk (lsOf cHd n f) ∧ n ≤ 1000000, .tup [.int .i64 (lengthL (lsOf cHd n f)).1, .bool (lengthL (lsOf cHd n f)).2])
  | _ => none
theorem valuesL_ok {l : List Hd} (h : hdsOk l) (name : List UInt8) : ∀ v ∈ valuesL l name, v.length ≤ 140737488355328 := by
  intro v hv
  simp only [valuesL, List.mem_map, List.mem_filter] at hv
  obtain ⟨x, ⟨hx, _⟩, rfl⟩ := hv
  exact (h x hx).2
theorem digL_all {v : List UInt8} {n : Int} (h : digL v n = true) : 1 ≤ v.length ∧ (v.length : Int) ≤ n ∧ v.all isDg = true ∧ (v.getD 0 0 ≠ 48 ∨ v = [48]) := by
  simp only [digL, Bool.and_eq_true, Bool.or_eq_true, decide_eq_true_eq, beq_iff_eq] at h
  exact ⟨h.1.1.1, h.1.1.2, h.1.2, h.2⟩
theorem conLength : Con pg 40 ckLength := by
  have hct := (ctA_ok conValues (ctA_ok conDigits (ctA_ok conAtoi (ctN_ok _))))
  intro args q r h hq
  unfold ckLength at h
  split at h
  · cases h
    rename_i n f
    refine w40 (fun _ => false) [] rfl hct rfl rfl ?_
    push_cast (config := { maxSteps := 10000000 })
    refine ⟨hq, ?_⟩
    have hV := valuesL_ok hq.2.1 [108, 101, 110, 103, 116, 104]
    unfold lengthL
    generalize valuesL (lsOf cHd n f) [108, 101, 110, 103, 116, 104] = V at hV ⊢
    match V, hV with
    | [], _ => simp [lenV]
    | [v], hV =>
      have hv := hV v (by simp)
      push_cast (config := { maxSteps := 10000000 })
      refine ⟨by omega, fun h => ?_, fun h => ⟨fun h9 => ?_, fun h9 => ?_⟩⟩
      · simp [lenV, h]
      · simp only [lenV, h, if_true]; rw [if_pos (by omega)]; exact ⟨rfl, rfl⟩
      · have hd := digL_all h
        simp only [lenV, h, if_true]; rw [if_neg (by omega)]
        exact ⟨⟨hd.1, by omega, hd.2.2.1⟩, rfl, rfl⟩
    | a :: b :: r, _ =>
      simp only [lenV, List.length_cons]
      refine ⟨fun h => by omega, fun h => by omega, fun _ => by simp, fun h => by omega⟩
  · cases h
attribute [push_cast] ckLength
def wLen : List UInt8 := [108, 101, 110, 103, 116, 104]
def wCod : List UInt8 := [99, 111, 100, 105, 110, 103]
theorem lenV_eq {l : List (List UInt8)} {n : Nat} (h : n ≤ 200000) : (lenV l).2 = true ∧ (lenV l).1 = n ↔ l = [Lib.itoa n] := by
  rw [itoa_nat]
  match l with
  | [] => simp [lenV]
  | a :: b :: r => simp [lenV]
  | [v] =>
    have hd := dec_dig n
    have hl := dec_len 5 n (by omega)
    constructor
    · intro ⟨h1, h2⟩
      unfold lenV at h1 h2
      simp only at h1 h2
      split at h1
      · rename_i hv
        rw [if_pos hv] at h2
        have hq := digL_all hv
        split at h2
        · simp only at h2; omega
        · simp only at h2
          have : natOf v = n := by omega
          have e := dec_natOf hq.2.2.1 hq.1 (hq.2.2.2.imp id fun e => by rw [e]; rfl)
          rw [← this, e]
      · cases h1
    · intro e
      obtain rfl : v = Lib.decDigits n := by simpa using e
      have hv : digL (Lib.decDigits n) 1000 = true := by
        simp only [digL, Bool.and_eq_true, Bool.or_eq_true, decide_eq_true_eq, beq_iff_eq]
        refine ⟨⟨⟨hd.2.2.1, by omega⟩, hd.1⟩, ?_⟩
        by_cases h10 : 10 ≤ n
        · exact .inl (hd.2.2.2.2 h10)
        · by_cases h0 : n = 0
          · subst h0; exact .inr (by rw [dec_small (by omega)]; rfl)
          · refine .inl ?_
            rw [dec_small (by omega)]
            intro e
            have := congrArg UInt8.toNat e
            simp only [List.getD_cons_zero] at this
            rw [UInt8.toNat_ofNat'] at this
            have : (48 : UInt8).toNat = 48 := rfl
            omega
      simp only [lenV, hv, if_true]
      rw [if_neg (by omega)]
      exact ⟨rfl, by rw [hd.2.1]; omega⟩
theorem itoa_len {n : Nat} (h : n ≤ 200000) : (Lib.itoa n).length ≤ 6 := by rw [itoa_nat]; exact dec_len 5 n (by omega)
theorem sing_iff {l : List (List UInt8)} {x : List UInt8} : l = [x] ↔ (l.length : Int) = 1 ∧ l.getD 0 [] = x := by
  match l with
  | [] => simp
  | [a] => simp
  | a :: b :: r => simp; omega
theorem heads_100 {l : List Hd} (h : checkHeadsL l = 0) : l.length ≤ 100 := by
  unfold checkHeadsL at h
  split at h
  · omega
  · omega
theorem headsGo_le : ∀ {l : List Hd}, headsGo l = 0 → (headsB l).length ≤ l.length * 1044
  | [], _ => by simp [headsB]
  | h :: t, e => by
    simp only [headsGo] at e
    split at e
    · rename_i h1
      split at e
      · rename_i h2
        have ih := headsGo_le e
        simp only [tokL, valueL, Bool.and_eq_true, decide_eq_true_eq] at h1 h2
        simp only [headsB, headB, List.length_append, List.length_cons, List.length_nil]
        omega
      · omega
    · omega
theorem heads_le {l : List Hd} (h : checkHeadsL l = 0) : (headsB l).length ≤ 104400 := by
  have h1 := heads_100 h
  unfold checkHeadsL at h
  rw [if_neg (by omega)] at h
  have := headsGo_le h
  omega
def ownL (l : List Hd) : Bool := l.any fun h => ownW.contains (lowL h.name)
def checkRecL (r : Rcd) : Int :=
  if r.ki < 1 ∨ 5 < r.ki then 4
  else if ¬ (nameL r.id = true ∧ (r.ow = [] ∨ nameL r.ow = true)) then 5
  else if r.ow = r.id ∨ (r.ow = [] ∧ (r.ki = 4 ∨ r.ki = 5)) ∨ (r.ow ≠ [] ∧ r.ki = 1) then 12
  else if ¬ (0 ≤ r.ti ∧ r.ti ≤ 253402300799) then 1
  else if ¬ targetL r.ke = true then 3
  else if 30 < r.hd.length then 2
  else if ¬ checkHeadsL r.hd = 0 then checkHeadsL r.hd
  else if ownL r.hd = true then 12
  else if 200000 < r.bd.length then 2
  else if 0 < r.bd.length ∧ r.ki = 4 then 3 else 0
theorem rec_ok {r : Rcd} (h : checkRecL r = 0) : 1 ≤ r.ki ∧ r.ki ≤ 5 ∧ nameL r.id = true ∧ (r.ow = [] ∨ nameL r.ow = true) ∧ 0 ≤ r.ti ∧ r.ti ≤ 253402300799 ∧ targetL r.ke = true ∧ r.hd.length ≤ 30 ∧ checkHeadsL r.hd = 0 ∧ r.bd.length ≤ 200000 := by
  unfold checkRecL at h
  by_cases c1 : r.ki < 1 ∨ 5 < r.ki
  · rw [if_pos c1] at h; omega
  rw [if_neg c1] at h
  by_cases c2 : ¬ (nameL r.id = true ∧ (r.ow = [] ∨ nameL r.ow = true))
  · rw [if_pos c2] at h; omega
  rw [if_neg c2] at h
  by_cases c3 : r.ow = r.id ∨ (r.ow = [] ∧ (r.ki = 4 ∨ r.ki = 5)) ∨ (r.ow ≠ [] ∧ r.ki = 1)
  · rw [if_pos c3] at h; omega
  rw [if_neg c3] at h
  by_cases c4 : ¬ (0 ≤ r.ti ∧ r.ti ≤ 253402300799)
  · rw [if_pos c4] at h; omega
  rw [if_neg c4] at h
  by_cases c5 : ¬ targetL r.ke = true
  · rw [if_pos c5] at h; omega
  rw [if_neg c5] at h
  by_cases c6 : 30 < r.hd.length
  · rw [if_pos c6] at h; omega
  rw [if_neg c6] at h
  by_cases c7 : ¬ checkHeadsL r.hd = 0
  · rw [if_pos c7] at h; exact absurd h c7
  rw [if_neg c7] at h
  by_cases c8 : ownL r.hd = true
  · rw [if_pos c8] at h; omega
  rw [if_neg c8] at h
  by_cases c9 : 200000 < r.bd.length
  · rw [if_pos c9] at h; omega
  exact ⟨by omega, by omega, (Classical.not_not.1 c2).1, (Classical.not_not.1 c2).2, by omega, by omega, Classical.not_not.1 c5, by omega, Classical.not_not.1 c7, by omega⟩
def wKept : List UInt8 := [75, 69, 80, 84, 47, 49, 13, 10]
def recP (r : Rcd) : List UInt8 := wKept ++ lnB2 [105, 100] r.id ++ (if r.ow = [] then [] else lnB2 [111, 102] r.ow) ++ lnB2 [107, 105, 110, 100] (kindW.getD (r.ki - 1).toNat []) ++ lnB2 [100, 97, 116, 101] (dateTextL r.ti) ++ lnB2 [107, 101, 121] r.ke
def recQ (r : Rcd) : List UInt8 := lnB2 [108, 101, 110, 103, 116, 104] (Lib.itoa r.bd.length) ++ lnB2 [100, 105, 103, 101, 115, 116] (digestL r.bd) ++ [13, 10]
def recB (r : Rcd) : List UInt8 := recP r ++ headsB r.hd ++ recQ r ++ r.bd ++ [13, 10, 13, 10]
end Go.Abs
