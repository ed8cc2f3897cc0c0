/- what functions of this program compute: contracts, each a function's own -/
import Derived.Test.YtkpecjbbmadlcaaGreatDoorAbsK3
import Derived.Test.YtkpecjbbmadlcaaGreatDoorAbsFacts
import Derived.Test.YtkpecjbbmadlcaaGreatDoorAbsF2
import Derived.Test.YtkpecjbbmadlcaaGreatDoorAbsShelf
import Derived.Lib.SplitLaws
import Derived.Lib.SlTrimSet
import Derived.Lib.Atoi
import Derived.Lib.Itoa
import Derived.Lib.ItoaNum
import Derived.Lib.ItoaLen
import Derived.Lib.Replace
import Derived.Lib.ReplaceLaws
import Derived.Lib.AtoiErrMem
import Derived.Lib.Overlaps
import Derived.Deep.AppendSrc
import Derived.Laws.NewBlocks
import Derived.WalkKit
import Derived.Lib.Walk
import Derived.Lib.AppendStr
import Derived.Lib.AppendZeros
import Derived.Lib.UnsafeStr
import Derived.Lib.Builder
import Derived.Laws.Externs
import Derived.Lib.Repeat
import Derived.Lib.Join
namespace Go.Abs
open Go Go.Proofs
set_option maxHeartbeats 4000000
set_option maxRecDepth 100000
set_option linter.unusedVariables false
set_option linter.unusedSimpArgs false
/-- a value that stands for a coded thing -/
def isC {α : Type} (c : Cod α) (x : V) : Prop := VLe x (c.enc (c.dec x))
theorem isC_enc {α : Type} (c : Cod α) (a : α) : isC c (c.enc a) := by unfold isC; rw [c.ok]; exact VLe.refl _
/-- strings of heads are not long -/
def hdsOk (l : List Hd) : Prop := ∀ h ∈ l, h.name.length ≤ 140737488355328 ∧ h.value.length ≤ 140737488355328
theorem hdsOk_at {l : List Hd} (h : hdsOk l) {i : Nat} (hi : i < l.length) : (l.getD i ⟨[], []⟩).name.length ≤ 140737488355328 ∧ (l.getD i ⟨[], []⟩).value.length ≤ 140737488355328 := by
  rw [List.getD_eq_getElem?_getD, List.getElem?_eq_getElem hi]; exact h _ (List.getElem_mem hi)
@[push_cast] theorem lsF_hdfl (l : List Hd) (i : Nat) : (lsF cHd l i).flat = [.str (l.getD i ⟨[], []⟩).name, .str (l.getD i ⟨[], []⟩).value] := rfl
/-- an answer -/
structure Ans where
  st : Int
  re : List UInt8
  hd : List Hd
  bd : List UInt8
deriving DecidableEq
def decAns : V → Ans
  | .agg [.int _ st, .str re, .sl n f, .sl m g] => ⟨st, re, lsOf cHd n f, bytesOf m g⟩
  | _ => ⟨0, [], [], []⟩
def cAns : Cod Ans := ⟨fun a => .agg [.int .i64 a.st, .str a.re, .sl a.hd.length (lsF cHd a.hd), .sl a.bd.length (byF a.bd)], decAns, ⟨0, [], [], []⟩, fun a => by simp [decAns, lsOf_ls, bytesOf_by]⟩
@[push_cast] theorem enc_ans (a : Ans) : cAns.enc a = .agg [.int .i64 a.st, .str a.re, .sl a.hd.length (lsF cHd a.hd), .sl a.bd.length (byF a.bd)] := rfl
@[push_cast] theorem dec_ans (k : IntKind) (st : Int) (re : List UInt8) (n m : Nat) (f g : Nat → V) : cAns.dec (.agg [.int k st, .str re, .sl n f, .sl m g]) = ⟨st, re, lsOf cHd n f, bytesOf m g⟩ := rfl
theorem isC_ans {st : Int} {re : List UInt8} {n m : Nat} {f g : Nat → V} (h1 : isLs cHd n f) (h2 : isBy m g) : isC cAns (.agg [.int .i64 st, .str re, .sl n f, .sl m g]) :=
  VLe.agg ⟨VLe.refl _, VLe.refl _, isLs.vle h1, isBy.vle h2, trivial⟩
def ansOk (a : Ans) : Prop := hdsOk a.hd ∧ a.re.length ≤ 140737488355328 ∧ a.hd.length ≤ 140737488355328 ∧ a.bd.length ≤ 140737488355328
theorem reach_le : reachBytes ≤ 140737488355328 := by unfold reachBytes; omega
theorem hasL_cons {s : Sh} {ss : List Sh} {ms : List Nat} {vs : List V} (h : Sh.hasL (s :: ss) ms vs) : ∃ m v ms' vs', vs = v :: vs' ∧ s.has m v ∧ Sh.hasL ss ms' vs' := by
  cases ms with
  | nil => simp [Sh.hasL] at h
  | cons m ms => cases vs with
    | nil => simp [Sh.hasL] at h
    | cons v vs => exact ⟨m, v, ms, vs, rfl, h.1, h.2⟩
theorem hasL_nil {ms : List Nat} {vs : List V} (h : Sh.hasL [] ms vs) : vs = [] := by
  cases ms with
  | nil => cases vs with
    | nil => rfl
    | cons _ _ => simp [Sh.hasL] at h
  | cons _ _ => simp [Sh.hasL] at h
theorem shHead {m : Nat} {v : V} (h : Sh.has (.tup [.str, .str]) m v) : ∃ a, v = cHd.enc a ∧ a.name.length ≤ 140737488355328 ∧ a.value.length ≤ 140737488355328 := by
  obtain ⟨l, ms, rfl, -, hl⟩ := h
  obtain ⟨m1, v1, ms, l, rfl, h1, hl⟩ := hasL_cons hl
  obtain ⟨m2, v2, ms, l, rfl, h2, hl⟩ := hasL_cons hl
  obtain rfl := hasL_nil hl
  obtain ⟨s, rfl, -, b1⟩ := h1
  obtain ⟨t, rfl, -, b2⟩ := h2
  have := reach_le
  exact ⟨⟨s, t⟩, rfl, by show s.length ≤ _; omega, by show t.length ≤ _; omega⟩
theorem shList {α : Type} {c : Cod α} {s : Sh} {p : α → Prop} (hs : ∀ m v, s.has m v → ∃ a, v = c.enc a ∧ p a) {m : Nat} {v : V} (h : Sh.has (.list s) m v) : ∃ (n : Nat) (f : Nat → V), v = .sl n f ∧ isLs c n f ∧ n ≤ 140737488355328 ∧ ∀ a ∈ lsOf c n f, p a := by
  obtain ⟨l, ms, rfl, h1, h2, h3, h4⟩ := h
  have at' : ∀ i, i < l.length → ∃ a, litF l i = c.enc a ∧ p a := fun i hi => hs _ _ (h4 i hi)
  have := reach_le
  refine ⟨_, _, rfl, ⟨by simp [lsOf], fun i hi => ?_⟩, by omega, fun a ha => ?_⟩
  · obtain ⟨a, e, _⟩ := at' i hi
    unfold lsF lsOf
    rw [List.getD_eq_getElem?_getD, List.getElem?_map, List.getElem?_range hi]
    simp only [Option.map_some, Option.getD_some]
    rw [e, c.ok]
  · simp only [lsOf, List.mem_map, List.mem_range] at ha
    obtain ⟨i, hi, rfl⟩ := ha
    obtain ⟨a, e, hp⟩ := at' i hi
    rw [e, c.ok]; exact hp
theorem shStr {m : Nat} {v : V} (h : Sh.has .str m v) : ∃ a, v = cStr.enc a ∧ a.length ≤ 140737488355328 := by
  obtain ⟨s, rfl, -, b⟩ := h
  have := reach_le
  exact ⟨s, rfl, by omega⟩
theorem shAns {m : Nat} {v : V} (h : Sh.has (.tup [.int .i64, .str, .list (.tup [.str, .str]), .list (.int .u8)]) m v) : isC cAns v ∧ ansOk (cAns.dec v) := by
  obtain ⟨l, ms, rfl, -, hl⟩ := h
  obtain ⟨m1, v1, ms, l, rfl, h1, hl⟩ := hasL_cons hl
  obtain ⟨m2, v2, ms, l, rfl, h2, hl⟩ := hasL_cons hl
  obtain ⟨m3, v3, ms, l, rfl, h3, hl⟩ := hasL_cons hl
  obtain ⟨m4, v4, ms, l, rfl, h4, hl⟩ := hasL_cons hl
  obtain rfl := hasL_nil hl
  obtain ⟨st, rfl, _⟩ := shInt h1
  obtain ⟨re, rfl, b2⟩ := shStr h2
  obtain ⟨n, f, rfl, i3, b3, k3⟩ := shList (c := cHd) (fun m v h => shHead h) h3
  obtain ⟨k, g, rfl, i4, b4⟩ := shBytes h4
  have := reach_le
  refine ⟨isC_ans i3 i4, ?_⟩
  show ansOk ⟨st, re, lsOf cHd n f, bytesOf k g⟩
  refine ⟨k3, b2, ?_, ?_⟩
  · show (lsOf cHd n f).length ≤ _
    rw [lsOf_len]; exact b3
  · show (bytesOf k g).length ≤ _
    rw [bytesOf_len]; omega
theorem hasD2 {H : Type} {s1 s2 : Sh} {ds : List (DataW H)} (h : hasD [s1, s2] ds) : ∃ a b, ds = [a, b] ∧ s1.has (bulkD a) (toV a) ∧ s2.has (bulkD b) (toV b) := by
  match ds, h with
  | [a, b], ⟨h1, h2, _⟩ => exact ⟨a, b, rfl, h1, h2⟩
theorem hasD1 {H : Type} {s1 : Sh} {ds : List (DataW H)} (h : hasD [s1] ds) : ∃ a, ds = [a] ∧ s1.has (bulkD a) (toV a) := by
  match ds, h with
  | [a], ⟨h1, _⟩ => exact ⟨a, rfl, h1⟩
theorem hasD4 {H : Type} {s1 s2 s3 s4 : Sh} {ds : List (DataW H)} (h : hasD [s1, s2, s3, s4] ds) : ∃ a b c d, ds = [a, b, c, d] ∧ s1.has (bulkD a) (toV a) ∧ s2.has (bulkD b) (toV b) ∧ s3.has (bulkD c) (toV c) ∧ s4.has (bulkD d) (toV d) := by
  match ds, h with
  | [a, b, c, d], ⟨h1, h2, h3, h4, _⟩ => exact ⟨a, b, c, d, rfl, h1, h2, h3, h4⟩
@[push_cast] theorem isC_ansT (a : Ans) : isC cAns (.agg [.int .i64 a.st, .str a.re, .sl a.hd.length (lsF cHd a.hd), .sl a.bd.length (byF a.bd)]) = True := eq_true (isC_enc cAns a)
@[push_cast] theorem ans_eta (a : Ans) : (⟨a.st, a.re, a.hd, a.bd⟩ : Ans) = a := rfl

/- lists of things as arguments, cell by cell -/
theorem VLe.slV {n : Nat} {f g : Nat → V} (h : ∀ i, i < n → (g i).flat.length = (f i).flat.length ∧ ∀ j, j < (f i).flat.length → VLe ((f i).flat.getD j .any) ((g i).flat.getD j .any) ∧ ((g i).flat.getD j .any).isPure = true) : VLe (.sl n f) (.sl n g) := by
  intro γ imm w v hr
  cases inv_sl (S := ⟨γ, imm, fun _ => none, w⟩) hr with
  | sl0 _ a c => exact .pure (.sl0 _ a c)
  | sl _ _ b off c sz u hb hnc hs hf hc ho hp =>
    refine .pure (.sl n g b off c sz u hb hnc hs (fun i hi => (h i hi).1.trans (hf i hi)) hc ho (fun i j hi hj => ?_))
    have hj' : j < (f i).flat.length := by rw [hf i hi]; exact hj
    obtain ⟨h1, h2⟩ := (h i hi).2 j hj'
    exact isPure_rep (S := ⟨γ, imm, fun _ => none, w⟩) (h1 _ _ _ _ (.pure (hp i j hi hj))) h2
def isLv {α : Type} (c : Cod α) (n : Nat) (f : Nat → V) : Prop := VLe (.sl n f) (.sl (lsOf c n f).length (lsF c (lsOf c n f)))
/-- a thing's cells say what its code says -/
def isE {α : Type} (c : Cod α) (v : V) : Prop := (c.enc (c.dec v)).flat.length = v.flat.length ∧ ∀ j, j < v.flat.length → VLe (v.flat.getD j .any) ((c.enc (c.dec v)).flat.getD j .any) ∧ ((c.enc (c.dec v)).flat.getD j .any).isPure = true
theorem shListE {α : Type} {c : Cod α} {s : Sh} {p : α → Prop} (hs : ∀ m v, s.has m v → isE c v ∧ p (c.dec v)) {m : Nat} {v : V} (h : Sh.has (.list s) m v) : ∃ (n : Nat) (f : Nat → V), v = .sl n f ∧ isLv c n f ∧ n ≤ 140737488355328 ∧ ∀ a ∈ lsOf c n f, p a := by
  obtain ⟨l, ms, rfl, h1, h2, h3, h4⟩ := h
  have := reach_le
  refine ⟨_, _, rfl, ?_, by omega, fun a ha => ?_⟩
  · unfold isLv
    rw [lsOf_len]
    refine VLe.slV fun i hi => ?_
    have hE := (hs _ _ (h4 i hi)).1
    have e2 : lsF c (lsOf c l.length (litF l)) i = c.enc (c.dec (litF l i)) := by
      unfold lsF lsOf
      rw [List.getD_eq_getElem?_getD, List.getElem?_map, List.getElem?_range hi]; rfl
    rw [e2]
    exact hE
  · simp only [lsOf, List.mem_map, List.mem_range] at ha
    obtain ⟨i, hi, rfl⟩ := ha
    exact (hs _ _ (h4 i hi)).2

/- what sites permit -/
structure Rul where
  al : Bool
  pa : List UInt8
deriving DecidableEq
def noRul : Rul := ⟨false, []⟩
def decRul : V → Rul
  | .agg [.bool a, .str p] => ⟨a, p⟩
  | _ => noRul
def cRul : Cod Rul := ⟨fun r => .agg [.bool r.al, .str r.pa], decRul, noRul, fun _ => rfl⟩
@[push_cast] theorem enc_rul (r : Rul) : cRul.enc r = .agg [.bool r.al, .str r.pa] := rfl
@[push_cast] theorem dec_rul (a : Bool) (p : List UInt8) : cRul.dec (.agg [.bool a, .str p]) = ⟨a, p⟩ := rfl
@[push_cast] theorem lsF_rul (l : List Rul) (i : Nat) : lsF cRul l i = .agg [.bool (l.getD i noRul).al, .str (l.getD i noRul).pa] := rfl
structure Grp where
  ag : List (List UInt8)
  ru : List Rul
  de : Int
deriving DecidableEq
def noGrp : Grp := ⟨[], [], 0⟩
def decGrp : V → Grp
  | .agg [.sl n f, .sl m g, .int _ d] => ⟨lsOf cStr n f, lsOf cRul m g, d⟩
  | _ => noGrp
def cGrp : Cod Grp := ⟨fun g => .agg [.sl g.ag.length (lsF cStr g.ag), .sl g.ru.length (lsF cRul g.ru), .int .i64 g.de], decGrp, noGrp, fun g => by simp [decGrp, lsOf_ls]⟩
@[push_cast] theorem enc_grp (g : Grp) : cGrp.enc g = .agg [.sl g.ag.length (lsF cStr g.ag), .sl g.ru.length (lsF cRul g.ru), .int .i64 g.de] := rfl
@[push_cast] theorem dec_grp (n m : Nat) (f g : Nat → V) (k : IntKind) (d : Int) : cGrp.dec (.agg [.sl n f, .sl m g, .int k d]) = ⟨lsOf cStr n f, lsOf cRul m g, d⟩ := rfl
@[push_cast] theorem lsF_grp (l : List Grp) (i : Nat) : lsF cGrp l i = .agg [.sl (l.getD i noGrp).ag.length (lsF cStr (l.getD i noGrp).ag), .sl (l.getD i noGrp).ru.length (lsF cRul (l.getD i noGrp).ru), .int .i64 (l.getD i noGrp).de] := rfl
structure Rob where
  gr : List Grp
  ma : List (List UInt8)
deriving DecidableEq
def noRob : Rob := ⟨[], []⟩
def decRob : V → Rob
  | .agg [.sl n f, .sl m g] => ⟨lsOf cGrp n f, lsOf cStr m g⟩
  | _ => noRob
def cRob : Cod Rob := ⟨fun r => .agg [.sl r.gr.length (lsF cGrp r.gr), .sl r.ma.length (lsF cStr r.ma)], decRob, noRob, fun r => by simp [decRob, lsOf_ls]⟩
@[push_cast] theorem enc_rob (r : Rob) : cRob.enc r = .agg [.sl r.gr.length (lsF cGrp r.gr), .sl r.ma.length (lsF cStr r.ma)] := rfl
@[push_cast] theorem dec_rob (n m : Nat) (f g : Nat → V) : cRob.dec (.agg [.sl n f, .sl m g]) = ⟨lsOf cGrp n f, lsOf cStr m g⟩ := rfl
@[push_cast] theorem isC_robT (r : Rob) : isC cRob (.agg [.sl r.gr.length (lsF cGrp r.gr), .sl r.ma.length (lsF cStr r.ma)]) = True := eq_true (isC_enc cRob r)
@[push_cast] theorem isC_grpT (g : Grp) : isC cGrp (.agg [.sl g.ag.length (lsF cStr g.ag), .sl g.ru.length (lsF cRul g.ru), .int .i64 g.de]) = True := eq_true (isC_enc cGrp g)
@[push_cast] theorem rob_eta (r : Rob) : (⟨r.gr, r.ma⟩ : Rob) = r := rfl
@[push_cast] theorem grp_eta (g : Grp) : (⟨g.ag, g.ru, g.de⟩ : Grp) = g := rfl
structure Rdg where
  at' : Int
  st : Int
  ro : Rob
deriving DecidableEq
def noRdg : Rdg := ⟨0, 0, noRob⟩
def decRdg : V → Rdg
  | .agg [.int _ a, .int _ s, .sl n f, .sl m g] => ⟨a, s, ⟨lsOf cGrp n f, lsOf cStr m g⟩⟩
  | _ => noRdg
def cRdg : Cod Rdg := ⟨fun r => .agg [.int .i64 r.at', .int .i64 r.st, .sl r.ro.gr.length (lsF cGrp r.ro.gr), .sl r.ro.ma.length (lsF cStr r.ro.ma)], decRdg, noRdg, fun r => by simp [decRdg, lsOf_ls]⟩
@[push_cast] theorem lsF_rdg (l : List Rdg) (i : Nat) : lsF cRdg l i = .agg [.int .i64 (l.getD i noRdg).at', .int .i64 (l.getD i noRdg).st, .sl (l.getD i noRdg).ro.gr.length (lsF cGrp (l.getD i noRdg).ro.gr), .sl (l.getD i noRdg).ro.ma.length (lsF cStr (l.getD i noRdg).ro.ma)] := rfl
/- what arguments are -/
def rulOk (r : Rul) : Prop := r.pa.length ≤ 140737488355328
def grpOk (g : Grp) : Prop := g.ag.length ≤ 140737488355328 ∧ (∀ s ∈ g.ag, s.length ≤ 140737488355328) ∧ g.ru.length ≤ 140737488355328 ∧ (∀ r ∈ g.ru, rulOk r) ∧ -9223372036854775808 ≤ g.de ∧ g.de ≤ 9223372036854775807
def robOk (r : Rob) : Prop := r.gr.length ≤ 140737488355328 ∧ (∀ g ∈ r.gr, grpOk g) ∧ r.ma.length ≤ 140737488355328 ∧ ∀ s ∈ r.ma, s.length ≤ 140737488355328
def rdgOk (r : Rdg) : Prop := -9223372036854775808 ≤ r.at' ∧ r.at' ≤ 9223372036854775807 ∧ -9223372036854775808 ≤ r.st ∧ r.st ≤ 9223372036854775807 ∧ robOk r.ro
abbrev sRul : Sh := .tup [.bool, .str]
abbrev sGrp : Sh := .tup [.list .str, .list sRul, .int .i64]
abbrev sRob : Sh := .tup [.list sGrp, .list .str]
abbrev sRdg : Sh := .tup [.int .i64, .int .i64, sRob]
theorem shBoolE {m : Nat} {v : V} (h : Sh.has .bool m v) : ∃ b, v = .bool b := by
  obtain ⟨b, e, _⟩ := h
  exact ⟨b, e⟩
theorem shRul {m : Nat} {v : V} (h : Sh.has sRul m v) : ∃ a, v = cRul.enc a ∧ rulOk a := by
  obtain ⟨l, ms, rfl, -, hl⟩ := h
  obtain ⟨m1, v1, ms, l, rfl, h1, hl⟩ := hasL_cons hl
  obtain ⟨m2, v2, ms, l, rfl, h2, hl⟩ := hasL_cons hl
  obtain rfl := hasL_nil hl
  obtain ⟨b, rfl⟩ := shBoolE h1
  obtain ⟨p, rfl, b2⟩ := shStr h2
  exact ⟨⟨b, p⟩, rfl, b2⟩
theorem shGrp {m : Nat} {v : V} (h : Sh.has sGrp m v) : isE cGrp v ∧ grpOk (cGrp.dec v) := by
  obtain ⟨l, ms, rfl, -, hl⟩ := h
  obtain ⟨m1, v1, ms, l, rfl, h1, hl⟩ := hasL_cons hl
  obtain ⟨m2, v2, ms, l, rfl, h2, hl⟩ := hasL_cons hl
  obtain ⟨m3, v3, ms, l, rfl, h3, hl⟩ := hasL_cons hl
  obtain rfl := hasL_nil hl
  obtain ⟨n, f, rfl, i1, b1, k1⟩ := shList (c := cStr) (fun m v h => shStr h) h1
  obtain ⟨k, g, rfl, i2, b2, k2⟩ := shList (c := cRul) (fun m v h => shRul h) h2
  obtain ⟨d, rfl, c3⟩ := shInt h3
  simp only [Lit.wf, Bool.and_eq_true, decide_eq_true_eq] at c3
  refine ⟨⟨rfl, fun j hj => ?_⟩, by show (lsOf cStr n f).length ≤ _; rw [lsOf_len]; exact b1, k1, by show (lsOf cRul k g).length ≤ _; rw [lsOf_len]; exact b2, k2, c3.1, c3.2⟩
  match j, hj with
  | 0, _ => exact ⟨isLs.vle i1, rfl⟩
  | 1, _ => exact ⟨isLs.vle i2, rfl⟩
  | 2, _ => exact ⟨VLe.refl _, rfl⟩
theorem shRobX {m : Nat} {v : V} (h : Sh.has sRob m v) : ∃ n f k g, v = .agg [.sl n f, .sl k g] ∧ isLv cGrp n f ∧ isLs cStr k g ∧ robOk ⟨lsOf cGrp n f, lsOf cStr k g⟩ := by
  obtain ⟨l, ms, rfl, -, hl⟩ := h
  obtain ⟨m1, v1, ms, l, rfl, h1, hl⟩ := hasL_cons hl
  obtain ⟨m2, v2, ms, l, rfl, h2, hl⟩ := hasL_cons hl
  obtain rfl := hasL_nil hl
  obtain ⟨n, f, rfl, i1, b1, k1⟩ := shListE (c := cGrp) (p := grpOk) (fun m v h => shGrp h) h1
  obtain ⟨k, g, rfl, i2, b2, k2⟩ := shList (c := cStr) (fun m v h => shStr h) h2
  exact ⟨n, f, k, g, rfl, i1, i2, by show (lsOf cGrp n f).length ≤ _; rw [lsOf_len]; exact b1, k1, by show (lsOf cStr k g).length ≤ _; rw [lsOf_len]; exact b2, k2⟩
theorem shRob {m : Nat} {v : V} (h : Sh.has sRob m v) : VLe v (cRob.enc (cRob.dec v)) ∧ robOk (cRob.dec v) := by
  obtain ⟨n, f, k, g, rfl, i1, i2, ok⟩ := shRobX h
  exact ⟨VLe.agg ⟨i1, isLs.vle i2, trivial⟩, ok⟩
theorem shRdg {m : Nat} {v : V} (h : Sh.has sRdg m v) : isE cRdg v ∧ rdgOk (cRdg.dec v) := by
  obtain ⟨l, ms, rfl, -, hl⟩ := h
  obtain ⟨m1, v1, ms, l, rfl, h1, hl⟩ := hasL_cons hl
  obtain ⟨m2, v2, ms, l, rfl, h2, hl⟩ := hasL_cons hl
  obtain ⟨m3, v3, ms, l, rfl, h3, hl⟩ := hasL_cons hl
  obtain rfl := hasL_nil hl
  obtain ⟨a, rfl, c1⟩ := shInt h1
  obtain ⟨s, rfl, c2⟩ := shInt h2
  obtain ⟨n, f, k, g, rfl, i1, i2, ok⟩ := shRobX h3
  simp only [Lit.wf, Bool.and_eq_true, decide_eq_true_eq] at c1 c2
  refine ⟨⟨rfl, fun j hj => ?_⟩, c1.1, c1.2, c2.1, c2.2, ok⟩
  match j, hj with
  | 0, _ => exact ⟨VLe.refl _, rfl⟩
  | 1, _ => exact ⟨VLe.refl _, rfl⟩
  | 2, _ => exact ⟨i1, rfl⟩
  | 3, _ => exact ⟨isLs.vle i2, rfl⟩
theorem shAdr {m : Nat} {v : V} (h : Sh.has (.tup [.str, .str, .str, .str, .str, .bool, .str, .bool]) m v) : ∃ a, v = cAdr.enc a ∧ a.sc.length ≤ 140737488355328 ∧ a.ho.length ≤ 140737488355328 ∧ a.po.length ≤ 140737488355328 ∧ a.pa.length ≤ 140737488355328 ∧ a.qu.length ≤ 140737488355328 ∧ a.fr.length ≤ 140737488355328 := by
  obtain ⟨l, ms, rfl, -, hl⟩ := h
  obtain ⟨m1, v1, ms, l, rfl, h1, hl⟩ := hasL_cons hl
  obtain ⟨m2, v2, ms, l, rfl, h2, hl⟩ := hasL_cons hl
  obtain ⟨m3, v3, ms, l, rfl, h3, hl⟩ := hasL_cons hl
  obtain ⟨m4, v4, ms, l, rfl, h4, hl⟩ := hasL_cons hl
  obtain ⟨m5, v5, ms, l, rfl, h5, hl⟩ := hasL_cons hl
  obtain ⟨m6, v6, ms, l, rfl, h6, hl⟩ := hasL_cons hl
  obtain ⟨m7, v7, ms, l, rfl, h7, hl⟩ := hasL_cons hl
  obtain ⟨m8, v8, ms, l, rfl, h8, hl⟩ := hasL_cons hl
  obtain rfl := hasL_nil hl
  obtain ⟨a1, rfl, b1⟩ := shStr h1
  obtain ⟨a2, rfl, b2⟩ := shStr h2
  obtain ⟨a3, rfl, b3⟩ := shStr h3
  obtain ⟨a4, rfl, b4⟩ := shStr h4
  obtain ⟨a5, rfl, b5⟩ := shStr h5
  obtain ⟨a6, rfl⟩ := shBoolE h6
  obtain ⟨a7, rfl, b7⟩ := shStr h7
  obtain ⟨a8, rfl⟩ := shBoolE h8
  exact ⟨⟨a1, a2, a3, a4, a5, a6, a7, a8⟩, rfl, b1, b2, b3, b4, b5, b7⟩
/- the errors -/
def agB (c : UInt8) : Bool := decide (97 ≤ c.toNat ∧ c.toNat ≤ 122) || decide (48 ≤ c.toNat ∧ c.toNat ≤ 57) || decide (c.toNat = 45) || decide (c.toNat = 95)
def agentL (s : List UInt8) : Bool := s == [42] || (decide (1 ≤ s.length) && decide (s.length ≤ 40) && s.all agB)
def checkGrpL (g : Grp) : Int :=
  if g.ag.length = 0 then 9 else if 50 < g.ag.length then 16 else if g.ag.all agentL = false then 5 else if 200 < g.ru.length then 16 else if (g.ru.all fun r => patOk r.pa) = false then 3 else if g.de < -1 ∨ 99999 < g.de then 1 else 0
def grpsE : List Grp → Int
  | [] => 0
  | g :: t => if checkGrpL g = 0 then grpsE t else checkGrpL g
def adrB (s : List UInt8) : Bool := decide ((readA s).2.2 = 0)
def checkRobL (r : Rob) : Int := if 100 < r.gr.length then 16 else if grpsE r.gr = 0 then (if 100 < r.ma.length then 16 else if r.ma.all adrB = true then 0 else 3) else grpsE r.gr
def isRulS (n : Int) : Bool := decide (200 ≤ n) && decide (n ≤ 299)
def isAllS (n : Int) : Bool := decide (400 ≤ n) && decide (n ≤ 499)
def rdgE (x : Rdg) : Int :=
  if ¬ (0 ≤ x.at' ∧ x.at' ≤ 253402300799) ∨ (x.st ≠ 0 ∧ (x.st < 100 ∨ 599 < x.st)) then 1
  else if isRulS x.st = false ∧ 0 < x.ro.gr.length + x.ro.ma.length then 3
  else checkRobL x.ro
def rdgsGo : Int → List Rdg → Int
  | _, [] => 0
  | p, x :: t => if rdgE x = 0 then (if x.at' < p then 8 else rdgsGo x.at' t) else rdgE x
def checkRdgs (l : List Rdg) : Int := if 500 < l.length then 2 else rdgsGo (-1) l
def askE (l : List Rdg) (age at' : Int) : Int := if checkRdgs l = 0 then (if 1 ≤ age ∧ age ≤ 100000000 ∧ 0 ≤ at' ∧ at' ≤ 253402300799 then 0 else 1) else checkRdgs l
/- what holds -/
def saysB (x : Rdg) : Bool := isRulS x.st || isAllS x.st
def lastN (l : List Rdg) (at' : Int) : Nat := (l.takeWhile fun x => decide (x.at' ≤ at')).length
/-- the last one that says something -/
def goodI : List Rdg → Nat → Int
  | _, 0 => -1
  | l, n + 1 => if saysB (l.getD n noRdg) = true then (n : Int) else goodI l n
def standL (l : List Rdg) (age at' : Int) : Int × Int :=
  if lastN l at' = 0 then (1, -1)
  else if goodI l (lastN l at') < 0 ∨ (goodI l (lastN l at') < (lastN l at' : Int) - 1 ∧ (l.getD (goodI l (lastN l at')).toNat noRdg).at' + age ≤ at') then (4, (lastN l at' : Int) - 1)
  else if isRulS (l.getD (goodI l (lastN l at')).toNat noRdg).st = true then (2, goodI l (lastN l at')) else (3, goodI l (lastN l at'))

/- rows of digits -/
def isDg (c : UInt8) : Bool := decide (48 ≤ c.toNat ∧ c.toNat ≤ 57)
def digs : List UInt8 := [48, 49, 50, 51, 52, 53, 54, 55, 56, 57]
theorem digs_has (c : UInt8) : digs.contains c = isDg c := by
  have key : ∀ n, n < 256 → digs.contains (UInt8.ofNat n) = isDg (UInt8.ofNat n) := by decide +kernel
  have := key c.toNat (UInt8.toNat_lt c)
  simpa using this
theorem dropW_nil {p : UInt8 → Bool} : ∀ {l : List UInt8}, l.dropWhile p = [] ↔ ∀ x ∈ l, p x = true
  | [] => by simp
  | a :: l => by
    rw [List.dropWhile_cons]
    cases h : p a with
    | true => simp only [if_true, dropW_nil, List.mem_cons, forall_eq_or_imp, h, true_and]
    | false => simp [h]
theorem dropW_head {p : UInt8 → Bool} : ∀ {l : List UInt8} {a : UInt8} {t : List UInt8}, l.dropWhile p = a :: t → p a = false
  | [], _, _, h => by simp at h
  | b :: l, a, t, h => by
    rw [List.dropWhile_cons] at h
    cases hb : p b with
    | true => rw [hb] at h; exact dropW_head h
    | false => rw [hb] at h; simp only [Bool.false_eq_true, if_false, List.cons.injEq] at h; rw [← h.1]; exact hb
theorem dropW_sub {p : UInt8 → Bool} : ∀ {l : List UInt8} {x : UInt8}, x ∈ l.dropWhile p → x ∈ l
  | [], _, h => by simp at h
  | b :: l, x, h => by
    rw [List.dropWhile_cons] at h
    split at h
    · exact List.mem_cons_of_mem _ (dropW_sub h)
    · exact h
theorem snoc_ind {α : Type} {P : List α → Prop} (h0 : P []) (h : ∀ s c, P s → P (s ++ [c])) (s : List α) : P s := by
  have : ∀ t : List α, P t.reverse := by
    intro t
    induction t with
    | nil => exact h0
    | cons a t ih => rw [List.reverse_cons]; exact h _ _ ih
  simpa using this s.reverse
theorem trimS_nil (s cs : List UInt8) : Lib.trimS s cs = [] ↔ s.all (cs.contains ·) = true := by
  unfold Lib.trimS Lib.trimLeftS Lib.trimRightS
  rw [dropW_nil, List.all_eq_true]
  constructor
  · intro h x hx
    have hr : s.reverse.dropWhile (fun x => cs.contains x) = [] := by
      cases hd : s.reverse.dropWhile (fun x => cs.contains x) with
      | nil => rfl
      | cons a t =>
        have h1 := dropW_head hd
        have h2 := h a (by rw [hd]; simp)
        rw [h1] at h2; cases h2
    rw [dropW_nil] at hr
    exact hr x (by simpa using hx)
  · intro h x hx
    exact h x (by have := dropW_sub (by simpa using hx); simpa using this)
theorem trim_dig (s : List UInt8) : Lib.trimS s digs = [] ↔ s.all isDg = true := by
  rw [trimS_nil]
  have : (fun x => digs.contains x) = isDg := funext digs_has
  rw [this]
def natOf (s : List UInt8) : Nat := s.foldl (fun a c => a * 10 + (c.toNat - 48)) 0
theorem natOf_snoc (s : List UInt8) (c : UInt8) : natOf (s ++ [c]) = natOf s * 10 + (c.toNat - 48) := by simp [natOf, List.foldl_append]
theorem decFrom_dig : ∀ (s : List UInt8) (a : Nat), s.all isDg = true → Lib.decFrom a s = some (s.foldl (fun a c => a * 10 + (c.toNat - 48)) a)
  | [], a, _ => rfl
  | c :: s, a, h => by
    simp only [List.all_cons, Bool.and_eq_true] at h
    have hc : 48 ≤ c.toNat ∧ c.toNat ≤ 57 := of_decide_eq_true h.1
    simp only [Lib.decFrom, Lib.digitVal, if_pos hc, List.foldl_cons]
    exact decFrom_dig s _ h.2
theorem atoi_dig {s : List UInt8} (h0 : s ≠ []) (h : s.all isDg = true) : Lib.atoi s = some (natOf s : Int) := by
  cases s with
  | nil => exact absurd rfl h0
  | cons c s =>
    have hc : 48 ≤ c.toNat ∧ c.toNat ≤ 57 := of_decide_eq_true (by simp only [List.all_cons, Bool.and_eq_true] at h; exact h.1)
    have h1 : (c == 45) = false := by
      simp only [beq_eq_false_iff_ne]; intro e; subst e; revert hc; decide
    have h2 : (c == 43) = false := by
      simp only [beq_eq_false_iff_ne]; intro e; subst e; revert hc; decide
    unfold Lib.atoi
    simp only [h1, h2, Bool.false_eq_true, if_false]
    unfold Lib.decNat
    simp only [List.isEmpty_cons, Bool.false_eq_true, if_false]
    rw [decFrom_dig _ _ h]
    rfl
theorem natOf_lt (s : List UInt8) : s.all isDg = true → natOf s < 10 ^ s.length := by
  refine snoc_ind (P := fun s => s.all isDg = true → natOf s < 10 ^ s.length) (fun _ => by simp [natOf]) (fun s c ih h => ?_) s
  simp only [List.all_append, List.all_cons, List.all_nil, Bool.and_true, Bool.and_eq_true] at h
  have hc : 48 ≤ c.toNat ∧ c.toNat ≤ 57 := of_decide_eq_true h.2
  have := ih h.1
  rw [natOf_snoc, List.length_append, List.length_singleton, Nat.pow_succ]
  omega
/-- digits, from 1 to n of them, without a needless 0 -/
def digL (s : List UInt8) (n : Int) : Bool := decide (1 ≤ s.length) && decide ((s.length : Int) ≤ n) && s.all isDg && (decide (s.getD 0 0 ≠ 48) || s == [48])
theorem itoa_nat (n : Nat) : Lib.itoa (n : Int) = Lib.decDigits n := by unfold Lib.itoa; rw [if_neg (by omega)]; simp
theorem dec_step {n : Nat} (h : 10 ≤ n) : Lib.decDigits n = Lib.decDigits (n / 10) ++ [UInt8.ofNat (48 + n % 10)] := by
  rw [Lib.decDigits, dif_neg (by omega)]
theorem dec_small {n : Nat} (h : n < 10) : Lib.decDigits n = [UInt8.ofNat (48 + n)] := by
  rw [Lib.decDigits, dif_pos h]
theorem natOf_pos {s : List UInt8} (h : s.all isDg = true) (h0 : 1 ≤ s.length) (h1 : s.getD 0 0 ≠ 48) : 1 ≤ natOf s := by
  revert h h0 h1
  refine snoc_ind (P := fun s => s.all isDg = true → 1 ≤ s.length → s.getD 0 0 ≠ 48 → 1 ≤ natOf s) (fun _ h => by simp at h) (fun s c ih h _ h1 => ?_) s
  simp only [List.all_append, List.all_cons, List.all_nil, Bool.and_true, Bool.and_eq_true] at h
  have hc : 48 ≤ c.toNat ∧ c.toNat ≤ 57 := of_decide_eq_true h.2
  rw [natOf_snoc]
  cases s with
  | nil =>
    simp only [List.nil_append, List.getD_cons_zero] at h1
    have : c.toNat ≠ 48 := fun e => h1 (UInt8.toNat_inj.1 e)
    omega
  | cons a s =>
    have := ih h.1 (by simp) (by simpa using h1)
    omega
/-- a number's digits are written as they were read -/
theorem dec_natOf {s : List UInt8} (h : s.all isDg = true) (h0 : 1 ≤ s.length) (h1 : s.getD 0 0 ≠ 48 ∨ s.length = 1) : Lib.decDigits (natOf s) = s := by
  revert h h0 h1
  refine snoc_ind (P := fun s => s.all isDg = true → 1 ≤ s.length → (s.getD 0 0 ≠ 48 ∨ s.length = 1) → Lib.decDigits (natOf s) = s) (fun _ h => by simp at h) (fun s c ih h _ h1 => ?_) s
  simp only [List.all_append, List.all_cons, List.all_nil, Bool.and_true, Bool.and_eq_true] at h
  have hc : 48 ≤ c.toNat ∧ c.toNat ≤ 57 := of_decide_eq_true h.2
  have hcc : UInt8.ofNat (48 + (c.toNat - 48)) = c := by rw [show 48 + (c.toNat - 48) = c.toNat by omega]; simp
  rw [natOf_snoc]
  cases s with
  | nil =>
    simp only [natOf, List.foldl_nil, Nat.zero_mul, Nat.zero_add, List.nil_append]
    rw [dec_small (by omega), hcc]
  | cons a s =>
    have h48 : (a :: s).getD 0 0 ≠ 48 := by
      rcases h1 with h1 | h1
      · simpa using h1
      · simp at h1
    have hp := natOf_pos h.1 (by simp) h48
    rw [dec_step (by omega), show (natOf (a :: s) * 10 + (c.toNat - 48)) / 10 = natOf (a :: s) by omega, show (natOf (a :: s) * 10 + (c.toNat - 48)) % 10 = c.toNat - 48 by omega, hcc, ih h.1 (by simp) (.inl h48)]
theorem dec_dig (n : Nat) : (Lib.decDigits n).all isDg = true ∧ natOf (Lib.decDigits n) = n ∧ 1 ≤ (Lib.decDigits n).length ∧ ((Lib.decDigits n).getD 0 0 ≠ 48 ∨ (Lib.decDigits n).length = 1) ∧ (10 ≤ n → (Lib.decDigits n).getD 0 0 ≠ 48) := by
  have one : ∀ m, m < 10 → isDg (UInt8.ofNat (48 + m)) = true ∧ (UInt8.ofNat (48 + m)).toNat = 48 + m := fun m hm => by
    have e : (UInt8.ofNat (48 + m)).toNat = 48 + m := by rw [UInt8.toNat_ofNat']; omega
    exact ⟨decide_eq_true (by omega), e⟩
  induction n using Nat.strongRecOn with
  | _ n ih =>
    by_cases h : n < 10
    · rw [dec_small h]
      obtain ⟨a, b⟩ := one n h
      refine ⟨by simp only [List.all_cons, a, List.all_nil, Bool.and_true], by simp only [natOf, List.foldl_cons, List.foldl_nil, b]; omega, by simp, .inr rfl, fun h => by omega⟩
    · rw [dec_step (by omega)]
      obtain ⟨a, b⟩ := one (n % 10) (by omega)
      obtain ⟨i1, i2, i3, i4, i5⟩ := ih (n / 10) (by omega)
      have hg : (Lib.decDigits (n / 10)).getD 0 0 ≠ 48 := by
        by_cases h10 : n / 10 < 10
        · rw [dec_small h10]
          simp only [List.getD_cons_zero]
          intro e
          have := congrArg UInt8.toNat e
          rw [(one (n / 10) h10).2] at this
          have : (48 : UInt8).toNat = 48 := rfl
          omega
        · exact i5 (by omega)
      have hg2 : (Lib.decDigits (n / 10) ++ [UInt8.ofNat (48 + n % 10)]).getD 0 0 ≠ 48 := by
        cases hd : Lib.decDigits (n / 10) with
        | nil => rw [hd] at i3; simp at i3
        | cons x t => rw [hd] at hg; simpa using hg
      refine ⟨by simp only [List.all_append, i1, List.all_cons, a, List.all_nil, Bool.and_true], by rw [natOf_snoc, i2, b]; omega, by simp, .inl hg2, fun _ => hg2⟩
theorem dec_len : ∀ (k n : Nat), n < 10 ^ (k + 1) → (Lib.decDigits n).length ≤ k + 1
  | 0, n, h => by rw [dec_small (by omega)]; simp
  | k + 1, n, h => by
    by_cases h1 : n < 10
    · rw [dec_small h1]; simp
    · rw [dec_step (by omega)]
      have := dec_len k (n / 10) (by rw [Nat.pow_succ] at h; omega)
      simp; omega

theorem isAt_iff (s : List UInt8) (a c : Nat) : isAt s a c = true ↔ a < s.length ∧ (s.getD a 0).toNat = c := by
  unfold isAt; rw [Bool.and_eq_true, decide_eq_true_eq, decide_eq_true_eq]
def ckHostEnd : Ck
  | [.str s] => some (s.length ≤ 4611686018427387900, .int .i64 (runN hostB s))
  | _ => none
theorem conHostEnd : Con pg 78 ckHostEnd := by
  have hct := (ctA_ok conIsLet (ctA_ok conIsDig (ctN_ok _)))
  intro args q r h hq
  unfold ckHostEnd at h
  split at h
  · cases h
    rename_i s
    refine w78 (fun _ => false) [] rfl hct rfl rfl ?_
    push_cast (config := { maxSteps := 10000000 })
    refine LoopW.adj ⟨hct, fol⟩ (by kernel_rfl) [] (fun i : Nat => [(0, .str s), (3, .int .i64 i)]) (fun _ => []) (fun i => i ≤ s.length ∧ ∀ j, j < i → hostB (s.getD j 0) = true) (fun i => s.length - i) 0 ?_ fun i hi => ?_
    · push_cast (config := { maxSteps := 10000000 })
      exact Nat.zero_le _
    · push_cast (config := { maxSteps := 10000000 })
      obtain ⟨h1, h2⟩ := hi
      have hb : hostB (s.getD i 0) = true ↔ ((isLet ((s.getD i 0).toNat : Int) = true ∨ isDig ((s.getD i 0).toNat : Int) = true) ∨ ((s.getD i 0).toNat : Int) = 45) ∨ ((s.getD i 0).toNat : Int) = 46 := by
        unfold hostB
        simp only [Bool.or_eq_true, decide_eq_true_eq]
        have e5 : ((s.getD i 0).toNat : Int) = 45 ↔ (s.getD i 0).toNat = 45 := by omega
        have e6 : ((s.getD i 0).toNat : Int) = 46 ↔ (s.getD i 0).toNat = 46 := by omega
        rw [e5, e6]
      refine ⟨fun h => ⟨h, h.1⟩, fun h => ⟨h, fun x => ⟨h, x⟩⟩, fun h => ⟨h, h.1⟩, fun h => ⟨h, fun x => ⟨h, x⟩⟩, fun h => ⟨h, h.1⟩, fun h => ⟨h, fun x => ⟨h, x⟩⟩, fun h => ?_, fun h => ?_⟩
      · have hc := hb.2 h.2
        refine ⟨⟨by omega, by omega⟩, i + 1, ⟨by omega, fun j hj => ?_⟩, by omega, by omega⟩
        by_cases e : j = i
        · subst e; exact hc
        · exact h2 j (by omega)
      · rw [runN_at h1 h2 fun hlt => ?_]
        have := h hlt
        cases hc : hostB (s.getD i 0) with
        | false => rfl
        | true =>
          rcases hb.1 hc with ((x | x) | x) | x
          · rw [this.1.1.1] at x; cases x
          · rw [this.1.1.2] at x; cases x
          · exact absurd x this.1.2
          · exact absurd x this.2
  · cases h
attribute [push_cast] ckHostEnd
theorem dig_dg (s : List UInt8) : s.all digB = s.all isDg := by
  congr 1
  funext c
  have key : ∀ n, n < 256 → digB (UInt8.ofNat n) = isDg (UInt8.ofNat n) := by decide +kernel
  have := key c.toNat (UInt8.toNat_lt c)
  simpa using this
def ckPortOf : Ck
  | [.str s] => some (s.length ≤ 4611686018427387900, .int .i64 (portN s))
  | _ => none
theorem conPortOf : Con pg 82 ckPortOf := by
  have hct := (ctA_ok conTrim (ctN_ok _))
  intro args q r h hq
  unfold ckPortOf at h
  split at h
  · cases h
    rename_i s
    refine w82 (fun _ => false) [] rfl hct rfl rfl ?_
    push_cast (config := { maxSteps := 10000000 })
    have e := trim_dig s
    unfold digs at e
    rw [← dig_dg] at e
    refine ⟨fun h => ⟨h, by omega⟩, fun h => ?_, fun h => ?_⟩
    · unfold portN
      rw [if_neg fun x => ?_]
      rcases h with h | h
      · omega
      · exact h (e.2 x.2.2.1)
    have ha := e.1 h.2
    have hd : ∀ j, j < s.length → 48 ≤ (s.getD j 0).toNat ∧ (s.getD j 0).toNat ≤ 57 := fun j hj => by
      have := List.all_eq_true.1 ha (s.getD j 0) (by rw [List.getD_eq_getElem?_getD, List.getElem?_eq_getElem hj]; exact List.getElem_mem hj)
      unfold digB isDig at this
      simp only [Bool.and_eq_true, decide_eq_true_eq] at this
      omega
    have hN : portN s = if portV s ≤ 65535 then portV s else 0 := by
      unfold portN
      by_cases hv : portV s ≤ 65535
      · rw [if_pos ⟨by omega, by omega, ha, hv⟩, if_pos hv]
      · rw [if_neg (fun x => hv x.2.2.2), if_neg hv]
    rw [hN]
    have hS : ∀ i, i < s.length → portV (s.take (i + 1)) = 10 * portV (s.take i) + (((s.getD i 0).toNat : Int) - 48) := fun i hi => by
      rw [takeG (d := 0) hi]
      unfold portV
      rw [List.foldl_append]; rfl
    refine LoopW.adj ⟨hct, fol⟩ (by kernel_rfl) [] (fun i : Nat => [(0, .str s), (3, .int .i64 (portV (s.take i))), (19, .int .i64 s.length), (20, .int .i64 i)]) (fun _ => []) (fun i => i ≤ s.length ∧ 0 ≤ portV (s.take i) ∧ portV (s.take i) < 10 ^ i) (fun i => s.length - i) 0 ?_ fun i hi => ?_
    · push_cast (config := { maxSteps := 10000000 })
      exact ⟨⟨Nat.zero_le _, by decide, by decide⟩, rfl⟩
    · push_cast (config := { maxSteps := 10000000 })
      obtain ⟨h1, h2, h3⟩ := hi
      refine ⟨fun hlt => ?_, fun hge => ?_⟩
      · have hd1 := hd i hlt
        have hs1 := hS i hlt
        have p5 : (10 : Int) ^ i ≤ 10000 := by
          rcases (by omega : i = 0 ∨ i = 1 ∨ i = 2 ∨ i = 3 ∨ i = 4) with rfl | rfl | rfl | rfl | rfl <;> decide
        have e1 : (((s.getD i 0).toNat : Int) - 48) % 256 = ((s.getD i 0).toNat : Int) - 48 := by omega
        rw [e1]
        exact ⟨⟨by omega, by omega⟩, hlt, ⟨by omega, by omega⟩, ⟨by omega, by omega⟩, ⟨by omega, by omega⟩, i + 1, ⟨by omega, by omega, by rw [hs1, Int.pow_succ]; omega⟩, by omega, by rw [hs1], by omega⟩
      · rw [List.take_of_length_le (by omega)]
        exact ⟨fun h => by rw [if_neg (by omega)], fun h => by rw [if_pos (by omega)]⟩
  · cases h
attribute [push_cast] ckPortOf
theorem low1 {s w : List UInt8} {n : Nat} (h1 : n < s.length) (h2 : n < w.length) : lowL ((s.drop n).take 1) = (w.drop n).take 1 ↔ lowB (s.getD n 0) = w.getD n 0 := by
  rw [dropG (d := 0) h1, dropG (d := 0) h2]
  simp [lowL]
def ckScheme : Ck
  | [.str s] => some (s.length ≤ 2000, .tup [.str (if (schL s).1 = true then s.take ((schL s).2 - 3) else []), .int .i64 (schL s).2, .bool (schL s).1])
  | _ => none
theorem conScheme : Con pg 50 ckScheme := by
  have hct := (ctA_ok conSmallA (ctN_ok _))
  intro args q r h hq
  unfold ckScheme at h
  split at h
  · cases h
    rename_i s
    refine w50 (fun _ => false) [] rfl hct rfl rfl ?_
    push_cast (config := { maxSteps := 10000000 })
    refine LoopW.adj ⟨hct, fol⟩ (by kernel_rfl) [] (fun t : Nat × Nat => [(0, .str s), (3, .int .i64 t.2), (8, .sl 2 (litF [.str (wHttp ++ wSep), .str (wHttps ++ wSep)])), (9, .int .i64 2), (10, .int .i64 t.1)]) (fun _ => []) (fun t => (t.1 = 0 ∧ t.2 = 0) ∨ (t.1 = 1 ∧ t.2 = mt s (wHttp ++ wSep) ∧ t.2 ≠ 7) ∨ (t.1 = 2 ∧ schL s = (false, t.2))) (fun t => 2 - t.1) (0, 0) ?_ fun t ht => ?_
    · push_cast (config := { maxSteps := 10000000 })
      intro i _; rfl
    · obtain ⟨i, m⟩ := t
      have e4 : wHttp.length = 4 := rfl
      have e5 : wHttps.length = 5 := rfl
      have e3 : wSep.length = 3 := rfl
      have e7 : (wHttp ++ wSep).length = 7 := rfl
      have e8 : (wHttps ++ wSep).length = 8 := rfl
      rcases ht with ⟨h1, h2⟩ | ⟨h1, hm, h7'⟩ | ⟨h1, hm⟩
      · obtain rfl : i = 0 := h1
        obtain rfl : m = 0 := h2
        push_cast (config := { maxSteps := 10000000 })
        refine LoopW.adj ⟨hct, fol⟩ (by kernel_rfl) [] (fun n : Nat => [(0, .str s), (3, .int .i64 0), (6, .str (wHttp ++ wSep)), (7, .int .i64 n), (8, .sl 2 (litF [.str (wHttp ++ wSep), .str (wHttps ++ wSep)])), (9, .int .i64 2), (10, .int .i64 0)]) (fun _ => []) (fun n => n ≤ s.length ∧ n ≤ 7 ∧ ∀ j, j < n → lowB (s.getD j 0) = (wHttp ++ wSep).getD j 0) (fun n => 7 - n) 0 ?_ fun n hn => ?_
        · push_cast (config := { maxSteps := 10000000 })
          exact Nat.zero_le _
        · push_cast (config := { maxSteps := 10000000 })
          obtain ⟨n1, n2, n3⟩ := hn
          refine ⟨fun h => ⟨h, by omega, by omega⟩, fun h => ⟨h, ⟨by omega, by omega⟩, by omega, by omega⟩, fun h => ⟨h, by omega⟩, fun h => ⟨h, by omega, by omega⟩, fun h => ⟨h, ⟨by omega, by omega⟩, by omega, by omega⟩, fun h => ?_, fun h => ?_⟩
          · have hc := (low1 (w := wHttp ++ wSep) h.1.2 (by omega)).1 h.2
            refine ⟨⟨by omega, by omega⟩, n + 1, ⟨by omega, by omega, fun j hj => ?_⟩, by omega, by omega⟩
            by_cases e : j = n
            · subst e; exact hc
            · exact n3 j (by omega)
          · have hmt : mt s (wHttp ++ wSep) = n := mt_at n1 (by omega) n3 fun a b x => h ⟨by omega, a⟩ ((low1 (w := wHttp ++ wSep) a b).2 x)
            refine ⟨fun h7 => ?_, fun h7 => ?_⟩
            · have hn : n = 7 := by omega
              subst hn
              have hs : schL s = (true, 7) := by unfold schL; rw [if_pos hmt]
              rw [hs]
              exact ⟨⟨by omega, by omega⟩, ⟨⟨by omega, by omega⟩, by omega⟩, rfl, rfl, rfl⟩
            · exact ⟨((1, n) : Nat × Nat), .inr (.inl ⟨rfl, hmt.symm, by omega⟩), by show 2 - 1 < 2; omega, by show max (0 : Int) n = (n : Int); omega, rfl⟩
      · obtain rfl : i = 1 := h1
        have hm : m = mt s (wHttp ++ wSep) := hm
        have h7' : m ≠ 7 := h7'
        push_cast (config := { maxSteps := 10000000 })
        refine LoopW.adj ⟨hct, fol⟩ (by kernel_rfl) [] (fun n : Nat => [(0, .str s), (3, .int .i64 m), (6, .str (wHttps ++ wSep)), (7, .int .i64 n), (8, .sl 2 (litF [.str (wHttp ++ wSep), .str (wHttps ++ wSep)])), (9, .int .i64 2), (10, .int .i64 1)]) (fun _ => []) (fun n => n ≤ s.length ∧ n ≤ 8 ∧ ∀ j, j < n → lowB (s.getD j 0) = (wHttps ++ wSep).getD j 0) (fun n => 8 - n) 0 ?_ fun n hn => ?_
        · push_cast (config := { maxSteps := 10000000 })
          exact Nat.zero_le _
        · push_cast (config := { maxSteps := 10000000 })
          obtain ⟨n1, n2, n3⟩ := hn
          refine ⟨fun h => ⟨h, by omega, by omega⟩, fun h => ⟨h, ⟨by omega, by omega⟩, by omega, by omega⟩, fun h => ⟨h, by omega⟩, fun h => ⟨h, by omega, by omega⟩, fun h => ⟨h, ⟨by omega, by omega⟩, by omega, by omega⟩, fun h => ?_, fun h => ?_⟩
          · have hc := (low1 (w := wHttps ++ wSep) h.1.2 (by omega)).1 h.2
            refine ⟨⟨by omega, by omega⟩, n + 1, ⟨by omega, by omega, fun j hj => ?_⟩, by omega, by omega⟩
            by_cases e : j = n
            · subst e; exact hc
            · exact n3 j (by omega)
          · have hmt : mt s (wHttps ++ wSep) = n := mt_at n1 (by omega) n3 fun a b x => h ⟨by omega, a⟩ ((low1 (w := wHttps ++ wSep) a b).2 x)
            refine ⟨fun h7 => ?_, fun h7 => ?_⟩
            · have hn : n = 8 := by omega
              subst hn
              have hs : schL s = (true, 8) := by unfold schL; rw [if_neg (by rw [← hm]; exact h7'), if_pos hmt]
              rw [hs]
              exact ⟨⟨by omega, by omega⟩, ⟨⟨by omega, by omega⟩, by omega⟩, rfl, rfl, rfl⟩
            · have hs : schL s = (false, max m n) := by unfold schL; rw [if_neg (by rw [← hm]; exact h7'), if_neg (by rw [hmt]; omega), hmt, ← hm]
              exact ⟨((2, max m n) : Nat × Nat), .inr (.inr ⟨rfl, hs⟩), by show 2 - 2 < 1; omega, by show max (m : Int) n = ((max m n : Nat) : Int); omega, rfl⟩
      · obtain rfl : i = 2 := h1
        have hm : schL s = (false, m) := hm
        push_cast (config := { maxSteps := 10000000 })
        rw [hm]
        exact ⟨rfl, rfl, rfl⟩
  · cases h
attribute [push_cast] ckScheme

/- reading what a site permits: line by line (plain) -/
structure RdS where
  cl : List Grp
  op : Bool
  la : Bool
  ag : List (List UInt8)
  ru : List Rul
  de : Int
  ma : List (List UInt8)
def rd0 : RdS := ⟨[], false, false, [], [], 0, []⟩
/-- all groups, the open one too -/
def rdG (x : RdS) : List Grp := if x.op = true then x.cl ++ [⟨x.ag, x.ru, x.de⟩] else x.cl
def rdOpen (x : RdS) : RdS := if x.op = true ∧ x.la = true then x else ⟨rdG x, true, true, [], [], -1, x.ma⟩
def rdAgent (v : List UInt8) (x : RdS) : RdS := if agentL (lowL v) = true then { rdOpen x with ag := (rdOpen x).ag ++ [lowL v] } else rdOpen x
def gN (x : RdS) : Nat := x.cl.length + (bif x.op then 1 else 0)
def opG (A R a r : Nat) (d : Int) : V := .agg [.vec A a, .vec R r, .int .i64 d]
/-- the groups' row -/
def gF (A R : Nat) (x : RdS) : Nat → V := fun j => bif decide (j < x.cl.length) then lsF cGrp x.cl j else opG A R x.ag.length x.ru.length x.de
/-- the reader's blocks -/
def rdH (x : RdS) (A R G M i : Nat) : HL := [(i, .cells [.vec G (gN x), .vec M x.ma.length, .bool x.op, .bool x.la]), (G, .vec 3 (gN x) (gF A R x)), (M, .vec 1 x.ma.length (lsF cStr x.ma)), (A, .vec 1 x.ag.length (lsF cStr x.ag)), (R, .vec 2 x.ru.length (lsF cRul x.ru))]
theorem gF_lo {A R : Nat} {x : RdS} {j : Nat} (h : j < x.cl.length) : gF A R x j = lsF cGrp x.cl j := by unfold gF; rw [decide_eq_true h]; rfl
theorem gF_hi {A R : Nat} {x : RdS} {j : Nat} (h : ¬ j < x.cl.length) : gF A R x j = opG A R x.ag.length x.ru.length x.de := by unfold gF; rw [decide_eq_false h]; rfl
theorem gF_sh (A R : Nat) (x : RdS) : (fun j => V.shift (gF A R x j)) = gF (A + 9000) (R + 9000) x := by
  funext j
  by_cases h : j < x.cl.length
  · rw [gF_lo h, gF_lo h]; rfl
  · rw [gF_hi h, gF_hi h]; rfl
theorem gF_shm (x : RdS) : (fun j => V.shm (gF 8990 8991 x j)) = gF 8990 8991 x := by
  funext j
  by_cases h : j < x.cl.length
  · rw [gF_lo h]; rfl
  · rw [gF_hi h]; rfl
theorem rdH_sh (x : RdS) (A R G M i : Nat) : (rdH x A R G M i).shift = rdH x (A + 9000) (R + 9000) (G + 9000) (M + 9000) (i + 9000) := by
  unfold rdH
  simp only [HL.shift, Blk.shift, gF_sh]
  rfl
theorem rdH_shm (x : RdS) : (rdH x 8990 8991 16002 16003 16004).shm = rdH x 8990 8991 25002 25003 25004 := by
  unfold rdH
  simp only [HL.shm, Blk.shm, gF_shm]
  rfl
theorem rdH_shm7 (x : RdS) : (rdH x 8990 8991 7002 7003 7004).shm = rdH x 8990 8991 16002 16003 16004 := by
  unfold rdH
  simp only [HL.shm, Blk.shm, gF_shm]
  rfl
def crawlW : List UInt8 := [99, 114, 97, 119, 108, 45, 100, 101, 108, 97, 121]
def allowW : List UInt8 := [97, 108, 108, 111, 119]
def disW : List UInt8 := [100, 105, 115, 97, 108, 108, 111, 119]
def uaW : List UInt8 := [117, 115, 101, 114, 45, 97, 103, 101, 110, 116]
def siteW : List UInt8 := [115, 105, 116, 101, 109, 97, 112]
def rdRule (w v : List UInt8) (x : RdS) : RdS :=
  if x.op = false then x
  else if w = crawlW then (if ((1 ≤ v.length ∧ v.length ≤ 5) ∧ v.all isDg = true) ∧ x.de < 0 then { x with la := false, de := (natOf v : Int) } else { x with la := false })
  else if patOk v = true then { x with la := false, ru := x.ru ++ [⟨decide (w = allowW), v⟩] } else { x with la := false }
/-- what a line says: a word and a value -/
def lnW (s : List UInt8) : List UInt8 := lowL (Lib.trimRightS (Lib.cut (Lib.trimS (Lib.cut s [35]).1 [32, 9]) [58]).1 [32, 9])
def lnV (s : List UInt8) : List UInt8 := Lib.trimLeftS (Lib.cut (Lib.trimS (Lib.cut s [35]).1 [32, 9]) [58]).2.1 [32, 9]
def lnB (s : List UInt8) : Bool := (Lib.cut (Lib.trimS (Lib.cut s [35]).1 [32, 9]) [58]).2.2
def rdLine (s : List UInt8) (x : RdS) : RdS :=
  if lnB s = false then x
  else if lnW s = uaW then rdAgent (lnV s) x
  else if lnW s = allowW ∨ lnW s = disW ∨ lnW s = crawlW then rdRule (lnW s) (lnV s) x
  else if lnW s = siteW ∧ (readA (lnV s)).2.2 = 0 then { x with ma := x.ma ++ [lnV s] } else x
/-- what it is worth while: bounds -/
structure RdOk (x : RdS) (n : Nat) : Prop where
  cl : x.cl.length ≤ n
  ag : x.ag.length ≤ n
  ru : x.ru.length ≤ n
  ma : x.ma.length ≤ n
  op : x.op = false → x.cl = [] ∧ x.la = false
theorem rd0_ok : RdOk rd0 0 := ⟨Nat.le_refl _, Nat.le_refl _, Nat.le_refl _, Nat.le_refl _, fun _ => ⟨rfl, rfl⟩⟩
theorem RdOk.up {x : RdS} {n m : Nat} (h : RdOk x n) (hm : n ≤ m) : RdOk x m := ⟨by have := h.cl; omega, by have := h.ag; omega, by have := h.ru; omega, by have := h.ma; omega, h.op⟩
theorem rdG_len (x : RdS) : (rdG x).length = gN x := by
  unfold rdG gN
  cases x.op <;> simp
theorem open_ok {x : RdS} {n : Nat} (h : RdOk x n) : RdOk (rdOpen x) (n + 1) := by
  unfold rdOpen
  split
  · exact h.up (by omega)
  · refine ⟨?_, Nat.zero_le _, Nat.zero_le _, by have := h.ma; show x.ma.length ≤ _; omega, fun h => by cases h⟩
    show (rdG x).length ≤ n + 1
    have := h.cl
    unfold rdG
    split
    · rw [List.length_append, List.length_singleton]; omega
    · omega
theorem line_ok {s : List UInt8} {x : RdS} {n : Nat} (h : RdOk x n) : RdOk (rdLine s x) (n + 2) := by
  have h2 : RdOk x (n + 2) := h.up (by omega)
  have ho : RdOk (rdOpen x) (n + 1) := open_ok h
  unfold rdLine
  split
  · exact h2
  · split
    · unfold rdAgent
      split
      · refine ⟨by have := ho.cl; show (rdOpen x).cl.length ≤ _; omega, ?_, by have := ho.ru; show (rdOpen x).ru.length ≤ _; omega, by have := ho.ma; show (rdOpen x).ma.length ≤ _; omega, ho.op⟩
        show ((rdOpen x).ag ++ [lowL (lnV s)]).length ≤ _
        have := ho.ag
        rw [List.length_append, List.length_singleton]; omega
      · exact ho.up (by omega)
    · split
      · unfold rdRule
        split
        · exact h2
        · rename_i hop
          have hop' : ∀ l : Bool, x.op = false → x.cl = [] ∧ l = false := fun l e => absurd e hop
          split
          · split
            · exact ⟨h2.cl, h2.ag, h2.ru, h2.ma, hop' _⟩
            · exact ⟨h2.cl, h2.ag, h2.ru, h2.ma, hop' _⟩
          · split
            · refine ⟨h2.cl, h2.ag, ?_, h2.ma, hop' _⟩
              show (x.ru ++ [_]).length ≤ _
              have := h.ru
              rw [List.length_append, List.length_singleton]; omega
            · exact ⟨h2.cl, h2.ag, h2.ru, h2.ma, hop' _⟩
      · split
        · refine ⟨h2.cl, h2.ag, h2.ru, ?_, h2.op⟩
          show (x.ma ++ [_]).length ≤ _
          have := h.ma
          rw [List.length_append, List.length_singleton]; omega
        · exact h2
def rdB (x : RdS) (A R G M : Nat) : List Blk := [.cells [.vec G (gN x), .vec M x.ma.length, .bool x.op, .bool x.la], .vec 3 (gN x) (gF A R x), .vec 1 x.ma.length (lsF cStr x.ma), .vec 1 x.ag.length (lsF cStr x.ag), .vec 2 x.ru.length (lsF cRul x.ru)]
theorem gF_in {p : Nat → Bool} {A R : Nat} {x : RdS} (hA : p A = true) (hR : p R = true) (j : Nat) : V.menInL p (gF A R x j).flat = true := by
  by_cases h : j < x.cl.length
  · rw [gF_lo h]; rfl
  · rw [gF_hi h]
    show V.menInL p [.vec A _, .vec R _, .int .i64 _] = true
    simp [V.menInL, V.menIn, hA, hR]
theorem rdH_hl {p : Nat → Bool} {x : RdS} {A R G M i : Nat} (hi : p i = true) (hG : p G = true) (hM : p M = true) (hA : p A = true) (hR : p R = true) : hlIn p (rdH x A R G M i) := by
  refine ⟨hi, ?_, hG, fun j _ => gF_in hA hR j, hM, fun j _ => rfl, hA, fun j _ => rfl, hR, fun j _ => rfl, trivial⟩
  show V.menInL p [.vec G _, .vec M _, .bool _, .bool _] = true
  simp [V.menInL, V.menIn, hG, hM]
theorem gN_op {x : RdS} (h : x.op = true) : gN x = x.cl.length + 1 := by unfold gN; rw [h]; rfl
attribute [push_cast] rdB
@[push_cast] theorem gF_at (A R : Nat) (x : RdS) : gF A R x x.cl.length = .agg [.vec A x.ag.length, .vec R x.ru.length, .int .i64 x.de] := gF_hi (Nat.lt_irrefl _)
theorem gF_ren (x : RdS) (i : Nat) : V.ren 25001 8991 (V.kill 8991 (V.ren 25000 8990 (V.kill 8990 (gF 25000 25001 x i)))) = gF 8990 8991 x i := by
  by_cases h : i < x.cl.length
  · rw [gF_lo h, gF_lo h]; rfl
  · rw [gF_hi h, gF_hi h]; rfl
theorem gF_kl {d A R : Nat} (x : RdS) (h1 : A ≠ d) (h2 : R ≠ d) (j : Nat) : V.kill d (gF A R x j) = gF A R x j := by
  by_cases h : j < x.cl.length
  · rw [gF_lo h]; rfl
  · rw [gF_hi h]
    unfold opG
    have e1 : (A == d) = false := by simpa using h1
    have e2 : (R == d) = false := by simpa using h2
    simp only [V.kill, V.killL, e1, e2, cond_false]
theorem rdH_k6 (x : RdS) : killHL 8990 (killHL 8991 (rdH x 16000 16001 16002 16003 16004)) = rdH x 16000 16001 16002 16003 16004 := by
  have e : (fun j => V.kill 8990 (V.kill 8991 (gF 16000 16001 x j))) = gF 16000 16001 x := by
    funext j
    rw [gF_kl x (by decide) (by decide), gF_kl x (by decide) (by decide)]
  unfold rdH
  show [_, (16002, Blk.vec 3 (gN x) fun j => V.kill 8990 (V.kill 8991 (gF 16000 16001 x j))), _, _, _] = _
  rw [e]
  rfl
theorem rdH_k7 (x : RdS) : killHL 8990 (killHL 8991 (rdH x 7000 7001 7002 7003 7004)) = rdH x 7000 7001 7002 7003 7004 := by
  have e : (fun j => V.kill 8990 (V.kill 8991 (gF 7000 7001 x j))) = gF 7000 7001 x := by
    funext j
    rw [gF_kl x (by decide) (by decide), gF_kl x (by decide) (by decide)]
  unfold rdH
  show [_, (7002, Blk.vec 3 (gN x) fun j => V.kill 8990 (V.kill 8991 (gF 7000 7001 x j))), _, _, _] = _
  rw [e]
  rfl
theorem subH_self (x : RdS) {A R G M i : Nat} (h : [i, G, M, A, R].Nodup) : subH (hOf (rdH x A R G M i)) (rdH x A R G M i) := by
  simp only [List.nodup_cons, List.mem_cons, List.mem_nil_iff, or_false, not_or] at h
  obtain ⟨⟨h1, h2, h3, h4⟩, ⟨h5, h6, h7⟩, ⟨h8, h9⟩, h10, -⟩ := h
  unfold rdH
  simp only [subH, hOf]
  refine ⟨upd_same _ _ _, ?_, ?_, ?_, ?_, trivial⟩
  · rw [upd_ne _ _ (Ne.symm h1), upd_same]
  · rw [upd_ne _ _ (Ne.symm h2), upd_ne _ _ (Ne.symm h5), upd_same]
  · rw [upd_ne _ _ (Ne.symm h3), upd_ne _ _ (Ne.symm h6), upd_ne _ _ (Ne.symm h8), upd_same]
  · rw [upd_ne _ _ (Ne.symm h4), upd_ne _ _ (Ne.symm h7), upd_ne _ _ (Ne.symm h9), upd_ne _ _ (Ne.symm h10), upd_same]
theorem gF_ren6 (x : RdS) (i : Nat) : V.ren 16001 8991 (V.kill 8991 (V.ren 16000 8990 (V.kill 8990 (gF 16000 16001 x i)))) = gF 8990 8991 x i := by
  by_cases h : i < x.cl.length
  · rw [gF_lo h, gF_lo h]; rfl
  · rw [gF_hi h, gF_hi h]; rfl

end Go.Abs
