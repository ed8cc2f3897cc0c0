/- what functions of this program compute: contracts, each a function's own -/
import Derived.Test.YtdinkjgcpkcnaaaGreatDoorAbsK2
import Derived.Test.YtdinkjgcpkcnaaaGreatDoorAbsFacts
import Derived.Test.YtdinkjgcpkcnaaaGreatDoorAbsF2
import Derived.Test.YtdinkjgcpkcnaaaGreatDoorAbsShelf
import Derived.Lib.SplitLaws
import Derived.Lib.SlTrimSet
import Derived.Lib.IndexMore
import Derived.Lib.Atoi
import Derived.Lib.Itoa
import Derived.Lib.ItoaNum
import Derived.Lib.AtoiErrMem
import Derived.Lib.Join
import Derived.Lib.Repeat
import Derived.Lib.ItoaLen
namespace Go.Abs
open Go Go.Proofs
set_option maxHeartbeats 4000000
set_option maxRecDepth 100000
set_option linter.unusedVariables false
set_option linter.unusedSimpArgs false
/- the rules for an agent -/
def agE (r : Rob) (a : List UInt8) : Int := if checkRobL r = 0 then (if agentL a = true ∧ a ≠ [42] then 0 else 5) else checkRobL r
def rulG (G : List Grp) (a : List UInt8) : List Rul := (G.filter fun g => g.ag.contains a).flatMap fun g => g.ru
def delG (G : List Grp) (a : List UInt8) : Int := (G.filter fun g => g.ag.contains a).foldl (fun d g => max d g.de) (-1)
def namG (G : List Grp) (a : List UInt8) : Bool := G.any fun g => g.ag.contains a
def rulesL (r : Rob) (a : List UInt8) : List Rul × Int := if namG r.gr a = true then (rulG r.gr a, delG r.gr a) else (rulG r.gr [42], delG r.gr [42])
theorem take_s {α : Type} (l : List α) (d : α) {i : Nat} (h : i < l.length) : l.take (i + 1) = l.take i ++ [l.getD i d] := by
  rw [List.getD_eq_getElem?_getD, List.getElem?_eq_getElem h, List.take_succ_eq_append_getElem h]; rfl
theorem rulG_s (G : List Grp) (a : List UInt8) {i : Nat} (h : i < G.length) : rulG (G.take (i + 1)) a = if (G.getD i noGrp).ag.contains a = true then rulG (G.take i) a ++ (G.getD i noGrp).ru else rulG (G.take i) a := by
  rw [take_s G noGrp h]
  unfold rulG
  rw [List.filter_append, List.flatMap_append]
  cases hc : (G.getD i noGrp).ag.contains a
  · rw [List.filter_cons_of_neg (by rw [hc]; simp)]; simp
  · rw [List.filter_cons_of_pos (by rw [hc])]; simp
theorem delG_s (G : List Grp) (a : List UInt8) {i : Nat} (h : i < G.length) : delG (G.take (i + 1)) a = if (G.getD i noGrp).ag.contains a = true then max (delG (G.take i) a) (G.getD i noGrp).de else delG (G.take i) a := by
  rw [take_s G noGrp h]
  unfold delG
  rw [List.filter_append, List.foldl_append]
  cases hc : (G.getD i noGrp).ag.contains a
  · rw [List.filter_cons_of_neg (by rw [hc]; simp)]; simp
  · rw [List.filter_cons_of_pos (by rw [hc])]; simp
theorem namG_s (G : List Grp) (a : List UInt8) {i : Nat} (h : i < G.length) : namG (G.take (i + 1)) a = (namG (G.take i) a || (G.getD i noGrp).ag.contains a) := by
  rw [take_s G noGrp h]
  unfold namG
  rw [List.any_append]; simp
theorem rulG_0 (G : List Grp) (a : List UInt8) : rulG (G.take 0) a = [] := rfl
theorem nam_no {G : List Grp} {a : List UInt8} (h : namG G a = false) : rulG G a = [] ∧ delG G a = -1 := by
  have e : (G.filter fun g => g.ag.contains a) = [] := by
    rw [List.filter_eq_nil_iff]
    intro g hg hc
    unfold namG at h
    rw [List.any_eq_false] at h
    exact h g hg hc
  unfold rulG delG
  rw [e]; exact ⟨rfl, rfl⟩
/- what is right has its bounds -/
theorem grp_ok {g : Grp} (h : checkGrpL g = 0) : 1 ≤ g.ag.length ∧ g.ag.length ≤ 50 ∧ (∀ s ∈ g.ag, agentL s = true) ∧ g.ru.length ≤ 200 ∧ (∀ r ∈ g.ru, patOk r.pa = true) ∧ -1 ≤ g.de ∧ g.de ≤ 99999 := by
  unfold checkGrpL at h
  by_cases h1 : g.ag.length = 0
  · rw [if_pos h1] at h; cases h
  rw [if_neg h1] at h
  by_cases h2 : 50 < g.ag.length
  · rw [if_pos h2] at h; cases h
  rw [if_neg h2] at h
  by_cases h3 : g.ag.all agentL = false
  · rw [if_pos h3] at h; cases h
  rw [if_neg h3] at h
  by_cases h4 : 200 < g.ru.length
  · rw [if_pos h4] at h; cases h
  rw [if_neg h4] at h
  by_cases h5 : (g.ru.all fun r => patOk r.pa) = false
  · rw [if_pos h5] at h; cases h
  rw [if_neg h5] at h
  by_cases h6 : g.de < -1 ∨ 99999 < g.de
  · rw [if_pos h6] at h; cases h
  have h3 : g.ag.all agentL = true := by simpa using h3
  have h5 : (g.ru.all fun r => patOk r.pa) = true := by simpa using h5
  exact ⟨by omega, by omega, List.all_eq_true.1 h3, by omega, List.all_eq_true.1 h5, by omega, by omega⟩
theorem grpsE_ok : ∀ {G : List Grp}, grpsE G = 0 → ∀ g ∈ G, checkGrpL g = 0
  | g :: t, h, x, hx => by
    rw [grpsE] at h
    by_cases h1 : checkGrpL g = 0
    · rw [if_pos h1] at h
      rcases List.mem_cons.1 hx with rfl | hx
      · exact h1
      · exact grpsE_ok h x hx
    · rw [if_neg h1] at h; exact absurd h h1
theorem rob_ok {r : Rob} (h : checkRobL r = 0) : r.gr.length ≤ 100 ∧ (∀ g ∈ r.gr, checkGrpL g = 0) ∧ r.ma.length ≤ 100 ∧ ∀ s ∈ r.ma, adrB s = true := by
  unfold checkRobL at h
  by_cases h1 : 100 < r.gr.length
  · rw [if_pos h1] at h; cases h
  rw [if_neg h1] at h
  by_cases h2 : grpsE r.gr = 0
  · rw [if_pos h2] at h
    by_cases h3 : 100 < r.ma.length
    · rw [if_pos h3] at h; cases h
    rw [if_neg h3] at h
    by_cases h4 : r.ma.all adrB = true
    · exact ⟨by omega, grpsE_ok h2, by omega, List.all_eq_true.1 h4⟩
    · rw [if_neg h4] at h; cases h
  · rw [if_neg h2] at h; exact absurd h h2
theorem pat_len {s : List UInt8} (h : patOk s = true) : s.length ≤ 300 := ((patOk_iff s).1 h).2.1
theorem mem_at {α : Type} {l : List α} {d : α} {i : Nat} (h : i < l.length) : l.getD i d ∈ l := by
  rw [List.getD_eq_getElem?_getD, List.getElem?_eq_getElem h]; exact List.getElem_mem h
theorem rulG_b {G : List Grp} (a : List UInt8) (h : ∀ g ∈ G, checkGrpL g = 0) : (rulG G a).length ≤ 200 * G.length ∧ (∀ r ∈ rulG G a, patOk r.pa = true) ∧ -1 ≤ delG G a ∧ delG G a ≤ 99999 := by
  refine ⟨?_, fun r hr => ?_, ?_⟩
  · induction G with
    | nil => simp [rulG]
    | cons g t ih =>
      have := ih fun x hx => h x (List.mem_cons_of_mem _ hx)
      have h2 := (grp_ok (h g (by simp))).2.2.2.1
      unfold rulG at *
      rw [List.filter_cons]
      split
      · simp only [List.flatMap_cons, List.length_append, List.length_cons]; omega
      · simp only [List.length_cons]; omega
  · unfold rulG at hr
    obtain ⟨g, hg, hr⟩ := List.mem_flatMap.1 hr
    exact (grp_ok (h g (List.mem_filter.1 hg).1)).2.2.2.2.1 r hr
  · unfold delG
    have key : ∀ (L : List Grp) (d : Int), (∀ g ∈ L, checkGrpL g = 0) → -1 ≤ d → d ≤ 99999 → -1 ≤ L.foldl (fun d g => max d g.de) d ∧ L.foldl (fun d g => max d g.de) d ≤ 99999 := by
      intro L
      induction L with
      | nil => exact fun d _ h1 h2 => ⟨h1, h2⟩
      | cons g t ih =>
        intro d hL h1 h2
        have := (grp_ok (hL g (by simp))).2.2.2.2.2
        exact ih (max d g.de) (fun x hx => hL x (List.mem_cons_of_mem _ hx)) (by omega) (by omega)
    exact key _ _ (fun g hg => h g (List.mem_filter.1 hg).1) (by omega) (by omega)
theorem rules_b {r : Rob} (a : List UInt8) (h : checkRobL r = 0) : (rulesL r a).1.length ≤ 20000 ∧ (∀ x ∈ (rulesL r a).1, patOk x.pa = true) ∧ -1 ≤ (rulesL r a).2 ∧ (rulesL r a).2 ≤ 99999 := by
  obtain ⟨h1, h2, -, -⟩ := rob_ok h
  have k1 := rulG_b a h2
  have k2 := rulG_b [42] h2
  unfold rulesL
  split
  · exact ⟨by have := k1.1; show (rulG r.gr a).length ≤ _; omega, k1.2⟩
  · exact ⟨by have := k2.1; show (rulG r.gr [42]).length ≤ _; omega, k2.2⟩
/- the rule that decides -/
def betB (l : List Rul) (b : Int) (i : Nat) : Bool := decide (b < 0) || decide ((l.getD b.toNat noRul).pa.length < (l.getD i noRul).pa.length) || (decide ((l.getD i noRul).pa.length = (l.getD b.toNat noRul).pa.length) && (l.getD i noRul).al && !(l.getD b.toNat noRul).al)
def decG (l : List Rul) (p : List UInt8) : Nat → Int
  | 0 => -1
  | i + 1 => if matchesB (l.getD i noRul).pa p = true ∧ betB l (decG l p i) i = true then (i : Int) else decG l p i
def decL (l : List Rul) (p : List UInt8) : Int := decG l p l.length
theorem decG_b (l : List Rul) (p : List UInt8) : ∀ n, -1 ≤ decG l p n ∧ decG l p n < n
  | 0 => ⟨Int.le_refl _, by show (-1 : Int) < 0; omega⟩
  | n + 1 => by
    have := decG_b l p n
    rw [decG]
    split <;> omega
/- what is permitted -/
def wRobots : List UInt8 := [47, 114, 111, 98, 111, 116, 115, 46, 116, 120, 116]
def perL (r : Rob) (a p : List UInt8) : Bool := p == wRobots || (decide (decL (rulesL r a).1 p < 0) || ((rulesL r a).1.getD (decL (rulesL r a).1 p).toNat noRul).al)
def adE (r : Rob) (a : List UInt8) (x : Adr) : Int := if agE r a = 0 then checkAdrL x else agE r a

def wLoc : List UInt8 := [108, 111, 99, 97, 116, 105, 111, 110]
def leadA (st : Int) (hd : List Hd) (f : Adr) : Option Adr :=
  if redL st = false then none
  else match valuesL hd wLoc with
    | [] => none
    | v :: _ => if (resA f v).2 = 0 then (if checkAdrL (withFr (resA f v).1 f) = 0 then some (withFr (resA f v).1 f) else none) else none
theorem lead_ok {st : Int} {hd : List Hd} {f x : Adr} (h : leadA st hd f = some x) : checkAdrL x = 0 := by
  unfold leadA at h
  split at h
  · cases h
  · split at h
    · cases h
    · split at h
      · split at h
        · cases h; assumption
        · cases h
      · cases h
def plainA (a : Adr) : List UInt8 := wrL (if checkAdrL (normA a) = 0 then normA a else a)
def folG (most : Int) : Adr → List Adr → List Ans → List Adr × Bool
  | _, out, [] => (out, false)
  | f, out, a :: t => match leadA a.st a.hd f with
    | none => (out, true)
    | some x => if most < out.length then (out, false) else if plainA x ∈ out.map plainA then (out ++ [x], false) else folG most x (out ++ [x]) t
def folL (f : Adr) (l : List Ans) (most : Int) : List Adr × Bool := if l = [] then ([f], true) else folG most f [f] l
def topsE : List Ans → Int
  | [] => 0
  | a :: t => if checkTopL a.st a.re a.hd = 0 then topsE t else checkTopL a.st a.re a.hd
def folE (f : Adr) (l : List Ans) (most : Int) : Int := if checkAdrL f = 0 then (if most < 0 ∨ 20 < most then 1 else topsE l) else checkAdrL f
/-- none twice, but the last one where it goes no further -/
def onceA (L : List Adr) (e : Bool) : Prop := ∀ k i, k < i → i < L.length → plainA (L.getD i noAdr) = plainA (L.getD k noAdr) → e = false ∧ i + 1 = L.length
def FolOk (most : Int) (out : List Adr) (n : Nat) (r : List Adr × Bool) : Prop := r.1 ≠ [] ∧ r.1.getD 0 noAdr = out.getD 0 noAdr ∧ (∀ x ∈ r.1, checkAdrL x = 0) ∧ (r.1.length : Int) ≤ most + 1 ∧ r.1.length ≤ out.length + n ∧ onceA r.1 r.2
theorem folG_ok (most : Int) : ∀ (l : List Ans) (f : Adr) (out : List Adr), out ≠ [] → (∀ x ∈ out, checkAdrL x = 0) → (out.length : Int) ≤ most + 1 → (∀ k i, k < i → i < out.length → plainA (out.getD i noAdr) ≠ plainA (out.getD k noAdr)) →
    FolOk most out l.length (folG most f out l)
  | [], f, out, h1, h2, h3, h4 => ⟨h1, rfl, h2, h3, by simp [folG], fun k i hk hi he => absurd he (h4 k i hk hi)⟩
  | a :: t, f, out, h1, h2, h3, h4 => by
    have hp := List.length_pos_iff.2 h1
    rw [folG]
    cases hl : leadA a.st a.hd f with
    | none => show FolOk most out _ (out, true); exact ⟨h1, rfl, h2, h3, by simp only [List.length_cons]; omega, fun k i hk hi he => absurd he (h4 k i hk hi)⟩
    | some x =>
      have hx := lead_ok hl
      have g1 : ∀ i, i < out.length → (out ++ [x]).getD i noAdr = out.getD i noAdr := fun i hi => by
        rw [List.getD_eq_getElem?_getD, List.getD_eq_getElem?_getD, List.getElem?_append_left hi]
      have g2 : (out ++ [x]).getD out.length noAdr = x := by
        rw [List.getD_eq_getElem?_getD, List.getElem?_append_right (Nat.le_refl _), Nat.sub_self]; rfl
      have a2 : ∀ y ∈ out ++ [x], checkAdrL y = 0 := fun y hy => by
        rcases List.mem_append.1 hy with hy | hy
        · exact h2 y hy
        · rw [List.mem_singleton.1 hy]; exact hx
      have al : (out ++ [x]).length = out.length + 1 := by simp
      show FolOk most out _ (if most < (out.length : Int) then (out, false) else if plainA x ∈ out.map plainA then (out ++ [x], false) else folG most x (out ++ [x]) t)
      by_cases hm : most < (out.length : Int)
      · rw [if_pos hm]
        exact ⟨h1, rfl, h2, h3, by simp only [List.length_cons]; omega, fun k i hk hi he => absurd he (h4 k i hk hi)⟩
      rw [if_neg hm]
      by_cases hs : plainA x ∈ out.map plainA
      · rw [if_pos hs]
        refine ⟨by simp, g1 0 hp, a2, by rw [al]; push_cast; omega, by rw [al, List.length_cons]; omega, fun k i hk hi he => ⟨by first | rfl | trivial, ?_⟩⟩
        rw [al] at hi ⊢
        by_cases hi2 : i < out.length
        · rw [g1 i hi2, g1 k (by omega)] at he
          exact absurd he (h4 k i hk hi2)
        · omega
      · rw [if_neg hs]
        obtain ⟨r1, r2, r3, r4, r5, r6⟩ := folG_ok most t x (out ++ [x]) (by simp) a2 (by rw [al]; push_cast; omega) (fun k i hk hi => by
          rw [al] at hi
          by_cases hi2 : i < out.length
          · rw [g1 i hi2, g1 k (by omega)]; exact h4 k i hk hi2
          · obtain rfl : i = out.length := by omega
            rw [g2, g1 k hk]
            intro he
            refine hs ?_
            rw [he]
            exact List.mem_map.2 ⟨_, mem_at hk, rfl⟩)
        exact ⟨r1, by rw [r2, g1 0 hp], r3, r4, by rw [al] at r5; simp only [List.length_cons]; omega, r6⟩
theorem folL_ok {f : Adr} {l : List Ans} {most : Int} (h : checkAdrL f = 0) (hm : 0 ≤ most) : (folL f l most).1 ≠ [] ∧ (folL f l most).1.getD 0 noAdr = f ∧ (∀ x ∈ (folL f l most).1, checkAdrL x = 0) ∧ ((folL f l most).1.length : Int) ≤ most + 1 ∧ (folL f l most).1.length ≤ l.length + 1 ∧ onceA (folL f l most).1 (folL f l most).2 := by
  have once1 : ∀ e, onceA [f] e := fun e k i hk hi _ => by have hi : i < 1 := hi; omega
  unfold folL
  split
  · exact ⟨by simp, rfl, fun x hx => by rw [List.mem_singleton.1 hx]; exact h, by simp; omega, by simp, once1 _⟩
  · have := folG_ok most l f [f] (by simp) (fun x hx => by rw [List.mem_singleton.1 hx]; exact h) (by simp; omega) (fun k i hk hi => by have hi : i < 1 := hi; omega)
    obtain ⟨r1, r2, r3, r4, r5, r6⟩ := this
    exact ⟨r1, r2, r3, r4, by simp only [List.length_cons, List.length_nil] at r5; omega, r6⟩
theorem plain_same {a b : Adr} (h1 : checkAdrL (normA a) = 0) (h : normA a = normA b) : plainA a = plainA b := by
  unfold plainA
  rw [if_pos h1, ← h, if_pos h1]
def noAns : Ans := ⟨0, [], [], []⟩
@[push_cast] theorem lsF_ans (l : List Ans) (i : Nat) : lsF cAns l i = .agg [.int .i64 (l.getD i noAns).st, .str (l.getD i noAns).re, .sl (l.getD i noAns).hd.length (lsF cHd (l.getD i noAns).hd), .sl (l.getD i noAns).bd.length (byF (l.getD i noAns).bd)] := rfl
@[push_cast] theorem lsF_adr (l : List Adr) (i : Nat) : lsF cAdr l i = .agg [.str (l.getD i noAdr).sc, .str (l.getD i noAdr).ho, .str (l.getD i noAdr).po, .str (l.getD i noAdr).pa, .str (l.getD i noAdr).qu, .bool (l.getD i noAdr).hq, .str (l.getD i noAdr).fr, .bool (l.getD i noAdr).hf] := rfl

def ckLast : Ck
  | [.str s, .int .u8 c] => some (s.length ≤ 4611686018427387904 ∧ 0 ≤ c ∧ c < 256, .int .i64 (lastI s (UInt8.ofNat c.toNat) s.length))
  | _ => none
theorem conLast0 : Con pg 101 ckLast := by
  have hct := ctN_ok pg
  intro args q r h hq
  unfold ckLast at h
  split at h
  · cases h
    rename_i s c
    refine w101 (fun _ => false) [] rfl hct rfl rfl ?_
    push_cast (config := { maxSteps := 10000000 })
    obtain ⟨c, rfl, hc⟩ : ∃ b : UInt8, c = b.toNat ∧ b.toNat < 256 := ⟨UInt8.ofNat c.toNat, by simp [UInt8.toNat_ofNat']; omega, UInt8.toNat_lt _⟩
    rw [Int.toNat_natCast, UInt8.ofNat_toNat]
    (repeat (refine ⟨by omega, ?_⟩))
    refine LoopW.adj ⟨hct, fol⟩ (by kernel_rfl) [] (fun i : Nat => [(0, .str s), (1, .int .u8 c.toNat), (5, .int .i64 ((i : Int) - 1))]) (fun _ => []) (fun i => i ≤ s.length ∧ lastI s c i = lastI s c s.length) (fun i => i) s.length ?_ fun i hi => ?_
    · push_cast (config := { maxSteps := 10000000 })
      exact Nat.le_refl _
    · obtain ⟨i1, i2⟩ := hi
      push_cast (config := { maxSteps := 10000000 })
      refine ⟨fun h => ?_, fun h => ?_⟩
      · obtain ⟨j, rfl⟩ : ∃ j, i = j + 1 := ⟨i - 1, by omega⟩
        rw [show (((j + 1 : Nat) : Int) - 1).toNat = j by omega]
        rw [lastI] at i2
        refine ⟨by omega, fun h2 => ?_, fun h2 => ⟨by omega, j, ⟨by omega, ?_⟩, by omega, by omega⟩⟩
        · rw [if_pos (UInt8.toNat_inj.1 (by exact_mod_cast h2))] at i2
          rw [← i2]; omega
        · rw [if_neg (fun e => h2 (by rw [e]))] at i2; exact i2
      · obtain rfl : i = 0 := by omega
        rw [← i2]; rfl
  · cases h
attribute [push_cast] ckLast
theorem conLastIdx : Con pg 62 ckLast := by
  have hct := (ctA_ok conLast0 (ctN_ok _))
  intro args q r h hq
  unfold ckLast at h
  split at h
  · cases h
    rename_i s c
    refine w62 (fun _ => false) [] rfl hct rfl rfl ?_
    push_cast (config := { maxSteps := 10000000 })
    exact hq
  · cases h
attribute [push_cast] ckLast

/- rows of digits -/
def isDg (c : UInt8) : Bool := decide (48 ≤ c.toNat ∧ c.toNat ≤ 57)
def digs : List UInt8 := [48, 49, 50, 51, 52, 53, 54, 55, 56, 57]
theorem digs_has (c : UInt8) : digs.contains c = isDg c := by
  have key : ∀ n, n < 256 → digs.contains (UInt8.ofNat n) = isDg (UInt8.ofNat n) := by decide +kernel
  have := key c.toNat (UInt8.toNat_lt c)
  simpa using this
theorem dropW_nil {p : UInt8 → Bool} : ∀ {l : List UInt8}, l.dropWhile p = [] ↔ ∀ x ∈ l, p x = true
  | [] => by simp
  | a :: l => by
    rw [List.dropWhile_cons]
    cases h : p a with
    | true => simp only [if_true, dropW_nil, List.mem_cons, forall_eq_or_imp, h, true_and]
    | false => simp [h]
theorem dropW_head {p : UInt8 → Bool} : ∀ {l : List UInt8} {a : UInt8} {t : List UInt8}, l.dropWhile p = a :: t → p a = false
  | [], _, _, h => by simp at h
  | b :: l, a, t, h => by
    rw [List.dropWhile_cons] at h
    cases hb : p b with
    | true => rw [hb] at h; exact dropW_head h
    | false => rw [hb] at h; simp only [Bool.false_eq_true, if_false, List.cons.injEq] at h; rw [← h.1]; exact hb
theorem dropW_sub {p : UInt8 → Bool} : ∀ {l : List UInt8} {x : UInt8}, x ∈ l.dropWhile p → x ∈ l
  | [], _, h => by simp at h
  | b :: l, x, h => by
    rw [List.dropWhile_cons] at h
    split at h
    · exact List.mem_cons_of_mem _ (dropW_sub h)
    · exact h
theorem snoc_ind {α : Type} {P : List α → Prop} (h0 : P []) (h : ∀ s c, P s → P (s ++ [c])) (s : List α) : P s := by
  have : ∀ t : List α, P t.reverse := by
    intro t
    induction t with
    | nil => exact h0
    | cons a t ih => rw [List.reverse_cons]; exact h _ _ ih
  simpa using this s.reverse
theorem trimS_nil (s cs : List UInt8) : Lib.trimS s cs = [] ↔ s.all (cs.contains ·) = true := by
  unfold Lib.trimS Lib.trimLeftS Lib.trimRightS
  rw [dropW_nil, List.all_eq_true]
  constructor
  · intro h x hx
    have hr : s.reverse.dropWhile (fun x => cs.contains x) = [] := by
      cases hd : s.reverse.dropWhile (fun x => cs.contains x) with
      | nil => rfl
      | cons a t =>
        have h1 := dropW_head hd
        have h2 := h a (by rw [hd]; simp)
        rw [h1] at h2; cases h2
    rw [dropW_nil] at hr
    exact hr x (by simpa using hx)
  · intro h x hx
    exact h x (by have := dropW_sub (by simpa using hx); simpa using this)
theorem trim_dig (s : List UInt8) : Lib.trimS s digs = [] ↔ s.all isDg = true := by
  rw [trimS_nil]
  have : (fun x => digs.contains x) = isDg := funext digs_has
  rw [this]
def natOf (s : List UInt8) : Nat := s.foldl (fun a c => a * 10 + (c.toNat - 48)) 0
theorem natOf_snoc (s : List UInt8) (c : UInt8) : natOf (s ++ [c]) = natOf s * 10 + (c.toNat - 48) := by simp [natOf, List.foldl_append]
theorem decFrom_dig : ∀ (s : List UInt8) (a : Nat), s.all isDg = true → Lib.decFrom a s = some (s.foldl (fun a c => a * 10 + (c.toNat - 48)) a)
  | [], a, _ => rfl
  | c :: s, a, h => by
    simp only [List.all_cons, Bool.and_eq_true] at h
    have hc : 48 ≤ c.toNat ∧ c.toNat ≤ 57 := of_decide_eq_true h.1
    simp only [Lib.decFrom, Lib.digitVal, if_pos hc, List.foldl_cons]
    exact decFrom_dig s _ h.2
theorem atoi_dig {s : List UInt8} (h0 : s ≠ []) (h : s.all isDg = true) : Lib.atoi s = some (natOf s : Int) := by
  cases s with
  | nil => exact absurd rfl h0
  | cons c s =>
    have hc : 48 ≤ c.toNat ∧ c.toNat ≤ 57 := of_decide_eq_true (by simp only [List.all_cons, Bool.and_eq_true] at h; exact h.1)
    have h1 : (c == 45) = false := by
      simp only [beq_eq_false_iff_ne]; intro e; subst e; revert hc; decide
    have h2 : (c == 43) = false := by
      simp only [beq_eq_false_iff_ne]; intro e; subst e; revert hc; decide
    unfold Lib.atoi
    simp only [h1, h2, Bool.false_eq_true, if_false]
    unfold Lib.decNat
    simp only [List.isEmpty_cons, Bool.false_eq_true, if_false]
    rw [decFrom_dig _ _ h]
    rfl
theorem natOf_lt (s : List UInt8) : s.all isDg = true → natOf s < 10 ^ s.length := by
  refine snoc_ind (P := fun s => s.all isDg = true → natOf s < 10 ^ s.length) (fun _ => by simp [natOf]) (fun s c ih h => ?_) s
  simp only [List.all_append, List.all_cons, List.all_nil, Bool.and_true, Bool.and_eq_true] at h
  have hc : 48 ≤ c.toNat ∧ c.toNat ≤ 57 := of_decide_eq_true h.2
  have := ih h.1
  rw [natOf_snoc, List.length_append, List.length_singleton, Nat.pow_succ]
  omega
/-- digits, from 1 to n of them, without a needless 0 -/
def digL (s : List UInt8) (n : Int) : Bool := decide (1 ≤ s.length) && decide ((s.length : Int) ≤ n) && s.all isDg && (decide (s.getD 0 0 ≠ 48) || s == [48])
theorem itoa_nat (n : Nat) : Lib.itoa (n : Int) = Lib.decDigits n := by unfold Lib.itoa; rw [if_neg (by omega)]; simp
theorem dec_step {n : Nat} (h : 10 ≤ n) : Lib.decDigits n = Lib.decDigits (n / 10) ++ [UInt8.ofNat (48 + n % 10)] := by
  rw [Lib.decDigits, dif_neg (by omega)]
theorem dec_small {n : Nat} (h : n < 10) : Lib.decDigits n = [UInt8.ofNat (48 + n)] := by
  rw [Lib.decDigits, dif_pos h]
theorem natOf_pos {s : List UInt8} (h : s.all isDg = true) (h0 : 1 ≤ s.length) (h1 : s.getD 0 0 ≠ 48) : 1 ≤ natOf s := by
  revert h h0 h1
  refine snoc_ind (P := fun s => s.all isDg = true → 1 ≤ s.length → s.getD 0 0 ≠ 48 → 1 ≤ natOf s) (fun _ h => by simp at h) (fun s c ih h _ h1 => ?_) s
  simp only [List.all_append, List.all_cons, List.all_nil, Bool.and_true, Bool.and_eq_true] at h
  have hc : 48 ≤ c.toNat ∧ c.toNat ≤ 57 := of_decide_eq_true h.2
  rw [natOf_snoc]
  cases s with
  | nil =>
    simp only [List.nil_append, List.getD_cons_zero] at h1
    have : c.toNat ≠ 48 := fun e => h1 (UInt8.toNat_inj.1 e)
    omega
  | cons a s =>
    have := ih h.1 (by simp) (by simpa using h1)
    omega
/-- a number's digits are written as they were read -/
theorem dec_natOf {s : List UInt8} (h : s.all isDg = true) (h0 : 1 ≤ s.length) (h1 : s.getD 0 0 ≠ 48 ∨ s.length = 1) : Lib.decDigits (natOf s) = s := by
  revert h h0 h1
  refine snoc_ind (P := fun s => s.all isDg = true → 1 ≤ s.length → (s.getD 0 0 ≠ 48 ∨ s.length = 1) → Lib.decDigits (natOf s) = s) (fun _ h => by simp at h) (fun s c ih h _ h1 => ?_) s
  simp only [List.all_append, List.all_cons, List.all_nil, Bool.and_true, Bool.and_eq_true] at h
  have hc : 48 ≤ c.toNat ∧ c.toNat ≤ 57 := of_decide_eq_true h.2
  have hcc : UInt8.ofNat (48 + (c.toNat - 48)) = c := by rw [show 48 + (c.toNat - 48) = c.toNat by omega]; simp
  rw [natOf_snoc]
  cases s with
  | nil =>
    simp only [natOf, List.foldl_nil, Nat.zero_mul, Nat.zero_add, List.nil_append]
    rw [dec_small (by omega), hcc]
  | cons a s =>
    have h48 : (a :: s).getD 0 0 ≠ 48 := by
      rcases h1 with h1 | h1
      · simpa using h1
      · simp at h1
    have hp := natOf_pos h.1 (by simp) h48
    rw [dec_step (by omega), show (natOf (a :: s) * 10 + (c.toNat - 48)) / 10 = natOf (a :: s) by omega, show (natOf (a :: s) * 10 + (c.toNat - 48)) % 10 = c.toNat - 48 by omega, hcc, ih h.1 (by simp) (.inl h48)]
theorem dec_dig (n : Nat) : (Lib.decDigits n).all isDg = true ∧ natOf (Lib.decDigits n) = n ∧ 1 ≤ (Lib.decDigits n).length ∧ ((Lib.decDigits n).getD 0 0 ≠ 48 ∨ (Lib.decDigits n).length = 1) ∧ (10 ≤ n → (Lib.decDigits n).getD 0 0 ≠ 48) := by
  have one : ∀ m, m < 10 → isDg (UInt8.ofNat (48 + m)) = true ∧ (UInt8.ofNat (48 + m)).toNat = 48 + m := fun m hm => by
    have e : (UInt8.ofNat (48 + m)).toNat = 48 + m := by rw [UInt8.toNat_ofNat']; omega
    exact ⟨decide_eq_true (by omega), e⟩
  induction n using Nat.strongRecOn with
  | _ n ih =>
    by_cases h : n < 10
    · rw [dec_small h]
      obtain ⟨a, b⟩ := one n h
      refine ⟨by simp only [List.all_cons, a, List.all_nil, Bool.and_true], by simp only [natOf, List.foldl_cons, List.foldl_nil, b]; omega, by simp, .inr rfl, fun h => by omega⟩
    · rw [dec_step (by omega)]
      obtain ⟨a, b⟩ := one (n % 10) (by omega)
      obtain ⟨i1, i2, i3, i4, i5⟩ := ih (n / 10) (by omega)
      have hg : (Lib.decDigits (n / 10)).getD 0 0 ≠ 48 := by
        by_cases h10 : n / 10 < 10
        · rw [dec_small h10]
          simp only [List.getD_cons_zero]
          intro e
          have := congrArg UInt8.toNat e
          rw [(one (n / 10) h10).2] at this
          have : (48 : UInt8).toNat = 48 := rfl
          omega
        · exact i5 (by omega)
      have hg2 : (Lib.decDigits (n / 10) ++ [UInt8.ofNat (48 + n % 10)]).getD 0 0 ≠ 48 := by
        cases hd : Lib.decDigits (n / 10) with
        | nil => rw [hd] at i3; simp at i3
        | cons x t => rw [hd] at hg; simpa using hg
      refine ⟨by simp only [List.all_append, i1, List.all_cons, a, List.all_nil, Bool.and_true], by rw [natOf_snoc, i2, b]; omega, by simp, .inl hg2, fun _ => hg2⟩
theorem dec_len : ∀ (k n : Nat), n < 10 ^ (k + 1) → (Lib.decDigits n).length ≤ k + 1
  | 0, n, h => by rw [dec_small (by omega)]; simp
  | k + 1, n, h => by
    by_cases h1 : n < 10
    · rw [dec_small h1]; simp
    · rw [dec_step (by omega)]
      have := dec_len k (n / 10) (by rw [Nat.pow_succ] at h; omega)
      simp; omega

def ckAtoi : Ck
  | [.str s] => some (1 ≤ s.length ∧ s.length ≤ 18 ∧ s.all isDg = true, .tup [.int .i64 (natOf s), .any])
  | _ => none
theorem conAtoi : Con pg 102 ckAtoi := by
  intro args q r h hq
  unfold ckAtoi at h
  split at h
  · cases h
    rename_i s
    refine pcall_shelf (by kernel_rfl) rfl fun w hw => (Tryz.strconv_Atoi ⟨s.toArray⟩ (natOf s) (by show s.toArray.size ≤ _; have := hq.2.1; simp; omega) ?_ w).mono fun e w' h => ?_
    · exact atoi_dig (show s ≠ [] from fun e => by have := hq.1; rw [e] at this; simp at this) hq.2.2
    · obtain ⟨he, t, rfl⟩ := h
      exact ⟨_, he, grow_below (Lib.bytesWorld_below _ _ _), fun γ imm => .tup _ [_, _] rfl fun i hi => by
        match i, hi with
        | 0, _ => exact .pure (.int _ _)
        | 1, _ => exact .any _⟩
  · cases h
attribute [push_cast] ckAtoi

/- slices of strings, as the library's functions are handed them -/
theorem inv_strs {S : Sv} {L : List (List UInt8)} {v : Value} (h : S.rep (.sl L.length (lsF cStr L)) v) :
    ∃ a c, v = .slice a L.length c ∧ L.length ≤ c ∧ (L.length = 0 ∨ ∃ b o, a = some ⟨b, o, none⟩ ∧ ∀ i, i < L.length → S.w.cell? ⟨b, o + i, none⟩ = some (.string ⟨(L.getD i []).toArray⟩)) := by
  have h' := inv_sl h
  generalize hn : L.length = n at h'
  cases h' with
  | sl0 f a c => exact ⟨a, c, rfl, Nat.zero_le _, .inl rfl⟩
  | sl n f B off c sz u hb hc hz hf hcell hone hrep =>
    refine ⟨_, c, rfl, hc, ?_⟩
    by_cases h0 : n = 0
    · exact .inl h0
    refine .inr ⟨B, off, rfl, fun i hi => ?_⟩
    have hsz : sz = 1 := by have := hf i hi; exact this.symm
    subst hsz
    have h1 := hcell i 0 hi (by omega)
    have h2 := hrep i 0 hi (by omega)
    have h3 : u i 0 = .string ⟨(L.getD i []).toArray⟩ := by
      have h4 : S.rep (.str (L.getD i [])) (u i 0) := .pure h2
      exact inv_str h4
    rw [h3, Nat.mul_one, Nat.add_zero] at h1
    exact h1
def ckJoin : Ck
  | [.sl n f, .str c] => some (isLs cStr n f ∧ n ≤ 140737488355328 ∧ (Lib.join (lsOf cStr n f) c).length ≤ 140737488355328, .str (Lib.join (lsOf cStr n f) c))
  | _ => none
theorem conJoin : Con pg 42 ckJoin := by
  intro args q r h hq
  unfold ckJoin at h
  split at h
  · cases h
    rename_i n f c
    obtain ⟨h1, h2, h3⟩ := hq
    refine pcall_args (args' := [.sl (lsOf cStr n f).length (lsF cStr (lsOf cStr n f)), .str c]) ⟨isLs.vle h1, VLe.refl _, trivial⟩ ?_
    have hL : (lsOf cStr n f).length ≤ 140737488355328 := by rw [lsOf_len]; exact h2
    generalize lsOf cStr n f = L at h3 hL ⊢
    refine pcall_rep (by kernel_rfl) fun S vals hok hl hr => ?_
    obtain ⟨v0, v1, rfl⟩ := vals2 hl
    have r0 : S.rep (.sl L.length (lsF cStr L)) v0 := hr 0 (by simp)
    have r1 : S.rep (.str c) v1 := hr 1 (by simp)
    obtain rfl := inv_str r1
    obtain ⟨a, cap, rfl, hc, hcase⟩ := inv_strs r0
    have hmap : (L.map fun x => (⟨x.toArray⟩ : ByteArray)).map (·.data.toList) = L := by
      rw [List.map_map]
      conv => rhs; rw [← List.map_id L]
      congr 1
    rcases hcase with h0 | ⟨b, o, rfl, hcell⟩
    · have hL0 : L = [] := List.length_eq_zero_iff.1 h0
      subst hL0
      exact (Tryz.strings_Join_none a cap ⟨c.toArray⟩ S.w).mono fun e w' h => ⟨_, h.1, by rw [h.2]; exact ⟨rfl, rfl, rfl, Nat.le_refl _, fun _ _ => rfl⟩, fun γ imm _ _ => .pure (.str [])⟩
    · by_cases h0 : L.length = 0
      · have hL0 : L = [] := List.length_eq_zero_iff.1 h0
        subst hL0
        exact (Tryz.strings_Join_none _ cap ⟨c.toArray⟩ S.w).mono fun e w' h => ⟨_, h.1, by rw [h.2]; exact ⟨rfl, rfl, rfl, Nat.le_refl _, fun _ _ => rfl⟩, fun γ imm _ _ => .pure (.str [])⟩
      have hb : b < S.w.heap.size := by
        have := hcell 0 (by omega)
        refine Classical.byContradiction fun hn => ?_
        have h5 : S.w.heap[b]? = none := Array.getElem?_eq_none (by omega)
        simp [World.cell?, h5] at this
      have := Tryz.strings_Join b o cap (L.map fun x => (⟨x.toArray⟩ : ByteArray)) ⟨c.toArray⟩ S.w (fun j x hx => by
        rw [List.getElem?_map] at hx
        obtain ⟨y, hy, rfl⟩ := Option.map_eq_some_iff.1 hx
        have hj := (List.getElem?_eq_some_iff.1 hy).1
        have := hcell j hj
        rw [List.getD_eq_getElem?_getD, hy] at this
        exact this) hb (by rw [List.length_map]; exact hL) (by rw [List.length_map]; exact hc) (by rw [hmap]; simpa using h3)
      rw [hmap, List.length_map] at this
      refine this.mono fun e w' h => ⟨_, h.1, grow_below h.2, fun γ imm _ _ => ?_⟩
      show RepV γ imm w' _ (.string ⟨(Lib.join L (c.toArray.toList)).toArray⟩)
      rw [show c.toArray.toList = c by simp]
      exact .pure (.str _)
  · cases h
attribute [push_cast] ckJoin
theorem join_sl : ∀ {L : List (List UInt8)}, L ≠ [] → 47 :: Lib.join L [47] = joinSl L
  | [a], _ => by simp [Lib.join, joinSl, List.intercalate]
  | a :: b :: r, _ => by
    have ih := join_sl (L := b :: r) (by simp)
    have e : Lib.join (a :: b :: r) [47] = a ++ (47 :: Lib.join (b :: r) [47]) := by
      simp [Lib.join, List.intercalate, List.intersperse]
    rw [e, ih]
    simp [joinSl]
def ckTrimLeft : Ck
  | [.str s, .str c] => some (c.length < 4294967281 ∧ asciiC c = true, .str (Lib.trimLeftS s c))
  | _ => none
theorem conTrimLeft : Con pg 55 ckTrimLeft := by
  intro args q r h hq
  unfold ckTrimLeft at h
  split at h
  · cases h
    rename_i s c
    refine pcall_shelf (by kernel_rfl) rfl fun w hw => (Tryz.strings_TrimLeftL ⟨s.toArray⟩ ⟨c.toArray⟩ w ?_ ?_).mono fun e w' h => ?_
    · show c.toArray.size < _
      have := hq.1
      simp; omega
    · exact asciiC_at hq.2
    · exact shelf_str h.1 (grow_below h.2)
  · cases h
attribute [push_cast] ckTrimLeft
theorem trimLeft_z (s : List UInt8) : Lib.trimLeftS s [48] = trimZ s := by
  unfold Lib.trimLeftS trimZ
  congr 1
  funext c
  rw [Bool.eq_iff_iff]
  simp

theorem isAt_iff (s : List UInt8) (a c : Nat) : isAt s a c = true ↔ a < s.length ∧ (s.getD a 0).toNat = c := by
  unfold isAt; rw [Bool.and_eq_true, decide_eq_true_eq, decide_eq_true_eq]
def ckHostEnd : Ck
  | [.str s] => some (s.length ≤ 4611686018427387900, .int .i64 (runN hostB s))
  | _ => none
theorem conHostEnd : Con pg 137 ckHostEnd := by
  have hct := (ctA_ok conIsLet (ctA_ok conIsDig (ctN_ok _)))
  intro args q r h hq
  unfold ckHostEnd at h
  split at h
  · cases h
    rename_i s
    refine w137 (fun _ => false) [] rfl hct rfl rfl ?_
    push_cast (config := { maxSteps := 10000000 })
    refine LoopW.adj ⟨hct, fol⟩ (by kernel_rfl) [] (fun i : Nat => [(0, .str s), (3, .int .i64 i)]) (fun _ => []) (fun i => i ≤ s.length ∧ ∀ j, j < i → hostB (s.getD j 0) = true) (fun i => s.length - i) 0 ?_ fun i hi => ?_
    · push_cast (config := { maxSteps := 10000000 })
      exact Nat.zero_le _
    · push_cast (config := { maxSteps := 10000000 })
      obtain ⟨h1, h2⟩ := hi
      have hb : hostB (s.getD i 0) = true ↔ ((isLet ((s.getD i 0).toNat : Int) = true ∨ isDig ((s.getD i 0).toNat : Int) = true) ∨ ((s.getD i 0).toNat : Int) = 45) ∨ ((s.getD i 0).toNat : Int) = 46 := by
        unfold hostB
        simp only [Bool.or_eq_true, decide_eq_true_eq]
        have e5 : ((s.getD i 0).toNat : Int) = 45 ↔ (s.getD i 0).toNat = 45 := by omega
        have e6 : ((s.getD i 0).toNat : Int) = 46 ↔ (s.getD i 0).toNat = 46 := by omega
        rw [e5, e6]
      refine ⟨fun h => ⟨h, h.1⟩, fun h => ⟨h, fun x => ⟨h, x⟩⟩, fun h => ⟨h, h.1⟩, fun h => ⟨h, fun x => ⟨h, x⟩⟩, fun h => ⟨h, h.1⟩, fun h => ⟨h, fun x => ⟨h, x⟩⟩, fun h => ?_, fun h => ?_⟩
      · have hc := hb.2 h.2
        refine ⟨⟨by omega, by omega⟩, i + 1, ⟨by omega, fun j hj => ?_⟩, by omega, by omega⟩
        by_cases e : j = i
        · subst e; exact hc
        · exact h2 j (by omega)
      · rw [runN_at h1 h2 fun hlt => ?_]
        have := h hlt
        cases hc : hostB (s.getD i 0) with
        | false => rfl
        | true =>
          rcases hb.1 hc with ((x | x) | x) | x
          · rw [this.1.1.1] at x; cases x
          · rw [this.1.1.2] at x; cases x
          · exact absurd x this.1.2
          · exact absurd x this.2
  · cases h
attribute [push_cast] ckHostEnd
theorem dig_dg (s : List UInt8) : s.all digB = s.all isDg := by
  congr 1
  funext c
  have key : ∀ n, n < 256 → digB (UInt8.ofNat n) = isDg (UInt8.ofNat n) := by decide +kernel
  have := key c.toNat (UInt8.toNat_lt c)
  simpa using this
def ckPortOf : Ck
  | [.str s] => some (s.length ≤ 4611686018427387900, .int .i64 (portN s))
  | _ => none
theorem conPortOf : Con pg 44 ckPortOf := by
  have hct := (ctA_ok conTrim (ctN_ok _))
  intro args q r h hq
  unfold ckPortOf at h
  split at h
  · cases h
    rename_i s
    refine w44 (fun _ => false) [] rfl hct rfl rfl ?_
    push_cast (config := { maxSteps := 10000000 })
    have e := trim_dig s
    unfold digs at e
    rw [← dig_dg] at e
    refine ⟨fun h => ⟨h, by omega⟩, fun h => ?_, fun h => ?_⟩
    · unfold portN
      rw [if_neg fun x => ?_]
      rcases h with h | h
      · omega
      · exact h (e.2 x.2.2.1)
    have ha := e.1 h.2
    have hd : ∀ j, j < s.length → 48 ≤ (s.getD j 0).toNat ∧ (s.getD j 0).toNat ≤ 57 := fun j hj => by
      have := List.all_eq_true.1 ha (s.getD j 0) (by rw [List.getD_eq_getElem?_getD, List.getElem?_eq_getElem hj]; exact List.getElem_mem hj)
      unfold digB isDig at this
      simp only [Bool.and_eq_true, decide_eq_true_eq] at this
      omega
    have hN : portN s = if portV s ≤ 65535 then portV s else 0 := by
      unfold portN
      by_cases hv : portV s ≤ 65535
      · rw [if_pos ⟨by omega, by omega, ha, hv⟩, if_pos hv]
      · rw [if_neg (fun x => hv x.2.2.2), if_neg hv]
    rw [hN]
    have hS : ∀ i, i < s.length → portV (s.take (i + 1)) = 10 * portV (s.take i) + (((s.getD i 0).toNat : Int) - 48) := fun i hi => by
      rw [takeG (d := 0) hi]
      unfold portV
      rw [List.foldl_append]; rfl
    refine LoopW.adj ⟨hct, fol⟩ (by kernel_rfl) [] (fun i : Nat => [(0, .str s), (3, .int .i64 (portV (s.take i))), (19, .int .i64 s.length), (20, .int .i64 i)]) (fun _ => []) (fun i => i ≤ s.length ∧ 0 ≤ portV (s.take i) ∧ portV (s.take i) < 10 ^ i) (fun i => s.length - i) 0 ?_ fun i hi => ?_
    · push_cast (config := { maxSteps := 10000000 })
      exact ⟨⟨Nat.zero_le _, by decide, by decide⟩, rfl⟩
    · push_cast (config := { maxSteps := 10000000 })
      obtain ⟨h1, h2, h3⟩ := hi
      refine ⟨fun hlt => ?_, fun hge => ?_⟩
      · have hd1 := hd i hlt
        have hs1 := hS i hlt
        have p5 : (10 : Int) ^ i ≤ 10000 := by
          rcases (by omega : i = 0 ∨ i = 1 ∨ i = 2 ∨ i = 3 ∨ i = 4) with rfl | rfl | rfl | rfl | rfl <;> decide
        have e1 : (((s.getD i 0).toNat : Int) - 48) % 256 = ((s.getD i 0).toNat : Int) - 48 := by omega
        rw [e1]
        exact ⟨⟨by omega, by omega⟩, hlt, ⟨by omega, by omega⟩, ⟨by omega, by omega⟩, ⟨by omega, by omega⟩, i + 1, ⟨by omega, by omega, by rw [hs1, Int.pow_succ]; omega⟩, by omega, by rw [hs1], by omega⟩
      · rw [List.take_of_length_le (by omega)]
        exact ⟨fun h => by rw [if_neg (by omega)], fun h => by rw [if_pos (by omega)]⟩
  · cases h
attribute [push_cast] ckPortOf
theorem low1 {s w : List UInt8} {n : Nat} (h1 : n < s.length) (h2 : n < w.length) : lowL ((s.drop n).take 1) = (w.drop n).take 1 ↔ lowB (s.getD n 0) = w.getD n 0 := by
  rw [dropG (d := 0) h1, dropG (d := 0) h2]
  simp [lowL]
def ckScheme : Ck
  | [.str s] => some (s.length ≤ 2000, .tup [.str (if (schL s).1 = true then s.take ((schL s).2 - 3) else []), .int .i64 (schL s).2, .bool (schL s).1])
  | _ => none
theorem conScheme : Con pg 116 ckScheme := by
  have hct := (ctA_ok conSmallA (ctN_ok _))
  intro args q r h hq
  unfold ckScheme at h
  split at h
  · cases h
    rename_i s
    refine w116 (fun _ => false) [] rfl hct rfl rfl ?_
    push_cast (config := { maxSteps := 10000000 })
    refine LoopW.adj ⟨hct, fol⟩ (by kernel_rfl) [] (fun t : Nat × Nat => [(0, .str s), (3, .int .i64 t.2), (8, .sl 2 (litF [.str (wHttp ++ wSep), .str (wHttps ++ wSep)])), (9, .int .i64 2), (10, .int .i64 t.1)]) (fun _ => []) (fun t => (t.1 = 0 ∧ t.2 = 0) ∨ (t.1 = 1 ∧ t.2 = mt s (wHttp ++ wSep) ∧ t.2 ≠ 7) ∨ (t.1 = 2 ∧ schL s = (false, t.2))) (fun t => 2 - t.1) (0, 0) ?_ fun t ht => ?_
    · push_cast (config := { maxSteps := 10000000 })
      intro i _; rfl
    · obtain ⟨i, m⟩ := t
      have e4 : wHttp.length = 4 := rfl
      have e5 : wHttps.length = 5 := rfl
      have e3 : wSep.length = 3 := rfl
      have e7 : (wHttp ++ wSep).length = 7 := rfl
      have e8 : (wHttps ++ wSep).length = 8 := rfl
      rcases ht with ⟨h1, h2⟩ | ⟨h1, hm, h7'⟩ | ⟨h1, hm⟩
      · obtain rfl : i = 0 := h1
        obtain rfl : m = 0 := h2
        push_cast (config := { maxSteps := 10000000 })
        refine LoopW.adj ⟨hct, fol⟩ (by kernel_rfl) [] (fun n : Nat => [(0, .str s), (3, .int .i64 0), (6, .str (wHttp ++ wSep)), (7, .int .i64 n), (8, .sl 2 (litF [.str (wHttp ++ wSep), .str (wHttps ++ wSep)])), (9, .int .i64 2), (10, .int .i64 0)]) (fun _ => []) (fun n => n ≤ s.length ∧ n ≤ 7 ∧ ∀ j, j < n → lowB (s.getD j 0) = (wHttp ++ wSep).getD j 0) (fun n => 7 - n) 0 ?_ fun n hn => ?_
        · push_cast (config := { maxSteps := 10000000 })
          exact Nat.zero_le _
        · push_cast (config := { maxSteps := 10000000 })
          obtain ⟨n1, n2, n3⟩ := hn
          refine ⟨fun h => ⟨h, by omega, by omega⟩, fun h => ⟨h, ⟨by omega, by omega⟩, by omega, by omega⟩, fun h => ⟨h, by omega⟩, fun h => ⟨h, by omega, by omega⟩, fun h => ⟨h, ⟨by omega, by omega⟩, by omega, by omega⟩, fun h => ?_, fun h => ?_⟩
          · have hc := (low1 (w := wHttp ++ wSep) h.1.2 (by omega)).1 h.2
            refine ⟨⟨by omega, by omega⟩, n + 1, ⟨by omega, by omega, fun j hj => ?_⟩, by omega, by omega⟩
            by_cases e : j = n
            · subst e; exact hc
            · exact n3 j (by omega)
          · have hmt : mt s (wHttp ++ wSep) = n := mt_at n1 (by omega) n3 fun a b x => h ⟨by omega, a⟩ ((low1 (w := wHttp ++ wSep) a b).2 x)
            refine ⟨fun h7 => ?_, fun h7 => ?_⟩
            · have hn : n = 7 := by omega
              subst hn
              have hs : schL s = (true, 7) := by unfold schL; rw [if_pos hmt]
              rw [hs]
              exact ⟨⟨by omega, by omega⟩, ⟨⟨by omega, by omega⟩, by omega⟩, rfl, rfl, rfl⟩
            · exact ⟨((1, n) : Nat × Nat), .inr (.inl ⟨rfl, hmt.symm, by omega⟩), by show 2 - 1 < 2; omega, by show max (0 : Int) n = (n : Int); omega, rfl⟩
      · obtain rfl : i = 1 := h1
        have hm : m = mt s (wHttp ++ wSep) := hm
        have h7' : m ≠ 7 := h7'
        push_cast (config := { maxSteps := 10000000 })
        refine LoopW.adj ⟨hct, fol⟩ (by kernel_rfl) [] (fun n : Nat => [(0, .str s), (3, .int .i64 m), (6, .str (wHttps ++ wSep)), (7, .int .i64 n), (8, .sl 2 (litF [.str (wHttp ++ wSep), .str (wHttps ++ wSep)])), (9, .int .i64 2), (10, .int .i64 1)]) (fun _ => []) (fun n => n ≤ s.length ∧ n ≤ 8 ∧ ∀ j, j < n → lowB (s.getD j 0) = (wHttps ++ wSep).getD j 0) (fun n => 8 - n) 0 ?_ fun n hn => ?_
        · push_cast (config := { maxSteps := 10000000 })
          exact Nat.zero_le _
        · push_cast (config := { maxSteps := 10000000 })
          obtain ⟨n1, n2, n3⟩ := hn
          refine ⟨fun h => ⟨h, by omega, by omega⟩, fun h => ⟨h, ⟨by omega, by omega⟩, by omega, by omega⟩, fun h => ⟨h, by omega⟩, fun h => ⟨h, by omega, by omega⟩, fun h => ⟨h, ⟨by omega, by omega⟩, by omega, by omega⟩, fun h => ?_, fun h => ?_⟩
          · have hc := (low1 (w := wHttps ++ wSep) h.1.2 (by omega)).1 h.2
            refine ⟨⟨by omega, by omega⟩, n + 1, ⟨by omega, by omega, fun j hj => ?_⟩, by omega, by omega⟩
            by_cases e : j = n
            · subst e; exact hc
            · exact n3 j (by omega)
          · have hmt : mt s (wHttps ++ wSep) = n := mt_at n1 (by omega) n3 fun a b x => h ⟨by omega, a⟩ ((low1 (w := wHttps ++ wSep) a b).2 x)
            refine ⟨fun h7 => ?_, fun h7 => ?_⟩
            · have hn : n = 8 := by omega
              subst hn
              have hs : schL s = (true, 8) := by unfold schL; rw [if_neg (by rw [← hm]; exact h7'), if_pos hmt]
              rw [hs]
              exact ⟨⟨by omega, by omega⟩, ⟨⟨by omega, by omega⟩, by omega⟩, rfl, rfl, rfl⟩
            · have hs : schL s = (false, max m n) := by unfold schL; rw [if_neg (by rw [← hm]; exact h7'), if_neg (by rw [hmt]; omega), hmt, ← hm]
              exact ⟨((2, max m n) : Nat × Nat), .inr (.inr ⟨rfl, hs⟩), by show 2 - 2 < 1; omega, by show max (m : Int) n = ((max m n : Nat) : Int); omega, rfl⟩
      · obtain rfl : i = 2 := h1
        have hm : schL s = (false, m) := hm
        push_cast (config := { maxSteps := 10000000 })
        rw [hm]
        exact ⟨rfl, rfl, rfl⟩
  · cases h
attribute [push_cast] ckScheme

end Go.Abs
