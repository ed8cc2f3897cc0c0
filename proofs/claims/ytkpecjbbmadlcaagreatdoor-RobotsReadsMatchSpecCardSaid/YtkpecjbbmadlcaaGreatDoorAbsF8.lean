/- what functions of this program compute: contracts, each a function's own -/
import Derived.Test.YtkpecjbbmadlcaaGreatDoorAbsK3
import Derived.Test.YtkpecjbbmadlcaaGreatDoorAbsFacts
import Derived.Test.YtkpecjbbmadlcaaGreatDoorAbsF7
import Derived.Test.YtkpecjbbmadlcaaGreatDoorAbsShelf
import Derived.Lib.SplitLaws
import Derived.Lib.SlTrimSet
import Derived.Lib.Atoi
import Derived.Lib.Itoa
import Derived.Lib.ItoaNum
import Derived.Lib.Replace
import Derived.Lib.ReplaceLaws
import Derived.Lib.AtoiErrMem
import Derived.Lib.Join
namespace Go.Abs
open Go Go.Proofs
set_option maxHeartbeats 4000000
set_option maxRecDepth 100000
set_option linter.unusedVariables false
set_option linter.unusedSimpArgs false
/- without what is needless -/
def ndStep (ru o : List Rul) (y : Rul) : List Rul := if y ∈ o ∨ (y.al = false ∧ (⟨true, y.pa⟩ : Rul) ∈ ru) then o else o ++ [y]
def ndR (ru : List Rul) : List Rul := ru.foldl (ndStep ru) []
def ndG (g : Grp) : Grp := ⟨g.ag, ndR g.ru, g.de⟩
def needL (r : Rob) : Rob := ⟨r.gr.map ndG, r.ma⟩
theorem ndR_s (ru : List Rul) {i : Nat} (h : i < ru.length) : (ru.take (i + 1)).foldl (ndStep ru) [] = ndStep ru ((ru.take i).foldl (ndStep ru) []) (ru.getD i noRul) := by
  rw [take_s ru noRul h, List.foldl_append]; rfl
theorem nd_fold (ru : List Rul) : ∀ (l o : List Rul), (l.foldl (ndStep ru) o).length ≤ o.length + l.length ∧ (∀ y ∈ l.foldl (ndStep ru) o, y ∈ o ∨ y ∈ l) ∧ (∀ y ∈ o, y ∈ l.foldl (ndStep ru) o) ∧ ∀ y ∈ l, y ∈ l.foldl (ndStep ru) o ∨ (y.al = false ∧ (⟨true, y.pa⟩ : Rul) ∈ ru)
  | [], o => ⟨by simp, fun y hy => .inl hy, fun y hy => hy, fun y hy => by cases hy⟩
  | x :: t, o => by
    obtain ⟨h1, h2, h3, h4⟩ := nd_fold ru t (ndStep ru o x)
    have e : (x :: t).foldl (ndStep ru) o = t.foldl (ndStep ru) (ndStep ru o x) := rfl
    rw [e]
    have s1 : (ndStep ru o x).length ≤ o.length + 1 := by unfold ndStep; split <;> simp
    have s2 : ∀ y ∈ ndStep ru o x, y ∈ o ∨ y = x := fun y hy => by
      unfold ndStep at hy
      split at hy
      · exact .inl hy
      · rcases List.mem_append.1 hy with hy | hy
        · exact .inl hy
        · exact .inr (List.mem_singleton.1 hy)
    have s3 : ∀ y ∈ o, y ∈ ndStep ru o x := fun y hy => by
      unfold ndStep
      split
      · exact hy
      · exact List.mem_append_left _ hy
    have s4 : x ∈ ndStep ru o x ∨ (x.al = false ∧ (⟨true, x.pa⟩ : Rul) ∈ ru) := by
      unfold ndStep
      split
      · rename_i h
        exact h.imp id id
      · exact .inl (by simp)
    refine ⟨by simp only [List.length_cons]; omega, fun y hy => ?_, fun y hy => h3 y (s3 y hy), fun y hy => ?_⟩
    · rcases h2 y hy with hy | hy
      · rcases s2 y hy with hy | hy
        · exact .inl hy
        · exact .inr (by rw [hy]; simp)
      · exact .inr (List.mem_cons_of_mem _ hy)
    · rcases List.mem_cons.1 hy with rfl | hy
      · exact s4.imp (h3 y) id
      · exact h4 y hy
theorem ndR_ok (ru : List Rul) : (ndR ru).length ≤ ru.length ∧ (∀ y ∈ ndR ru, y ∈ ru) ∧ ∀ y ∈ ru, y ∈ ndR ru ∨ (y.al = false ∧ (⟨true, y.pa⟩ : Rul) ∈ ru) := by
  obtain ⟨h1, h2, -, h4⟩ := nd_fold ru ru []
  exact ⟨by rw [List.length_nil, Nat.zero_add] at h1; exact h1, fun y hy => (h2 y hy).elim (fun h => by cases h) id, h4⟩
/- allowed rules stay -/
theorem ndR_al (ru : List Rul) {y : Rul} (h : y ∈ ru) (ha : y.al = true) : y ∈ ndR ru := ((ndR_ok ru).2.2 y h).elim id fun x => by rw [ha] at x; cases x.1
theorem chk_nd {g : Grp} (h : checkGrpL g = 0) : checkGrpL (ndG g) = 0 := by
  obtain ⟨h1, h2, h3, h4, h5, h6, h7⟩ := grp_ok h
  obtain ⟨n1, n2, -⟩ := ndR_ok g.ru
  unfold checkGrpL
  rw [show (ndG g).ag = g.ag from rfl, show (ndG g).de = g.de from rfl, show (ndG g).ru = ndR g.ru from rfl]
  rw [if_neg (show ¬ g.ag.length = 0 by omega), if_neg (show ¬ 50 < g.ag.length by omega), if_neg (show ¬ g.ag.all agentL = false by rw [List.all_eq_true.2 h3]; simp), if_neg (show ¬ 200 < (ndR g.ru).length by omega)]
  have e : ((ndR g.ru).all fun r => patOk r.pa) = true := List.all_eq_true.2 fun y hy => h5 y (n2 y hy)
  rw [if_neg (by rw [e]; simp), if_neg (show ¬ (g.de < -1 ∨ 99999 < g.de) by omega)]
theorem grpsE_nd : ∀ {G : List Grp}, grpsE G = 0 → grpsE (G.map ndG) = 0
  | [], _ => rfl
  | g :: t, h => by
    have h1 := grpsE_ok h g (by simp)
    rw [grpsE, if_pos h1] at h
    rw [List.map_cons, grpsE, if_pos (chk_nd h1)]
    exact grpsE_nd h
theorem chk_need {r : Rob} (h : checkRobL r = 0) : checkRobL (needL r) = 0 := by
  unfold checkRobL at h
  by_cases h1 : 100 < r.gr.length
  · rw [if_pos h1] at h; cases h
  rw [if_neg h1] at h
  by_cases h2 : grpsE r.gr = 0
  · rw [if_pos h2] at h
    unfold checkRobL needL
    rw [if_neg (by simpa using h1), if_pos (grpsE_nd h2)]
    exact h
  · rw [if_neg h2] at h; exact absurd h h2
theorem agent_len {s : List UInt8} (h : agentL s = true) : s.length ≤ 40 := by
  unfold agentL at h
  simp only [Bool.or_eq_true, Bool.and_eq_true, beq_iff_eq, decide_eq_true_eq] at h
  rcases h with h | h
  · rw [h]; decide
  · omega
theorem need_ok {r : Rob} (ok : robOk r) (h : checkRobL r = 0) : robOk (needL r) := by
  obtain ⟨c1, c2, c3, c4⟩ := rob_ok h
  obtain ⟨o1, o2, o3, o4⟩ := ok
  refine ⟨by unfold needL; simpa using o1, fun g hg => ?_, o3, o4⟩
  obtain ⟨g0, hg0, rfl⟩ := List.mem_map.1 (show g ∈ r.gr.map ndG from hg)
  obtain ⟨k1, k2, k3, k4, k5, k6⟩ := o2 g0 hg0
  obtain ⟨n1, n2, -⟩ := ndR_ok g0.ru
  exact ⟨k1, k2, by show (ndR g0.ru).length ≤ _; omega, fun y hy => k4 y (n2 y hy), k5, k6⟩
/- what the deciding rule is -/
theorem decG_best (l : List Rul) (p : List UInt8) : ∀ n, n ≤ l.length → (decG l p n < 0 → ∀ j, j < n → matchesB (l.getD j noRul).pa p = false) ∧ (0 ≤ decG l p n → matchesB (l.getD (decG l p n).toNat noRul).pa p = true ∧ ∀ j, j < n → matchesB (l.getD j noRul).pa p = true → (l.getD j noRul).pa.length ≤ (l.getD (decG l p n).toNat noRul).pa.length ∧ ((l.getD j noRul).pa.length = (l.getD (decG l p n).toNat noRul).pa.length → (l.getD j noRul).al = true → (l.getD (decG l p n).toNat noRul).al = true))
  | 0, _ => ⟨fun _ j hj => absurd hj (by omega), fun h => by have h : (0 : Int) ≤ -1 := h; omega⟩
  | n + 1, hn => by
    obtain ⟨i1, i2⟩ := decG_best l p n (by omega)
    have db := decG_b l p n
    rw [decG]
    by_cases h : matchesB (l.getD n noRul).pa p = true ∧ betB l (decG l p n) n = true
    · rw [if_pos h]
      refine ⟨fun x => by omega, fun _ => ?_⟩
      rw [Int.toNat_natCast]
      refine ⟨h.1, fun j hj hm => ?_⟩
      by_cases e : j = n
      · subst e; exact ⟨Nat.le_refl _, fun _ x => x⟩
      · have hb := h.2
        unfold betB at hb
        simp only [Bool.or_eq_true, Bool.and_eq_true, decide_eq_true_eq, Bool.not_eq_true'] at hb
        by_cases hd : decG l p n < 0
        · have := i1 hd j (by omega)
          rw [this] at hm; cases hm
        · have := (i2 (by omega)).2 j (by omega) hm
          rcases hb with (hb | hb) | hb
          · exact absurd hb hd
          · exact ⟨by omega, fun x => by omega⟩
          · exact ⟨by omega, fun _ _ => hb.1.2⟩
    · rw [if_neg h]
      refine ⟨fun x j hj => ?_, fun x => ?_⟩
      · by_cases e : j = n
        · subst e
          refine Classical.byContradiction fun hm => h ⟨by simpa using hm, ?_⟩
          unfold betB
          simp [x]
        · exact i1 x j (by omega)
      · obtain ⟨k1, k2⟩ := i2 x
        refine ⟨k1, fun j hj hm => ?_⟩
        by_cases e : j = n
        · subst e
          have hb : ¬ betB l (decG l p j) j = true := fun y => h ⟨hm, y⟩
          unfold betB at hb
          simp only [Bool.or_eq_true, Bool.and_eq_true, decide_eq_true_eq, Bool.not_eq_true', not_or, not_and] at hb
          obtain ⟨⟨_, b2⟩, b3⟩ := hb
          refine ⟨by omega, fun q w => ?_⟩
          have := b3 ⟨q, w⟩
          simpa using this
        · exact k2 j (by omega) hm
/-- what is permitted by rules, said of the rules alone -/
theorem core_iff (l : List Rul) (p : List UInt8) : (decide (decL l p < 0) || (l.getD (decL l p).toNat noRul).al) = true ↔ ∀ y ∈ l, matchesB y.pa p = true → ∃ z ∈ l, matchesB z.pa p = true ∧ z.al = true ∧ ∀ u ∈ l, matchesB u.pa p = true → u.pa.length ≤ z.pa.length := by
  obtain ⟨h1, h2⟩ := decG_best l p l.length (Nat.le_refl _)
  have db := decG_b l p l.length
  have e : decL l p = decG l p l.length := rfl
  rw [e]
  have at' : ∀ y ∈ l, ∃ j, j < l.length ∧ l.getD j noRul = y := fun y hy => by
    obtain ⟨j, hj, rfl⟩ := List.getElem_of_mem hy
    exact ⟨j, hj, by rw [List.getD_eq_getElem?_getD, List.getElem?_eq_getElem hj]; rfl⟩
  rw [Bool.or_eq_true, decide_eq_true_eq]
  constructor
  · rintro (h | h) y hy hm
    · obtain ⟨j, hj, rfl⟩ := at' y hy
      have := h1 h j hj
      rw [this] at hm; cases hm
    · by_cases hd : decG l p l.length < 0
      · obtain ⟨j, hj, rfl⟩ := at' y hy
        have := h1 hd j hj
        rw [this] at hm; cases hm
      · obtain ⟨k1, k2⟩ := h2 (by omega)
        refine ⟨_, mem_at (d := noRul) (show (decG l p l.length).toNat < l.length by omega), k1, h, fun u hu hm' => ?_⟩
        obtain ⟨j, hj, rfl⟩ := at' u hu
        exact (k2 j hj hm').1
  · intro h
    by_cases hd : decG l p l.length < 0
    · exact .inl hd
    · right
      obtain ⟨k1, k2⟩ := h2 (by omega)
      have hm := mem_at (d := noRul) (show (decG l p l.length).toNat < l.length by omega)
      obtain ⟨z, hz, z1, z2, z3⟩ := h _ hm k1
      obtain ⟨j, hj, rfl⟩ := at' z hz
      have a1 := z3 _ hm k1
      have a2 := k2 j hj z1
      exact a2.2 (by omega) z2
theorem rulG_nd (G : List Grp) (a : List UInt8) : (∀ y ∈ rulG (G.map ndG) a, y ∈ rulG G a) ∧ ∀ y ∈ rulG G a, y ∈ rulG (G.map ndG) a ∨ (y.al = false ∧ (⟨true, y.pa⟩ : Rul) ∈ rulG (G.map ndG) a) := by
  have mem : ∀ (H : List Grp) (y : Rul), y ∈ rulG H a ↔ ∃ g ∈ H, g.ag.contains a = true ∧ y ∈ g.ru := fun H y => by
    unfold rulG
    rw [List.mem_flatMap]
    constructor
    · rintro ⟨g, hg, hy⟩
      exact ⟨g, (List.mem_filter.1 hg).1, (List.mem_filter.1 hg).2, hy⟩
    · rintro ⟨g, hg, hc, hy⟩
      exact ⟨g, List.mem_filter.2 ⟨hg, hc⟩, hy⟩
  refine ⟨fun y hy => ?_, fun y hy => ?_⟩
  · obtain ⟨g, hg, hc, hy⟩ := (mem _ y).1 hy
    obtain ⟨g0, hg0, rfl⟩ := List.mem_map.1 hg
    exact (mem _ y).2 ⟨g0, hg0, hc, (ndR_ok g0.ru).2.1 y hy⟩
  · obtain ⟨g, hg, hc, hy⟩ := (mem _ y).1 hy
    have put : ∀ z ∈ ndR g.ru, z ∈ rulG (G.map ndG) a := fun z hz => (mem _ z).2 ⟨ndG g, List.mem_map.2 ⟨g, hg, rfl⟩, hc, hz⟩
    rcases (ndR_ok g.ru).2.2 y hy with h | ⟨h1, h2⟩
    · exact .inl (put y h)
    · exact .inr ⟨h1, put _ (ndR_al g.ru h2 rfl)⟩
theorem core_nd (G : List Grp) (a p : List UInt8) : (decide (decL (rulG (G.map ndG) a) p < 0) || ((rulG (G.map ndG) a).getD (decL (rulG (G.map ndG) a) p).toNat noRul).al) = (decide (decL (rulG G a) p < 0) || ((rulG G a).getD (decL (rulG G a) p).toNat noRul).al) := by
  obtain ⟨h1, h2⟩ := rulG_nd G a
  generalize rulG (G.map ndG) a = l' at *
  generalize rulG G a = l at *
  rw [Bool.eq_iff_iff, core_iff, core_iff]
  have big : ∀ u ∈ l, matchesB u.pa p = true → ∃ u' ∈ l', matchesB u'.pa p = true ∧ u'.pa = u.pa := fun u hu hm => by
    rcases h2 u hu with h | ⟨_, h⟩
    · exact ⟨u, h, hm, rfl⟩
    · exact ⟨_, h, hm, rfl⟩
  constructor
  · intro h y hy hm
    obtain ⟨y', hy', hm', _⟩ := big y hy hm
    obtain ⟨z, hz, z1, z2, z3⟩ := h y' hy' hm'
    refine ⟨z, h1 z hz, z1, z2, fun u hu hmu => ?_⟩
    obtain ⟨u', hu', hmu', e⟩ := big u hu hmu
    rw [← e]; exact z3 u' hu' hmu'
  · intro h y hy hm
    obtain ⟨z, hz, z1, z2, z3⟩ := h y (h1 y hy) hm
    refine ⟨z, ?_, z1, z2, fun u hu hmu => z3 u (h1 u hu) hmu⟩
    rcases h2 z hz with h | ⟨h, _⟩
    · exact h
    · rw [z2] at h; cases h
theorem per_need (r : Rob) (a p : List UInt8) : perL (needL r) a p = perL r a p := by
  have e : namG (r.gr.map ndG) a = namG r.gr a := by unfold namG; rw [List.any_map]; rfl
  have c1 := core_nd r.gr a p
  have c2 := core_nd r.gr [42] p
  unfold perL rulesL needL
  simp only [e]
  by_cases hn : namG r.gr a = true
  · simp only [if_pos hn]; rw [c1]
  · simp only [if_neg hn]; rw [c2]

def ckCloneStr : Ck
  | [.sl n f] => some (isLs cStr n f ∧ n ≤ 1000000000000, .sl n f)
  | _ => none
attribute [push_cast] ckCloneStr

def idxR (l : List Rul) (w : Rul) : Int := match l.findIdx? (fun x => decide (w = x)) with
  | some k => k
  | none => -1
theorem idxR_at {l : List Rul} {w : Rul} {i : Nat} (hi : i < l.length) (h : w = l.getD i noRul) (hn : ∀ j, j < i → ¬ w = l.getD j noRul) : idxR l w = i := by
  unfold idxR
  have : l.findIdx? (fun x => decide (w = x)) = some i := by
    rw [List.findIdx?_eq_some_iff_getElem]
    refine ⟨hi, ?_, fun j hj => ?_⟩
    · rw [List.getD_eq_getElem?_getD, List.getElem?_eq_getElem hi] at h; simpa using h
    · have h1 := hn j hj
      rw [List.getD_eq_getElem?_getD, List.getElem?_eq_getElem (by omega)] at h1
      simpa using h1
  rw [this]
theorem idxR_no {l : List Rul} {w : Rul} (hn : ∀ j, j < l.length → ¬ w = l.getD j noRul) : idxR l w = -1 := by
  unfold idxR
  have : l.findIdx? (fun x => decide (w = x)) = none := by
    rw [List.findIdx?_eq_none_iff]
    intro x hx
    obtain ⟨j, hj, rfl⟩ := List.getElem_of_mem hx
    have h1 := hn j hj
    rw [List.getD_eq_getElem?_getD, List.getElem?_eq_getElem hj] at h1
    simpa using h1
  rw [this]
theorem idxR_has (l : List Rul) (w : Rul) : decide (0 ≤ idxR l w) = decide (w ∈ l) := by
  unfold idxR
  cases h : l.findIdx? (fun x => decide (w = x)) with
  | none =>
    rw [List.findIdx?_eq_none_iff] at h
    rw [decide_eq_false (by omega : ¬ (0 : Int) ≤ -1), decide_eq_false]
    intro hc
    have := h w hc
    simp at this
  | some k =>
    rw [List.findIdx?_eq_some_iff_getElem] at h
    obtain ⟨hk, h1, _⟩ := h
    have e : w = l[k] := by simpa using h1
    have hm : w ∈ l := by rw [e]; exact List.getElem_mem hk
    rw [decide_eq_true hm]
    exact decide_eq_true (Int.natCast_nonneg k)
def ckIdxR : Ck
  | [.sl n f, .agg [.bool a, .str p]] => some (isLs cRul n f ∧ n ≤ 4611686018427387904, .int .i64 (idxR (lsOf cRul n f) ⟨a, p⟩))
  | _ => none
attribute [push_cast] ckIdxR
def ckCtnR : Ck
  | [.sl n f, .agg [.bool a, .str p]] => some (isLs cRul n f ∧ n ≤ 4611686018427387904, .bool (decide ((⟨a, p⟩ : Rul) ∈ lsOf cRul n f)))
  | _ => none
attribute [push_cast] ckCtnR
def ckNeed : Ck
  | [x] => some (isC cRob x ∧ robOk (cRob.dec x), .tup [cRob.enc (if checkRobL (cRob.dec x) = 0 then needL (cRob.dec x) else noRob), .int .i64 (checkRobL (cRob.dec x))])
  | _ => none
attribute [push_cast] ckNeed
theorem eqS_take {a b : List (List UInt8)} (h : a.length = b.length) (hh : ∀ j, j < a.length → a.getD j [] = b.getD j []) : a = b := by
  apply List.ext_getElem h
  intro i h1 h2
  have := hh i h1
  rwa [List.getD_eq_getElem?_getD, List.getD_eq_getElem?_getD, List.getElem?_eq_getElem h1, List.getElem?_eq_getElem h2] at this
def ckEqStr : Ck
  | [.sl n f, .sl m g] => some (isLs cStr n f ∧ isLs cStr m g ∧ n ≤ 4611686018427387904, .bool (decide (lsOf cStr n f = lsOf cStr m g)))
  | _ => none
theorem conEqStr : Con pg 26 ckEqStr := by
  have hct := ctN_ok pg
  intro args q r h hq
  unfold ckEqStr at h
  split at h
  · cases h
    rename_i n f m g
    refine pcall_args (args' := [.sl (lsOf cStr n f).length (lsF cStr (lsOf cStr n f)), .sl (lsOf cStr m g).length (lsF cStr (lsOf cStr m g))]) ⟨isLs.vle hq.1, isLs.vle hq.2.1, trivial⟩ ?_
    have hn : (lsOf cStr n f).length ≤ 4611686018427387904 := by rw [lsOf_len]; exact hq.2.2
    generalize lsOf cStr n f = a at hn ⊢
    generalize lsOf cStr m g = b
    refine w26 (fun _ => false) [] rfl hct rfl rfl ?_
    push_cast (config := { maxSteps := 10000000 })
    refine ⟨fun h => ?_, fun h => ?_⟩
    · exact (decide_eq_false fun e => h (by rw [e])).symm
    refine LoopW.adj ⟨hct, fol⟩ (by kernel_rfl) [] (fun i : Nat => [(0, .sl a.length (lsF cStr a)), (1, .sl b.length (lsF cStr b)), (12, .int .i64 a.length), (13, .int .i64 i)]) (fun _ => []) (fun i => i ≤ a.length ∧ ∀ j, j < i → a.getD j [] = b.getD j []) (fun i => a.length - i) 0 ?_ fun i hi => ?_
    · push_cast (config := { maxSteps := 10000000 })
      exact Nat.zero_le _
    · push_cast (config := { maxSteps := 10000000 })
      obtain ⟨h1, h2⟩ := hi
      refine ⟨fun hlt => ⟨hlt, by omega, fun hne => ?_, fun he => ⟨by omega, i + 1, ⟨by omega, fun j hj => ?_⟩, by omega, by omega⟩⟩, fun hge => ?_⟩
      · exact (decide_eq_false fun e => hne (by rw [e])).symm
      · by_cases e : j = i
        · subst e; exact he
        · exact h2 j (by omega)
      · exact (decide_eq_true (eqS_take (by omega) fun j hj => h2 j (by omega))).symm
  · cases h
attribute [push_cast] ckEqStr

theorem eqR_take {α : Type} {d : α} {a b : List α} (h : a.length = b.length) (hh : ∀ j, j < a.length → a.getD j d = b.getD j d) : a = b := by
  apply List.ext_getElem h
  intro i h1 h2
  have := hh i h1
  rwa [List.getD_eq_getElem?_getD, List.getD_eq_getElem?_getD, List.getElem?_eq_getElem h1, List.getElem?_eq_getElem h2] at this
theorem neR_at {α : Type} {d : α} {a b : List α} {i : Nat} (h : a.getD i d ≠ b.getD i d) : a ≠ b := fun e => h (by rw [e])
def ckEqRul : Ck
  | [.sl n f, .sl m g] => some (isLs cRul n f ∧ isLs cRul m g ∧ n ≤ 4611686018427387904, .bool (decide (lsOf cRul n f = lsOf cRul m g)))
  | _ => none
theorem conEqRul : Con pg 48 ckEqRul := by
  have hct := ctN_ok pg
  intro args q r h hq
  unfold ckEqRul at h
  split at h
  · cases h
    rename_i n f m g
    refine pcall_args (args' := [.sl (lsOf cRul n f).length (lsF cRul (lsOf cRul n f)), .sl (lsOf cRul m g).length (lsF cRul (lsOf cRul m g))]) ⟨isLs.vle hq.1, isLs.vle hq.2.1, trivial⟩ ?_
    have hn : (lsOf cRul n f).length ≤ 4611686018427387904 := by rw [lsOf_len]; exact hq.2.2
    generalize lsOf cRul n f = a at hn ⊢
    generalize lsOf cRul m g = b
    refine w48 (fun _ => false) [] rfl hct rfl rfl ?_
    push_cast (config := { maxSteps := 10000000 })
    refine ⟨fun h => ?_, fun h => ?_⟩
    · exact (decide_eq_false fun e => h (by rw [e])).symm
    refine LoopW.adj ⟨hct, fol⟩ (by kernel_rfl) [] (fun i : Nat => [(0, .sl a.length (lsF cRul a)), (1, .sl b.length (lsF cRul b)), (12, .int .i64 a.length), (13, .int .i64 i)]) (fun _ => []) (fun i => i ≤ a.length ∧ ∀ j, j < i → a.getD j noRul = b.getD j noRul) (fun i => a.length - i) 0 ?_ fun i hi => ?_
    · push_cast (config := { maxSteps := 10000000 })
      exact Nat.zero_le _
    · push_cast (config := { maxSteps := 10000000 })
      obtain ⟨h1, h2⟩ := hi
      refine ⟨fun hlt => ⟨hlt, by omega, fun hne => ?_, fun he => ⟨by omega, i + 1, ⟨by omega, fun j hj => ?_⟩, by omega, by omega⟩⟩, fun hge => ?_⟩
      · exact (decide_eq_false (neR_at (d := noRul) (i := i) fun e => hne (by rw [e]) (by rw [e]))).symm
      · by_cases e : j = i
        · subst e
          have e1 : ∀ x y : Rul, x.al = y.al → x.pa = y.pa → x = y := fun x y h h' => by cases x; cases y; simp_all
          exact e1 _ _ he.1 he.2
        · exact h2 j (by omega)
      · exact (decide_eq_true (eqR_take (d := noRul) (by omega) fun j hj => h2 j (by omega))).symm
  · cases h
attribute [push_cast] ckEqRul

attribute [push_cast] ckNeed
def ckSameG : Ck
  | [.sl n f, .sl m g] => some (isLs cGrp n f ∧ isLs cGrp m g ∧ n ≤ 140737488355328 ∧ (∀ x ∈ lsOf cGrp n f, grpOk x) ∧ (∀ x ∈ lsOf cGrp m g, grpOk x), .bool (decide (lsOf cGrp n f = lsOf cGrp m g)))
  | _ => none
theorem conSameG : Con pg 25 ckSameG := by
  have hct := (ctA_ok conEqStr (ctA_ok conEqRul (ctN_ok _)))
  intro args q r h hq
  unfold ckSameG at h
  split at h
  · cases h
    rename_i n f m g
    refine pcall_args (args' := [.sl (lsOf cGrp n f).length (lsF cGrp (lsOf cGrp n f)), .sl (lsOf cGrp m g).length (lsF cGrp (lsOf cGrp m g))]) ⟨isLs.vle hq.1, isLs.vle hq.2.1, trivial⟩ ?_
    obtain ⟨-, -, hn, h1, h2⟩ := hq
    have hlen : (lsOf cGrp n f).length = n := lsOf_len n f
    rw [← hlen] at hn
    generalize lsOf cGrp n f = a at hn h1 ⊢
    generalize lsOf cGrp m g = b at h2 ⊢
    refine w25 (fun _ => false) [] rfl hct rfl rfl ?_
    push_cast (config := { maxSteps := 10000000 })
    refine ⟨fun h => ?_, fun h => ?_⟩
    · exact (decide_eq_false fun e => h (by rw [e])).symm
    refine LoopW.adj ⟨hct, fol⟩ (by kernel_rfl) [] (fun i : Nat => [(0, .sl a.length (lsF cGrp a)), (1, .sl b.length (lsF cGrp b)), (12, .int .i64 a.length), (13, .int .i64 i)]) (fun _ => []) (fun i => i ≤ a.length ∧ ∀ j, j < i → a.getD j noGrp = b.getD j noGrp) (fun i => a.length - i) 0 ?_ fun i hi => ?_
    · push_cast (config := { maxSteps := 10000000 })
      exact Nat.zero_le _
    · push_cast (config := { maxSteps := 10000000 })
      obtain ⟨i1, i2⟩ := hi
      have eg : ∀ x y : Grp, x.de = y.de → x.ag = y.ag → x.ru = y.ru → x = y := fun x y h h' h'' => by cases x; cases y; simp_all
      refine ⟨fun hlt => ?_, fun hge => ?_⟩
      · have g1 := h1 _ (mem_at (d := noGrp) hlt)
        have g1a := g1.1
        have g1b := g1.2.2.1
        refine ⟨hlt, by omega, fun h => ⟨h, hlt⟩, fun h => ⟨h, by omega⟩, fun h => ⟨h, by omega⟩, fun h => ⟨h, hlt⟩, fun h => ⟨h, by omega⟩, fun h => ⟨h, by omega⟩, fun h => ?_, fun h => ⟨by omega, i + 1, ⟨by omega, fun j hj => ?_⟩, by omega, by omega⟩⟩
        · refine (decide_eq_false fun e => ?_).symm
          subst e
          rcases h with (h | h) | h <;> exact h rfl
        · by_cases e : j = i
          · subst e; exact eg _ _ h.1.1 h.1.2 h.2
          · exact i2 j (by omega)
      · exact (decide_eq_true (eqR_take (d := noGrp) (by omega) fun j hj => i2 j (by omega))).symm
  · cases h
attribute [push_cast] ckSameG
def ckSame : Ck
  | [x, y] => some (isC cRob x ∧ isC cRob y ∧ robOk (cRob.dec x) ∧ robOk (cRob.dec y), .bool (decide (cRob.dec x = cRob.dec y)))
  | _ => none
theorem conSame : Con pg 10 ckSame := by
  have hct := (ctA_ok conSameG (ctA_ok conEqStr (ctN_ok _)))
  intro args q r h hq
  unfold ckSame at h
  split at h
  · cases h
    rename_i x y
    refine pcall_args (args' := [cRob.enc (cRob.dec x), cRob.enc (cRob.dec y)]) ⟨hq.1, hq.2.1, trivial⟩ ?_
    obtain ⟨-, -, o1, o2⟩ := hq
    generalize cRob.dec x = r at o1 ⊢
    generalize cRob.dec y = s at o2 ⊢
    refine w10 (fun _ => false) [] rfl hct rfl rfl ?_
    push_cast (config := { maxSteps := 10000000 })
    refine ⟨⟨o1.1, o1.2.1, o2.2.1⟩, fun h => ⟨h, by have := o1.2.2.1; omega⟩, ?_⟩
    have e : r = s ↔ r.gr = s.gr ∧ r.ma = s.ma := by
      cases r; cases s; simp
    rw [Bool.eq_iff_iff, Bool.and_eq_true, decide_eq_true_eq, decide_eq_true_eq, decide_eq_true_eq, e]
  · cases h
attribute [push_cast] ckSame

def ckLawRR : Ck
  | [.str t, x] => some (t.length ≤ 140737488355328 ∧ isC cRob x ∧ robOk (cRob.dec x), .bool true)
  | _ => none
theorem conLawRR : Con pg 5 ckLawRR := by
  have hct := (ctA_ok conReadR (ctA_ok conRead4 (ctA_ok conSame (ctA_ok conCheckRob (ctA_ok conCheckRob4 (ctA_ok conAwake4 (ctN_ok _)))))))
  intro args q r h hq
  unfold ckLawRR at h
  split at h
  · cases h
    rename_i t x
    refine pcall_args (args' := [.str t, cRob.enc (cRob.dec x)]) ⟨VLe.refl _, hq.2.1, trivial⟩ ?_
    obtain ⟨ht, -, ok⟩ := hq
    generalize cRob.dec x = r at ok ⊢
    have hk := chkRd_ok (read_chk t)
    refine w5 (fun _ => false) [] rfl hct rfl rfl ?_
    push_cast (config := { maxSteps := 10000000 })
    exact ⟨ht, ht, hk, ok⟩
  · cases h
attribute [push_cast] ckLawRR
theorem allLawRR {H : Type} (ds : List (DataW H)) (hh : hasD [.str, sRob] ds) : PCall pg 5 (ds.map toV) (.bool true) := by
  obtain ⟨d1, d2, rfl, x, y⟩ := hasD2 hh
  obtain ⟨s, e1, b1⟩ := shStr x
  obtain ⟨i1, k1⟩ := shRob y
  simp only [List.map_cons, List.map_nil, e1]
  exact conLawRR _ _ _ rfl ⟨b1, i1, k1⟩

end Go.Abs
