/- what functions of this program compute: contracts, each a function's own -/
import Derived.Test.YthcimhogoiklfaaGreatDoorAbsK2
import Derived.Test.YthcimhogoiklfaaGreatDoorAbsFacts
import Derived.Test.YthcimhogoiklfaaGreatDoorAbsF3
import Derived.Test.YthcimhogoiklfaaGreatDoorAbsShelf
import Derived.Lib.SplitLaws
import Derived.Lib.SlTrimSet
import Derived.Lib.IndexMore
import Derived.Lib.Atoi
import Derived.Lib.Itoa
import Derived.Lib.ItoaNum
import Derived.Lib.AtoiErrMem
import Derived.Lib.Join
import Derived.Lib.Repeat
import Derived.Lib.ItoaLen
import Derived.Lib.Walk
import Derived.Deep.RegionLaw
import Derived.Lib.SliceRun
import Derived.Shelf.RegionOpenPlain
namespace Go.Abs
open Go Go.Proofs
set_option maxHeartbeats 4000000
set_option maxRecDepth 100000
set_option linter.unusedVariables false
set_option linter.unusedSimpArgs false
theorem wfL_rowR : ∀ (s : List UInt8), rowR s = true → wfL s = true
  | [], _ => rfl
  | [a], h => by
    simp only [rowR, hex2, Bool.or_false, Bool.and_true, Bool.and_eq_true, decide_eq_true_eq] at h
    have : a ≠ 37 := fun e => h.2 (by rw [e]; rfl)
    simp [wfL, this]
  | [a, b], h => by
    simp only [rowR, hex2, Bool.or_false, Bool.and_true, Bool.and_eq_true, decide_eq_true_eq] at h
    have h1 : a ≠ 37 := fun e => h.1.2 (by rw [e]; rfl)
    have h2 : b ≠ 37 := fun e => h.2.2 (by rw [e]; rfl)
    simp [wfL, h1, h2]
  | c :: a :: b :: r, h => by
    rw [rowR] at h
    simp only [Bool.and_eq_true, Bool.or_eq_true, decide_eq_true_eq] at h
    by_cases hc : c = 37
    · have h2 := h.1.2.resolve_left (fun x => x (by rw [hc]; rfl))
      simp only [hex2, Bool.and_eq_true] at h2
      have hr := rowR_tail [a, b] h.2
      rw [wfL, if_pos hc, Bool.and_eq_true, Bool.and_eq_true]
      exact ⟨h2, wfL_rowR r hr⟩
    · rw [wfL, if_neg hc]
      exact wfL_rowR (a :: b :: r) h.2
def ckUndot : Ck
  | [.str s] => some (s.length ≤ 2000, .str (undotL s))
  | _ => none
theorem spl_sum (c : UInt8) : ∀ s : List UInt8, (spl c s).length ≤ s.length + 1
  | [] => by simp [spl]
  | x :: t => by
    have := spl_sum c t
    have := List.length_pos_iff.2 (spl_ne c t)
    rw [spl]
    split
    · simp only [List.length_cons]; omega
    · simp only [List.length_cons, List.length_tail]; omega
attribute [push_cast] ckUndot
def ckNormA : Ck
  | [.agg [.str sc, .str ho, .str po, .str pa, .str qu, .bool hq, .str fr, .bool hf]] => some (checkAdrL ⟨sc, ho, po, pa, qu, hq, fr, hf⟩ = 0, cAdr.enc (normA ⟨sc, ho, po, pa, qu, hq, fr, hf⟩))
  | _ => none
theorem check_sz {a : Adr} (h : checkAdrL a = 0) : synA a = true ∧ (wrL a).length ≤ 2000 ∧ a.sc.length ≤ 2000 ∧ a.ho.length ≤ 2000 ∧ a.po.length ≤ 2000 ∧ a.pa.length ≤ 2000 ∧ a.qu.length ≤ 2000 ∧ a.fr.length ≤ 2000 := by
  unfold checkAdrL at h
  split at h
  · cases h
  rename_i h1
  split at h
  · cases h
  rename_i h2
  split at h
  · cases h
  rename_i h3
  have hw : (wrL a).length ≤ 2000 := by omega
  have hw' := hw
  unfold wrL behL at hw'
  simp only [List.length_append] at hw'
  have hp : a.po.length ≤ (if a.po = [] then [] else 58 :: a.po).length := by split <;> simp_all
  have hq : a.qu.length ≤ (if a.hq = true then 63 :: a.qu else []).length := by
    split
    · simp
    · have : a.qu = [] := Classical.byContradiction fun x => h2 (.inl ⟨x, by simp_all⟩)
      rw [this]; simp
  have hf : a.fr.length ≤ (if a.hf = true then 35 :: a.fr else []).length := by
    split
    · simp
    · have : a.fr = [] := Classical.byContradiction fun x => h2 (.inr ⟨x, by simp_all⟩)
      rw [this]; simp
  exact ⟨by simpa using h1, hw, by omega, by omega, by omega, by omega, by omega, by omega⟩
theorem syn_wf {a : Adr} (h : synA a = true) : wfL a.pa = true ∧ wfL a.qu = true := by
  unfold synA at h
  simp only [Bool.and_eq_true] at h
  have h1 := h.1.1.2
  rw [rowP_rowR, Bool.and_eq_true] at h1
  exact ⟨wfL_rowR _ h1.1, wfL_rowR _ h.1.2⟩
attribute [push_cast] ckNormA
def ckNormAF : Ck
  | [.agg [.str sc, .str ho, .str po, .str pa, .str qu, .bool hq, .str fr, .bool hf]] => some (checkAdrL ⟨sc, ho, po, pa, qu, hq, fr, hf⟩ = 0, .tup [cAdr.enc (if checkAdrL (normA ⟨sc, ho, po, pa, qu, hq, fr, hf⟩) = 0 then normA ⟨sc, ho, po, pa, qu, hq, fr, hf⟩ else noAdr), .int .i64 (checkAdrL (normA ⟨sc, ho, po, pa, qu, hq, fr, hf⟩))])
  | _ => none
theorem ok_sz {a : Adr} (h : checkAdrL a = 0) : adrOk a := by
  obtain ⟨z1, z2, z3, z4, z5, z6, z7, z8⟩ := check_sz h
  unfold adrOk
  omega
theorem undotL_len (s : List UInt8) : (undotL s).length ≤ s.length + 1 := by
  unfold undotL
  split
  · simp
  · have h := dotGo_len (splitL (s.drop 1) 47) []
    have h2 := congrArg List.length (joinSl_spl (s.drop 1))
    rw [← splitL_eq, List.length_cons, List.length_drop] at h2
    have h0 : (joinSl []).length = 0 := rfl
    omega
theorem norm_ok {a : Adr} (h : checkAdrL a = 0) : adrOk (normA a) := by
  obtain ⟨z1, z2, z3, z4, z5, z6, z7, z8⟩ := check_sz h
  have h1 := undotL_len (normL a.pa)
  have h2 := normL_len a.pa
  have h3 := normL_len a.qu
  have h4 := trimZ_len a.po
  have h5 : (portA a).length ≤ (trimZ a.po).length := by unfold portA; split <;> simp
  have h6 : (npL a).length ≤ 2001 := by
    unfold npL
    split
    · simp
    · omega
  have h7 := lowL_len a.sc
  have h8 := lowL_len a.ho
  have h9 : ([] : List UInt8).length = 0 := rfl
  unfold adrOk
  exact ⟨by show (lowL a.sc).length ≤ _; omega, by show (lowL a.ho).length ≤ _; omega, by show (portA a).length ≤ _; omega, by show (npL a).length ≤ _; omega, by show (normL a.qu).length ≤ _; omega, by show ([] : List UInt8).length ≤ _; omega⟩
attribute [push_cast] ckNormAF
def ckTrimA : Ck
  | [.str s] => some (s.length ≤ 4611686018427387904, .str (trimA s))
  | _ => none
attribute [push_cast] ckTrimA
def fitA (s : List UInt8) (j : Nat) : Bool := if j = 0 then isLet ((s.getD j 0).toNat : Int) else schC (s.getD j 0)
theorem rowN_at {s : List UInt8} {i : Nat} (h : i ≤ s.length) (h1 : ∀ j, j < i → fitA s j = true) (h2 : i < s.length → fitA s i = false) : rowN s = i := by
  unfold rowN
  cases s with
  | nil =>
    obtain rfl : i = 0 := by simpa using h
    rfl
  | cons c t =>
    cases i with
    | zero =>
      have := h2 (by simp)
      rw [if_neg]
      intro e
      rw [show fitA (c :: t) 0 = isLet (((c :: t).getD 0 0).toNat : Int) from rfl, e] at this
      cases this
    | succ i =>
      have h0 : isLet (((c :: t).getD 0 0).toNat : Int) = true := h1 0 (by omega)
      rw [if_pos h0, List.drop_one, List.tail_cons, runN_at (n := i) (by simpa using h) (fun j hj => ?_) (fun hj => ?_), Nat.add_comm]
      · have := h1 (j + 1) (by omega)
        simpa [fitA] using this
      · have := h2 (by simpa using hj)
        simpa [fitA] using this
theorem cut_sz (s c : List UInt8) : (Lib.cut s c).1.length ≤ s.length ∧ (Lib.cut s c).2.1.length ≤ s.length := by
  unfold Lib.cut
  split
  · exact ⟨by show (s.take _).length ≤ _; rw [List.length_take]; omega, by show (s.drop _).length ≤ _; rw [List.length_drop]; omega⟩
  · exact ⟨Nat.le_refl _, by simp⟩
def ckRowA : Ck
  | [.str s] => some (s.length ≤ 4611686018427387904, .str (rowA s))
  | _ => none
attribute [push_cast] ckRowA
def ckTextA : Ck
  | [.agg [.str sc, .str ho, .str po, .str pa, .str qu, .bool hq, .str fr, .bool hf]] => some (adrOk ⟨sc, ho, po, pa, qu, hq, fr, hf⟩, .tup [.str (if checkAdrL ⟨sc, ho, po, pa, qu, hq, fr, hf⟩ = 0 then wrL ⟨sc, ho, po, pa, qu, hq, fr, hf⟩ else []), .int .i64 (checkAdrL ⟨sc, ho, po, pa, qu, hq, fr, hf⟩)])
  | _ => none
attribute [push_cast] ckTextA
def ckMeantA : Ck
  | [.agg [.str sc, .str ho, .str po, .str pa, .str qu, .bool hq, .str fr, .bool hf], .str s] => some (adrOk ⟨sc, ho, po, pa, qu, hq, fr, hf⟩ ∧ s.length ≤ 2000, cAdr.enc (meantA ⟨sc, ho, po, pa, qu, hq, fr, hf⟩ s))
  | _ => none
attribute [push_cast] ckMeantA
theorem trimS_len (s c : List UInt8) : (Lib.trimS s c).length ≤ s.length := by
  have h1 : ∀ l, (Lib.trimLeftS l c).length ≤ l.length := fun l => by
    unfold Lib.trimLeftS; exact (List.dropWhile_sublist _).length_le
  have h2 : ∀ l, (Lib.trimRightS l c).length ≤ l.length := fun l => by
    unfold Lib.trimRightS
    have := (List.dropWhile_sublist (l := l.reverse) (fun b => c.contains b)).length_le
    simpa using this
  unfold Lib.trimS
  exact Nat.le_trans (h1 _) (h2 _)
theorem meantA_ok {b : Adr} {s : List UInt8} (h : adrOk b) (hb : b.pa.length ≤ 2000) (hs : s.length ≤ 2000) : adrOk (meantA b s) := by
  obtain ⟨x1, x2, x3, x4, x5, x6⟩ := h
  obtain ⟨c1, c2⟩ := cut_sz s [35]
  obtain ⟨c3, c4⟩ := cut_sz (Lib.cut s [35]).1 [63]
  have mp : (meantP b.pa (Lib.cut (Lib.cut s [35]).1 [63]).1).length ≤ 4001 := by
    have : (b.pa.take (lastI b.pa 47 b.pa.length + 1).toNat).length ≤ b.pa.length := by rw [List.length_take]; omega
    unfold meantP
    split
    · omega
    · split
      · rw [List.length_append]; omega
      · rw [List.length_cons, List.length_append]; omega
  unfold meantA
  split
  · split
    · exact ⟨x1, x2, x3, x4, by show (Lib.cut _ _).2.1.length ≤ _; omega, by show (Lib.cut _ _).2.1.length ≤ _; omega⟩
    · exact ⟨x1, x2, x3, x4, x5, by show (Lib.cut _ _).2.1.length ≤ _; omega⟩
  · exact ⟨x1, x2, x3, by show (meantP _ _).length ≤ _; omega, by show (Lib.cut _ _).2.1.length ≤ _; omega, by show (Lib.cut _ _).2.1.length ≤ _; omega⟩
theorem res0_ok {b : Adr} {t : List UInt8} (h : adrOk b) (hb : b.pa.length ≤ 2000 ∧ t.length ≤ 2000) : adrOk (res0 b t).1 := by
  have rd : ∀ u, adrOk (readA u).1 := fun u => by
    obtain ⟨r1, r2, r3, r4, r5, r6⟩ := readA_sz u
    unfold adrOk; omega
  have no : adrOk noAdr := by unfold adrOk noAdr; simp
  obtain ⟨x1, x2, x3, x4, x5, x6⟩ := id h
  unfold res0
  split
  · exact ⟨x1, x2, x3, x4, x5, by show ([] : List UInt8).length ≤ _; simp⟩
  · split
    · split
      · exact no
      · exact rd _
    · split
      · exact rd _
      · exact meantA_ok h hb.1 hb.2
def ckResolve : Ck
  | [.agg [.str sc, .str ho, .str po, .str pa, .str qu, .bool hq, .str fr, .bool hf], .str s] => some (adrOk ⟨sc, ho, po, pa, qu, hq, fr, hf⟩ ∧ s.length ≤ 140737488355328, .tup [cAdr.enc (resA ⟨sc, ho, po, pa, qu, hq, fr, hf⟩ s).1, .int .i64 (resA ⟨sc, ho, po, pa, qu, hq, fr, hf⟩ s).2])
  | _ => none
attribute [push_cast] ckResolve
def toldM (l : List (List UInt8)) : MK → Option V := l.foldl (fun f p => putM f (.str (lowL (Lib.cut p [61]).1)) (.str (Lib.cut p [61]).2.1)) (fun _ => none)
theorem toldM_s (l : List (List UInt8)) {i : Nat} (h : i < l.length) : toldM (l.take (i + 1)) = putM (toldM (l.take i)) (.str (lowL (Lib.cut (l.getD i []) [61]).1)) (.str (Lib.cut (l.getD i []) [61]).2.1) := by
  have e : l.take (i + 1) = l.take i ++ [l.getD i []] := by
    rw [List.getD_eq_getElem?_getD, List.getElem?_eq_getElem h, List.take_succ_eq_append_getElem h]; rfl
  unfold toldM
  rw [e, List.foldl_append]; rfl
def ckTold : List V → Option (Prop × V × Blk)
  | [.sl n f] => some (isLs cStr n f ∧ (∀ x ∈ lsOf cStr n f, x.length ≤ 1000) ∧ n ≤ 1000000, .map 8999, .mp .str (toldM (lsOf cStr n f)))
  | _ => none
theorem ncall_argsT {f : FuncId} {args args' : List V} {r : V} {nb : Blk} (hv : vleL args args') (h : NCall pg f args' r nb) : NCall pg f args r nb := by
  intro S vals hs hh hlen hr
  exact h S vals hs hh (hlen.trans (vleL_len hv)) fun i hi => vleL_at hv i _ _ _ _ (hr i (by rw [vleL_len hv]; exact hi))
theorem conTold : NCon pg 39 ckTold := by
  have hct := (ctA_ok conCut (ctA_ok conSmallA (ctN_ok _)))
  intro args q r nb h hq
  unfold ckTold at h
  split at h
  · cases h
    rename_i n f
    obtain ⟨h0, h1, h2⟩ := hq
    have hlen : (lsOf cStr n f).length = n := lsOf_len n f
    rw [← hlen] at h2
    refine ncall_argsT (args' := [.sl (lsOf cStr n f).length (lsF cStr (lsOf cStr n f))]) ⟨isLs.vle h0, trivial⟩ ?_
    generalize lsOf cStr n f = l at h1 h2 ⊢
    refine nw39 (fun _ => false) [.ren 9 8999] rfl hct rfl rfl ?_ ?_
    · simp [noIdB, V.flat, V.noIdL, V.noId, V.hi, V.hiL, byF, lsF]
    push_cast (config := { maxSteps := 10000000 })
    refine ⟨by first | trivial | rfl | decide | simp [V.gd], ?_⟩
    refine LoopW.adj ⟨hct, fol⟩ (by kernel_rfl) [] (fun i : Nat => [(3, .map 9), (10, .sl l.length (lsF cStr l)), (11, .int .i64 l.length), (12, .int .i64 i)]) (fun i => [(9, .mp .str (toldM (l.take i)))]) (fun i => i ≤ l.length) (fun i => l.length - i) 0 ?_ fun i hi => ?_
    · push_cast (config := { maxSteps := 10000000 })
      exact ⟨Nat.zero_le _, (rfl : V.map 9 = V.map 9), fun _ => rfl⟩
    · push_cast (config := { maxSteps := 10000000 })
      refine ⟨fun hlt => ?_, fun hge => ⟨(rfl : V.map 8999 = V.map 8999), fun k => by rw [List.take_of_length_le (by omega)]⟩⟩
      have hx := h1 _ (mem_at' (d := []) hlt)
      have hc := cut_sz (l.getD i []) [61]
      exact ⟨hlt, by omega, by omega, by omega, i + 1, by omega, by omega, ⟨(rfl : V.map 9 = V.map 9), by omega⟩, fun k => by rw [toldM_s l hlt]⟩
  · cases h
attribute [push_cast] ckTold

/- the calendar, by ranges -/
theorem daysI_next (y : Int) : daysI (y + 1) 1 = daysI y 1 + yearLong y := by
  rw [daysI_1, daysI_1]
  unfold yearLong leapB
  split
  · rename_i h; simp only [decide_eq_true_eq] at h; omega
  · rename_i h; simp only [decide_eq_true_eq] at h; omega
theorem daysI_month {y : Int} {m : Int} (h : 1 ≤ m) : daysI y (m + 1) = daysI y m + monthLongI y m := by
  unfold daysI
  obtain ⟨k, rfl⟩ : ∃ k : Nat, m = k + 1 := ⟨(m - 1).toNat, by omega⟩
  rw [show ((k : Int) + 1 + 1 - 1).toNat = k + 1 by omega, show ((k : Int) + 1 - 1).toNat = k by omega]
  simp only [monthsSum]; omega
theorem monthsSum_12 (y : Int) : monthsSum y 12 = yearLong y := by
  simp only [monthsSum]
  unfold monthLongI yearLong leapB
  by_cases h : y % 4 = 0 ∧ (y % 100 ≠ 0 ∨ y % 400 = 0)
  · simp [h]
  · simp [h]
theorem daysI_13 (y : Int) : daysI y 13 = daysI (y + 1) 1 := by
  rw [daysI_next, daysI_1]
  unfold daysI
  rw [show ((13 : Int) - 1).toNat = 12 from rfl, monthsSum_12]; 
theorem daysI_mono {y z : Int} (h : y < z) : daysI (y + 1) 1 ≤ daysI z 1 := by
  rw [daysI_1, daysI_1]; omega
theorem yearF_up (d : Int) : ∀ (n : Nat) (y : Int), d < daysI (yearF d n y + 1) 1 ∨ yearF d n y = y + n
  | 0, y => .inr (by simp [yearF])
  | n + 1, y => by
    simp only [yearF]
    split
    · rcases yearF_up d n (y + 1) with h | h
      · exact .inl h
      · exact .inr (by omega)
    · exact .inl (by omega)
theorem monthF_up (y d : Int) : ∀ (n : Nat) (m : Int), (12 ≤ monthF y d n m ∨ d < daysI y (monthF y d n m + 1)) ∨ monthF y d n m = m + n
  | 0, m => .inr (by simp [monthF])
  | n + 1, m => by
    simp only [monthF]
    split
    · rcases monthF_up y d n (m + 1) with h | h
      · exact .inl h
      · exact .inr (by omega)
    · exact .inl (by omega)
theorem yearI_up {d : Int} (h0 : 0 ≤ d) (h1 : d ≤ 2932896) : d < daysI (yearI d + 1) 1 := by
  have b := date_b h0 h1
  rcases yearF_up d 1000 (1970 + d / 366) with h | h
  · exact h
  · have hb := yearF_b d 1000 _ (daysI_y0 d h0 h1)
    have := daysI_step hb.2 hb.1 h0 h1
    omega
theorem yearI_is {d y : Int} (h0 : 0 ≤ d) (h1 : d ≤ 2932896) (a : daysI y 1 ≤ d) (b : d < daysI (y + 1) 1) : yearI d = y := by
  have hb := yearF_b d 1000 _ (daysI_y0 d h0 h1)
  have hu := yearI_up h0 h1
  have hl : daysI (yearI d) 1 ≤ d := hb.2
  rcases Int.lt_trichotomy (yearI d) y with h | h | h
  · have := daysI_mono h; omega
  · exact h
  · have := daysI_mono h; omega
theorem monthsSum_mono (y : Int) {i j : Nat} (h : i ≤ j) : monthsSum y i ≤ monthsSum y j := by
  induction h with
  | refl => exact Int.le_refl _
  | step _ ih => have := monthLongI_b y ((‹Nat› : Nat) + 1 : Int); simp only [monthsSum]; have := monthLongI_b y; omega
theorem daysI_mmono {y m k : Int} (h1 : 1 ≤ m) (h : m ≤ k) : daysI y m ≤ daysI y k := by
  have := monthsSum_mono y (i := (m - 1).toNat) (j := (k - 1).toNat) (by omega)
  unfold daysI; omega
theorem monthI_is {d m : Int} (h0 : 0 ≤ d) (h1 : d ≤ 2932896) (m1 : 1 ≤ m) (m2 : m ≤ 12) (a : daysI (yearI d) m ≤ d) (b : d < daysI (yearI d) (m + 1)) : monthI d = m := by
  have hd : daysI (yearI d) 1 ≤ d := (yearF_b d 1000 _ (daysI_y0 d h0 h1)).2
  have hb := monthF_b (yearI d) d 12 1 (by omega) (by omega) hd
  have hu : 12 ≤ monthI d ∨ d < daysI (yearI d) (monthI d + 1) := by
    rcases monthF_up (yearI d) d 12 1 with h | h
    · exact h
    · exact .inl (by unfold monthI; omega)
  change 1 ≤ monthI d ∧ monthI d ≤ 12 ∧ daysI (yearI d) (monthI d) ≤ d at hb
  rcases Int.lt_trichotomy (monthI d) m with h | h | h
  · rcases hu with hu | hu
    · omega
    · have := daysI_mmono (y := yearI d) (m := monthI d + 1) (k := m) (by omega) (by omega); omega
  · exact h
  · have := daysI_mmono (y := yearI d) (m := m + 1) (k := monthI d) (by omega) (by omega); omega
theorem monthI_up {d : Int} (h0 : 0 ≤ d) (h1 : d ≤ 2932896) : d < daysI (yearI d) (monthI d + 1) := by
  have hd : daysI (yearI d) 1 ≤ d := (yearF_b d 1000 _ (daysI_y0 d h0 h1)).2
  have hb := monthF_b (yearI d) d 12 1 (by omega) (by omega) hd
  change 1 ≤ monthI d ∧ monthI d ≤ 12 ∧ daysI (yearI d) (monthI d) ≤ d at hb
  rcases monthF_up (yearI d) d 12 1 with h | h
  · change 12 ≤ monthI d ∨ d < daysI (yearI d) (monthI d + 1) at h
    rcases h with h | h
    · rw [show monthI d = 12 by omega, show (12 : Int) + 1 = 13 from rfl, daysI_13]; exact yearI_up h0 h1
    · exact h
  · change monthI d = 1 + ((12 : Nat) : Int) at h; omega
theorem yearI_9999 {d : Int} (h0 : 0 ≤ d) (h1 : d ≤ 2932896) : yearI d ≤ 9999 := by
  have hd : daysI (yearI d) 1 ≤ d := (yearF_b d 1000 _ (daysI_y0 d h0 h1)).2
  rw [daysI_1] at hd; omega

theorem u8n {a b : Int} (h : a = b) : UInt8.ofNat a.toNat = UInt8.ofNat b.toNat := by rw [h]
theorem padded2 {n : Int} (h0 : 0 ≤ n) (h1 : n ≤ 99) : paddedL n 2 = twoL n := by
  obtain ⟨k, rfl⟩ : ∃ k : Nat, n = k := ⟨n.toNat, by omega⟩
  unfold paddedL twoL
  rw [itoa_nat]
  by_cases h : k < 10
  · rw [dec_small h]
    rw [show (48 + (k : Int) / 10 % 10).toNat = 48 by omega, show (48 + (k : Int) % 10).toNat = 48 + k by omega]
    rfl
  · rw [dec_step (by omega), dec_small (by omega)]
    rw [show (48 + (k : Int) / 10 % 10).toNat = 48 + k / 10 by omega, show (48 + (k : Int) % 10).toNat = 48 + k % 10 by omega]
    rfl
theorem padded4 {n : Int} (h0 : 1000 ≤ n) (h1 : n ≤ 9999) : paddedL n 4 = twoL (n / 100) ++ twoL n := by
  obtain ⟨k, rfl⟩ : ∃ k : Nat, n = k := ⟨n.toNat, by omega⟩
  unfold paddedL twoL
  rw [itoa_nat, dec_step (by omega), dec_step (n := k / 10) (by omega), dec_step (n := k / 10 / 10) (by omega), dec_small (by omega)]
  rw [show (48 + (k : Int) / 100 / 10 % 10).toNat = 48 + k / 10 / 10 / 10 by omega, show (48 + (k : Int) / 100 % 10).toNat = 48 + k / 10 / 10 % 10 by omega, show (48 + (k : Int) / 10 % 10).toNat = 48 + k / 10 % 10 by omega, show (48 + (k : Int) % 10).toNat = 48 + k % 10 by omega]
  rfl
theorem dayName (d : Int) : List.take ((3 * ((d + 4) % 7) + 3).toNat - (3 * ((d + 4) % 7)).toNat) (List.drop (3 * ((d + 4) % 7)).toNat ([83, 117, 110, 77, 111, 110, 84, 117, 101, 87, 101, 100, 84, 104, 117, 70, 114, 105, 83, 97, 116] : List UInt8)) = wdN.getD ((d + 3) % 7).toNat [] := by
  rcases (by omega : d % 7 = 0 ∨ d % 7 = 1 ∨ d % 7 = 2 ∨ d % 7 = 3 ∨ d % 7 = 4 ∨ d % 7 = 5 ∨ d % 7 = 6) with h | h | h | h | h | h | h
  · rw [show (d + 4) % 7 = 4 by omega, show (d + 3) % 7 = 3 by omega]; rfl
  · rw [show (d + 4) % 7 = 5 by omega, show (d + 3) % 7 = 4 by omega]; rfl
  · rw [show (d + 4) % 7 = 6 by omega, show (d + 3) % 7 = 5 by omega]; rfl
  · rw [show (d + 4) % 7 = 0 by omega, show (d + 3) % 7 = 6 by omega]; rfl
  · rw [show (d + 4) % 7 = 1 by omega, show (d + 3) % 7 = 0 by omega]; rfl
  · rw [show (d + 4) % 7 = 2 by omega, show (d + 3) % 7 = 1 by omega]; rfl
  · rw [show (d + 4) % 7 = 3 by omega, show (d + 3) % 7 = 2 by omega]; rfl
/- a moment's text, read -/
def fld (s : List UInt8) (a n : Nat) : List UInt8 := (s.drop a).take n
def mIdx (w : List UInt8) : Int := match mnN.findIdx? (· == w) with
  | some k => k
  | none => -1
def momF (s : List UInt8) : Int := (daysI (natOf (fld s 12 4)) (mIdx (fld s 8 3) + 1) + natOf (fld s 5 2) - 1) * 86400 + (natOf (fld s 17 2) : Int) * 3600 + (natOf (fld s 20 2) : Int) * 60 + natOf (fld s 23 2)
def rdB (s : List UInt8) : Bool := decide (0 ≤ momF s ∧ momF s ≤ 253402300799 ∧ dateTextL (momF s) = s)
def rdV (s : List UInt8) : Int := if rdB s = true then momF s else 0
theorem ofN {k : Nat} (h : k < 256) : (UInt8.ofNat k).toNat = k := by rw [UInt8.toNat_ofNat']; omega
theorem natOf_two {n : Int} (h0 : 0 ≤ n) (h1 : n ≤ 99) : (natOf (twoL n) : Int) = n := by
  unfold natOf twoL
  simp only [List.foldl_cons, List.foldl_nil]
  rw [ofN (by omega), ofN (by omega)]
  omega
theorem natOf_four {n : Int} (h0 : 0 ≤ n) (h1 : n ≤ 9999) : (natOf (twoL (n / 100) ++ twoL n) : Int) = n := by
  unfold natOf twoL
  simp only [List.cons_append, List.nil_append, List.foldl_cons, List.foldl_nil]
  rw [ofN (by omega), ofN (by omega), ofN (by omega), ofN (by omega)]
  omega
theorem dig_two (n : Int) (h0 : 0 ≤ n) : (twoL n).all isDg = true := by
  unfold twoL isDg
  simp only [List.all_cons, List.all_nil, Bool.and_true, Bool.and_eq_true, decide_eq_true_eq]
  rw [ofN (by omega), ofN (by omega)]
  omega
theorem wdN_3 {i : Int} (h0 : 0 ≤ i) (h1 : i < 7) : ∃ a b c, wdN.getD i.toNat [] = [a, b, c] := by
  rcases (by omega : i = 0 ∨ i = 1 ∨ i = 2 ∨ i = 3 ∨ i = 4 ∨ i = 5 ∨ i = 6) with rfl | rfl | rfl | rfl | rfl | rfl | rfl <;> exact ⟨_, _, _, rfl⟩
theorem mnN_3 {i : Int} (h0 : 0 ≤ i) (h1 : i < 12) : ∃ a b c, mnN.getD i.toNat [] = [a, b, c] ∧ mIdx [a, b, c] = i := by
  rcases (by omega : i = 0 ∨ i = 1 ∨ i = 2 ∨ i = 3 ∨ i = 4 ∨ i = 5 ∨ i = 6 ∨ i = 7 ∨ i = 8 ∨ i = 9 ∨ i = 10 ∨ i = 11) with rfl | rfl | rfl | rfl | rfl | rfl | rfl | rfl | rfl | rfl | rfl | rfl <;> exact ⟨_, _, _, rfl, by decide⟩
/-- what stands in a moment's text -/
theorem date_fields {n : Int} (h0 : 0 ≤ n) (h1 : n ≤ 253402300799) :
    let d := n / 86400
    let y := yearI d
    let m := monthI d
    (dateTextL n).length = 29 ∧ fld (dateTextL n) 5 2 = twoL (d - daysI y m + 1) ∧ mIdx (fld (dateTextL n) 8 3) = m - 1 ∧ fld (dateTextL n) 12 4 = twoL (y / 100) ++ twoL y ∧ fld (dateTextL n) 17 2 = twoL (n % 86400 / 3600) ∧ fld (dateTextL n) 20 2 = twoL (n % 86400 / 60 % 60) ∧ fld (dateTextL n) 23 2 = twoL (n % 86400 % 60) ∧
    1 ≤ m ∧ m ≤ 12 ∧ 1970 ≤ y ∧ y ≤ 9999 ∧ daysI y m ≤ d ∧ d < daysI y m + monthLongI y m := by
  have hd : 0 ≤ n / 86400 ∧ n / 86400 ≤ 2932896 := by omega
  simp only
  generalize hdd : n / 86400 = d at *
  have b := date_b hd.1 hd.2
  have u := monthI_up hd.1 hd.2
  have y9 := yearI_9999 hd.1 hd.2
  rw [daysI_month b.2.2.1] at u
  have ml := monthLongI_b (yearI d) (monthI d)
  obtain ⟨a1, a2, a3, ea⟩ := wdN_3 (i := (d + 3) % 7) (by omega) (by omega)
  obtain ⟨c1, c2, c3, ec, ei⟩ := mnN_3 (i := monthI d - 1) (by omega) (by omega)
  have e : dateTextL n = [a1, a2, a3] ++ [44, 32] ++ twoL (d - daysI (yearI d) (monthI d) + 1) ++ [32] ++ [c1, c2, c3] ++ [32] ++ (twoL (yearI d / 100) ++ twoL (yearI d)) ++ [32] ++ twoL (n % 86400 / 3600) ++ [58] ++ twoL (n % 86400 / 60 % 60) ++ [58] ++ twoL (n % 86400 % 60) ++ [32, 71, 77, 84] := by
    unfold dateTextL
    simp only [hdd]
    rw [ea, ec, padded2 (n := d - daysI (yearI d) (monthI d) + 1) (by omega) (by omega), padded4 (n := yearI d) (by omega) (by omega), padded2 (n := n % 86400 / 3600) (by omega) (by omega), padded2 (n := n % 86400 / 60 % 60) (by omega) (by omega), padded2 (n := n % 86400 % 60) (by omega) (by omega)]
  rw [e]
  refine ⟨rfl, rfl, ?_, rfl, rfl, rfl, rfl, by omega, by omega, by omega, by omega, by omega, by omega⟩
  exact ei
theorem momF_date {n : Int} (h0 : 0 ≤ n) (h1 : n ≤ 253402300799) : momF (dateTextL n) = n := by
  obtain ⟨_, f1, f2, f3, f4, f5, f6, m1, m2, y1, y2, d1, d2⟩ := date_fields h0 h1
  have ml := monthLongI_b (yearI (n / 86400)) (monthI (n / 86400))
  unfold momF
  rw [f1, f2, f3, f4, f5, f6, natOf_two (by omega) (by omega), natOf_four (by omega) (by omega), natOf_two (by omega) (by omega), natOf_two (by omega) (by omega), natOf_two (by omega) (by omega), show monthI (n / 86400) - 1 + 1 = monthI (n / 86400) by omega]
  omega
theorem rdB_date {n : Int} (h0 : 0 ≤ n) (h1 : n ≤ 253402300799) : rdB (dateTextL n) = true := by
  unfold rdB
  rw [momF_date h0 h1]
  exact decide_eq_true ⟨h0, h1, rfl⟩
/-- what is read was written well -/
theorem rdB_fields {s : List UInt8} (h : rdB s = true) : s.length = 29 ∧ (fld s 5 2).all isDg = true ∧ (fld s 12 4).all isDg = true ∧ (fld s 17 2).all isDg = true ∧ (fld s 20 2).all isDg = true ∧ (fld s 23 2).all isDg = true ∧ 0 ≤ mIdx (fld s 8 3) ∧ mIdx (fld s 8 3) ≤ 11 ∧ 1970 ≤ natOf (fld s 12 4) ∧ natOf (fld s 17 2) ≤ 23 ∧ natOf (fld s 20 2) ≤ 59 ∧ natOf (fld s 23 2) ≤ 59 ∧ 1 ≤ natOf (fld s 5 2) ∧ (natOf (fld s 5 2) : Int) ≤ monthLongI (natOf (fld s 12 4)) (mIdx (fld s 8 3) + 1) := by
  obtain ⟨h0, h1, h2⟩ := of_decide_eq_true h
  generalize momF s = n at h0 h1 h2
  subst h2
  obtain ⟨l, f1, f2, f3, f4, f5, f6, m1, m2, y1, y2, d1, d2⟩ := date_fields h0 h1
  have ml := monthLongI_b (yearI (n / 86400)) (monthI (n / 86400))
  have n1 := natOf_two (n := n / 86400 - daysI (yearI (n / 86400)) (monthI (n / 86400)) + 1) (by omega) (by omega)
  have n2 := natOf_four (n := yearI (n / 86400)) (by omega) (by omega)
  have n3 := natOf_two (n := n % 86400 / 3600) (by omega) (by omega)
  have n4 := natOf_two (n := n % 86400 / 60 % 60) (by omega) (by omega)
  have n5 := natOf_two (n := n % 86400 % 60) (by omega) (by omega)
  rw [f1, f2, f3, f4, f5, f6, n2, show monthI (n / 86400) - 1 + 1 = monthI (n / 86400) by omega]
  refine ⟨l, dig_two _ (by omega), ?_, dig_two _ (by omega), dig_two _ (by omega), dig_two _ (by omega), by omega, by omega, by omega, by omega, by omega, by omega, by omega, by omega⟩
  rw [List.all_append, dig_two _ (by omega), dig_two _ (by omega)]; rfl
def fL (s : List UInt8) : List (List UInt8) := [fld s 5 2, fld s 12 4, fld s 17 2, fld s 20 2, fld s 23 2]
def nL (s : List UInt8) : List Int := (fL s).map fun x => (natOf x : Int)
theorem mIdx_b (w : List UInt8) : -1 ≤ mIdx w ∧ mIdx w ≤ 11 := by
  unfold mIdx
  cases h : mnN.findIdx? (· == w) with
  | none => simp
  | some k =>
    have := (List.findIdx?_eq_some_iff_getElem.1 h).1
    have hl : mnN.length = 12 := rfl
    simp only; omega
theorem rd_no {s : List UInt8} (h : ¬ rdB s = true) : 0 = rdV s ∧ false = rdB s := by
  have : rdB s = false := by simpa using h
  unfold rdV; rw [this]; exact ⟨rfl, rfl⟩
theorem natOf_le {s : List UInt8} {k : Nat} (h : s.all isDg = true) (hk : s.length ≤ k) : natOf s < 10 ^ k :=
  Nat.lt_of_lt_of_le (natOf_lt s h) (Nat.pow_le_pow_right (by omega) hk)
theorem daysI_bb {y m : Int} (h1 : 1970 ≤ y) (h2 : y ≤ 9999) (h3 : m ≤ 13) : 0 ≤ daysI y m ∧ daysI y m ≤ 3000000 := by
  have := monthsSum_b y (m - 1).toNat
  unfold daysI; omega

def idxL (l : List (List UInt8)) (w : List UInt8) : Int := match l.findIdx? (· == w) with
  | some k => k
  | none => -1
theorem idxL_at {l : List (List UInt8)} {w : List UInt8} {i : Nat} (hi : i < l.length) (h : w = l.getD i []) (hn : ∀ j, j < i → ¬ w = l.getD j []) : idxL l w = i := by
  unfold idxL
  have : l.findIdx? (· == w) = some i := by
    rw [List.findIdx?_eq_some_iff_getElem]
    refine ⟨hi, ?_, fun j hj => ?_⟩
    · rw [List.getD_eq_getElem?_getD, List.getElem?_eq_getElem hi] at h; simp [h]
    · have h1 := hn j hj
      rw [List.getD_eq_getElem?_getD, List.getElem?_eq_getElem (by omega)] at h1
      simp only [Option.getD_some] at h1
      simp only [Bool.not_eq_true, beq_eq_false_iff_ne]
      exact fun e => h1 e.symm
  rw [this]
theorem idxL_no {l : List (List UInt8)} {w : List UInt8} (hn : ∀ j, j < l.length → ¬ w = l.getD j []) : idxL l w = -1 := by
  unfold idxL
  have : l.findIdx? (· == w) = none := by
    rw [List.findIdx?_eq_none_iff]
    intro x hx
    obtain ⟨j, hj, rfl⟩ := List.getElem_of_mem hx
    have h1 := hn j hj
    rw [List.getD_eq_getElem?_getD, List.getElem?_eq_getElem hj] at h1
    simp only [Option.getD_some] at h1
    exact beq_eq_false_iff_ne.2 fun e => h1 e.symm
  rw [this]
def ckIndexStr : Ck
  | [.sl n f, .str w] => some (isLs cStr n f ∧ n ≤ 4611686018427387904, .int .i64 (idxL (lsOf cStr n f) w))
  | _ => none
theorem conIndexStr : Con pg 150 ckIndexStr := by
  have hct := ctN_ok pg
  intro args q r h hq
  unfold ckIndexStr at h
  split at h
  · cases h
    rename_i n f w
    refine pcall_args (args' := [.sl (lsOf cStr n f).length (lsF cStr (lsOf cStr n f)), .str w]) ⟨isLs.vle hq.1, VLe.refl _, trivial⟩ ?_
    have hn : (lsOf cStr n f).length ≤ 4611686018427387904 := by rw [lsOf_len]; exact hq.2
    generalize lsOf cStr n f = a at hn ⊢
    refine w150 (fun _ => false) [] rfl hct rfl rfl ?_
    push_cast (config := { maxSteps := 10000000 })
    refine LoopW.adj ⟨hct, fol⟩ (by kernel_rfl) [] (fun i : Nat => [(0, .sl a.length (lsF cStr a)), (1, .str w), (7, .int .i64 a.length), (8, .int .i64 i)]) (fun _ => []) (fun i => i ≤ a.length ∧ ∀ j, j < i → ¬ w = a.getD j []) (fun i => a.length - i) 0 ?_ fun i hi => ?_
    · push_cast (config := { maxSteps := 10000000 })
      exact Nat.zero_le _
    · push_cast (config := { maxSteps := 10000000 })
      obtain ⟨h1, h2⟩ := hi
      refine ⟨fun h => ⟨h, fun h3 => (idxL_at h h3 h2).symm, fun h3 => ⟨by omega, i + 1, ⟨by omega, fun j hj => ?_⟩, by omega, by omega⟩⟩, fun h => (idxL_no fun j hj => h2 j (by omega)).symm⟩
      by_cases e : j = i
      · subst e; exact h3
      · exact h2 j (by omega)
  · cases h
attribute [push_cast] ckIndexStr

def ckReadDate0 : Ck
  | [.str s] => some (s.length ≤ 4611686018427387904, .tup [.int .i64 (rdV s), .bool (rdB s)])
  | _ => none
theorem conReadDate0 : Con pg 100 ckReadDate0 := by
  have hct := (ctA_ok conMonths (ctA_ok conIndexStr (ctA_ok conTrim (ctA_ok conAtoi (ctA_ok conDays (ctA_ok conIsMoment (ctA_ok conDateText0 (ctN_ok _))))))))
  intro args q r h hq
  unfold ckReadDate0 at h
  split at h
  · cases h
    rename_i s
    refine w100 (fun _ => false) [.frz 90] rfl hct rfl rfl ?_
    push_cast (config := { maxSteps := 10000000 })
    have rd29 : rdB s = true → s.length = 29 := fun h => (rdB_fields h).1
    refine ⟨fun h => ?_, fun h => ⟨⟨by omega, by omega⟩, LsI.is (c := cStr) (LsI.ls mnN), ?_⟩⟩
    · have : rdB s = false := by
        cases hb : rdB s with
        | false => rfl
        | true => exact absurd (by have := rd29 hb; omega) h
      unfold rdV; rw [this]; exact ⟨rfl, rfl⟩
    rw [show (lsOf cStr 12 fun i => V.str (mnN.getD i [])) = mnN from lsOf_ls (c := cStr) mnN]
    change (-9223372036854775808 ≤ mIdx (fld s 8 3) + 1 ∧ mIdx (fld s 8 3) + 1 ≤ 9223372036854775807) ∧ _
    have hmi := mIdx_b (fld s 8 3)
    refine ⟨⟨by omega, by omega⟩, ⟨by omega, by omega⟩, ⟨by omega, by omega⟩, ⟨by omega, by omega⟩, ⟨by omega, by omega⟩, ⟨by omega, by omega⟩, ?_⟩
    refine LoopW.adj ⟨hct, fol⟩ (by kernel_rfl) [.nv 5 90 1 (lsF cInt [])] (fun i : Nat => [(0, .str s), (4, .int .i64 (mIdx (fld s 8 3) + 1)), (5, .vec 90 i), (29, .sl 5 (lsF cStr (fL s))), (30, .int .i64 5), (31, .int .i64 i)]) (fun i => [(90, .vec 1 i (lsF cInt (nL s)))]) (fun i => i ≤ 5 ∧ ∀ j, j < i → ((fL s).getD j []).all isDg = true) (fun i => 5 - i) 0 ?_ fun i hi => ?_
    · push_cast (config := { maxSteps := 10000000 })
      refine ⟨rfl, fun i hi => ?_⟩
      rcases (by omega : i = 0 ∨ i = 1 ∨ i = 2 ∨ i = 3 ∨ i = 4) with rfl | rfl | rfl | rfl | rfl <;> rfl
    · push_cast (config := { maxSteps := 10000000 })
      obtain ⟨h1, h2⟩ := hi
      refine ⟨fun h => ?_, fun h5 => ?_⟩
      · have hfl : 1 ≤ ((fL s).getD i []).length ∧ ((fL s).getD i []).length ≤ 4 := by
          rcases (by omega : i = 0 ∨ i = 1 ∨ i = 2 ∨ i = 3 ∨ i = 4) with rfl | rfl | rfl | rfl | rfl <;> simp [fL, fld] <;> omega
        refine ⟨h, by omega, fun h3 => ?_, fun h3 => ⟨⟨hfl.1, by omega, (trim_dig _).1 h3⟩, ⟨by omega, by omega⟩, ⟨by omega, by omega⟩, i + 1, ⟨by omega, fun j hj => ?_⟩, by omega, ⟨rfl, by omega⟩, rfl, fun j hj => ?_⟩⟩
        · refine rd_no fun hr => h3 ((trim_dig _).2 ?_)
          have hf := rdB_fields hr
          rcases (by omega : i = 0 ∨ i = 1 ∨ i = 2 ∨ i = 3 ∨ i = 4) with rfl | rfl | rfl | rfl | rfl
          · exact hf.2.1
          · exact hf.2.2.1
          · exact hf.2.2.2.1
          · exact hf.2.2.2.2.1
          · exact hf.2.2.2.2.2.1
        · by_cases e : j = i
          · subst e; exact (trim_dig _).1 h3
          · exact h2 j (by omega)
        · unfold appF
          by_cases e : j < i
          · rw [decide_eq_true e]; rfl
          · rw [decide_eq_false e]
            simp only [cond_false]
            obtain rfl : j = i := by omega
            rw [Nat.sub_self]
            rcases (by omega : j = 0 ∨ j = 1 ∨ j = 2 ∨ j = 3 ∨ j = 4) with rfl | rfl | rfl | rfl | rfl <;> rfl
      · obtain rfl : i = 5 := by omega
        have e0 : (nL s).getD 0 0 = natOf (fld s 5 2) := rfl
        have e1 : (nL s).getD 1 0 = natOf (fld s 12 4) := rfl
        have e2 : (nL s).getD 2 0 = natOf (fld s 17 2) := rfl
        have e3 : (nL s).getD 3 0 = natOf (fld s 20 2) := rfl
        have e4 : (nL s).getD 4 0 = natOf (fld s 23 2) := rfl
        rw [e0, e1, e2, e3, e4]
        change _ ∧ _ ∧ _ ∧ (_ → _)
        have b0 := natOf_le (h2 0 (by omega)) (k := 2) (by simp [fL, fld]; omega)
        have b1 := natOf_le (h2 1 (by omega)) (k := 4) (by simp [fL, fld]; omega)
        have b2 := natOf_le (h2 2 (by omega)) (k := 2) (by simp [fL, fld]; omega)
        have b3 := natOf_le (h2 3 (by omega)) (k := 2) (by simp [fL, fld]; omega)
        have b4 := natOf_le (h2 4 (by omega)) (k := 2) (by simp [fL, fld]; omega)
        change natOf (fld s 5 2) < 10 ^ 2 at b0
        change natOf (fld s 12 4) < 10 ^ 4 at b1
        change natOf (fld s 17 2) < 10 ^ 2 at b2
        change natOf (fld s 20 2) < 10 ^ 2 at b3
        change natOf (fld s 23 2) < 10 ^ 2 at b4
        have hno : rdB s = false → 0 = rdV s ∧ false = rdB s := fun h => by unfold rdV; rw [h]; exact ⟨rfl, rfl⟩
        refine ⟨fun h => ⟨h, by omega⟩, fun h => ⟨h, by omega⟩, fun h => rd_no fun hr => ?_, fun h => ?_⟩
        · have hf := rdB_fields hr
          rcases h with h | h <;> omega
        · have hdb := daysI_bb (y := natOf (fld s 12 4)) (m := mIdx (fld s 8 3) + 1) (by omega) (by omega) (by omega)
          have hM : (daysI (natOf (fld s 12 4)) (mIdx (fld s 8 3) + 1) + natOf (fld s 5 2) - 1) * 86400 + (natOf (fld s 17 2) : Int) * 3600 + (natOf (fld s 20 2) : Int) * 60 + natOf (fld s 23 2) = momF s := rfl
          rw [hM]
          refine ⟨by omega, by omega, ⟨by omega, by omega, by omega⟩, by omega, by omega, ⟨by omega, by omega⟩, ⟨by omega, by omega⟩, ⟨by omega, by omega⟩, by omega, by omega, ⟨by omega, by omega⟩, ⟨by omega, by omega⟩, by omega, by omega, ⟨by omega, by omega⟩, ⟨by omega, by omega⟩, by omega, by omega, ?_⟩
          have hMb : -9223372036854775808 ≤ momF s ∧ momF s ≤ 9223372036854775807 := by rw [← hM]; constructor <;> omega
          refine ⟨hMb, fun h => rd_no fun hr => ?_, fun h => ?_⟩
          · obtain ⟨r1, r2, r3⟩ := of_decide_eq_true hr
            rcases h with h | h
            · exact h r1 r2
            · exact h r3
          · have hr : rdB s = true := decide_eq_true ⟨h.1.1, h.1.2, h.2⟩
            unfold rdV; rw [hr]; exact ⟨rfl, rfl⟩
  · cases h
attribute [push_cast] ckReadDate0
def ckReadDate : Ck
  | [.str s] => some (s.length ≤ 4611686018427387904, .tup [.int .i64 (rdV s), .int .i64 (if rdB s = true then 0 else 10)])
  | _ => none
attribute [push_cast] ckReadDate
def wAge : List UInt8 := [109, 97, 120, 45, 97, 103, 101]
def wExp : List UInt8 := [101, 120, 112, 105, 114, 101, 115]
def mvS (f : MK → Option V) (w : List UInt8) : List UInt8 := asS [] (f (.str w))
def mhS (f : MK → Option V) (w : List UInt8) : Bool := (f (.str w)).isSome
def endsF (f : MK → Option V) (m : Int) : Int :=
  if mhS f wAge = true then (if (secL (mvS f wAge)).2 = true then m + (secL (mvS f wAge)).1 else if hasPre (mvS f wAge) [45] = true ∧ (secL ((mvS f wAge).drop 1)).2 = true then m else -1)
  else if rdB (mvS f wExp) = true then rdV (mvS f wExp) else -1
theorem secL_b (s : List UInt8) : 0 ≤ (secL s).1 ∧ (secL s).1 ≤ 3000000000 := by
  unfold secL
  split
  · exact ⟨Int.le_refl _, by decide⟩
  · split
    · exact ⟨by decide, Int.le_refl _⟩
    · simp only; omega
def ckEndsK : List V → List Blk → Option (Prop × V × List Blk)
  | [.map _, .int .i64 m], [.mp .str f] => some ((∀ k, okS (f k)) ∧ (∀ w, (mvS f w).length ≤ 1000) ∧ 0 ≤ m ∧ m ≤ 253402300799, .int .i64 (endsF f m), [.mp .str f])
  | _, _ => none
def ckEnds : Cf := ⟨fun | [.map i, _] => [i] | _ => [], ckEndsK⟩
theorem conEnds : FCon pg 42 ckEnds := by
  have hct := (ctA_ok conSeconds (ctA_ok conCutPre (ctA_ok conReadDate0 (ctN_ok _))))
  intro args bs q r bs' h hq
  replace h : ckEndsK args bs = some (q, r, bs') := h
  unfold ckEndsK at h
  split at h
  · cases h
    rename_i i m f
    refine ⟨rfl, by first | exact Nat.le_refl _ | exact Nat.zero_le _, ?_⟩
    obtain ⟨h1, h2, h3, h4⟩ := hq
    show FCall pg 42 [.map (i + 9000), .int .i64 m] [(i + 9000, .mp .str f)] (.int .i64 (endsF f m)) [(i + 9000, .mp .str f)]
    refine fw42 (fun _ => false) [] rfl hct rfl (by simp) (by simp [hlIn, idsIn, Blk.menIn, V.menInL, V.menIn, V.flat, byF, lsF]) (by simp [V.menIn, V.menInL, idsIn]) ?_
    push_cast (config := { maxSteps := 10000000 })
    rw [show ([109, 97, 120, 45, 97, 103, 101] : List UInt8) = wAge from rfl, show ([101, 120, 112, 105, 114, 101, 115] : List UInt8) = wExp from rfl, show asS [] (f (MK.str wAge)) = mvS f wAge from rfl, show asS [] (f (MK.str wExp)) = mvS f wExp from rfl, show (f (MK.str wAge)).isSome = mhS f wAge from rfl]
    have hA := h2 wAge
    have hE := h2 wExp
    have sb := secL_b (mvS f wAge)
    have e1 : (bif hasPre (mvS f wAge) [45] then List.drop 1 (mvS f wAge) else mvS f wAge).length ≤ 1000 := by
      cases hasPre (mvS f wAge) [45]
      · exact hA
      · show (List.drop 1 (mvS f wAge)).length ≤ 1000
        rw [List.length_drop]; omega
    unfold endsF
    refine ⟨h1 _, fun a => ⟨by omega, fun b => ⟨⟨by omega, by omega⟩, ?_⟩, fun b => ⟨by omega, fun c => ⟨by omega, fun d => ?_, fun d => ?_⟩, fun c => ?_⟩⟩, fun a => ⟨h1 _, by omega, fun b => ?_, fun b => ?_⟩⟩
    · rw [if_pos a, if_pos b]
    · rw [c, cond_true] at d
      rw [if_pos a, if_neg (by rw [b]; simp), if_pos ⟨c, d⟩]
    · rw [c, cond_true] at d
      rw [if_pos a, if_neg (by rw [b]; simp), if_neg (by rw [d]; simp)]
    · rw [if_pos a, if_neg (by rw [b]; simp), if_neg (by rw [c]; simp)]
    · rw [if_neg (by rw [a]; simp), if_pos b]
    · rw [if_neg (by rw [a]; simp), if_neg (by rw [b]; simp)]
  · cases h
attribute [push_cast] ckEndsK
@[push_cast] theorem ends_ids (i : Nat) (x : V) : ckEnds.ids [.map i, x] = [i] := rfl
@[push_cast] theorem ends_k {i : Nat} {m : Int} {f : MK → Option V} : ckEnds.k [.map i, .int .i64 m] [.mp .str f] = some ((∀ k, okS (f k)) ∧ (∀ w, (mvS f w).length ≤ 1000) ∧ 0 ≤ m ∧ m ≤ 253402300799, .int .i64 (endsF f m), [.mp .str f]) := rfl

/-- a cookie -/
structure Coo where
  na : List UInt8
  va : List UInt8
  ho : List UInt8
  wi : Bool
  pa : List UInt8
  se : Bool
  un : Int
  si : Int
deriving DecidableEq
def noCoo : Coo := ⟨[], [], [], false, [], false, 0, 0⟩
def decCoo : V → Coo
  | .agg [.str na, .str va, .str ho, .bool wi, .str pa, .bool se, .int _ un, .int _ si] => ⟨na, va, ho, wi, pa, se, un, si⟩
  | _ => noCoo
def cCoo : Cod Coo := ⟨fun a => .agg [.str a.na, .str a.va, .str a.ho, .bool a.wi, .str a.pa, .bool a.se, .int .i64 a.un, .int .i64 a.si], decCoo, noCoo, fun _ => rfl⟩
@[push_cast] theorem enc_coo (a : Coo) : cCoo.enc a = .agg [.str a.na, .str a.va, .str a.ho, .bool a.wi, .str a.pa, .bool a.se, .int .i64 a.un, .int .i64 a.si] := rfl
@[push_cast] theorem lsF_coo (l : List Coo) (i : Nat) : lsF cCoo l i = .agg [.str (l.getD i noCoo).na, .str (l.getD i noCoo).va, .str (l.getD i noCoo).ho, .bool (l.getD i noCoo).wi, .str (l.getD i noCoo).pa, .bool (l.getD i noCoo).se, .int .i64 (l.getD i noCoo).un, .int .i64 (l.getD i noCoo).si] := rfl
@[push_cast] theorem coo_eta (a : Coo) : (⟨a.na, a.va, a.ho, a.wi, a.pa, a.se, a.un, a.si⟩ : Coo) = a := rfl
def cooOk (a : Coo) : Prop := a.na.length ≤ 140737488355328 ∧ a.va.length ≤ 140737488355328 ∧ a.ho.length ≤ 140737488355328 ∧ a.pa.length ≤ 140737488355328 ∧ I64 a.un ∧ I64 a.si
def coosOk (l : List Coo) : Prop := ∀ a ∈ l, cooOk a
theorem coosOk_at {l : List Coo} (h : coosOk l) {i : Nat} (hi : i < l.length) : cooOk (l.getD i noCoo) := by
  rw [List.getD_eq_getElem?_getD, List.getElem?_eq_getElem hi]; exact h _ (List.getElem_mem hi)

def bkB (c : UInt8) : Bool := decide (33 ≤ c.toNat ∧ c.toNat ≤ 126 ∧ c.toNat ≠ 59 ∧ c.toNat ≠ 44)
def bakedL (s : List UInt8) : Bool := s.all bkB && decide (s.length ≤ 1000)
def ckBaked : Ck
  | [.str s] => some (s.length ≤ 4611686018427387900, .bool (bakedL s))
  | _ => none
theorem conBaked : Con pg 38 ckBaked := by
  have hct := ctN_ok pg
  intro args q r h hq
  unfold ckBaked at h
  split at h
  · cases h
    rename_i s
    refine w38 (fun _ => false) [] rfl hct rfl rfl ?_
    push_cast (config := { maxSteps := 10000000 })
    refine LoopW.adj ⟨hct, fol⟩ (by kernel_rfl) [] (fun i : Nat => [(0, .str s), (5, .int .i64 s.length), (6, .int .i64 i)]) (fun _ => []) (fun i => i ≤ s.length ∧ ∀ j, j < i → bkB (s.getD j 0) = true) (fun i => s.length - i) 0 ?_ fun i hi => ?_
    · push_cast (config := { maxSteps := 10000000 })
      exact Nat.zero_le _
    · push_cast (config := { maxSteps := 10000000 })
      obtain ⟨h3, h4⟩ := hi
      refine ⟨fun h => ⟨h, fun a => ⟨a, h⟩, fun a => ⟨a, h⟩, fun a => ⟨a, h⟩, fun a => ?_, fun a => ⟨⟨by omega, by omega⟩, i + 1, ⟨by omega, fun j hj => ?_⟩, by omega, by omega⟩⟩, fun h => ?_⟩
      · unfold bakedL
        rw [all_no h (decide_eq_false (by omega))]; rfl
      · by_cases e : j = i
        · subst e; exact decide_eq_true (by omega)
        · exact h4 j (by omega)
      · unfold bakedL
        rw [all_at fun j hj => h4 j (by omega), Bool.true_and]
        exact decide_eq_decide.2 (by omega)
  · cases h
attribute [push_cast] ckBaked
theorem conBaked2 : Con pg 137 ckBaked := by
  have hct := ctN_ok pg
  intro args q r h hq
  unfold ckBaked at h
  split at h
  · cases h
    rename_i s
    refine w137 (fun _ => false) [] rfl hct rfl rfl ?_
    push_cast (config := { maxSteps := 10000000 })
    refine LoopW.adj ⟨hct, fol⟩ (by kernel_rfl) [] (fun i : Nat => [(0, .str s), (3, .int .i64 i)]) (fun _ => []) (fun i => i ≤ s.length ∧ ∀ j, j < i → bkB (s.getD j 0) = true) (fun i => s.length - i) 0 ?_ fun i hi => ?_
    · push_cast (config := { maxSteps := 10000000 })
      exact Nat.zero_le _
    · push_cast (config := { maxSteps := 10000000 })
      obtain ⟨h3, h4⟩ := hi
      refine ⟨fun h => ⟨h, fun a => ⟨a, h⟩, fun a => ⟨a, h⟩, fun a => ⟨a, h⟩, fun a => ?_, fun a => ⟨⟨by omega, by omega⟩, i + 1, ⟨by omega, fun j hj => ?_⟩, by omega, by omega⟩⟩, fun h => ?_⟩
      · unfold bakedL
        rw [all_no h (decide_eq_false (by omega))]; rfl
      · by_cases e : j = i
        · subst e; exact decide_eq_true (by omega)
        · exact h4 j (by omega)
      · unfold bakedL
        rw [all_at fun j hj => h4 j (by omega), Bool.true_and]
        exact decide_eq_decide.2 (by omega)
  · cases h
def ckHasPreC : Ck
  | [.str s, .str p] => some (True, .bool (Lib.hasPrefix s p))
  | _ => none
theorem conHasPreC : Con pg 93 ckHasPreC := by
  intro args q r h hq
  unfold ckHasPreC at h
  split at h
  · cases h
    rename_i s p
    exact pcall_shelf (by kernel_rfl) rfl fun w hw => (Tryz.strings_HasPrefix ⟨s.toArray⟩ ⟨p.toArray⟩ w).mono fun e w' h => shelf_bool h.1 (grow_eq h.2)
  · cases h
attribute [push_cast] ckHasPreC
def ckIsPathM : Ck
  | [.str s] => some (s.length ≤ 4611686018427387900, .bool (decide (1 ≤ s.length) && decide ((s.getD 0 0).toNat = 47) && rowP s))
  | _ => none
theorem pre47 (s : List UInt8) : Lib.hasPrefix s [47] = (decide (1 ≤ s.length) && decide ((s.getD 0 0).toNat = 47)) := by
  cases s with
  | nil => rfl
  | cons c t =>
    rw [decide_eq_true (show 1 ≤ (c :: t).length by simp), Bool.true_and, List.getD_cons_zero]
    have e : Lib.hasPrefix (c :: t) [47] = (47 == c) := by simp [Lib.hasPrefix, List.isPrefixOf]
    rw [e, Bool.eq_iff_iff, beq_iff_eq, decide_eq_true_eq]
    exact ⟨fun h => by rw [← h]; rfl, fun h => (UInt8.toNat_inj.1 h).symm⟩
theorem conIsPathM : Con pg 47 ckIsPathM := by
  have hct := (ctA_ok conHasPreC (ctA_ok conIsRow (ctN_ok _)))
  intro args q r h hq
  unfold ckIsPathM at h
  split at h
  · cases h
    rename_i s
    refine w47 (fun _ => false) [] rfl hct rfl rfl ?_
    push_cast (config := { maxSteps := 10000000 })
    exact ⟨fun h => ⟨h, hq⟩, by rw [rowP_re, pre47]⟩
  · cases h
attribute [push_cast] ckIsPathM
/-- the error of a cookie alone -/
def checkCooL (c : Coo) : Int := if tokL c.na = true then (if bakedL c.va = true then (if (hostL c.ho && lowL c.ho == c.ho) = true then (if cpathL c.pa = true then (if (-1 ≤ c.un ∧ c.un ≤ 256402300799) ∧ 0 ≤ c.si ∧ c.si ≤ 253402300799 then 0 else 1) else 3) else 10) else 3) else 5
def ckCheckCoo : Ck
  | [.agg [.str na, .str va, .str ho, .bool wi, .str pa, .bool se, .int .i64 un, .int .i64 si]] => some (cooOk ⟨na, va, ho, wi, pa, se, un, si⟩, .int .i64 (checkCooL ⟨na, va, ho, wi, pa, se, un, si⟩))
  | _ => none
theorem cc5 {c : Coo} (h : tokL c.na = false) : 5 = checkCooL c := by unfold checkCooL; rw [if_neg (by rw [h]; simp)]
theorem ccv {c : Coo} (h1 : tokL c.na = true) (h : bakedL c.va = false) : 3 = checkCooL c := by unfold checkCooL; rw [if_pos h1, if_neg (by rw [h]; simp)]
theorem cch {c : Coo} (h1 : tokL c.na = true) (h2 : bakedL c.va = true) (h : ¬ (hostL c.ho = true ∧ lowL c.ho = c.ho)) : 10 = checkCooL c := by unfold checkCooL; rw [if_pos h1, if_pos h2, if_neg (by rw [Bool.and_eq_true, beq_iff_eq]; exact h)]
theorem ccp {c : Coo} (h1 : tokL c.na = true) (h2 : bakedL c.va = true) (h3 : hostL c.ho = true ∧ lowL c.ho = c.ho) (h : ¬ cpathL c.pa = true) : 3 = checkCooL c := by unfold checkCooL; rw [if_pos h1, if_pos h2, if_pos (by rw [Bool.and_eq_true, beq_iff_eq]; exact h3), if_neg h]
theorem ccr {c : Coo} (h1 : tokL c.na = true) (h2 : bakedL c.va = true) (h3 : hostL c.ho = true ∧ lowL c.ho = c.ho) (h4 : cpathL c.pa = true) : checkCooL c = if (-1 ≤ c.un ∧ c.un ≤ 256402300799) ∧ 0 ≤ c.si ∧ c.si ≤ 253402300799 then 0 else 1 := by unfold checkCooL; rw [if_pos h1, if_pos h2, if_pos (by rw [Bool.and_eq_true, beq_iff_eq]; exact h3), if_pos h4]
theorem cpath_iff {s : List UInt8} : cpathL s = true ↔ ((1 ≤ s.length ∧ (s.getD 0 0).toNat = 47) ∧ rowP s = true) ∧ s.length ≤ 2000 := by
  simp only [cpathL, Bool.and_eq_true, decide_eq_true_eq]
theorem conCheckCoo : Con pg 48 ckCheckCoo := by
  have hct := (ctA_ok conIsToken (ctA_ok conBaked (ctA_ok conIsHost (ctA_ok conIsPathM (ctA_ok conIsMoment (ctN_ok _))))))
  intro args q r h hq
  unfold ckCheckCoo at h
  split at h
  · cases h
    rename_i na va ho wi pa se un si
    refine w48 (fun _ => false) [] rfl hct rfl rfl ?_
    push_cast (config := { maxSteps := 10000000 })
    have q2 : va.length ≤ 140737488355328 := hq.2.1
    have q3 : ho.length ≤ 140737488355328 := hq.2.2.1
    have q4 : pa.length ≤ 140737488355328 := hq.2.2.2.1
    refine ⟨fun h => cc5 h, fun h1 => ⟨by omega, fun h => ccv h1 h, fun h2 => ⟨by omega, fun h => cch h1 h2 (fun x => h x.1 x.2), fun h3 => ⟨by omega, fun h => ccp h1 h2 h3 ?_, fun h4 => ?_⟩⟩⟩⟩
    · intro hc
      have hc := cpath_iff.1 hc
      rcases h with h | h
      · have := h hc.1.1
        rw [hc.1.2] at this; cases this
      · have := hc.2
        change pa.length ≤ 2000 at this
        omega
    · have hr := ccr (c := ⟨na, va, ho, wi, pa, se, un, si⟩) h1 h2 h3 (cpath_iff.2 ⟨h4.1, by have := h4.2; show pa.length ≤ 2000; omega⟩)
      simp only at hr
      rw [hr]
      exact ⟨fun h => by rw [if_neg (by omega)], fun h => by rw [if_pos (by omega)]⟩
  · cases h
attribute [push_cast] ckCheckCoo
theorem conCheckCoo2 : Con pg 82 ckCheckCoo := by
  have hct := (ctA_ok conIsToken2 (ctA_ok conBaked2 (ctA_ok conIsHost2 (ctA_ok conSmall (ctA_ok conCPath2 (ctA_ok conWithin2b (ctN_ok _)))))))
  intro args q r h hq
  unfold ckCheckCoo at h
  split at h
  · cases h
    rename_i na va ho wi pa se un si
    refine w82 (fun _ => false) [] rfl hct rfl rfl ?_
    push_cast (config := { maxSteps := 10000000 })
    have q1 : na.length ≤ 140737488355328 := hq.1
    have q2 : va.length ≤ 140737488355328 := hq.2.1
    have q3 : ho.length ≤ 140737488355328 := hq.2.2.1
    have q4 : pa.length ≤ 140737488355328 := hq.2.2.2.1
    refine ⟨by omega, fun h => cc5 h, fun h1 => ⟨by omega, fun h => ccv h1 h, fun h2 => ⟨by omega, fun h => ⟨h, by omega⟩, fun h => cch h1 h2 (fun x => ?_), fun h3 => ⟨by omega, fun h => ccp h1 h2 h3 (by rw [h]; simp), fun h4 => ?_⟩⟩⟩⟩
    · rcases h with h | h
      · have := x.1
        change hostL ho = true at this
        rw [h] at this; cases this
      · exact h x.2
    · have hr := ccr (c := ⟨na, va, ho, wi, pa, se, un, si⟩) h1 h2 h3 h4
      simp only at hr
      rw [hr]
      exact ⟨fun h => by rw [if_neg (by omega)], fun h => by rw [if_pos (by omega)]⟩
  · cases h
def sameC (a b : Coo) : Bool := a.na == b.na && a.ho == b.ho && a.pa == b.pa
def ckSame : Ck
  | [.agg [.str a1, .str a2, .str a3, .bool a4, .str a5, .bool a6, .int .i64 a7, .int .i64 a8], .agg [.str b1, .str b2, .str b3, .bool b4, .str b5, .bool b6, .int .i64 b7, .int .i64 b8]] => some (True, .bool (a1 == b1 && a3 == b3 && a5 == b5))
  | _ => none
theorem conSame : Con pg 50 ckSame := by
  have hct := ctN_ok pg
  intro args q r h hq
  unfold ckSame at h
  split at h
  · cases h
    rename_i a1 a2 a3 a4 a5 a6 a7 a8 b1 b2 b3 b4 b5 b6 b7 b8
    refine w50 (fun _ => false) [] rfl hct rfl rfl ?_
    push_cast (config := { maxSteps := 10000000 })
  · cases h
attribute [push_cast] ckSame
theorem conSame2 : Con pg 83 ckSame := by
  have hct := ctN_ok pg
  intro args q r h hq
  unfold ckSame at h
  split at h
  · cases h
    rename_i a1 a2 a3 a4 a5 a6 a7 a8 b1 b2 b3 b4 b5 b6 b7 b8
    refine w83 (fun _ => false) [] rfl hct rfl rfl ?_
    push_cast (config := { maxSteps := 10000000 })
  · cases h
def endedC (a : Coo) (m : Int) : Bool := decide (a.un ≠ -1) && decide (a.un ≤ m)
def ckEnded : Ck
  | [.agg [.str a1, .str a2, .str a3, .bool a4, .str a5, .bool a6, .int .i64 a7, .int .i64 a8], .int .i64 m] => some (True, .bool (decide (a7 ≠ -1) && decide (a7 ≤ m)))
  | _ => none
theorem conEnded : Con pg 49 ckEnded := by
  have hct := ctN_ok pg
  intro args q r h hq
  unfold ckEnded at h
  split at h
  · cases h
    rename_i a1 a2 a3 a4 a5 a6 a7 a8 m
    refine w49 (fun _ => false) [] rfl hct rfl rfl ?_
    push_cast (config := { maxSteps := 10000000 })
    congr 1
    rw [Bool.eq_iff_iff, bne_iff_ne, decide_eq_true_eq]
  · cases h
attribute [push_cast] ckEnded
theorem conEnded2 : Con pg 91 ckEnded := by
  have hct := ctN_ok pg
  intro args q r h hq
  unfold ckEnded at h
  split at h
  · cases h
    rename_i a1 a2 a3 a4 a5 a6 a7 a8 m
    refine w91 (fun _ => false) [] rfl hct rfl rfl ?_
    push_cast (config := { maxSteps := 10000000 })
    congr 1
    rw [Bool.eq_iff_iff, bne_iff_ne, decide_eq_true_eq]
  · cases h

end Go.Abs
