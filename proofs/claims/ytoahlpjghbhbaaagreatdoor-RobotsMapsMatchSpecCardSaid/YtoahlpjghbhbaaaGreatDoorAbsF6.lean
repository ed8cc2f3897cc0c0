/- what functions of this program compute: contracts, each a function's own -/
import Derived.Test.YtoahlpjghbhbaaaGreatDoorAbsK3
import Derived.Test.YtoahlpjghbhbaaaGreatDoorAbsFacts
import Derived.Test.YtoahlpjghbhbaaaGreatDoorAbsF5
import Derived.Test.YtoahlpjghbhbaaaGreatDoorAbsShelf
import Derived.Lib.SplitLaws
import Derived.Lib.Overlaps
import Derived.Deep.AppendSrc
import Derived.Laws.NewBlocks
import Derived.WalkKit
import Derived.Lib.Walk
import Derived.Lib.AppendStr
import Derived.Lib.AppendZeros
import Derived.Lib.UnsafeStr
import Derived.Lib.Builder
import Derived.Laws.Externs
import Derived.Lib.Repeat
import Derived.Lib.ItoaLen
import Derived.Lib.SlTrimSet
import Derived.Lib.Atoi
import Derived.Lib.Itoa
import Derived.Lib.ItoaNum
import Derived.Lib.AtoiErrMem
import Derived.Lib.Replace
import Derived.Lib.ReplaceLaws
namespace Go.Abs
open Go Go.Proofs
set_option maxHeartbeats 4000000
set_option maxRecDepth 100000
set_option linter.unusedVariables false
set_option linter.unusedSimpArgs false
/-- a string in which a byte is replaced -/
def rep1 (c : UInt8) (n s : List UInt8) : List UInt8 := (s.map fun x => if x = c then n else [x]).flatten
theorem rep1_cons (c : UInt8) (n : List UInt8) (b : UInt8) (l : List UInt8) : rep1 c n (b :: l) = (if b = c then n else [b]) ++ rep1 c n l := rfl
theorem rep1_app (c : UInt8) (n a b : List UInt8) : rep1 c n (a ++ b) = rep1 c n a ++ rep1 c n b := by
  unfold rep1; rw [List.map_append, List.flatten_append]
theorem rep1_self (c : UInt8) : ∀ s : List UInt8, rep1 c [c] s = s
  | [] => rfl
  | b :: l => by
    rw [rep1_cons, rep1_self c l]
    split
    · rename_i h; rw [h]; rfl
    · rfl
theorem index1_eq (c : UInt8) (l : List UInt8) : Lib.index (c :: l) [c] = ((0 : Nat) : Int) := by rw [Lib.index]; simp [List.isPrefixOf]
theorem index1_ne {b c : UInt8} (l : List UInt8) (h : b ≠ c) : Lib.index (b :: l) [c] = if Lib.index l [c] == -1 then -1 else Lib.index l [c] + 1 := by
  have hp : ([c] : List UInt8).isPrefixOf (b :: l) = false := by simp [List.isPrefixOf, Ne.symm h]
  rw [Lib.index, hp]; simp
theorem replaceK_one (c : UInt8) (n : List UInt8) : ∀ s : List UInt8, Lib.replaceK [c] n (Lib.count s [c]) s = rep1 c n s
  | [] => by rw [Lib.count_miss (by simp [Lib.index])]; rfl
  | b :: l => by
    have ih := replaceK_one c n l
    rw [rep1_cons]
    by_cases h : b = c
    · subst h
      rw [Lib.count_cons_eq, Nat.add_comm, Lib.replaceK_hit _ _ _ _ 0 (index1_eq b l), if_pos rfl]
      show [] ++ n ++ Lib.replaceK [b] n _ l = _
      rw [ih]; rfl
    · rw [Lib.count_cons_ne b c l h, if_neg h, ← ih]
      cases hk : Lib.count l [c] with
      | zero => rfl
      | succ k =>
        obtain ⟨i, hi⟩ := Lib.index_of_count (s := l) (old := [c]) (by omega)
        have e : Lib.index (b :: l) [c] = ((i + 1 : Nat) : Int) := by
          rw [index1_ne l h, if_neg (fun e => by rw [hi] at e; have := beq_iff_eq.1 e; omega), hi]; omega
        rw [Lib.replaceK_hit _ _ _ _ _ e, Lib.replaceK_hit _ _ _ _ _ hi]
        simp only [List.take_succ_cons, List.cons_append, List.nil_append]
        congr 2
theorem replaceAll_one (c : UInt8) (n s : List UInt8) : Lib.replaceAll s [c] n = rep1 c n s := by
  unfold Lib.replaceAll Lib.replace
  by_cases h : ([c] : List UInt8) = n
  · rw [if_pos (beq_iff_eq.2 h), ← h, rep1_self]
  · rw [if_neg (fun e => h (beq_iff_eq.1 e))]
    unfold Lib.replaceNum
    rw [if_pos (Or.inl (by decide)), replaceK_one]
theorem rep1_len (c : UInt8) (n : List UInt8) (h : 1 ≤ n.length) : ∀ s : List UInt8, (rep1 c n s).length ≤ n.length * s.length
  | [] => Nat.zero_le _
  | b :: l => by
    have ih := rep1_len c n h l
    rw [rep1_cons, List.length_append, List.length_cons, Nat.mul_succ]
    have : (if b = c then n else [b]).length ≤ n.length := by
      split
      · exact Nat.le_refl _
      · exact h
    omega
theorem count1_le (c : UInt8) (s : List UInt8) : Lib.count s [c] ≤ s.length := by rw [Lib.count_one]; exact List.count_le_length
def ckReplaceAll : Ck
  | [.str s, .str [c], .str n] => some (s.length ≤ 40000000 ∧ n.length ≤ 1000, .str (rep1 c n s))
  | _ => none
theorem conReplaceAll : Con pg 53 ckReplaceAll := by
  intro args q r h hq
  unfold ckReplaceAll at h
  split at h
  · cases h
    rename_i s c n
    refine pcall_shelf (by kernel_rfl) rfl fun w hw => ?_
    obtain ⟨m, hm⟩ := maxLen hw
    refine (Tryz.strings_ReplaceAll ⟨s.toArray⟩ ⟨#[c]⟩ ⟨n.toArray⟩ m w (by show s.toArray.size < _; simp; omega) hm (Nat.le_refl 1) ?_).mono fun e w' h => ?_
    · show s.toArray.size + Lib.count s.toArray.toList [c] * n.toArray.size ≤ _
      have h1 := count1_le c s
      have : Lib.count s [c] * n.length ≤ 40000000 * 1000 := Nat.mul_le_mul (by omega) (by omega)
      simp only [List.size_toArray, List.toList_toArray]; omega
    · have e := replaceAll_one c n s
      exact shelf_str (by rw [← e]; exact h.1) (grow_below h.2)
  · cases h
attribute [push_cast] ckReplaceAll

/- a list's text, read again -/
theorem mtN_app : ∀ (t u : List UInt8), mtN t (t ++ u) = t.length
  | [], u => rfl
  | x :: t, u => by
    show mtN (x :: t) (x :: (t ++ u)) = _
    unfold mtN
    rw [if_pos rfl, mtN_app t u]; rfl
theorem mt_no {x y : UInt8} {t u : List UInt8} (h : x ≠ y) : mtN (60 :: x :: t) (60 :: y :: u) ≠ (60 :: x :: t).length := by
  have e : mtN (60 :: x :: t) (60 :: y :: u) = 1 := by
    unfold mtN
    rw [if_pos rfl]
    unfold mtN
    rw [if_neg h]
  rw [e]; simp
theorem drop_more {s x r : List UInt8} {a : Nat} (h : s.drop a = x ++ r) : s.drop (a + x.length) = r := by
  rw [← List.drop_drop, h]; simp
theorem drop_one {s r : List UInt8} {c : UInt8} {a : Nat} (h : s.drop a = c :: r) : s.drop (a + 1) = r := drop_more (x := [c]) (r := r) h
theorem blB_60 : blB 60 = false := by decide
theorem blB_10 : blB 10 = true := by decide
theorem bl_0 {s u : List UInt8} {a : Nat} (h : s.drop a = 60 :: u) : blS s a = a := by
  unfold blS runN
  rw [h, List.takeWhile_cons, blB_60]; simp
theorem bl_1 {s u : List UInt8} {a : Nat} (h : s.drop a = 10 :: 60 :: u) : blS s a = a + 1 := by
  unfold blS runN
  rw [h, List.takeWhile_cons, blB_10, if_pos rfl, List.takeWhile_cons, blB_60]; simp
theorem bl_e {s : List UInt8} {a : Nat} (h : s.drop a = [10]) : blS s a = a + 1 := by
  unfold blS runN
  rw [h, List.takeWhile_cons, blB_10, if_pos rfl]; simp
theorem whG_hit {s t r : List UInt8} {b : Nat} {post : List (List UInt8)} (hd : s.drop b = t ++ r) : ∀ (pre : List (List UInt8)) (i m : Nat), (∀ x ∈ pre, mtN x (t ++ r) ≠ x.length) → whG s b (pre ++ t :: post) i m = ((i : Int) + (pre.length : Int), b + t.length)
  | [], i, m, _ => by
    show whG s b (t :: post) i m = _
    unfold whG
    rw [hd, if_pos (mtN_app t r)]; simp
  | x :: pre, i, m, h => by
    show whG s b (x :: (pre ++ t :: post)) i m = _
    unfold whG
    rw [hd, if_neg (h x (by simp)), whG_hit hd pre (i + 1) _ fun y hy => h y (by simp [hy])]
    congr 1
    simp only [List.length_cons]; omega
theorem idx_60 {c r : List UInt8} (h : (60 : UInt8) ∉ c) : Lib.indexByte (c ++ 60 :: r) 60 = c.length := by
  induction c with
  | nil => rfl
  | cons b l ih =>
    simp only [List.mem_cons, not_or] at h
    have e := ih h.2
    show Lib.indexByte (b :: (l ++ 60 :: r)) 60 = _
    unfold Lib.indexByte
    rw [if_neg (by simpa using Ne.symm h.1), e, if_neg (by simp)]
    simp
theorem fd_back {k : Nat} {s c e r : List UInt8} {a : Nat} (h : s.drop a = c ++ (60 :: e) ++ r) (hc : (60 : UInt8) ∉ c) (ho : clO k c = true) (x : Ent) :
    fdB k s (60 :: e) a = true ∧ fdX k s a x = clX k c x ∧ s.drop (fdA k s (60 :: e) a) = r := by
  have h0 : s.drop a = c ++ 60 :: (e ++ r) := by rw [h]; simp
  have ex : txN s a = c.length := by
    unfold txN
    rw [h0, idx_60 hc, if_neg (by omega)]; simp
  have hd : s.drop (a + txN s a) = (60 :: e) ++ r := by rw [ex]; exact drop_more (by rw [h]; simp)
  have ec : cutS s a (txN s a) = c := by
    unfold cutS
    rw [ex, h0]; simp
  have eE : fdE s a = false := by
    unfold fdE
    refine decide_eq_false fun q => ?_
    rw [q, List.drop_length] at hd
    cases hd
  have em : mtN (60 :: e) (s.drop (a + txN s a)) = (60 :: e).length := by rw [hd]; exact mtN_app _ _
  refine ⟨?_, ?_, ?_⟩
  · unfold fdB
    rw [eE, ec, ho, em]; simp
  · unfold fdX
    rw [eE, ec]; rfl
  · unfold fdA
    rw [eE, ec, ho, em, cond_false, cond_true]
    exact drop_more hd
/- what is written for a byte is read as it -/
theorem u8_all {P : UInt8 → Prop} (h : ∀ n, n < 256 → P (UInt8.ofNat n)) (c : UInt8) : P c := by
  have := h c.toNat (UInt8.toNat_lt c)
  simpa using this
theorem escB_cases (c : UInt8) : (c = 38 ∧ escB c = [38, 97, 109, 112, 59]) ∨ (c = 60 ∧ escB c = [38, 108, 116, 59]) ∨ (c = 62 ∧ escB c = [38, 103, 116, 59]) ∨ (c = 34 ∧ escB c = [38, 113, 117, 111, 116, 59]) ∨ (c = 39 ∧ escB c = [38, 97, 112, 111, 115, 59]) ∨ (escB c = [c] ∧ ¬ badC c ∧ c ≠ 38 ∧ c ≠ 60 ∧ c ≠ 62 ∧ c ≠ 34 ∧ c ≠ 39) :=
  u8_all (P := fun c => (c = 38 ∧ escB c = [38, 97, 109, 112, 59]) ∨ (c = 60 ∧ escB c = [38, 108, 116, 59]) ∨ (c = 62 ∧ escB c = [38, 103, 116, 59]) ∨ (c = 34 ∧ escB c = [38, 113, 117, 111, 116, 59]) ∨ (c = 39 ∧ escB c = [38, 97, 112, 111, 115, 59]) ∨ (escB c = [c] ∧ ¬ badC c ∧ c ≠ 38 ∧ c ≠ 60 ∧ c ≠ 62 ∧ c ≠ 34 ∧ c ≠ 39)) (by decide +kernel) c
theorem esc_no60 (s : List UInt8) : (60 : UInt8) ∉ escL s := by
  unfold escL
  intro h
  rw [List.mem_flatten] at h
  obtain ⟨l, hl, h⟩ := h
  rw [List.mem_map] at hl
  obtain ⟨c, _, rfl⟩ := hl
  rcases escB_cases c with ⟨_, e⟩ | ⟨_, e⟩ | ⟨_, e⟩ | ⟨_, e⟩ | ⟨_, e⟩ | ⟨e, _, _, h6, _⟩ <;> rw [e] at h
  · revert h; decide
  · revert h; decide
  · revert h; decide
  · revert h; decide
  · revert h; decide
  · simp only [List.mem_singleton] at h
    exact h6 h.symm
theorem pre_self (t r : List UInt8) : hasPre (t ++ r) t = true := hasPre_iff.2 ⟨r, rfl⟩
theorem badC_38 : ¬ badC 38 := by decide
theorem sgn_back {j : Nat} (hj : j < 5) {n v r : List UInt8} (hs : sgnL.getD j ⟨[], []⟩ = ⟨n, v⟩) (hn : n.getD 0 0 = 38) (h0 : n ≠ []) (hno : ∀ i, i < j → hasPre (n ++ r) (sgnL.getD i ⟨[], []⟩).name = false) : rdL (n ++ r) = (rdL r).map (v ++ ·) := by
  have e : sgnI (n ++ r) = j := fstH_at (l := sgnL) hj (by rw [hs]; exact pre_self n r) hno
  have g : (n ++ r).getD 0 0 = 38 := by
    cases n with
    | nil => exact absurd rfl h0
    | cons a t => exact hn
  have en : sgnN (n ++ r) = n := by unfold sgnN; rw [e, Int.toNat_natCast, hs]
  have ev : sgnV (n ++ r) = v := by unfold sgnV; rw [e, Int.toNat_natCast, hs]
  rw [rd_sgn (by simp [h0]) (by rw [g]; exact badC_38) g (by rw [e]; omega), en, ev]
  simp
theorem pre_not {s t : List UInt8} (h : ∀ r, s ≠ t ++ r) : hasPre s t = false := by
  rw [Bool.eq_false_iff]
  intro q
  obtain ⟨r, hr⟩ := hasPre_iff.1 q
  exact h r hr
theorem esc_step (c : UInt8) (r : List UInt8) : rdL (escB c ++ r) = (rdL r).map ([c] ++ ·) := by
  have z : ∀ {j i : Nat}, i < j → j < 5 → i = 0 ∨ i = 1 ∨ i = 2 ∨ i = 3 := fun h1 h2 => by omega
  rcases escB_cases c with ⟨h, e⟩ | ⟨h, e⟩ | ⟨h, e⟩ | ⟨h, e⟩ | ⟨h, e⟩ | ⟨e, hb, h38, _⟩ <;> rw [e]
  · subst h
    exact sgn_back (j := 0) (by decide) rfl rfl (by decide) fun i hi => by omega
  · subst h
    refine sgn_back (j := 1) (by decide) rfl rfl (by decide) fun i hi => pre_not fun q => ?_
    rcases z hi (by decide) with rfl | rfl | rfl | rfl
    · simp [sgnL]
    all_goals omega
  · subst h
    refine sgn_back (j := 2) (by decide) rfl rfl (by decide) fun i hi => pre_not fun q => ?_
    rcases z hi (by decide) with rfl | rfl | rfl | rfl
    · simp [sgnL]
    · simp [sgnL]
    all_goals omega
  · subst h
    refine sgn_back (j := 3) (by decide) rfl rfl (by decide) fun i hi => pre_not fun q => ?_
    rcases z hi (by decide) with rfl | rfl | rfl | rfl
    · simp [sgnL]
    · simp [sgnL]
    · simp [sgnL]
    all_goals omega
  · subst h
    refine sgn_back (j := 4) (by decide) rfl rfl (by decide) fun i hi => pre_not fun q => ?_
    rcases z hi (by decide) with rfl | rfl | rfl | rfl
    · simp [sgnL]
    · simp [sgnL]
    · simp [sgnL]
    · simp [sgnL]
  · exact rd_byte (s := [c] ++ r) (by simp) hb h38
theorem esc_back : ∀ s : List UInt8, rdL (escL s) = some s
  | [] => rd_nil
  | c :: t => by
    show rdL (escB c ++ escL t) = _
    rw [esc_step, esc_back t]; rfl
theorem wt_back {n : Int} (h0 : 0 ≤ n) (h1 : n ≤ 10) : wtI (wtL n) = n ∧ (60 : UInt8) ∉ wtL n := by
  rcases (by omega : n = 0 ∨ n = 1 ∨ n = 2 ∨ n = 3 ∨ n = 4 ∨ n = 5 ∨ n = 6 ∨ n = 7 ∨ n = 8 ∨ n = 9 ∨ n = 10) with rfl | rfl | rfl | rfl | rfl | rfl | rfl | rfl | rfl | rfl | rfl <;> decide +kernel
/-- an entry's text -/
def entH (ix : Bool) (e : Ent) : List UInt8 := wOne (tgO ix) ++ wLoc ++ escL e.loc ++ wLoc'
noncomputable def entD (e : Ent) : List UInt8 := if 0 < e.day then wDay ++ dayT e.day ++ wDay' else []
def entW (e : Ent) : List UInt8 := if 0 ≤ e.wt then wWt ++ wtL e.wt ++ wWt' else []
noncomputable def entT (ix : Bool) (e : Ent) : List UInt8 := entH ix e ++ entD e ++ entW e ++ wEnd (tgO ix) ++ [10]
noncomputable def entsT (ix : Bool) (l : List Ent) : List UInt8 := (l.map (entT ix)).flatten
noncomputable def mapT (m : SMp) : List UInt8 := wOne (tgA m.ix) ++ [10] ++ entsT m.ix m.en ++ wEnd (tgA m.ix) ++ [10]
theorem wh_0 {s t r : List UInt8} {a : Nat} {l : List (List UInt8)} (h : s.drop a = (60 :: t) ++ r) : whL s a ((60 :: t) :: l) = (0, a + (60 :: t).length) := by
  unfold whL
  rw [bl_0 (u := t ++ r) (by rw [h]; rfl)]
  exact whG_hit (pre := []) h 0 0 (by simp)
theorem wh_1 {s x t r : List UInt8} {a : Nat} {l : List (List UInt8)} (h : s.drop a = (60 :: t) ++ r) (hx : mtN x ((60 :: t) ++ r) ≠ x.length) : whL s a (x :: (60 :: t) :: l) = (1, a + (60 :: t).length) := by
  unfold whL
  rw [bl_0 (u := t ++ r) (by rw [h]; rfl)]
  exact whG_hit (pre := [x]) h 0 0 (by simpa using hx)
theorem wh_2 {s x y t r : List UInt8} {a : Nat} {l : List (List UInt8)} (h : s.drop a = (60 :: t) ++ r) (hx : mtN x ((60 :: t) ++ r) ≠ x.length) (hy : mtN y ((60 :: t) ++ r) ≠ y.length) : whL s a (x :: y :: (60 :: t) :: l) = (2, a + (60 :: t).length) := by
  unfold whL
  rw [bl_0 (u := t ++ r) (by rw [h]; rfl)]
  exact whG_hit (pre := [x, y]) h 0 0 (by simp only [List.mem_cons, List.not_mem_nil, or_false]; rintro z (rfl | rfl) <;> assumption)
theorem wh_0n {s t r : List UInt8} {a : Nat} {l : List (List UInt8)} (h : s.drop a = 10 :: ((60 :: t) ++ r)) : whL s a ((60 :: t) :: l) = (0, a + 1 + (60 :: t).length) := by
  unfold whL
  rw [bl_1 (u := t ++ r) (by rw [h]; rfl)]
  exact whG_hit (pre := []) (drop_one h) 0 0 (by simp)
theorem wh_1n {s x t r : List UInt8} {a : Nat} {l : List (List UInt8)} (h : s.drop a = 10 :: ((60 :: t) ++ r)) (hx : mtN x ((60 :: t) ++ r) ≠ x.length) : whL s a (x :: (60 :: t) :: l) = (1, a + 1 + (60 :: t).length) := by
  unfold whL
  rw [bl_1 (u := t ++ r) (by rw [h]; rfl)]
  exact whG_hit (pre := [x]) (drop_one h) 0 0 (by simpa using hx)
theorem enT_w {s one r : List UInt8} {a : Nat} {x : Ent} {w : Int} (h0 : 0 ≤ w) (h1 : w ≤ 10) (h : s.drop a = wtL w ++ wWt' ++ (wEnd one ++ r)) : ∃ b, enT s one 1 a x = (true, b, ⟨x.loc, x.day, w⟩) ∧ s.drop b = r := by
  obtain ⟨g1, g2⟩ := wt_back h0 h1
  obtain ⟨f1, f2, f3⟩ := fd_back (k := 3) h g2 (by show decide (0 ≤ wtI (wtL w)) = true; rw [g1]; exact decide_eq_true h0) x
  have w0 := wh_0 (l := []) f3
  refine ⟨_, ?_, drop_more f3⟩
  unfold enT
  rw [if_pos rfl, if_pos (by exact f1), f2]
  show (decide (0 ≤ (whL s (fdA 3 s wWt' a) [wEnd one]).1), (whL s (fdA 3 s wWt' a) [wEnd one]).2, _) = _
  have w1 : whL s (fdA 3 s wWt' a) [wEnd one] = (0, fdA 3 s wWt' a + (wEnd one).length) := w0
  rw [w1]
  show (true, _, (⟨x.loc, x.day, wtI (wtL w)⟩ : Ent)) = _
  rw [g1]; rfl
theorem enT_no {s one : List UInt8} {a : Nat} {x : Ent} : enT s one 2 a x = (true, a, x) := by
  unfold enT
  rw [if_neg (by decide)]; rfl
theorem enD_back {s r : List UInt8} {ix : Bool} {a : Nat} {e : Ent} (hd1 : 0 ≤ e.day) (hd2 : e.day ≤ 3652059) (hw1 : -1 ≤ e.wt) (hw2 : e.wt ≤ 10) (h : s.drop a = entD e ++ entW e ++ (wEnd (tgO ix) ++ r)) : ∃ b, enD s (tgO ix) a ⟨e.loc, 0, -1⟩ = (true, b, e) ∧ s.drop b = r := by
  have nWE : ∀ u : List UInt8, mtN wWt (wEnd (tgO ix) ++ u) ≠ wWt.length := fun u => mt_no (x := 112) (y := 47) (by decide)
  have nDE : ∀ u : List UInt8, mtN wDay (wEnd (tgO ix) ++ u) ≠ wDay.length := fun u => mt_no (x := 108) (y := 47) (by decide)
  have nDW : ∀ u : List UInt8, mtN wDay (wWt ++ u) ≠ wDay.length := fun u => mt_no (x := 108) (y := 112) (by decide)
  unfold entD at h
  unfold enD
  by_cases hd : 0 < e.day
  · rw [if_pos hd] at h
    have h' : s.drop a = wDay ++ (dayT e.day ++ wDay' ++ (entW e ++ (wEnd (tgO ix) ++ r))) := by rw [h]; simp only [List.append_assoc]
    have w0 : whL s a [wDay, wWt, wEnd (tgO ix)] = (0, a + wDay.length) := wh_0 h'
    obtain ⟨g1, g2, g3, _⟩ := day_back hd hd2
    obtain ⟨f1, f2, f3⟩ := fd_back (k := 2) (drop_more h') g3 g1 ⟨e.loc, 0, -1⟩
    rw [w0, if_pos rfl, if_pos (by exact f1), f2]
    have eX : clX 2 (dayT e.day) ⟨e.loc, 0, -1⟩ = ⟨e.loc, e.day, -1⟩ := by show (⟨e.loc, dyV (dayT e.day), -1⟩ : Ent) = _; rw [g2]
    rw [eX]
    have f3 : s.drop (fdA 2 s wDay' (a + wDay.length)) = entW e ++ (wEnd (tgO ix) ++ r) := f3
    generalize fdA 2 s wDay' (a + wDay.length) = a3 at f3
    unfold entW at f3
    by_cases hw : 0 ≤ e.wt
    · rw [if_pos hw] at f3
      have f3' : s.drop a3 = wWt ++ (wtL e.wt ++ wWt' ++ (wEnd (tgO ix) ++ r)) := by rw [f3]; simp only [List.append_assoc]
      have w3 : whL s a3 [wWt, wEnd (tgO ix)] = (0, a3 + wWt.length) := wh_0 f3'
      simp only [w3]
      rw [if_pos (Int.le_refl _)]
      exact enT_w hw hw2 (drop_more f3')
    · rw [if_neg hw] at f3
      have w3 : whL s a3 [wWt, wEnd (tgO ix)] = (1, a3 + (wEnd (tgO ix)).length) := wh_1 f3 (nWE _)
      simp only [w3]
      rw [if_pos (by decide)]
      refine ⟨_, (enT_no).trans ?_, drop_more f3⟩
      have : e.wt = -1 := by omega
      rw [← this]
  · rw [if_neg hd] at h
    have h : s.drop a = entW e ++ (wEnd (tgO ix) ++ r) := h
    have e0 : e.day = 0 := by omega
    unfold entW at h
    by_cases hw : 0 ≤ e.wt
    · rw [if_pos hw] at h
      have h' : s.drop a = wWt ++ (wtL e.wt ++ wWt' ++ (wEnd (tgO ix) ++ r)) := by rw [h]; simp only [List.append_assoc]
      have w0 : whL s a [wDay, wWt, wEnd (tgO ix)] = (1, a + wWt.length) := wh_1 h' (nDW _)
      rw [w0, if_neg (by show ¬ ((1 : Int) = 0); decide), ← e0]
      exact enT_w hw hw2 (drop_more h')
    · rw [if_neg hw] at h
      have w0 : whL s a [wDay, wWt, wEnd (tgO ix)] = (2, a + (wEnd (tgO ix)).length) := wh_2 h (nDE _) (nWE _)
      rw [w0, if_neg (by show ¬ ((2 : Int) = 0); decide)]
      refine ⟨_, (enT_no).trans ?_, drop_more h⟩
      have : e.wt = -1 := by omega
      rw [← this, ← e0]
theorem enL_back {s r : List UInt8} {ix : Bool} {a : Nat} {e : Ent} (hd1 : 0 ≤ e.day) (hd2 : e.day ≤ 3652059) (hw1 : -1 ≤ e.wt) (hw2 : e.wt ≤ 10) (h : s.drop a = wLoc ++ (escL e.loc ++ wLoc' ++ (entD e ++ entW e ++ (wEnd (tgO ix) ++ r)))) : ∃ b, enL s (tgO ix) a = (true, b, e) ∧ s.drop b = r := by
  have w0 : whL s a [wLoc] = (0, a + wLoc.length) := wh_0 h
  have eb := esc_back e.loc
  obtain ⟨f1, f2, f3⟩ := fd_back (k := 1) (drop_more h) (esc_no60 e.loc) (by show (rdL (escL e.loc)).isSome = true; rw [eb]; rfl) x00
  unfold enL
  rw [w0, if_neg (by show ¬ ((0 : Int) < 0); decide), if_pos (by exact f1), f2]
  have eX : clX 1 (escL e.loc) x00 = ⟨e.loc, 0, -1⟩ := by show (⟨(rdL (escL e.loc)).getD [], 0, -1⟩ : Ent) = _; rw [eb]; rfl
  rw [eX]
  exact enD_back hd1 hd2 hw1 hw2 f3
theorem rmG_back {s : List UInt8} {ix : Bool} : ∀ (l : List Ent) (f a : Nat) (acc : List Ent), l.length < f → (∀ e ∈ l, 0 ≤ e.day ∧ e.day ≤ 3652059 ∧ -1 ≤ e.wt ∧ e.wt ≤ 10) → s.drop a = 10 :: (entsT ix l ++ (wEnd (tgA ix) ++ [10])) → ∃ b, rmG s (tgO ix) (tgA ix) f a acc = (true, b, acc ++ l) ∧ s.drop b = [10]
  | [], f, a, acc, hf, _, h => by
    obtain ⟨f, rfl⟩ : ∃ g, f = g + 1 := ⟨f - 1, by simp only [List.length_nil] at hf; omega⟩
    have h : s.drop a = 10 :: (wEnd (tgA ix) ++ [10]) := h
    have no : mtN (wOne (tgO ix)) (wEnd (tgA ix) ++ [10]) ≠ (wOne (tgO ix)).length := by
      cases ix
      · exact mt_no (x := 117) (y := 47) (by decide)
      · exact mt_no (x := 115) (y := 47) (by decide)
    have w : whL s a [wOne (tgO ix), wEnd (tgA ix)] = (1, a + 1 + (wEnd (tgA ix)).length) := wh_1n h no
    refine ⟨_, ?_, drop_more (drop_one h)⟩
    unfold rmG
    rw [w, if_pos rfl, List.append_nil]
  | e :: l, f, a, acc, hf, hb, h => by
    obtain ⟨f, rfl⟩ : ∃ g, f = g + 1 := ⟨f - 1, by simp only [List.length_cons] at hf; omega⟩
    obtain ⟨b1, b2, b3, b4⟩ := hb e (by simp)
    have h : s.drop a = 10 :: (wOne (tgO ix) ++ (wLoc ++ (escL e.loc ++ wLoc' ++ (entD e ++ entW e ++ (wEnd (tgO ix) ++ (10 :: (entsT ix l ++ (wEnd (tgA ix) ++ [10])))))))) := by
      rw [h]
      show 10 :: ((entT ix e ++ entsT ix l) ++ _) = _
      unfold entT entH
      simp only [List.append_assoc, List.cons_append, List.nil_append]
    have w : whL s a [wOne (tgO ix), wEnd (tgA ix)] = (0, a + 1 + (wOne (tgO ix)).length) := wh_0n h
    obtain ⟨b, g1, g2⟩ := enL_back b1 b2 b3 b4 (drop_more (drop_one h))
    obtain ⟨c, g3, g4⟩ := rmG_back l f b (acc ++ [e]) (by simp only [List.length_cons] at hf; omega) (fun x hx => hb x (by simp [hx])) g2
    refine ⟨c, ?_, g4⟩
    unfold rmG
    have g1 : enL s (tgO ix) (a + 1 + (wOne (tgO ix)).length) = (true, b, e) := g1
    rw [w, if_neg (by show ¬ ((0 : Int) = 1); decide), if_neg (by show ¬ ((0 : Int) < 0); decide), g1, if_pos rfl]
    show rmG s (tgO ix) (tgA ix) f b (acc ++ [e]) = _
    rw [g3]; simp
theorem badL_mem {ix : Bool} : ∀ {l : List Ent}, badL ix l = 0 → ∀ e ∈ l, entBad ix e = 0
  | [], _, e, he => by cases he
  | x :: l, h, e, he => by
    unfold badL at h
    by_cases h0 : entBad ix x = 0
    · rw [if_pos h0] at h
      rcases List.mem_cons.1 he with rfl | he
      · exact h0
      · exact badL_mem h e he
    · rw [if_neg h0] at h
      exact absurd h h0
theorem entBad_b {ix : Bool} {e : Ent} (h : entBad ix e = 0) : 0 ≤ e.day ∧ e.day ≤ 3652059 ∧ -1 ≤ e.wt ∧ e.wt ≤ 10 := by
  unfold entBad at h
  split at h
  · cases h
  · split at h
    · cases h
    · omega
theorem entsT_len (ix : Bool) : ∀ l : List Ent, l.length ≤ (entsT ix l).length
  | [] => Nat.le_refl _
  | e :: l => by
    have := entsT_len ix l
    show _ ≤ (entT ix e ++ entsT ix l).length
    unfold entT
    simp only [List.length_append, List.length_cons, List.length_nil]; omega
/-- what is written is read -/
theorem map_back {m : SMp} (hc : chkM m = 0) (hl : (mapT m).length ≤ 500000) : rmF (mapT m) = (m, 0, 0) := by
  obtain ⟨ix, l⟩ := m
  have hb : ∀ e ∈ l, 0 ≤ e.day ∧ e.day ≤ 3652059 ∧ -1 ≤ e.wt ∧ e.wt ≤ 10 := fun e he => by
    have hc := hc
    unfold chkM at hc
    split at hc
    · cases hc
    · exact entBad_b (badL_mem hc e he)
  have es : mapT ⟨ix, l⟩ = wOne (tgA ix) ++ 10 :: (entsT ix l ++ (wEnd (tgA ix) ++ [10])) := by
    unfold mapT; simp
  have hf : l.length < (mapT ⟨ix, l⟩).length + 1 := by
    have := entsT_len ix l
    rw [es]
    simp only [List.length_append, List.length_cons]; omega
  generalize hs : mapT ⟨ix, l⟩ = s at *
  have h0 : s.drop 0 = wOne (tgA ix) ++ 10 :: (entsT ix l ++ (wEnd (tgA ix) ++ [10])) := es
  have w : (whL s 0 [wUrls, wIndex]) = (if ix then 1 else 0, (wOne (tgA ix)).length) := by
    cases ix
    · have := wh_0 (s := s) (a := 0) (l := [wIndex]) h0
      rw [Nat.zero_add] at this
      exact this
    · have := wh_1 (s := s) (a := 0) (l := []) (x := wUrls) h0 (mt_no (x := 117) (y := 115) (by decide))
      rw [Nat.zero_add] at this
      exact this
  have hix : rmIx s = ix := by
    unfold rmIx
    rw [w]
    cases ix <;> rfl
  have hd : s.drop (wOne (tgA ix)).length = 10 :: (entsT ix l ++ (wEnd (tgA ix) ++ [10])) := by
    have := drop_more h0
    rw [Nat.zero_add] at this
    exact this
  obtain ⟨b, g1, g2⟩ := rmG_back l (s.length + 1) _ [] hf hb hd
  have hR : rmR s = (true, b, l) := by
    unfold rmR
    rw [hix, w]
    exact g1
  have hbl : ¬ blS s b < s.length := by
    rw [bl_e g2]
    have := congrArg List.length g2
    rw [List.length_drop] at this
    simp only [List.length_cons, List.length_nil] at this
    omega
  unfold rmF
  rw [if_neg (by omega), hR, hix, w]
  rw [if_neg (by cases ix <;> decide), if_neg (by simp), if_neg hbl, if_neg (by simpa using hc)]

noncomputable def mtF (m : SMp) : List UInt8 × Int := if chkM m ≠ 0 then ([], chkM m) else if 500000 < (mapT m).length then ([], 2) else (mapT m, 0)
noncomputable def ckMT : Ck
  | [.agg [.bool b, .sl n f]] => some (isLs cEnt n f ∧ n ≤ 4611686018427387904, .tup [.str (mtF ⟨b, lsOf cEnt n f⟩).1, .int .i64 (mtF ⟨b, lsOf cEnt n f⟩).2])
  | _ => none
noncomputable def mtQ (b : Bool) (l : List Ent) (i : Nat) : List UInt8 := wOne (tgA b) ++ [10] ++ entsT b (l.take i)
theorem mtQ_s (b : Bool) (l : List Ent) {i : Nat} (h : i < l.length) : mtQ b l (i + 1) = mtQ b l i ++ entT b (l.getD i noEnt) := by
  unfold mtQ entsT
  rw [List.take_succ_eq_append_getElem h, List.map_append, List.flatten_append, List.getD_eq_getElem?_getD, List.getElem?_eq_getElem h]
  simp
theorem wtL_len {n : Int} (h0 : 0 ≤ n) (h1 : n ≤ 10) : (wtL n).length ≤ 3 := by
  unfold wtL
  split
  · simp
  · rw [itoa_d h0 (by omega)]; simp
theorem ent_sz {b : Bool} {e : Ent} (h : entBad b e = 0) : (0 ≤ e.day ∧ e.day ≤ 3652059 ∧ -1 ≤ e.wt ∧ e.wt ≤ 10) ∧ e.loc.length ≤ 2000 ∧ (escL e.loc).length ≤ 12000 ∧ ((dayT e.day).length = 10 ∨ ¬ 0 < e.day) ∧ ((wtL e.wt).length ≤ 3 ∨ ¬ 0 ≤ e.wt) := by
  have h1 := entBad_b h
  have h2 : e.loc.length ≤ 2000 := by
    apply Nat.le_of_not_lt
    intro h3
    unfold entBad at h
    rw [if_pos (by unfold readA; rw [if_pos (by omega)]; show ¬ ((2 : Int) = 0); decide)] at h
    cases h
  have h3 := escL_len e.loc
  refine ⟨h1, h2, by omega, ?_, ?_⟩
  · by_cases g : 0 < e.day
    · exact .inl (day_back g h1.2.1).2.2.2
    · exact .inr g
  · by_cases g : 0 ≤ e.wt
    · exact .inl (wtL_len g h1.2.2.2)
    · exact .inr g
theorem tgO_len (b : Bool) : (tgO b).length ≤ 7 := by cases b <;> decide
theorem tgA_len (b : Bool) : (tgA b).length ≤ 12 := by cases b <;> decide
theorem entT_sz {b : Bool} {e : Ent} (h : entBad b e = 0) : (entT b e).length ≤ 13000 := by
  obtain ⟨h1, h2, h3, h4, h5⟩ := ent_sz h
  have hO := tgO_len b
  have hD : (entD e).length ≤ 29 := by
    unfold entD
    split
    · rename_i g
      have : (dayT e.day).length = 10 := h4.resolve_right fun x => x g
      simp [wDay, wDay', this]
    · simp
  have hW : (entW e).length ≤ 40 := by
    unfold entW
    split
    · rename_i g
      have : (wtL e.wt).length ≤ 3 := h5.resolve_right fun x => x g
      simp [wWt, wWt']; omega
    · simp
  unfold entT entH wOne wEnd wLoc wLoc'
  simp only [List.length_append, List.length_cons, List.length_nil]
  omega
theorem chk_ok {b : Bool} {l : List Ent} (h : chkM ⟨b, l⟩ = 0) : l.length ≤ 1000 ∧ ∀ e ∈ l, entBad b e = 0 := by
  unfold chkM at h
  split at h
  · cases h
  · rename_i g
    exact ⟨Nat.le_of_not_lt g, badL_mem h⟩
theorem mtQ_len {b : Bool} {l : List Ent} (h : ∀ e ∈ l, entBad b e = 0) : ∀ i, (mtQ b l i).length ≤ 100 + 13000 * i
  | 0 => by
    have := tgA_len b
    unfold mtQ entsT wOne
    simp only [List.take_zero, List.map_nil, List.flatten_nil, List.length_append, List.length_cons, List.length_nil]; omega
  | i + 1 => by
    have ih := mtQ_len h i
    by_cases g : i < l.length
    · rw [mtQ_s b l g, List.length_append]
      have := entT_sz (h (l.getD i noEnt) (by rw [List.getD_eq_getElem?_getD, List.getElem?_eq_getElem g]; exact List.getElem_mem _))
      omega
    · have e : mtQ b l (i + 1) = mtQ b l i := by unfold mtQ; rw [List.take_of_length_le (by omega), List.take_of_length_le (by omega)]
      rw [e]; omega
theorem conMT : Con pg 9 ckMT := by
  have hct := (ctA_ok conCM (ctA_ok conTags (ctF_ok conWS (ctF_ok conBS (ctF_ok conBL (ctA_ok conWritten (ctA_ok conDayT (ctA_ok conWt (ctN_ok _)))))))))
  intro args q r h hq
  unfold ckMT at h
  split at h
  · cases h
    rename_i b n f
    have hn : (lsOf cEnt n f).length ≤ 4611686018427387904 := by rw [lsOf_len]; exact hq.2
    refine pcall_args (args' := [.agg [.bool b, .sl (lsOf cEnt n f).length (lsF cEnt (lsOf cEnt n f))]]) ⟨VLe.agg ⟨VLe.refl _, hq.1.vle, trivial⟩, trivial⟩ ?_
    generalize lsOf cEnt n f = l at hn ⊢
    refine w9 (fun d => decide (d = 30007 ∨ d = 20006)) [] rfl hct rfl rfl ?_
    push_cast (config := { maxSteps := 10000000 })
    refine ⟨hn, fun h => ?_, fun hck => ?_⟩
    · unfold mtF; rw [if_pos h]; exact ⟨rfl, rfl⟩
    refine SeqW.cut ⟨hct, fol⟩ (by kernel_rfl) (by kernel_rfl) [.nvb 7 1 4007 5] (fun _ : Unit => [(1, .ptr 1 0), (5, .str (tgA b)), (6, .str (tgO b)), (7, .ptr 7 0)]) (fun _ => [(1, .cells [.bool b, .sl l.length (lsF cEnt l)]), (7, .tc 54 [zB, .vec 4007 0]), (4007, .tb 5 [])]) (fun _ => True) ?_ fun _ _ => ?_
    · push_cast (config := { maxSteps := 10000000 })
      exact ⟨of_eq_true infoBld, (), rfl⟩
    · push_cast (config := { maxSteps := 10000000 })
      have hA : (tgA b).length ≤ 12 := by cases b <;> decide
      refine ⟨by omega, by omega, by omega, ?_⟩
      refine LoopW.adj ⟨hct, fol⟩ (by kernel_rfl) [] (fun i : Nat => [(5, .str (tgA b)), (6, .str (tgO b)), (7, .ptr 7 0), (26, .sl l.length (lsF cEnt l)), (27, .int .i64 l.length), (28, .int .i64 i)]) (fun i => [(7, .tc 54 [.ptr 7 0, .vec 4007 (mtQ b l i).length]), (4007, .tb 5 (mtQ b l i))]) (fun i => i ≤ l.length) (fun i => l.length - i) 0 ?_ fun i hi => ?_
      · push_cast (config := { maxSteps := 10000000 })
        refine ⟨Nat.zero_le _, ?_, ?_⟩
        · unfold mtQ entsT wOne
          simp only [List.take_zero, List.map_nil, List.flatten_nil, List.length_append, List.length_cons, List.length_nil]; omega
        · simp [mtQ, entsT, wOne]
      · have hO := tgO_len b
        obtain ⟨hl, hb⟩ := chk_ok hck
        have hQ := mtQ_len hb i
        have hi : i ≤ l.length := hi
        push_cast (config := { maxSteps := 10000000 })
        refine ⟨fun h => ?_, fun h => ?_⟩
        · have hs := mtQ_s b l h
          obtain ⟨⟨d1, d2, w1, w2⟩, hL, hE, hD, hW⟩ := ent_sz (hb (l.getD i noEnt) (by rw [List.getD_eq_getElem?_getD, List.getElem?_eq_getElem h]; exact List.getElem_mem _))
          generalize l.getD i noEnt = e at *
          refine ⟨h, by omega, by omega, by omega, by omega, by omega, by omega, fun hd => ⟨⟨by omega, by omega⟩, by omega, by omega, by omega, fun hw => ⟨⟨hw, by omega⟩, by omega, by omega, by omega, by omega, by omega, by omega, ⟨by omega, by omega⟩, i + 1, by omega, by omega, by omega, ?_, ?_⟩, fun hw => ⟨by omega, by omega, by omega, ⟨by omega, by omega⟩, i + 1, by omega, by omega, by omega, ?_, ?_⟩⟩, fun hd => ⟨fun hw => ⟨⟨hw, by omega⟩, by omega, by omega, by omega, by omega, by omega, by omega, ⟨by omega, by omega⟩, i + 1, by omega, by omega, by omega, ?_, ?_⟩, fun hw => ⟨by omega, by omega, by omega, ⟨by omega, by omega⟩, i + 1, by omega, by omega, by omega, ?_, ?_⟩⟩⟩
          all_goals
            rw [hs]
            simp only [entT, entH, entD, entW, wOne, wEnd, wLoc, wLoc', wDay, wDay', wWt, wWt', hd, hw, if_true, if_false, List.append_assoc, List.cons_append, List.nil_append, List.append_nil, List.length_append, List.length_cons, List.length_nil]
            try omega
        · have e1 : i = l.length := by omega
          have eM : mapT ⟨b, l⟩ = mtQ b l i ++ wEnd (tgA b) ++ [10] := by
            unfold mapT mtQ
            rw [List.take_of_length_le (by omega)]
          have eN : (mapT ⟨b, l⟩).length = (mtQ b l i).length + ((tgA b).length + 4) := by
            rw [eM]; simp [wEnd]
          have eF : mtF ⟨b, l⟩ = if 500000 < (mapT ⟨b, l⟩).length then ([], 2) else (mapT ⟨b, l⟩, 0) := by
            unfold mtF; rw [if_neg (by simpa using hck)]
          refine ⟨by omega, by omega, by omega, fun g => ?_, fun g => ⟨by omega, ?_⟩⟩
          · rw [eF, if_pos (by omega)]; exact ⟨rfl, rfl⟩
          · rw [eF, if_neg (by omega), eM]
            refine ⟨?_, rfl⟩
            simp [wEnd]
  · cases h
attribute [push_cast] ckMT

def sfL : List Hd := [⟨[38], [38, 97, 109, 112, 59]⟩, ⟨[60], [38, 108, 116, 59]⟩, ⟨[62], [38, 103, 116, 59]⟩, ⟨[34], [38, 113, 117, 111, 116, 59]⟩, ⟨[39], [38, 97, 112, 111, 115, 59]⟩]
/-- k steps of making a LOC safe -/
def sfK (s : List UInt8) : Nat → List UInt8
  | 0 => s
  | k + 1 => rep1 ((sfL.getD k ⟨[], []⟩).name.getD 0 0) (sfL.getD k ⟨[], []⟩).value (sfK s k)
theorem sfK_app (a b : List UInt8) : ∀ k, sfK (a ++ b) k = sfK a k ++ sfK b k
  | 0 => rfl
  | k + 1 => by
    show rep1 _ _ (sfK (a ++ b) k) = _
    rw [sfK_app a b k, rep1_app]; rfl
theorem sfK_nil : ∀ k, sfK [] k = []
  | 0 => rfl
  | k + 1 => by
    show rep1 _ _ (sfK [] k) = _
    rw [sfK_nil k]; rfl
theorem sfK_one (c : UInt8) : sfK [c] 5 = escB c := u8_all (P := fun c => sfK [c] 5 = escB c) (by decide +kernel) c
theorem sf_esc : ∀ s : List UInt8, sfK s 5 = escL s
  | [] => sfK_nil 5
  | c :: t => by
    rw [show c :: t = [c] ++ t from rfl, sfK_app, sfK_one, sf_esc t]; rfl
def ckSafe : Ck
  | [.str s] => some (s.length ≤ 4000, .str (escL s))
  | _ => none
theorem conSafe : Con pg 29 ckSafe := by
  have hct := (ctA_ok conReplaceAll (ctN_ok _))
  intro args q r h hq
  unfold ckSafe at h
  split at h
  · cases h
    rename_i s
    refine w29 (fun _ => false) [] rfl hct rfl rfl ?_
    push_cast (config := { maxSteps := 10000000 })
    refine LoopW.adj ⟨hct, fol⟩ (by kernel_rfl) [] (fun k : Nat => [(0, .str (sfK s k)), (10, .sl 5 (litF [.agg [.str [38], .str [38, 97, 109, 112, 59]], .agg [.str [60], .str [38, 108, 116, 59]], .agg [.str [62], .str [38, 103, 116, 59]], .agg [.str [34], .str [38, 113, 117, 111, 116, 59]], .agg [.str [39], .str [38, 97, 112, 111, 115, 59]]])), (11, .int .i64 5), (12, .int .i64 k)]) (fun _ => []) (fun k => k ≤ 5 ∧ (sfK s k).length ≤ 6 ^ k * s.length) (fun k => 5 - k) 0 ?_ fun k hk => ?_
    · push_cast (config := { maxSteps := 10000000 })
      exact ⟨by show s.length ≤ 1 * s.length; omega, rfl⟩
    · obtain ⟨k1, k2⟩ := hk
      obtain rfl | rfl | rfl | rfl | rfl | rfl : k = 0 ∨ k = 1 ∨ k = 2 ∨ k = 3 ∨ k = 4 ∨ k = 5 := by omega
      · push_cast (config := { maxSteps := 10000000 })
        have h1 := rep1_len ((sfL.getD 0 ⟨[], []⟩).name.getD 0 0) (sfL.getD 0 ⟨[], []⟩).value (by decide) (sfK s 0)
        have h2 : (sfL.getD 0 ⟨[], []⟩).value.length ≤ 6 := by decide
        have h3 : (sfK s 1).length ≤ (sfL.getD 0 ⟨[], []⟩).value.length * (sfK s 0).length := h1
        have h4 : (sfL.getD 0 ⟨[], []⟩).value.length * (sfK s 0).length ≤ 6 * (sfK s 0).length := Nat.mul_le_mul_right _ h2
        exact ⟨by omega, 1, ⟨by omega, by omega⟩, by omega, rfl, rfl⟩
      · push_cast (config := { maxSteps := 10000000 })
        have h1 := rep1_len ((sfL.getD 1 ⟨[], []⟩).name.getD 0 0) (sfL.getD 1 ⟨[], []⟩).value (by decide) (sfK s 1)
        have h2 : (sfL.getD 1 ⟨[], []⟩).value.length ≤ 6 := by decide
        have h3 : (sfK s 2).length ≤ (sfL.getD 1 ⟨[], []⟩).value.length * (sfK s 1).length := h1
        have h4 : (sfL.getD 1 ⟨[], []⟩).value.length * (sfK s 1).length ≤ 6 * (sfK s 1).length := Nat.mul_le_mul_right _ h2
        exact ⟨by omega, 2, ⟨by omega, by omega⟩, by omega, rfl, rfl⟩
      · push_cast (config := { maxSteps := 10000000 })
        have h1 := rep1_len ((sfL.getD 2 ⟨[], []⟩).name.getD 0 0) (sfL.getD 2 ⟨[], []⟩).value (by decide) (sfK s 2)
        have h2 : (sfL.getD 2 ⟨[], []⟩).value.length ≤ 6 := by decide
        have h3 : (sfK s 3).length ≤ (sfL.getD 2 ⟨[], []⟩).value.length * (sfK s 2).length := h1
        have h4 : (sfL.getD 2 ⟨[], []⟩).value.length * (sfK s 2).length ≤ 6 * (sfK s 2).length := Nat.mul_le_mul_right _ h2
        exact ⟨by omega, 3, ⟨by omega, by omega⟩, by omega, rfl, rfl⟩
      · push_cast (config := { maxSteps := 10000000 })
        have h1 := rep1_len ((sfL.getD 3 ⟨[], []⟩).name.getD 0 0) (sfL.getD 3 ⟨[], []⟩).value (by decide) (sfK s 3)
        have h2 : (sfL.getD 3 ⟨[], []⟩).value.length ≤ 6 := by decide
        have h3 : (sfK s 4).length ≤ (sfL.getD 3 ⟨[], []⟩).value.length * (sfK s 3).length := h1
        have h4 : (sfL.getD 3 ⟨[], []⟩).value.length * (sfK s 3).length ≤ 6 * (sfK s 3).length := Nat.mul_le_mul_right _ h2
        exact ⟨by omega, 4, ⟨by omega, by omega⟩, by omega, rfl, rfl⟩
      · push_cast (config := { maxSteps := 10000000 })
        have h1 := rep1_len ((sfL.getD 4 ⟨[], []⟩).name.getD 0 0) (sfL.getD 4 ⟨[], []⟩).value (by decide) (sfK s 4)
        have h2 : (sfL.getD 4 ⟨[], []⟩).value.length ≤ 6 := by decide
        have h3 : (sfK s 5).length ≤ (sfL.getD 4 ⟨[], []⟩).value.length * (sfK s 4).length := h1
        have h4 : (sfL.getD 4 ⟨[], []⟩).value.length * (sfK s 4).length ≤ 6 * (sfK s 4).length := Nat.mul_le_mul_right _ h2
        exact ⟨by omega, 5, ⟨by omega, by omega⟩, by omega, rfl, rfl⟩
      · push_cast (config := { maxSteps := 10000000 })
        exact sf_esc s
  · cases h
attribute [push_cast] ckSafe

/-- a value that stands for a coded thing -/
def isC {α : Type} (c : Cod α) (x : V) : Prop := VLe x (c.enc (c.dec x))
theorem isC_enc {α : Type} (c : Cod α) (a : α) : isC c (c.enc a) := by unfold isC; rw [c.ok]; exact VLe.refl _
/-- strings of heads are not long -/
def hdsOk (l : List Hd) : Prop := ∀ h ∈ l, h.name.length ≤ 140737488355328 ∧ h.value.length ≤ 140737488355328
theorem hdsOk_at {l : List Hd} (h : hdsOk l) {i : Nat} (hi : i < l.length) : (l.getD i ⟨[], []⟩).name.length ≤ 140737488355328 ∧ (l.getD i ⟨[], []⟩).value.length ≤ 140737488355328 := by
  rw [List.getD_eq_getElem?_getD, List.getElem?_eq_getElem hi]; exact h _ (List.getElem_mem hi)
@[push_cast] theorem lsF_hdfl (l : List Hd) (i : Nat) : (lsF cHd l i).flat = [.str (l.getD i ⟨[], []⟩).name, .str (l.getD i ⟨[], []⟩).value] := rfl
/-- an answer -/
structure Ans where
  st : Int
  re : List UInt8
  hd : List Hd
  bd : List UInt8
deriving DecidableEq
def decAns : V → Ans
  | .agg [.int _ st, .str re, .sl n f, .sl m g] => ⟨st, re, lsOf cHd n f, bytesOf m g⟩
  | _ => ⟨0, [], [], []⟩
def cAns : Cod Ans := ⟨fun a => .agg [.int .i64 a.st, .str a.re, .sl a.hd.length (lsF cHd a.hd), .sl a.bd.length (byF a.bd)], decAns, ⟨0, [], [], []⟩, fun a => by simp [decAns, lsOf_ls, bytesOf_by]⟩
@[push_cast] theorem enc_ans (a : Ans) : cAns.enc a = .agg [.int .i64 a.st, .str a.re, .sl a.hd.length (lsF cHd a.hd), .sl a.bd.length (byF a.bd)] := rfl
@[push_cast] theorem dec_ans (k : IntKind) (st : Int) (re : List UInt8) (n m : Nat) (f g : Nat → V) : cAns.dec (.agg [.int k st, .str re, .sl n f, .sl m g]) = ⟨st, re, lsOf cHd n f, bytesOf m g⟩ := rfl
theorem isC_ans {st : Int} {re : List UInt8} {n m : Nat} {f g : Nat → V} (h1 : isLs cHd n f) (h2 : isBy m g) : isC cAns (.agg [.int .i64 st, .str re, .sl n f, .sl m g]) :=
  VLe.agg ⟨VLe.refl _, VLe.refl _, isLs.vle h1, isBy.vle h2, trivial⟩
def ansOk (a : Ans) : Prop := hdsOk a.hd ∧ a.re.length ≤ 140737488355328 ∧ a.hd.length ≤ 140737488355328 ∧ a.bd.length ≤ 140737488355328
theorem reach_le : reachBytes ≤ 140737488355328 := by unfold reachBytes; omega
theorem hasL_cons {s : Sh} {ss : List Sh} {ms : List Nat} {vs : List V} (h : Sh.hasL (s :: ss) ms vs) : ∃ m v ms' vs', vs = v :: vs' ∧ s.has m v ∧ Sh.hasL ss ms' vs' := by
  cases ms with
  | nil => simp [Sh.hasL] at h
  | cons m ms => cases vs with
    | nil => simp [Sh.hasL] at h
    | cons v vs => exact ⟨m, v, ms, vs, rfl, h.1, h.2⟩
theorem hasL_nil {ms : List Nat} {vs : List V} (h : Sh.hasL [] ms vs) : vs = [] := by
  cases ms with
  | nil => cases vs with
    | nil => rfl
    | cons _ _ => simp [Sh.hasL] at h
  | cons _ _ => simp [Sh.hasL] at h
theorem shHead {m : Nat} {v : V} (h : Sh.has (.tup [.str, .str]) m v) : ∃ a, v = cHd.enc a ∧ a.name.length ≤ 140737488355328 ∧ a.value.length ≤ 140737488355328 := by
  obtain ⟨l, ms, rfl, -, hl⟩ := h
  obtain ⟨m1, v1, ms, l, rfl, h1, hl⟩ := hasL_cons hl
  obtain ⟨m2, v2, ms, l, rfl, h2, hl⟩ := hasL_cons hl
  obtain rfl := hasL_nil hl
  obtain ⟨s, rfl, -, b1⟩ := h1
  obtain ⟨t, rfl, -, b2⟩ := h2
  have := reach_le
  exact ⟨⟨s, t⟩, rfl, by show s.length ≤ _; omega, by show t.length ≤ _; omega⟩
theorem shList {α : Type} {c : Cod α} {s : Sh} {p : α → Prop} (hs : ∀ m v, s.has m v → ∃ a, v = c.enc a ∧ p a) {m : Nat} {v : V} (h : Sh.has (.list s) m v) : ∃ (n : Nat) (f : Nat → V), v = .sl n f ∧ isLs c n f ∧ n ≤ 140737488355328 ∧ ∀ a ∈ lsOf c n f, p a := by
  obtain ⟨l, ms, rfl, h1, h2, h3, h4⟩ := h
  have at' : ∀ i, i < l.length → ∃ a, litF l i = c.enc a ∧ p a := fun i hi => hs _ _ (h4 i hi)
  have := reach_le
  refine ⟨_, _, rfl, ⟨by simp [lsOf], fun i hi => ?_⟩, by omega, fun a ha => ?_⟩
  · obtain ⟨a, e, _⟩ := at' i hi
    unfold lsF lsOf
    rw [List.getD_eq_getElem?_getD, List.getElem?_map, List.getElem?_range hi]
    simp only [Option.map_some, Option.getD_some]
    rw [e, c.ok]
  · simp only [lsOf, List.mem_map, List.mem_range] at ha
    obtain ⟨i, hi, rfl⟩ := ha
    obtain ⟨a, e, hp⟩ := at' i hi
    rw [e, c.ok]; exact hp
theorem shStr {m : Nat} {v : V} (h : Sh.has .str m v) : ∃ a, v = cStr.enc a ∧ a.length ≤ 140737488355328 := by
  obtain ⟨s, rfl, -, b⟩ := h
  have := reach_le
  exact ⟨s, rfl, by omega⟩
theorem shAns {m : Nat} {v : V} (h : Sh.has (.tup [.int .i64, .str, .list (.tup [.str, .str]), .list (.int .u8)]) m v) : isC cAns v ∧ ansOk (cAns.dec v) := by
  obtain ⟨l, ms, rfl, -, hl⟩ := h
  obtain ⟨m1, v1, ms, l, rfl, h1, hl⟩ := hasL_cons hl
  obtain ⟨m2, v2, ms, l, rfl, h2, hl⟩ := hasL_cons hl
  obtain ⟨m3, v3, ms, l, rfl, h3, hl⟩ := hasL_cons hl
  obtain ⟨m4, v4, ms, l, rfl, h4, hl⟩ := hasL_cons hl
  obtain rfl := hasL_nil hl
  obtain ⟨st, rfl, _⟩ := shInt h1
  obtain ⟨re, rfl, b2⟩ := shStr h2
  obtain ⟨n, f, rfl, i3, b3, k3⟩ := shList (c := cHd) (fun m v h => shHead h) h3
  obtain ⟨k, g, rfl, i4, b4⟩ := shBytes h4
  have := reach_le
  refine ⟨isC_ans i3 i4, ?_⟩
  show ansOk ⟨st, re, lsOf cHd n f, bytesOf k g⟩
  refine ⟨k3, b2, ?_, ?_⟩
  · show (lsOf cHd n f).length ≤ _
    rw [lsOf_len]; exact b3
  · show (bytesOf k g).length ≤ _
    rw [bytesOf_len]; omega
theorem hasD2 {H : Type} {s1 s2 : Sh} {ds : List (DataW H)} (h : hasD [s1, s2] ds) : ∃ a b, ds = [a, b] ∧ s1.has (bulkD a) (toV a) ∧ s2.has (bulkD b) (toV b) := by
  match ds, h with
  | [a, b], ⟨h1, h2, _⟩ => exact ⟨a, b, rfl, h1, h2⟩
theorem hasD1 {H : Type} {s1 : Sh} {ds : List (DataW H)} (h : hasD [s1] ds) : ∃ a, ds = [a] ∧ s1.has (bulkD a) (toV a) := by
  match ds, h with
  | [a], ⟨h1, _⟩ => exact ⟨a, rfl, h1⟩
theorem hasD4 {H : Type} {s1 s2 s3 s4 : Sh} {ds : List (DataW H)} (h : hasD [s1, s2, s3, s4] ds) : ∃ a b c d, ds = [a, b, c, d] ∧ s1.has (bulkD a) (toV a) ∧ s2.has (bulkD b) (toV b) ∧ s3.has (bulkD c) (toV c) ∧ s4.has (bulkD d) (toV d) := by
  match ds, h with
  | [a, b, c, d], ⟨h1, h2, h3, h4, _⟩ => exact ⟨a, b, c, d, rfl, h1, h2, h3, h4⟩
@[push_cast] theorem isC_ansT (a : Ans) : isC cAns (.agg [.int .i64 a.st, .str a.re, .sl a.hd.length (lsF cHd a.hd), .sl a.bd.length (byF a.bd)]) = True := eq_true (isC_enc cAns a)
@[push_cast] theorem ans_eta (a : Ans) : (⟨a.st, a.re, a.hd, a.bd⟩ : Ans) = a := rfl

/- lists of things as arguments, cell by cell -/
theorem VLe.slV {n : Nat} {f g : Nat → V} (h : ∀ i, i < n → (g i).flat.length = (f i).flat.length ∧ ∀ j, j < (f i).flat.length → VLe ((f i).flat.getD j .any) ((g i).flat.getD j .any) ∧ ((g i).flat.getD j .any).isPure = true) : VLe (.sl n f) (.sl n g) := by
  intro γ imm w v hr
  cases inv_sl (S := ⟨γ, imm, fun _ => none, w⟩) hr with
  | sl0 _ a c => exact .pure (.sl0 _ a c)
  | sl _ _ b off c sz u hb hnc hs hf hc ho hp =>
    refine .pure (.sl n g b off c sz u hb hnc hs (fun i hi => (h i hi).1.trans (hf i hi)) hc ho (fun i j hi hj => ?_))
    have hj' : j < (f i).flat.length := by rw [hf i hi]; exact hj
    obtain ⟨h1, h2⟩ := (h i hi).2 j hj'
    exact isPure_rep (S := ⟨γ, imm, fun _ => none, w⟩) (h1 _ _ _ _ (.pure (hp i j hi hj))) h2
def isLv {α : Type} (c : Cod α) (n : Nat) (f : Nat → V) : Prop := VLe (.sl n f) (.sl (lsOf c n f).length (lsF c (lsOf c n f)))
/-- a thing's cells say what its code says -/
def isE {α : Type} (c : Cod α) (v : V) : Prop := (c.enc (c.dec v)).flat.length = v.flat.length ∧ ∀ j, j < v.flat.length → VLe (v.flat.getD j .any) ((c.enc (c.dec v)).flat.getD j .any) ∧ ((c.enc (c.dec v)).flat.getD j .any).isPure = true
theorem shListE {α : Type} {c : Cod α} {s : Sh} {p : α → Prop} (hs : ∀ m v, s.has m v → isE c v ∧ p (c.dec v)) {m : Nat} {v : V} (h : Sh.has (.list s) m v) : ∃ (n : Nat) (f : Nat → V), v = .sl n f ∧ isLv c n f ∧ n ≤ 140737488355328 ∧ ∀ a ∈ lsOf c n f, p a := by
  obtain ⟨l, ms, rfl, h1, h2, h3, h4⟩ := h
  have := reach_le
  refine ⟨_, _, rfl, ?_, by omega, fun a ha => ?_⟩
  · unfold isLv
    rw [lsOf_len]
    refine VLe.slV fun i hi => ?_
    have hE := (hs _ _ (h4 i hi)).1
    have e2 : lsF c (lsOf c l.length (litF l)) i = c.enc (c.dec (litF l i)) := by
      unfold lsF lsOf
      rw [List.getD_eq_getElem?_getD, List.getElem?_map, List.getElem?_range hi]; rfl
    rw [e2]
    exact hE
  · simp only [lsOf, List.mem_map, List.mem_range] at ha
    obtain ⟨i, hi, rfl⟩ := ha
    exact (hs _ _ (h4 i hi)).2

/- what sites permit -/
structure Rul where
  al : Bool
  pa : List UInt8
deriving DecidableEq
def noRul : Rul := ⟨false, []⟩
def decRul : V → Rul
  | .agg [.bool a, .str p] => ⟨a, p⟩
  | _ => noRul
def cRul : Cod Rul := ⟨fun r => .agg [.bool r.al, .str r.pa], decRul, noRul, fun _ => rfl⟩
@[push_cast] theorem enc_rul (r : Rul) : cRul.enc r = .agg [.bool r.al, .str r.pa] := rfl
@[push_cast] theorem dec_rul (a : Bool) (p : List UInt8) : cRul.dec (.agg [.bool a, .str p]) = ⟨a, p⟩ := rfl
@[push_cast] theorem lsF_rul (l : List Rul) (i : Nat) : lsF cRul l i = .agg [.bool (l.getD i noRul).al, .str (l.getD i noRul).pa] := rfl
structure Grp where
  ag : List (List UInt8)
  ru : List Rul
  de : Int
deriving DecidableEq
def noGrp : Grp := ⟨[], [], 0⟩
def decGrp : V → Grp
  | .agg [.sl n f, .sl m g, .int _ d] => ⟨lsOf cStr n f, lsOf cRul m g, d⟩
  | _ => noGrp
def cGrp : Cod Grp := ⟨fun g => .agg [.sl g.ag.length (lsF cStr g.ag), .sl g.ru.length (lsF cRul g.ru), .int .i64 g.de], decGrp, noGrp, fun g => by simp [decGrp, lsOf_ls]⟩
@[push_cast] theorem enc_grp (g : Grp) : cGrp.enc g = .agg [.sl g.ag.length (lsF cStr g.ag), .sl g.ru.length (lsF cRul g.ru), .int .i64 g.de] := rfl
@[push_cast] theorem dec_grp (n m : Nat) (f g : Nat → V) (k : IntKind) (d : Int) : cGrp.dec (.agg [.sl n f, .sl m g, .int k d]) = ⟨lsOf cStr n f, lsOf cRul m g, d⟩ := rfl
@[push_cast] theorem lsF_grp (l : List Grp) (i : Nat) : lsF cGrp l i = .agg [.sl (l.getD i noGrp).ag.length (lsF cStr (l.getD i noGrp).ag), .sl (l.getD i noGrp).ru.length (lsF cRul (l.getD i noGrp).ru), .int .i64 (l.getD i noGrp).de] := rfl
structure Rob where
  gr : List Grp
  ma : List (List UInt8)
deriving DecidableEq
def noRob : Rob := ⟨[], []⟩
def decRob : V → Rob
  | .agg [.sl n f, .sl m g] => ⟨lsOf cGrp n f, lsOf cStr m g⟩
  | _ => noRob
def cRob : Cod Rob := ⟨fun r => .agg [.sl r.gr.length (lsF cGrp r.gr), .sl r.ma.length (lsF cStr r.ma)], decRob, noRob, fun r => by simp [decRob, lsOf_ls]⟩
@[push_cast] theorem enc_rob (r : Rob) : cRob.enc r = .agg [.sl r.gr.length (lsF cGrp r.gr), .sl r.ma.length (lsF cStr r.ma)] := rfl
@[push_cast] theorem dec_rob (n m : Nat) (f g : Nat → V) : cRob.dec (.agg [.sl n f, .sl m g]) = ⟨lsOf cGrp n f, lsOf cStr m g⟩ := rfl
@[push_cast] theorem isC_robT (r : Rob) : isC cRob (.agg [.sl r.gr.length (lsF cGrp r.gr), .sl r.ma.length (lsF cStr r.ma)]) = True := eq_true (isC_enc cRob r)
@[push_cast] theorem isC_grpT (g : Grp) : isC cGrp (.agg [.sl g.ag.length (lsF cStr g.ag), .sl g.ru.length (lsF cRul g.ru), .int .i64 g.de]) = True := eq_true (isC_enc cGrp g)
@[push_cast] theorem rob_eta (r : Rob) : (⟨r.gr, r.ma⟩ : Rob) = r := rfl
@[push_cast] theorem grp_eta (g : Grp) : (⟨g.ag, g.ru, g.de⟩ : Grp) = g := rfl
structure Rdg where
  at' : Int
  st : Int
  ro : Rob
deriving DecidableEq
def noRdg : Rdg := ⟨0, 0, noRob⟩
def decRdg : V → Rdg
  | .agg [.int _ a, .int _ s, .sl n f, .sl m g] => ⟨a, s, ⟨lsOf cGrp n f, lsOf cStr m g⟩⟩
  | _ => noRdg
def cRdg : Cod Rdg := ⟨fun r => .agg [.int .i64 r.at', .int .i64 r.st, .sl r.ro.gr.length (lsF cGrp r.ro.gr), .sl r.ro.ma.length (lsF cStr r.ro.ma)], decRdg, noRdg, fun r => by simp [decRdg, lsOf_ls]⟩
@[push_cast] theorem lsF_rdg (l : List Rdg) (i : Nat) : lsF cRdg l i = .agg [.int .i64 (l.getD i noRdg).at', .int .i64 (l.getD i noRdg).st, .sl (l.getD i noRdg).ro.gr.length (lsF cGrp (l.getD i noRdg).ro.gr), .sl (l.getD i noRdg).ro.ma.length (lsF cStr (l.getD i noRdg).ro.ma)] := rfl
/- what arguments are -/
def rulOk (r : Rul) : Prop := r.pa.length ≤ 140737488355328
def grpOk (g : Grp) : Prop := g.ag.length ≤ 140737488355328 ∧ (∀ s ∈ g.ag, s.length ≤ 140737488355328) ∧ g.ru.length ≤ 140737488355328 ∧ (∀ r ∈ g.ru, rulOk r) ∧ -9223372036854775808 ≤ g.de ∧ g.de ≤ 9223372036854775807
def robOk (r : Rob) : Prop := r.gr.length ≤ 140737488355328 ∧ (∀ g ∈ r.gr, grpOk g) ∧ r.ma.length ≤ 140737488355328 ∧ ∀ s ∈ r.ma, s.length ≤ 140737488355328
def rdgOk (r : Rdg) : Prop := -9223372036854775808 ≤ r.at' ∧ r.at' ≤ 9223372036854775807 ∧ -9223372036854775808 ≤ r.st ∧ r.st ≤ 9223372036854775807 ∧ robOk r.ro
abbrev sRul : Sh := .tup [.bool, .str]
abbrev sGrp : Sh := .tup [.list .str, .list sRul, .int .i64]
abbrev sRob : Sh := .tup [.list sGrp, .list .str]
abbrev sRdg : Sh := .tup [.int .i64, .int .i64, sRob]
theorem shBoolE {m : Nat} {v : V} (h : Sh.has .bool m v) : ∃ b, v = .bool b := by
  obtain ⟨b, e, _⟩ := h
  exact ⟨b, e⟩
theorem shRul {m : Nat} {v : V} (h : Sh.has sRul m v) : ∃ a, v = cRul.enc a ∧ rulOk a := by
  obtain ⟨l, ms, rfl, -, hl⟩ := h
  obtain ⟨m1, v1, ms, l, rfl, h1, hl⟩ := hasL_cons hl
  obtain ⟨m2, v2, ms, l, rfl, h2, hl⟩ := hasL_cons hl
  obtain rfl := hasL_nil hl
  obtain ⟨b, rfl⟩ := shBoolE h1
  obtain ⟨p, rfl, b2⟩ := shStr h2
  exact ⟨⟨b, p⟩, rfl, b2⟩
theorem shGrp {m : Nat} {v : V} (h : Sh.has sGrp m v) : isE cGrp v ∧ grpOk (cGrp.dec v) := by
  obtain ⟨l, ms, rfl, -, hl⟩ := h
  obtain ⟨m1, v1, ms, l, rfl, h1, hl⟩ := hasL_cons hl
  obtain ⟨m2, v2, ms, l, rfl, h2, hl⟩ := hasL_cons hl
  obtain ⟨m3, v3, ms, l, rfl, h3, hl⟩ := hasL_cons hl
  obtain rfl := hasL_nil hl
  obtain ⟨n, f, rfl, i1, b1, k1⟩ := shList (c := cStr) (fun m v h => shStr h) h1
  obtain ⟨k, g, rfl, i2, b2, k2⟩ := shList (c := cRul) (fun m v h => shRul h) h2
  obtain ⟨d, rfl, c3⟩ := shInt h3
  simp only [Lit.wf, Bool.and_eq_true, decide_eq_true_eq] at c3
  refine ⟨⟨rfl, fun j hj => ?_⟩, by show (lsOf cStr n f).length ≤ _; rw [lsOf_len]; exact b1, k1, by show (lsOf cRul k g).length ≤ _; rw [lsOf_len]; exact b2, k2, c3.1, c3.2⟩
  match j, hj with
  | 0, _ => exact ⟨isLs.vle i1, rfl⟩
  | 1, _ => exact ⟨isLs.vle i2, rfl⟩
  | 2, _ => exact ⟨VLe.refl _, rfl⟩
theorem shRobX {m : Nat} {v : V} (h : Sh.has sRob m v) : ∃ n f k g, v = .agg [.sl n f, .sl k g] ∧ isLv cGrp n f ∧ isLs cStr k g ∧ robOk ⟨lsOf cGrp n f, lsOf cStr k g⟩ := by
  obtain ⟨l, ms, rfl, -, hl⟩ := h
  obtain ⟨m1, v1, ms, l, rfl, h1, hl⟩ := hasL_cons hl
  obtain ⟨m2, v2, ms, l, rfl, h2, hl⟩ := hasL_cons hl
  obtain rfl := hasL_nil hl
  obtain ⟨n, f, rfl, i1, b1, k1⟩ := shListE (c := cGrp) (p := grpOk) (fun m v h => shGrp h) h1
  obtain ⟨k, g, rfl, i2, b2, k2⟩ := shList (c := cStr) (fun m v h => shStr h) h2
  exact ⟨n, f, k, g, rfl, i1, i2, by show (lsOf cGrp n f).length ≤ _; rw [lsOf_len]; exact b1, k1, by show (lsOf cStr k g).length ≤ _; rw [lsOf_len]; exact b2, k2⟩
theorem shRob {m : Nat} {v : V} (h : Sh.has sRob m v) : VLe v (cRob.enc (cRob.dec v)) ∧ robOk (cRob.dec v) := by
  obtain ⟨n, f, k, g, rfl, i1, i2, ok⟩ := shRobX h
  exact ⟨VLe.agg ⟨i1, isLs.vle i2, trivial⟩, ok⟩
theorem shRdg {m : Nat} {v : V} (h : Sh.has sRdg m v) : isE cRdg v ∧ rdgOk (cRdg.dec v) := by
  obtain ⟨l, ms, rfl, -, hl⟩ := h
  obtain ⟨m1, v1, ms, l, rfl, h1, hl⟩ := hasL_cons hl
  obtain ⟨m2, v2, ms, l, rfl, h2, hl⟩ := hasL_cons hl
  obtain ⟨m3, v3, ms, l, rfl, h3, hl⟩ := hasL_cons hl
  obtain rfl := hasL_nil hl
  obtain ⟨a, rfl, c1⟩ := shInt h1
  obtain ⟨s, rfl, c2⟩ := shInt h2
  obtain ⟨n, f, k, g, rfl, i1, i2, ok⟩ := shRobX h3
  simp only [Lit.wf, Bool.and_eq_true, decide_eq_true_eq] at c1 c2
  refine ⟨⟨rfl, fun j hj => ?_⟩, c1.1, c1.2, c2.1, c2.2, ok⟩
  match j, hj with
  | 0, _ => exact ⟨VLe.refl _, rfl⟩
  | 1, _ => exact ⟨VLe.refl _, rfl⟩
  | 2, _ => exact ⟨i1, rfl⟩
  | 3, _ => exact ⟨isLs.vle i2, rfl⟩
theorem shAdr {m : Nat} {v : V} (h : Sh.has (.tup [.str, .str, .str, .str, .str, .bool, .str, .bool]) m v) : ∃ a, v = cAdr.enc a ∧ a.sc.length ≤ 140737488355328 ∧ a.ho.length ≤ 140737488355328 ∧ a.po.length ≤ 140737488355328 ∧ a.pa.length ≤ 140737488355328 ∧ a.qu.length ≤ 140737488355328 ∧ a.fr.length ≤ 140737488355328 := by
  obtain ⟨l, ms, rfl, -, hl⟩ := h
  obtain ⟨m1, v1, ms, l, rfl, h1, hl⟩ := hasL_cons hl
  obtain ⟨m2, v2, ms, l, rfl, h2, hl⟩ := hasL_cons hl
  obtain ⟨m3, v3, ms, l, rfl, h3, hl⟩ := hasL_cons hl
  obtain ⟨m4, v4, ms, l, rfl, h4, hl⟩ := hasL_cons hl
  obtain ⟨m5, v5, ms, l, rfl, h5, hl⟩ := hasL_cons hl
  obtain ⟨m6, v6, ms, l, rfl, h6, hl⟩ := hasL_cons hl
  obtain ⟨m7, v7, ms, l, rfl, h7, hl⟩ := hasL_cons hl
  obtain ⟨m8, v8, ms, l, rfl, h8, hl⟩ := hasL_cons hl
  obtain rfl := hasL_nil hl
  obtain ⟨a1, rfl, b1⟩ := shStr h1
  obtain ⟨a2, rfl, b2⟩ := shStr h2
  obtain ⟨a3, rfl, b3⟩ := shStr h3
  obtain ⟨a4, rfl, b4⟩ := shStr h4
  obtain ⟨a5, rfl, b5⟩ := shStr h5
  obtain ⟨a6, rfl⟩ := shBoolE h6
  obtain ⟨a7, rfl, b7⟩ := shStr h7
  obtain ⟨a8, rfl⟩ := shBoolE h8
  exact ⟨⟨a1, a2, a3, a4, a5, a6, a7, a8⟩, rfl, b1, b2, b3, b4, b5, b7⟩
/- the errors -/
def agB (c : UInt8) : Bool := decide (97 ≤ c.toNat ∧ c.toNat ≤ 122) || decide (48 ≤ c.toNat ∧ c.toNat ≤ 57) || decide (c.toNat = 45) || decide (c.toNat = 95)
def agentL (s : List UInt8) : Bool := s == [42] || (decide (1 ≤ s.length) && decide (s.length ≤ 40) && s.all agB)
def checkGrpL (g : Grp) : Int :=
  if g.ag.length = 0 then 9 else if 50 < g.ag.length then 16 else if g.ag.all agentL = false then 5 else if 200 < g.ru.length then 16 else if (g.ru.all fun r => patOk r.pa) = false then 3 else if g.de < -1 ∨ 99999 < g.de then 1 else 0
def grpsE : List Grp → Int
  | [] => 0
  | g :: t => if checkGrpL g = 0 then grpsE t else checkGrpL g
def adrB (s : List UInt8) : Bool := decide ((readA s).2.2 = 0)
def checkRobL (r : Rob) : Int := if 100 < r.gr.length then 16 else if grpsE r.gr = 0 then (if 100 < r.ma.length then 16 else if r.ma.all adrB = true then 0 else 3) else grpsE r.gr
def isRulS (n : Int) : Bool := decide (200 ≤ n) && decide (n ≤ 299)
def isAllS (n : Int) : Bool := decide (400 ≤ n) && decide (n ≤ 499)
def rdgE (x : Rdg) : Int :=
  if ¬ (0 ≤ x.at' ∧ x.at' ≤ 253402300799) ∨ (x.st ≠ 0 ∧ (x.st < 100 ∨ 599 < x.st)) then 1
  else if isRulS x.st = false ∧ 0 < x.ro.gr.length + x.ro.ma.length then 3
  else checkRobL x.ro
def rdgsGo : Int → List Rdg → Int
  | _, [] => 0
  | p, x :: t => if rdgE x = 0 then (if x.at' < p then 8 else rdgsGo x.at' t) else rdgE x
def checkRdgs (l : List Rdg) : Int := if 500 < l.length then 2 else rdgsGo (-1) l
def askE (l : List Rdg) (age at' : Int) : Int := if checkRdgs l = 0 then (if 1 ≤ age ∧ age ≤ 100000000 ∧ 0 ≤ at' ∧ at' ≤ 253402300799 then 0 else 1) else checkRdgs l
/- what holds -/
def saysB (x : Rdg) : Bool := isRulS x.st || isAllS x.st
def lastN (l : List Rdg) (at' : Int) : Nat := (l.takeWhile fun x => decide (x.at' ≤ at')).length
/-- the last one that says something -/
def goodI : List Rdg → Nat → Int
  | _, 0 => -1
  | l, n + 1 => if saysB (l.getD n noRdg) = true then (n : Int) else goodI l n
def standL (l : List Rdg) (age at' : Int) : Int × Int :=
  if lastN l at' = 0 then (1, -1)
  else if goodI l (lastN l at') < 0 ∨ (goodI l (lastN l at') < (lastN l at' : Int) - 1 ∧ (l.getD (goodI l (lastN l at')).toNat noRdg).at' + age ≤ at') then (4, (lastN l at' : Int) - 1)
  else if isRulS (l.getD (goodI l (lastN l at')).toNat noRdg).st = true then (2, goodI l (lastN l at')) else (3, goodI l (lastN l at'))

end Go.Abs
