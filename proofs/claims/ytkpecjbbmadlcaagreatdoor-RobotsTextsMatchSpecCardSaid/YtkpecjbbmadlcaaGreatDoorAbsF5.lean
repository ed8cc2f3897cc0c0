/- what functions of this program compute: contracts, each a function's own -/
import Derived.Test.YtkpecjbbmadlcaaGreatDoorAbsK3
import Derived.Test.YtkpecjbbmadlcaaGreatDoorAbsFacts
import Derived.Test.YtkpecjbbmadlcaaGreatDoorAbsF4
import Derived.Test.YtkpecjbbmadlcaaGreatDoorAbsShelf
import Derived.Lib.SplitLaws
import Derived.Lib.SlTrimSet
import Derived.Lib.Atoi
import Derived.Lib.Itoa
import Derived.Lib.ItoaNum
import Derived.Lib.ItoaLen
import Derived.Lib.Replace
import Derived.Lib.ReplaceLaws
import Derived.Lib.AtoiErrMem
import Derived.Lib.Overlaps
import Derived.Deep.AppendSrc
import Derived.Laws.NewBlocks
import Derived.WalkKit
import Derived.Lib.Walk
import Derived.Lib.AppendStr
import Derived.Lib.AppendZeros
import Derived.Lib.UnsafeStr
import Derived.Lib.Builder
import Derived.Laws.Externs
import Derived.Lib.Repeat
import Derived.Lib.Join
namespace Go.Abs
open Go Go.Proofs
set_option maxHeartbeats 4000000
set_option maxRecDepth 100000
set_option linter.unusedVariables false
set_option linter.unusedSimpArgs false
/- an address that can be read has no blanks (plain) -/
theorem hex_33 {c : Nat} (h : isHex (c : Int) = true) : 33 ≤ c := by
  simp only [isHex, isDig, Bool.or_eq_true, Bool.and_eq_true, decide_eq_true_eq] at h
  omega
theorem rowB_33 {c : UInt8} (h : ¬ rowB c = false) : 33 ≤ c.toNat := by
  have h : rowB c = true := by simpa using h
  unfold rowB at h
  simp only [Bool.and_eq_true, decide_eq_true_eq] at h
  exact h.1.1
theorem reL_ok (s w : List UInt8) : ∀ k i, s.length < i + k → i ≤ s.length → (reL s w k i).2 = true → (∀ j, i ≤ j → j < (reL s w k i).1 → 33 ≤ (s.getD j 0).toNat) ∧ ((reL s w k i).1 = s.length ∨ 0 ≤ Lib.indexByte w (s.getD (reL s w k i).1 0))
  | 0, i, h, hi, _ => by omega
  | k + 1, i, h, hi, ho => by
    rw [reL] at ho ⊢
    split at ho
    · rename_i h1
      rw [if_pos h1]
      exact ⟨fun j a b => by have b : j < s.length := b; omega, .inl rfl⟩
    · rename_i h1
      rw [if_neg h1]
      split at ho
      · rename_i h2
        rw [if_pos h2]
        exact ⟨fun j a b => by have b : j < i := b; omega, .inr h2⟩
      · rename_i h2
        rw [if_neg h2]
        split at ho
        · cases ho
        · rename_i h3
          rw [if_neg h3]
          have c0 := rowB_33 h3
          split at ho
          · rename_i h4
            rw [if_pos h4]
            split at ho
            · rename_i h5
              rw [if_pos h5]
              unfold pctB at h5
              simp only [Bool.and_eq_true, decide_eq_true_eq] at h5
              have c1 := hex_33 h5.1.2
              have c2 := hex_33 h5.2
              obtain ⟨r1, r2⟩ := reL_ok s w k (i + 3) (by omega) (by omega) ho
              refine ⟨fun j a b => ?_, r2⟩
              rcases (by omega : j = i ∨ j = i + 1 ∨ j = i + 2 ∨ i + 3 ≤ j) with rfl | rfl | rfl | h6
              · exact c0
              · exact c1
              · exact c2
              · exact r1 j h6 b
            · cases ho
          · rename_i h4
            rw [if_neg h4]
            obtain ⟨r1, r2⟩ := reL_ok s w k (i + 1) (by omega) (by omega) ho
            refine ⟨fun j a b => ?_, r2⟩
            rcases (by omega : j = i ∨ i + 1 ≤ j) with rfl | h6
            · exact c0
            · exact r1 j h6 b
theorem dropAt_c (s : List UInt8) (a j : Nat) : (s.drop a).getD j 0 = s.getD (a + j) 0 := by
  rw [List.getD_eq_getElem?_getD, List.getD_eq_getElem?_getD, List.getElem?_drop]
theorem rdRow_ok {s w : List UInt8} {a : Nat} (ha : a ≤ s.length) (h : (rdRow s a w).2 = true) : (∀ j, a ≤ j → j < a + (rdRow s a w).1 → 33 ≤ (s.getD j 0).toNat) ∧ (a + (rdRow s a w).1 = s.length ∨ (a + (rdRow s a w).1 < s.length ∧ 0 ≤ Lib.indexByte w (s.getD (a + (rdRow s a w).1) 0))) := by
  have hle := rdRow_le (w := w) ha
  unfold rdRow at h hle ⊢
  obtain ⟨r1, r2⟩ := reL_ok (s.drop a) w _ 0 (by omega) (Nat.zero_le _) h
  refine ⟨fun j h1 h2 => ?_, ?_⟩
  · have := r1 (j - a) (Nat.zero_le _) (by omega)
    rw [dropAt_c, show a + (j - a) = j by omega] at this
    exact this
  · rw [dropAt_c] at r2
    have hdl : (s.drop a).length = s.length - a := List.length_drop
    generalize (reL (s.drop a) w ((s.drop a).length + 1) 0).1 = n at hle r2 ⊢
    rcases r2 with r2 | r2
    · exact .inl (by omega)
    · by_cases e : a + n = s.length
      · exact .inl e
      · exact .inr ⟨by omega, r2⟩
theorem isAtC_iff (s : List UInt8) (a c : Nat) : isAt s a c = true ↔ a < s.length ∧ (s.getD a 0).toNat = c := by
  unfold isAt
  rw [Bool.and_eq_true, decide_eq_true_eq, decide_eq_true_eq]
theorem ix_nil (c : UInt8) : ¬ 0 ≤ Lib.indexByte [] c := by
  have : Lib.indexByte [] c = -1 := rfl
  omega
theorem ix_35 {c : UInt8} (h : 0 ≤ Lib.indexByte [35] c) : c.toNat = 35 := by
  have key : ∀ n, n < 256 → 0 ≤ Lib.indexByte [35] (UInt8.ofNat n) → (UInt8.ofNat n).toNat = 35 := by decide +kernel
  have := key c.toNat (UInt8.toNat_lt c)
  simp only [UInt8.ofNat_toNat] at this
  exact this h
theorem ix_63 {c : UInt8} (h : 0 ≤ Lib.indexByte [63, 35] c) : c.toNat = 63 ∨ c.toNat = 35 := by
  have key : ∀ n, n < 256 → 0 ≤ Lib.indexByte [63, 35] (UInt8.ofNat n) → (UInt8.ofNat n).toNat = 63 ∨ (UInt8.ofNat n).toNat = 35 := by decide +kernel
  have := key c.toNat (UInt8.toNat_lt c)
  simp only [UInt8.ofNat_toNat] at this
  exact this h
theorem rst3_ok {s : List UInt8} {d : Nat} {pa qu : List UInt8} {hq : Bool} (hd : d = s.length ∨ (d < s.length ∧ (s.getD d 0).toNat = 35)) (h : (rst3 s d pa qu hq).ok = true) : ∀ j, d ≤ j → j < s.length → 33 ≤ (s.getD j 0).toNat := by
  unfold rst3 at h
  split at h
  · rename_i h1
    obtain ⟨h1, h2⟩ := (isAtC_iff _ _ _).1 h1
    obtain ⟨r1, r2⟩ := rdRow_ok (s := s) (w := []) (a := d + 1) (by omega) h
    have e : d + 1 + (rdRow s (d + 1) []).1 = s.length := r2.elim id fun g => absurd g.2 (ix_nil _)
    intro j h3 h4
    rcases (by omega : j = d ∨ d + 1 ≤ j) with rfl | h5
    · omega
    · exact r1 j h5 (by omega)
  · rename_i h1
    intro j h3 h4
    rcases hd with hd | hd
    · omega
    · exact absurd ((isAtC_iff _ _ _).2 hd) h1
theorem rst2_ok {s : List UInt8} {c : Nat} {pa : List UInt8} (hc : c = s.length ∨ (c < s.length ∧ ((s.getD c 0).toNat = 63 ∨ (s.getD c 0).toNat = 35))) (h : (rst2 s c pa).ok = true) : ∀ j, c ≤ j → j < s.length → 33 ≤ (s.getD j 0).toNat := by
  unfold rst2 at h
  split at h
  · rename_i h1
    obtain ⟨h1, h2⟩ := (isAtC_iff _ _ _).1 h1
    split at h
    · cases h
    · rename_i h3
      obtain ⟨r1, r2⟩ := rdRow_ok (s := s) (w := [35]) (a := c + 1) (by omega) (by simpa using h3)
      have h4 := rst3_ok (r2.imp id fun g => ⟨g.1, ix_35 g.2⟩) h
      intro j h5 h6
      rcases (by omega : j = c ∨ (c + 1 ≤ j ∧ j < c + 1 + (rdRow s (c + 1) [35]).1) ∨ c + 1 + (rdRow s (c + 1) [35]).1 ≤ j) with rfl | h7 | h7
      · omega
      · exact r1 j h7.1 h7.2
      · exact h4 j h7 h6
  · rename_i h1
    refine rst3_ok ?_ h
    rcases hc with hc | ⟨hc, h2 | h2⟩
    · exact .inl hc
    · exact absurd ((isAtC_iff _ _ _).2 ⟨hc, h2⟩) h1
    · exact .inr ⟨hc, h2⟩
theorem rstL_ok {s : List UInt8} {b : Nat} (hb : b ≤ s.length) (h : (rstL s b).ok = true) : ∀ j, b ≤ j → j < s.length → 33 ≤ (s.getD j 0).toNat := by
  unfold rstL at h
  split at h
  · cases h
  · rename_i h3
    obtain ⟨r1, r2⟩ := rdRow_ok (s := s) (w := [63, 35]) (a := b) hb (by simpa using h3)
    have h4 := rst2_ok (r2.imp id fun g => ⟨g.1, ix_63 g.2⟩) h
    intro j h5 h6
    rcases (by omega : j < b + (rdRow s b [63, 35]).1 ∨ b + (rdRow s b [63, 35]).1 ≤ j) with h7 | h7
    · exact r1 j h5 h7
    · exact h4 j h7 h6
theorem hostB_33 {c : UInt8} (h : hostB c = true) : 33 ≤ c.toNat := by
  simp only [hostB, isLet, isDig, Bool.or_eq_true, Bool.and_eq_true, decide_eq_true_eq] at h
  omega
theorem digB_33 {c : UInt8} (h : digB c = true) : 33 ≤ c.toNat := by
  simp only [digB, isDig, Bool.and_eq_true, decide_eq_true_eq] at h
  omega
theorem hoN_33 (s : List UInt8) (a : Nat) : ∀ j, a ≤ j → j < a + hoN s a → 33 ≤ (s.getD j 0).toNat := fun j h1 h2 => by
  have := runN_in (p := hostB) (s := s.drop a) (j := j - a) (by unfold hoN at h2; omega)
  rw [dropAt_c, show a + (j - a) = j by omega] at this
  exact hostB_33 this
theorem poN_33 (s : List UInt8) (a : Nat) : ∀ j, a ≤ j → j < a + poN s a → 33 ≤ (s.getD j 0).toNat := fun j h1 h2 => by
  have := runN_in (p := digB) (s := s.drop a) (j := j - a) (by unfold poN at h2; omega)
  rw [dropAt_c, show a + (j - a) = j by omega] at this
  exact digB_33 this
theorem plc_33 {s : List UInt8} {a : Nat} (h : (plcL s a).ok = true) : ∀ j, a ≤ j → j < (plcL s a).at' → 33 ≤ (s.getD j 0).toNat := by
  unfold plcL at h ⊢
  split at h
  · cases h
  · rename_i h1
    rw [if_neg h1]
    split at h
    · rename_i h2
      rw [if_pos h2]
      obtain ⟨h3, h4⟩ := (isAtC_iff _ _ _).1 h2
      split at h
      · cases h
      · rename_i h5
        rw [if_neg h5]
        intro j h6 h7
        rcases (by omega : j < a + hoN s a ∨ j = a + hoN s a ∨ a + hoN s a + 1 ≤ j) with h8 | rfl | h8
        · exact hoN_33 s a j h6 h8
        · omega
        · exact poN_33 s _ j h8 h7
    · rename_i h2
      rw [if_neg h2]
      exact fun j h6 h7 => hoN_33 s a j h6 h7
theorem mt_in : ∀ {s w : List UInt8} {j : Nat}, j < mt s w → lowB (s.getD j 0) = w.getD j 0
  | [], w, j, h => by simp [mt] at h
  | c :: s, [], j, h => by simp [mt] at h
  | c :: s, d :: w, j, h => by
    rw [mt] at h
    split at h
    · rename_i e
      cases j with
      | zero => exact e
      | succ j =>
        rw [List.getD_cons_succ, List.getD_cons_succ]
        exact mt_in (by omega)
    · omega
theorem low_33 {c : UInt8} (h : 33 ≤ (lowB c).toNat) : 33 ≤ c.toNat := by
  have key : ∀ n, n < 256 → 33 ≤ (lowB (UInt8.ofNat n)).toNat → 33 ≤ (UInt8.ofNat n).toNat := by decide +kernel
  have := key c.toNat (UInt8.toNat_lt c)
  simp only [UInt8.ofNat_toNat] at this
  exact this h
theorem sch_33 {s : List UInt8} (h : (schL s).1 = true) : ∀ j, j < (schL s).2 → 33 ≤ (s.getD j 0).toNat := by
  have k1 : ∀ j, j < 7 → 33 ≤ ((wHttp ++ wSep).getD j 0).toNat := by decide +kernel
  have k2 : ∀ j, j < 8 → 33 ≤ ((wHttps ++ wSep).getD j 0).toNat := by decide +kernel
  unfold schL at h ⊢
  split at h
  · rename_i h1
    rw [if_pos h1]
    intro j hj
    have hj : j < 7 := hj
    have := mt_in (s := s) (w := wHttp ++ wSep) (j := j) (by omega)
    exact low_33 (by rw [this]; exact k1 j hj)
  · rename_i h1
    rw [if_neg h1]
    split at h
    · rename_i h2
      rw [if_pos h2]
      intro j hj
      have hj : j < 8 := hj
      have := mt_in (s := s) (w := wHttps ++ wSep) (j := j) (by omega)
      exact low_33 (by rw [this]; exact k2 j hj)
    · cases h
theorem readA_33 {s : List UInt8} (h : (readA s).2.2 = 0) : 1 ≤ s.length ∧ ∀ j, j < s.length → 33 ≤ (s.getD j 0).toNat := by
  unfold readA at h
  split at h
  · cases h
  · split at h
    · cases h
    · rename_i h1
      split at h
      · cases h
      · rename_i h2
        split at h
        · cases h
        · rename_i h3
          have h1 : (schL s).1 = true := by simpa using h1
          have h2 : (plcL s (schL s).2).ok = true := by simpa using h2
          have h3 : (rstL s (plcL s (schL s).2).at').ok = true := by simpa using h3
          have b1 := sch_b s
          have b2 := plc_b b1
          have hp : 7 ≤ (schL s).2 := by
            unfold schL at h1 ⊢
            split at h1
            · rename_i g; rw [if_pos g]; exact Nat.le_refl 7
            · rename_i g
              rw [if_neg g]
              split at h1
              · rename_i g2; rw [if_pos g2]; show 7 ≤ 8; omega
              · cases h1
          refine ⟨by omega, fun j hj => ?_⟩
          rcases (by omega : j < (schL s).2 ∨ ((schL s).2 ≤ j ∧ j < (plcL s (schL s).2).at') ∨ (plcL s (schL s).2).at' ≤ j) with h4 | h4 | h4
          · exact sch_33 h1 j h4
          · exact plc_33 h2 j h4.1 h4.2
          · exact rstL_ok b2 h3 j h4 hj

/- a text of what a site permits is read again as it was (plain) -/
theorem decD : ∀ n : Nat, (Lib.decDigits n).all isDg = true ∧ natOf (Lib.decDigits n) = n ∧ 1 ≤ (Lib.decDigits n).length := fun n => by
  induction n using Nat.strongRecOn with
  | _ n ih =>
    have hd : ∀ k, k < 10 → isDg (UInt8.ofNat (48 + k)) = true ∧ (UInt8.ofNat (48 + k)).toNat = 48 + k := by decide +kernel
    by_cases h : n < 10
    · rw [dec_small h]
      obtain ⟨a, b⟩ := hd n h
      refine ⟨by rw [List.all_cons, a]; rfl, ?_, Nat.le_refl 1⟩
      show 0 * 10 + ((UInt8.ofNat (48 + n)).toNat - 48) = n
      omega
    · obtain ⟨i1, i2, i3⟩ := ih (n / 10) (by omega)
      obtain ⟨a, b⟩ := hd (n % 10) (by omega)
      rw [dec_step (by omega)]
      refine ⟨by rw [List.all_append, i1, List.all_cons, a]; rfl, by rw [natOf_snoc, i2, b]; omega, by rw [List.length_append]; omega⟩
theorem decD_len : ∀ (k n : Nat), n < 10 ^ (k + 1) → (Lib.decDigits n).length ≤ k + 1
  | 0, n, h => by rw [dec_small (by simpa using h)]; exact Nat.le_refl 1
  | k + 1, n, h => by
    by_cases h1 : n < 10
    · rw [dec_small h1]; show 1 ≤ _; omega
    · rw [dec_step (by omega), List.length_append, List.length_singleton]
      have := decD_len k (n / 10) (by rw [Nat.pow_succ] at h; omega)
      omega
theorem itoaD {d : Int} (h0 : 0 ≤ d) (h1 : d ≤ 99999) : ((1 ≤ (Lib.itoa d).length ∧ (Lib.itoa d).length ≤ 5) ∧ (Lib.itoa d).all isDg = true) ∧ (natOf (Lib.itoa d) : Int) = d := by
  obtain ⟨n, rfl⟩ : ∃ n : Nat, d = n := ⟨d.toNat, by omega⟩
  rw [itoa_nat]
  obtain ⟨a, b, c⟩ := decD n
  exact ⟨⟨⟨c, decD_len 4 n (by omega)⟩, a⟩, by rw [b]⟩
/- cutting and trimming -/
theorem idxRd_hit (c : UInt8) : ∀ (n v : List UInt8), (∀ x ∈ n, x ≠ c) → Lib.index (n ++ c :: v) [c] = n.length
  | [], v, _ => index1_eq c v
  | x :: n, v, h => by
    have ih := idxRd_hit c n v fun y hy => h y (List.mem_cons_of_mem _ hy)
    show Lib.index (x :: (n ++ c :: v)) [c] = _
    rw [index1_ne _ (h x List.mem_cons_self), ih]
    have h2 : ((n.length : Int) == -1) = false := by rw [beq_eq_false_iff_ne]; omega
    rw [h2]
    simp
theorem idxRd_no (c : UInt8) : ∀ n : List UInt8, (∀ x ∈ n, x ≠ c) → Lib.index n [c] = -1
  | [], _ => rfl
  | x :: n, h => by
    have ih := idxRd_no c n fun y hy => h y (List.mem_cons_of_mem _ hy)
    rw [index1_ne _ (h x List.mem_cons_self), ih]
    rfl
theorem idxRd_in (c : UInt8) : ∀ n : List UInt8, c ∈ n → 0 ≤ Lib.index n [c]
  | x :: n, h => by
    by_cases e : x = c
    · subst e; rw [index1_eq]; exact Int.natCast_nonneg 0
    · have h : c ∈ n := by
        rcases List.mem_cons.1 h with h | h
        · exact absurd h.symm e
        · exact h
      have ih := idxRd_in c n h
      rw [index1_ne _ e]
      have h2 : (Lib.index n [c] == -1) = false := by rw [beq_eq_false_iff_ne]; omega
      rw [h2]
      simp only [Bool.false_eq_true, if_false]
      omega
theorem cutR_hit {c : UInt8} {n v : List UInt8} (h : ∀ x ∈ n, x ≠ c) : Lib.cut (n ++ c :: v) [c] = (n, v, true) := by
  unfold Lib.cut
  rw [idxRd_hit c n v h, if_pos (by omega)]
  have e : ((n.length : Int)).toNat = n.length := by omega
  rw [e]
  simp
theorem cutR_no {c : UInt8} {n : List UInt8} (h : ∀ x ∈ n, x ≠ c) : Lib.cut n [c] = (n, [], false) := by
  unfold Lib.cut
  rw [idxRd_no c n h, if_neg (by omega)]
theorem ctnR {s : List UInt8} (h : Lib.contains s [35] = false) : ∀ x ∈ s, x ≠ 35 := fun x hx e => by
  subst e
  have h1 := idxRd_in 35 s hx
  unfold Lib.contains at h
  exact absurd h1 (by simpa using h)
theorem trLR {cs : List UInt8} : ∀ {s : List UInt8}, (∀ c t, s = c :: t → cs.contains c = false) → Lib.trimLeftS s cs = s
  | [], _ => rfl
  | c :: t, h => by
    unfold Lib.trimLeftS
    rw [List.dropWhile_cons, if_neg (by rw [h c t rfl]; simp)]
theorem trRR {cs s : List UInt8} (h : ∀ t c, s = t ++ [c] → cs.contains c = false) : Lib.trimRightS s cs = s := by
  have e : Lib.trimLeftS s.reverse cs = s.reverse := trLR fun c t e => h t.reverse c (by rw [← List.reverse_reverse s, e]; simp)
  unfold Lib.trimLeftS at e
  unfold Lib.trimRightS
  rw [e, List.reverse_reverse]
theorem set33 {c : UInt8} (h : 33 ≤ c.toNat) : ([32, 9] : List UInt8).contains c = false := by
  have key : ∀ n, n < 256 → 33 ≤ (UInt8.ofNat n).toNat → ([32, 9] : List UInt8).contains (UInt8.ofNat n) = false := by decide +kernel
  have := key c.toNat (UInt8.toNat_lt c)
  simp only [UInt8.ofNat_toNat] at this
  exact this h
theorem last_mem {a v t : List UInt8} {c : UInt8} (hv : v ≠ []) (h : a ++ v = t ++ [c]) : c ∈ v := by
  rcases List.eq_nil_or_concat v with h0 | ⟨v', z, h0⟩
  · exact absurd h0 hv
  · have h0 : v = v' ++ [z] := by simpa using h0
    rw [h0, ← List.append_assoc] at h
    have := List.append_inj_right' h rfl
    have : z = c := by simpa using this
    rw [h0, this]; simp
/- a line: a word and a value -/
def lnL (w v : List UInt8) : List UInt8 := w ++ [58, 32] ++ v
def cleanV (v : List UInt8) : Prop := v ≠ [] ∧ ∀ c ∈ v, 33 ≤ c.toNat ∧ c ≠ 35
def wordV (w : List UInt8) : Prop := w ≠ [] ∧ ∀ c ∈ w, 33 ≤ c.toNat ∧ c ≠ 35 ∧ c ≠ 58 ∧ lowB c = c
theorem lowL_id {w : List UInt8} (h : ∀ c ∈ w, lowB c = c) : lowL w = w := by
  unfold lowL
  exact (List.map_congr_left h).trans (List.map_id w)
theorem line_is {w v : List UInt8} (hw : wordV w) (hv : cleanV v) : lnW (lnL w v) = w ∧ lnV (lnL w v) = v ∧ lnB (lnL w v) = true := by
  obtain ⟨w0, hw⟩ := hw
  obtain ⟨v0, hv⟩ := hv
  have e1 : Lib.cut (lnL w v) [35] = (lnL w v, [], false) := cutR_no fun x hx => by
    unfold lnL at hx
    rcases List.mem_append.1 hx with hx | hx
    · rcases List.mem_append.1 hx with hx | hx
      · exact (hw x hx).2.1
      · rcases List.mem_cons.1 hx with rfl | hx
        · decide
        · rw [List.mem_singleton.1 hx]; decide
    · exact (hv x hx).2
  have e2 : Lib.trimS (lnL w v) [32, 9] = lnL w v := by
    unfold Lib.trimS
    rw [trRR (s := lnL w v) fun t c e => set33 (hv c (last_mem (a := w ++ [58, 32]) v0 e)).1]
    refine trLR fun c t e => ?_
    cases w with
    | nil => exact absurd rfl w0
    | cons x w =>
      have : x = c := by
        unfold lnL at e
        simp only [List.cons_append, List.cons.injEq] at e
        exact e.1
      exact set33 (hw c (by rw [← this]; exact List.mem_cons_self)).1
  have e3 : lnL w v = w ++ 58 :: (32 :: v) := by unfold lnL; simp
  have e4 : Lib.cut (lnL w v) [58] = (w, 32 :: v, true) := by rw [e3]; exact cutR_hit fun x hx => (hw x hx).2.2.1
  have e5 : Lib.trimRightS w [32, 9] = w := trRR fun t c e => set33 (hw c (by rw [e]; simp)).1
  have e6 : Lib.trimLeftS (32 :: v) [32, 9] = v := by
    have : Lib.trimLeftS (32 :: v) [32, 9] = Lib.trimLeftS v [32, 9] := rfl
    rw [this]
    exact trLR fun c t e => set33 (hv c (by rw [e]; exact List.mem_cons_self)).1
  unfold lnW lnV lnB
  rw [e1, show (lnL w v, ([] : List UInt8), false).1 = lnL w v from rfl, e2, e4]
  refine ⟨?_, e6, rfl⟩
  show lowL (Lib.trimRightS w [32, 9]) = w
  rw [e5]
  exact lowL_id fun c hc => (hw c hc).2.2.2
def wordB (w : List UInt8) : Bool := !w.isEmpty && w.all fun c => decide (33 ≤ c.toNat) && decide (c ≠ 35) && decide (c ≠ 58) && decide (lowB c = c)
theorem word_of {w : List UInt8} (h : wordB w = true) : wordV w := by
  unfold wordB at h
  rw [Bool.and_eq_true, List.all_eq_true] at h
  refine ⟨fun e => by rw [e] at h; exact absurd h.1 (by simp), fun c hc => ?_⟩
  have := h.2 c hc
  simp only [Bool.and_eq_true, decide_eq_true_eq] at this
  exact ⟨this.1.1.1, this.1.1.2, this.1.2, this.2⟩
theorem w_ua : wordV uaW := word_of (by decide)
theorem w_al : wordV allowW := word_of (by decide)
theorem w_di : wordV disW := word_of (by decide)
theorem w_cr : wordV crawlW := word_of (by decide)
theorem w_si : wordV siteW := word_of (by decide)
/- what lines do -/
theorem ag_line {a : List UInt8} {x : RdS} (ha : agentL a = true) : cleanV a ∧ rdLine (lnL uaW a) x = { rdOpen x with ag := (rdOpen x).ag ++ [a] } := by
  have hB : ∀ n, n < 256 → agB (UInt8.ofNat n) = true → 33 ≤ (UInt8.ofNat n).toNat ∧ UInt8.ofNat n ≠ 35 ∧ lowB (UInt8.ofNat n) = UInt8.ofNat n := by decide +kernel
  have hB : ∀ c : UInt8, agB c = true → 33 ≤ c.toNat ∧ c ≠ 35 ∧ lowB c = c := fun c hc => by
    have := hB c.toNat (UInt8.toNat_lt c)
    simp only [UInt8.ofNat_toNat] at this
    exact this hc
  have hc : a ≠ [] ∧ ∀ c ∈ a, 33 ≤ c.toNat ∧ c ≠ 35 ∧ lowB c = c := by
    have h := ha
    unfold agentL at h
    simp only [Bool.or_eq_true, beq_iff_eq, Bool.and_eq_true, decide_eq_true_eq] at h
    rcases h with rfl | h
    · exact ⟨by simp, by decide⟩
    · exact ⟨fun e => by rw [e] at h; simp at h, fun c hc => hB c (List.all_eq_true.1 h.2 c hc)⟩
  have hcl : cleanV a := ⟨hc.1, fun c h => ⟨(hc.2 c h).1, (hc.2 c h).2.1⟩⟩
  have hlow : lowL a = a := lowL_id fun c h => (hc.2 c h).2.2
  obtain ⟨l1, l2, l3⟩ := line_is w_ua hcl
  refine ⟨hcl, ?_⟩
  unfold rdLine
  rw [l1, l2, l3, if_neg (by simp), if_pos rfl]
  unfold rdAgent
  rw [hlow, if_pos ha]
theorem open_self {y : RdS} (h1 : y.op = true) (h2 : y.la = true) : rdOpen y = y := by unfold rdOpen; rw [if_pos ⟨h1, h2⟩]
abbrev rdGo (L : List (List UInt8)) (x : RdS) : RdS := L.foldl (fun x s => rdLine s x) x
theorem rdGo_one (s : List UInt8) (x : RdS) : rdGo [s] x = rdLine s x := rfl
theorem rdGo_app (L M : List (List UInt8)) (x : RdS) : rdGo (L ++ M) x = rdGo M (rdGo L x) := List.foldl_append ..
theorem ags_go : ∀ (l : List (List UInt8)) (y : RdS), (∀ a ∈ l, agentL a = true) → y.op = true → y.la = true → rdGo (l.map (lnL uaW)) y = { y with ag := y.ag ++ l }
  | [], y, _, _, _ => by
    show y = _
    rw [List.append_nil]
  | a :: l, y, h, h1, h2 => by
    show rdGo (l.map (lnL uaW)) (rdLine (lnL uaW a) y) = _
    rw [(ag_line (h a List.mem_cons_self)).2, open_self h1 h2]
    exact (ags_go l { y with ag := y.ag ++ [a] } (fun b hb => h b (List.mem_cons_of_mem _ hb)) h1 h2).trans (by simp)
theorem pat_clean {v : List UInt8} (h : patOk v = true) : cleanV v := by
  obtain ⟨h1, -, -, h4⟩ := (patOk_iff v).1 h
  refine ⟨fun e => by rw [e] at h1; simp at h1, fun c hc => ?_⟩
  obtain ⟨i, hi, rfl⟩ := List.getElem_of_mem hc
  have := (okAt_iff v i).1 (h4 i hi)
  rw [List.getD_eq_getElem?_getD, List.getElem?_eq_getElem hi] at this
  have h5 : ¬ (v[i]).toNat < 33 ∧ ¬ 126 < (v[i]).toNat ∧ ¬ (v[i]).toNat = 35 ∧ _ := this
  exact ⟨by omega, fun e => h5.2.2.1 (by rw [e]; rfl)⟩
theorem rul_line {r : Rul} {x : RdS} (hp : patOk r.pa = true) (hx : x.op = true) : rdLine (lnL (if r.al = true then allowW else disW) r.pa) x = { x with la := false, ru := x.ru ++ [r] } := by
  have hcl := pat_clean hp
  obtain ⟨w, hw⟩ : ∃ w, w = (if r.al = true then allowW else disW) := ⟨_, rfl⟩
  rw [← hw]
  have h1 : wordV w := by rw [hw]; split; exact w_al; exact w_di
  have h2 : w = allowW ∨ w = disW := by rw [hw]; split; exact .inl rfl; exact .inr rfl
  have h3 : decide (w = allowW) = r.al := by
    rw [hw]
    cases r.al <;> decide
  obtain ⟨l1, l2, l3⟩ := line_is h1 hcl
  have n1 : ¬ w = uaW := by rcases h2 with h2 | h2 <;> rw [h2] <;> decide
  have n2 : ¬ w = crawlW := by rcases h2 with h2 | h2 <;> rw [h2] <;> decide
  unfold rdLine
  rw [l1, l2, l3, if_neg (by simp), if_neg n1, if_pos (h2.elim .inl fun h => .inr (.inl h))]
  unfold rdRule
  rw [if_neg (by rw [hx]; simp), if_neg n2, if_pos hp, h3]
theorem ruls_go : ∀ (l : List Rul) (y : RdS), (∀ r ∈ l, patOk r.pa = true) → y.op = true → rdGo (l.map fun r => lnL (if r.al = true then allowW else disW) r.pa) y = { y with la := if l = [] then y.la else false, ru := y.ru ++ l }
  | [], y, _, _ => by
    show y = _
    rw [if_pos rfl, List.append_nil]
  | r :: l, y, h, h1 => by
    show rdGo (l.map fun r => lnL (if r.al = true then allowW else disW) r.pa) (rdLine (lnL (if r.al = true then allowW else disW) r.pa) y) = _
    rw [rul_line (h r List.mem_cons_self) h1]
    exact (ruls_go l { y with la := false, ru := y.ru ++ [r] } (fun b hb => h b (List.mem_cons_of_mem _ hb)) h1).trans (by simp)
theorem del_line {v : List UInt8} {x : RdS} (hv : cleanV v) (hx : x.op = true) : rdLine (lnL crawlW v) x = if ((1 ≤ v.length ∧ v.length ≤ 5) ∧ v.all isDg = true) ∧ x.de < 0 then { x with la := false, de := (natOf v : Int) } else { x with la := false } := by
  obtain ⟨l1, l2, l3⟩ := line_is w_cr hv
  unfold rdLine
  rw [l1, l2, l3, if_neg (by simp), if_neg (by decide), if_pos (.inr (.inr rfl))]
  unfold rdRule
  rw [if_neg (by rw [hx]; simp), if_pos rfl]
theorem site_line {v : List UInt8} {x : RdS} (hv : cleanV v) (ha : adrB v = true) : rdLine (lnL siteW v) x = { x with ma := x.ma ++ [v] } := by
  obtain ⟨l1, l2, l3⟩ := line_is w_si hv
  unfold rdLine
  rw [l1, l2, l3, if_neg (by simp), if_neg (by decide), if_neg (by decide), if_pos ⟨rfl, of_decide_eq_true ha⟩]
theorem adr_clean {v : List UInt8} (ha : adrB v = true) (hs : Lib.contains v [35] = false) : cleanV v := by
  obtain ⟨h1, h2⟩ := readA_33 (of_decide_eq_true ha)
  refine ⟨fun e => by rw [e] at h1; simp at h1, fun c hc => ⟨?_, ctnR hs c hc⟩⟩
  obtain ⟨i, hi, rfl⟩ := List.getElem_of_mem hc
  have := h2 i hi
  rw [List.getD_eq_getElem?_getD, List.getElem?_eq_getElem hi] at this
  exact this
theorem maps_go : ∀ (l : List (List UInt8)) (y : RdS), (∀ v ∈ l, adrB v = true ∧ Lib.contains v [35] = false) → rdGo (l.map (lnL siteW)) y = { y with ma := y.ma ++ l }
  | [], y, _ => by
    show y = _
    rw [List.append_nil]
  | v :: l, y, h => by
    have h1 := h v List.mem_cons_self
    show rdGo (l.map (lnL siteW)) (rdLine (lnL siteW v) y) = _
    rw [site_line (adr_clean h1.1 h1.2) h1.1]
    exact (maps_go l { y with ma := y.ma ++ [v] } fun b hb => h b (List.mem_cons_of_mem _ hb)).trans (by simp)
/- the lines of a text -/
def delLn (g : Grp) : List (List UInt8) := if 0 ≤ g.de then [lnL crawlW (Lib.itoa g.de)] else if g.ru.length = 0 then [lnL crawlW [45]] else []
def grpLn (g : Grp) : List (List UInt8) := g.ag.map (lnL uaW) ++ delLn g ++ g.ru.map fun r => lnL (if r.al = true then allowW else disW) r.pa
def robLn (r : Rob) : List (List UInt8) := (r.gr.map grpLn).flatten ++ r.ma.map (lnL siteW)
theorem dig_clean {v : List UInt8} (h0 : 1 ≤ v.length) (h : v.all isDg = true) : cleanV v := by
  refine ⟨fun e => by rw [e] at h0; simp at h0, fun c hc => ?_⟩
  have := of_decide_eq_true (List.all_eq_true.1 h c hc)
  exact ⟨by omega, fun e => by rw [e] at this; revert this; decide⟩
theorem dash_clean : cleanV [45] := ⟨by simp, by decide⟩
theorem grp_go {g : Grp} {x : RdS} (hg : checkGrpL g = 0) (hx : ¬ (x.op = true ∧ x.la = true)) : rdGo (grpLn g) x = ⟨rdG x, true, false, g.ag, g.ru, g.de, x.ma⟩ := by
  obtain ⟨c1, c2, c3, c4, c5, c6, c7⟩ := grp_ok hg
  unfold grpLn
  rw [rdGo_app, rdGo_app]
  have e1 : rdGo (g.ag.map (lnL uaW)) x = ⟨rdG x, true, true, g.ag, [], -1, x.ma⟩ := by
    have eo : rdOpen x = ⟨rdG x, true, true, [], [], -1, x.ma⟩ := by unfold rdOpen; rw [if_neg hx]
    cases hag : g.ag with
    | nil => rw [hag] at c1; simp at c1
    | cons a l =>
      rw [hag] at c3
      show rdGo (l.map (lnL uaW)) (rdLine (lnL uaW a) x) = _
      rw [(ag_line (c3 a List.mem_cons_self)).2, eo]
      exact (ags_go l ⟨rdG x, true, true, [a], [], -1, x.ma⟩ (fun b hb => c3 b (List.mem_cons_of_mem _ hb)) rfl rfl).trans (by simp)
  rw [e1]
  have e2 : rdGo (delLn g) ⟨rdG x, true, true, g.ag, [], -1, x.ma⟩ = ⟨rdG x, true, if 0 ≤ g.de ∨ g.ru = [] then false else true, g.ag, [], g.de, x.ma⟩ := by
    unfold delLn
    by_cases h : 0 ≤ g.de
    · obtain ⟨i1, i2⟩ := itoaD h c7
      rw [if_pos h, if_pos (.inl h)]
      show rdLine (lnL crawlW (Lib.itoa g.de)) _ = _
      rw [del_line (dig_clean i1.1.1 i1.2) rfl, if_pos ⟨i1, by show (-1 : Int) < 0; decide⟩, i2]
    · rw [if_neg h]
      have hd : g.de = -1 := by omega
      by_cases h2 : g.ru.length = 0
      · rw [if_pos h2, if_pos (.inr (List.length_eq_zero_iff.1 h2)), hd]
        rw [rdGo_one, del_line dash_clean rfl, if_neg (fun k => absurd k.1.2 (by decide))]
      · rw [if_neg h2, if_neg (fun k => k.elim h fun e => h2 (by rw [e]; rfl)), hd]
        rfl
  rw [e2]
  refine (ruls_go g.ru _ c5 rfl).trans ?_
  have el : (if g.ru = [] then (if 0 ≤ g.de ∨ g.ru = [] then false else true) else false) = false := by
    by_cases h : g.ru = []
    · rw [if_pos h, if_pos (.inr h)]
    · rw [if_neg h]
  show (⟨rdG x, true, if g.ru = [] then (if 0 ≤ g.de ∨ g.ru = [] then false else true) else false, g.ag, [] ++ g.ru, g.de, x.ma⟩ : RdS) = _
  rw [el, List.nil_append]
theorem grps_go : ∀ (G : List Grp) (x : RdS), (∀ g ∈ G, checkGrpL g = 0) → ¬ (x.op = true ∧ x.la = true) → rdG (rdGo ((G.map grpLn).flatten) x) = rdG x ++ G ∧ (rdGo ((G.map grpLn).flatten) x).ma = x.ma
  | [], x, _, _ => ⟨(List.append_nil _).symm, rfl⟩
  | g :: G, x, h, hx => by
    rw [List.map_cons, List.flatten_cons, rdGo_app, grp_go (h g List.mem_cons_self) hx]
    obtain ⟨a, b⟩ := grps_go G ⟨rdG x, true, false, g.ag, g.ru, g.de, x.ma⟩ (fun k hk => h k (List.mem_cons_of_mem _ hk)) (fun k => by cases k.2)
    refine ⟨?_, b⟩
    rw [a]
    show (rdG x ++ [⟨g.ag, g.ru, g.de⟩]) ++ G = rdG x ++ g :: G
    rw [List.append_assoc]; rfl
theorem rob_go {r : Rob} (hr : checkRobL r = 0) (hs : shpM r.ma = false) : rdG (rdF (robLn r)) = r.gr ∧ (rdF (robLn r)).ma = r.ma := by
  obtain ⟨k1, k2, k3, k4⟩ := rob_ok hr
  obtain ⟨a, b⟩ := grps_go r.gr rd0 k2 (fun k => by cases k.1)
  have hm : ∀ v ∈ r.ma, adrB v = true ∧ Lib.contains v [35] = false := fun v hv => ⟨k4 v hv, by
    unfold shpM at hs
    have := List.any_eq_false.1 hs v hv
    simpa using this⟩
  have e : rdF (robLn r) = { rdGo ((r.gr.map grpLn).flatten) rd0 with ma := (rdGo ((r.gr.map grpLn).flatten) rd0).ma ++ r.ma } := by
    show rdGo (robLn r) rd0 = _
    unfold robLn
    rw [rdGo_app]
    exact maps_go r.ma _ hm
  rw [e]
  refine ⟨?_, ?_⟩
  · show rdG (rdGo ((r.gr.map grpLn).flatten) rd0) = _
    rw [a]; rfl
  · show (rdGo ((r.gr.map grpLn).flatten) rd0).ma ++ r.ma = _
    rw [b]; rfl
/- the text and its lines -/
def joinT (L : List (List UInt8)) : List UInt8 := (L.map fun s => s ++ [10]).flatten
theorem joinT_app (L M : List (List UInt8)) : joinT (L ++ M) = joinT L ++ joinT M := by unfold joinT; rw [List.map_append, List.flatten_append]
theorem join_map {α : Type} (f : α → List UInt8) (l : List α) : joinT (l.map f) = (l.map fun x => f x ++ [10]).flatten := by unfold joinT; rw [List.map_map]; rfl
theorem grp_join (g : Grp) : grpT g = joinT (grpLn g) := by
  unfold grpT grpLn
  rw [joinT_app, joinT_app, join_map, join_map]
  have e : delT g = joinT (delLn g) := by
    unfold delT delLn
    split
    · unfold joinT lnT lnL; simp
    · split
      · unfold joinT lnT lnL; simp
      · rfl
  rw [e]
  rfl
theorem rob_join (r : Rob) : robT r = joinT (robLn r) := by
  unfold robT robLn
  rw [joinT_app, join_map]
  have e : ∀ G : List Grp, grpsT G = joinT ((G.map grpLn).flatten) := by
    intro G
    induction G with
    | nil => rfl
    | cons g G ih =>
      rw [List.map_cons, List.flatten_cons, joinT_app, ← ih, ← grp_join]
      rfl
  rw [e]
  rfl
theorem lnL_32 {w v : List UInt8} (hw : wordV w) (hv : cleanV v) : ∀ c ∈ lnL w v, 32 ≤ c.toNat := fun c hc => by
  unfold lnL at hc
  rcases List.mem_append.1 hc with hc | hc
  · rcases List.mem_append.1 hc with hc | hc
    · have := (hw.2 c hc).1; omega
    · rcases List.mem_cons.1 hc with rfl | hc
      · decide
      · rw [List.mem_singleton.1 hc]; decide
  · have := (hv.2 c hc).1; omega
theorem lines_32 {r : Rob} (hr : checkRobL r = 0) (hs : shpM r.ma = false) : ∀ s ∈ robLn r, ∀ c ∈ s, 32 ≤ c.toNat := fun s h => by
  obtain ⟨k1, k2, k3, k4⟩ := rob_ok hr
  unfold robLn at h
  rcases List.mem_append.1 h with h | h
  · obtain ⟨L, hL, h⟩ := List.mem_flatten.1 h
    obtain ⟨g, hg, rfl⟩ := List.mem_map.1 hL
    obtain ⟨c1, c2, c3, c4, c5, c6, c7⟩ := grp_ok (k2 g hg)
    unfold grpLn at h
    rcases List.mem_append.1 h with h | h
    · rcases List.mem_append.1 h with h | h
      · obtain ⟨a, ha, rfl⟩ := List.mem_map.1 h
        exact lnL_32 w_ua (ag_line (x := rd0) (c3 a ha)).1
      · unfold delLn at h
        split at h
        · rename_i hd
          obtain ⟨i1, i2⟩ := itoaD hd c7
          rw [List.mem_singleton.1 h]
          exact lnL_32 w_cr (dig_clean i1.1.1 i1.2)
        · split at h
          · rw [List.mem_singleton.1 h]
            exact lnL_32 w_cr dash_clean
          · cases h
    · obtain ⟨q, hq, rfl⟩ := List.mem_map.1 h
      refine lnL_32 ?_ (pat_clean (c5 q hq))
      split
      · exact w_al
      · exact w_di
  · obtain ⟨v, hv, rfl⟩ := List.mem_map.1 h
    have hc : Lib.contains v [35] = false := by
      unfold shpM at hs
      have := List.any_eq_false.1 hs v hv
      simpa using this
    exact lnL_32 w_si (adr_clean (k4 v hv) hc)
theorem spl_cutR (c : UInt8) : ∀ (s r : List UInt8), (∀ x ∈ s, x ≠ c) → spl c (s ++ c :: r) = s :: spl c r
  | [], r, _ => by show spl c (c :: r) = _; rw [spl, if_pos rfl]
  | x :: t, r, h => by
    show spl c (x :: (t ++ c :: r)) = _
    rw [spl, if_neg (h x (by simp)), spl_cutR c t r fun y hy => h y (by simp [hy])]; rfl
theorem spl_joinT : ∀ L : List (List UInt8), (∀ s ∈ L, ∀ c ∈ s, c ≠ 10) → spl 10 (joinT L) = L ++ [[]]
  | [], _ => rfl
  | s :: L, h => by
    have e : joinT (s :: L) = s ++ 10 :: joinT L := by unfold joinT; simp
    rw [e, spl_cutR 10 s _ (h s List.mem_cons_self), spl_joinT L fun t ht => h t (List.mem_cons_of_mem _ ht)]
    rfl
theorem rep1_no {c : UInt8} {n : List UInt8} : ∀ {s : List UInt8}, (∀ x ∈ s, x ≠ c) → rep1 c n s = s
  | [], _ => rfl
  | x :: t, h => by
    rw [rep1_cons, if_neg (h x List.mem_cons_self), rep1_no fun y hy => h y (List.mem_cons_of_mem _ hy)]
    rfl
/-- a text is read again as it was -/
theorem read_text {r : Rob} (hr : checkRobL r = 0) (hl : ¬ 100000 < (robT r).length) (hs : shpM r.ma = false) : robRead (robT r) = (r, 0) := by
  have h32 := lines_32 hr hs
  have hne : ∀ s ∈ robLn r, ∀ c ∈ s, c ≠ 10 := fun s h c hc e => by have := h32 s h c hc; rw [e] at this; exact absurd this (by decide)
  have hT : ∀ c ∈ robT r, c ≠ 13 := fun c hc e => by
    rw [rob_join] at hc
    unfold joinT at hc
    obtain ⟨L, hL, hc⟩ := List.mem_flatten.1 hc
    obtain ⟨s, hs, rfl⟩ := List.mem_map.1 hL
    rcases List.mem_append.1 hc with hc | hc
    · have := h32 s hs c hc; rw [e] at this; exact absurd this (by decide)
    · rw [List.mem_singleton.1 hc] at e; exact absurd e (by decide)
  have eL : rdLs (robT r) = robLn r ++ [[]] := by
    unfold rdLs
    rw [rep1_no hT, splitL_eq, rob_join, spl_joinT _ hne]
  have eF : rdF (robLn r ++ [[]]) = rdF (robLn r) := by
    rw [rdF_one]
    rfl
  obtain ⟨a, b⟩ := rob_go hr hs
  obtain ⟨k1, k2, k3, k4⟩ := rob_ok hr
  have eK : keepA goneG r.gr = r.gr := keepA_none fun g hg => by
    have := (grp_ok (k2 g hg)).1
    unfold goneG
    exact decide_eq_false (by omega)
  have eU : fullR r.gr r.ma = false := by
    unfold fullR
    rw [decide_eq_false (by omega), Bool.false_or, List.any_eq_false]
    intro g hg
    obtain ⟨c1, c2, c3, c4, c5, c6, c7⟩ := grp_ok (k2 g hg)
    unfold fullG
    rw [decide_eq_false (by omega)]; simp
  unfold robRead
  rw [if_neg hl, eL, eF]
  unfold robOf
  rw [a, b, eK, eU]
  rfl

/- what is read can be written, and read again (plain) -/
theorem cut_no35 {s : List UInt8} : ∀ c ∈ (Lib.cut s [35]).1, c ≠ 35 := fun c hc e => by
  subst e
  by_cases h : (35 : UInt8) ∈ s
  · obtain ⟨n, v, rfl, hn⟩ := List.eq_append_cons_of_mem h
    have hn' : ∀ x ∈ n, x ≠ 35 := fun x hx e => hn (by rw [← e]; exact hx)
    rw [cutR_hit hn'] at hc
    exact hn hc
  · have hn' : ∀ x ∈ s, x ≠ 35 := fun x hx e => h (by rw [← e]; exact hx)
    rw [cutR_no hn'] at hc
    exact h hc
theorem cut_snd {s c : List UInt8} : ∀ x ∈ (Lib.cut s c).2.1, x ∈ s := fun x hx => by
  unfold Lib.cut at hx
  split at hx
  · exact List.mem_of_mem_drop hx
  · cases hx
theorem trL_mem {s c : List UInt8} : ∀ x ∈ Lib.trimLeftS s c, x ∈ s := fun _ hx => (List.dropWhile_sublist _).subset hx
theorem trR_mem {s c : List UInt8} : ∀ x ∈ Lib.trimRightS s c, x ∈ s := fun x hx => by
  unfold Lib.trimRightS at hx
  have := (List.dropWhile_sublist _).subset (List.mem_reverse.1 hx)
  exact List.mem_reverse.1 this
theorem lnV_35 (s : List UInt8) : ∀ c ∈ lnV s, c ≠ 35 := fun c hc => by
  unfold lnV at hc
  exact cut_no35 c (trR_mem c (trL_mem c (cut_snd c (trL_mem c hc))))
theorem ctn_no {s : List UInt8} (h : ∀ c ∈ s, c ≠ 35) : Lib.contains s [35] = false := by
  unfold Lib.contains
  rw [idxRd_no 35 s h]
  rfl
theorem line_m {s : List UInt8} {x : RdS} (h : ∀ v ∈ x.ma, ∀ c ∈ v, c ≠ 35) : ∀ v ∈ (rdLine s x).ma, ∀ c ∈ v, c ≠ 35 := by
  have ho : (rdOpen x).ma = x.ma := by unfold rdOpen; split <;> rfl
  unfold rdLine
  split
  · exact h
  · split
    · unfold rdAgent
      split
      · show ∀ v ∈ (rdOpen x).ma, _
        rw [ho]; exact h
      · rw [ho]; exact h
    · split
      · unfold rdRule
        split
        · exact h
        · split
          · split <;> exact h
          · split <;> exact h
      · split
        · intro v hv
          rcases List.mem_append.1 hv with hv | hv
          · exact h v hv
          · rw [List.mem_singleton.1 hv]; exact lnV_35 s
        · exact h
theorem fold_m : ∀ (L : List (List UInt8)) (x : RdS), (∀ v ∈ x.ma, ∀ c ∈ v, c ≠ 35) → ∀ v ∈ (L.foldl (fun x s => rdLine s x) x).ma, ∀ c ∈ v, c ≠ 35
  | [], _, h => h
  | s :: L, x, h => fold_m L (rdLine s x) (line_m h)
theorem read_shp (t : List UInt8) : shpM (robRead t).1.ma = false := by
  unfold robRead
  split
  · rfl
  unfold robOf
  split
  · rfl
  show shpM (rdF (rdLs t)).ma = false
  unfold shpM
  rw [List.any_eq_false]
  intro v hv
  rw [ctn_no (fold_m (rdLs t) rd0 (fun _ h => by cases h) v hv)]
  simp
theorem read_err (t : List UInt8) (h : ¬ (robRead t).2 = 0) : (robRead t).1 = noRob := by
  unfold robRead at h ⊢
  split at h
  · rename_i h1; rw [if_pos h1]
  · rename_i h1
    rw [if_neg h1]
    unfold robOf at h ⊢
    split at h
    · rename_i h2; rw [if_pos h2]
    · exact absurd rfl h
/-- a text without error is read as it was -/
theorem text_back {r : Rob} (h : (textRob r).2 = 0) : robRead (textRob r).1 = (r, 0) ∧ (textRob r).1.length ≤ 100000 := by
  unfold textRob at h ⊢
  split at h
  · rename_i h1
    rw [if_pos h1]
    split at h
    · cases h
    · rename_i h2
      rw [if_neg h2]
      split at h
      · cases h
      · rename_i h3
        rw [if_neg h3]
        exact ⟨read_text h1 h2 (by simpa using h3), by show (robT r).length ≤ _; omega⟩
  · rename_i h1; exact absurd h h1
/-- what is read and right has a text, or is too long -/
theorem text_read {r : Rob} (h1 : checkRobL r = 0) (h2 : shpM r.ma = false) : (textRob r).2 = 0 ∨ (textRob r).2 = 2 := by
  unfold textRob
  rw [if_pos h1]
  split
  · exact .inr rfl
  · rw [if_neg (by rw [h2]; simp)]; exact .inl rfl

theorem slice_drop {s : List UInt8} {a : Nat} (h : a ≤ s.length) : (s.drop a).take (s.length - a) = s.drop a := List.take_of_length_le (by rw [List.length_drop]; omega)
theorem pre1 (s : List UInt8) (a : Nat) (c : UInt8) : hasPre (s.drop a) [c] = isAt s a c.toNat := by
  rw [Bool.eq_iff_iff, isAt_iff]
  unfold hasPre
  rw [Bool.and_eq_true, decide_eq_true_eq, beq_iff_eq, List.length_drop, List.length_singleton]
  constructor
  · rintro ⟨h1, h2⟩
    rw [dropD s a (by omega)] at h2
    have := (List.cons.inj h2).1
    exact ⟨by omega, by rw [this]⟩
  · rintro ⟨h1, h2⟩
    refine ⟨by omega, ?_⟩
    rw [dropD s a h1]
    have : s.getD a 0 = c := UInt8.toNat_inj.1 h2
    rw [this]; rfl
def ckPlaceK : List V → List Blk → Option (Prop × V × List Blk)
  | [.ptr _ 0], [.cells [.str s, .int .i64 a, .str sc, .str _, .str [], .str pa, .str qu, .bool hq, .str fr, .bool hf]] => some (s.length ≤ 2000 ∧ 0 ≤ a ∧ a ≤ s.length, .bool (plcL s a.toNat).ok, [.cells [.str s, .int .i64 (plcL s a.toNat).at', .str sc, .str (plcL s a.toNat).ho, .str (plcL s a.toNat).po, .str pa, .str qu, .bool hq, .str fr, .bool hf]])
  | _, _ => none
def ckPlace : Cf := ⟨fun | [.ptr i _] => [i] | _ => [], ckPlaceK⟩
theorem conPlace : FCon pg 51 ckPlace := by
  have hct := (ctA_ok conHostEnd (ctA_ok conIsHost0 (ctA_ok conHasPre (ctA_ok conIsDig (ctA_ok conPortOf (ctA_ok conIndexByte (ctN_ok _)))))))
  intro args bs q r bs' h hq
  replace h : ckPlaceK args bs = some (q, r, bs') := h
  unfold ckPlaceK at h
  split at h
  · cases h
    rename_i i s a sc ho pa qu hq1 fr hf
    refine ⟨rfl, by first | exact Nat.le_refl _ | exact Nat.zero_le _, ?_⟩
    obtain ⟨h1, h2, h3⟩ := hq
    obtain ⟨a, rfl⟩ : ∃ k : Nat, a = k := ⟨a.toNat, by omega⟩
    rw [Int.toNat_natCast]
    show FCall pg 51 [.ptr (i + 9000) 0] [(i + 9000, .cells [.str s, .int .i64 a, .str sc, .str ho, .str [], .str pa, .str qu, .bool hq1, .str fr, .bool hf])] (.bool (plcL s a).ok) [(i + 9000, .cells [.str s, .int .i64 (plcL s a).at', .str sc, .str (plcL s a).ho, .str (plcL s a).po, .str pa, .str qu, .bool hq1, .str fr, .bool hf])]
    refine fw51 (fun _ => false) [] rfl hct rfl (by simp) (by simp [hlIn, idsIn, Blk.menIn, V.menInL, V.menIn, V.flat, byF, lsF]) (by simp [V.menIn, V.menInL, idsIn]) ?_
    push_cast (config := { maxSteps := 10000000 })
    have hb := hoN_le (s := s) (a := a) (by omega)
    have e1 : runN hostB (s.drop a) = hoN s a := rfl
    rw [e1]
    have e2 : ((a : Int) + (hoN s a : Int)).toNat - a = hoN s a := by omega
    have e3 : ((a : Int) + (hoN s a : Int)).toNat = a + hoN s a := by omega
    have e4 : (s.drop a).take (hoN s a) = cutS s a (hoN s a) := rfl
    rw [e2, e3, e4]
    have pre := pre1 s (a + hoN s a) 58
    have pre : hasPre (s.drop (a + hoN s a)) [58] = isAt s (a + hoN s a) 58 := pre
    rw [pre]
    refine ⟨by omega, by omega, ⟨by omega, by omega⟩, ⟨⟨by omega, by omega⟩, by omega, by omega⟩, by omega, fun h => ?_, fun h => ⟨⟨by omega, by omega⟩, ⟨⟨by omega, by omega⟩, by omega⟩, by omega, fun hc => ⟨⟨by omega, by omega⟩, ?_⟩, fun hc => ?_⟩⟩
    · unfold plcL; rw [if_pos h]; exact ⟨rfl, rfl, rfl, rfl⟩
    · have hc1 := isAt_lt hc
      have hP : plcL s a = if portN (cutS s (a + hoN s a + 1) (poN s (a + hoN s a + 1))) = 0 then ⟨false, a + hoN s a + 1, cutS s a (hoN s a), cutS s (a + hoN s a + 1) (poN s (a + hoN s a + 1))⟩
         else ⟨endB s (a + hoN s a + 1 + poN s (a + hoN s a + 1)), a + hoN s a + 1 + poN s (a + hoN s a + 1), cutS s a (hoN s a), cutS s (a + hoN s a + 1) (poN s (a + hoN s a + 1))⟩ := by
        unfold plcL; rw [if_neg (by rw [h]; simp), if_pos hc]
      rw [hP]
      have hb2 := poN_le (s := s) (a := a + hoN s a + 1) (by omega)
      generalize hB : a + hoN s a + 1 = B at hb2 hP ⊢
      have eB : (a : Int) + (hoN s a : Int) + 1 = (B : Int) := by omega
      rw [eB]
      generalize cutS s a (hoN s a) = H
      refine LoopW.adj ⟨hct, fol⟩ (by kernel_rfl) [] (fun n : Nat => [(0, .ptr (i + 9000) 0), (4, .int .i64 ((B + n : Nat) : Int))]) (fun n => [(i + 9000, .cells [.str s, .int .i64 B, .str sc, .str H, .str [], .str pa, .str qu, .bool hq1, .str fr, .bool hf])]) (fun n => B + n ≤ s.length ∧ ∀ j, j < n → digB ((s.drop B).getD j 0) = true) (fun n => s.length - n) 0 ?_ fun n hn => ?_
      · push_cast (config := { maxSteps := 10000000 })
        exact ⟨by omega, by omega⟩
      · push_cast (config := { maxSteps := 10000000 })
        obtain ⟨n1, n2⟩ := hn
        have e5 : ((B : Int) + (n : Int)).toNat = B + n := by omega
        have e6 : ((B : Int) + (n : Int)).toNat - B = n := by omega
        have e7 : (s.drop B).getD n 0 = s.getD (B + n) 0 := by rw [List.getD_eq_getElem?_getD, List.getD_eq_getElem?_getD, List.getElem?_drop]
        rw [e5]
        rw [e5] at e6
        rw [e6]
        refine ⟨fun h => ⟨h, by omega, h⟩, fun h => ⟨⟨by omega, by omega⟩, n + 1, ⟨by omega, fun j hj => ?_⟩, by omega, by omega⟩, fun h => ?_⟩
        · by_cases e : j = n
          · subst e; rw [e7]; exact h.2
          · exact n2 j (by omega)
        have eN : poN s B = n := by
          unfold poN
          refine runN_at (by rw [List.length_drop]; omega) n2 fun hlt => ?_
          rw [List.length_drop] at hlt
          rw [e7]; exact h (by omega)
        rw [eN]
        have eC : (s.drop B).take n = cutS s B n := rfl
        rw [eC]
        refine ⟨⟨⟨by omega, by omega⟩, by omega, by omega⟩, by omega, fun h0 => ?_, fun h0 => ?_⟩
        · rw [if_pos h0]; exact ⟨rfl, rfl, rfl, rfl⟩
        · rw [if_neg h0]
          refine ⟨fun x => ⟨x, by omega, by omega⟩, ?_, by show _ = ((B + n : Nat) : Int); omega, rfl, rfl⟩
          show _ = endB s (B + n)
          unfold endB
          congr 1
          rw [Bool.eq_iff_iff, beq_iff_eq, decide_eq_true_eq]; omega
    · unfold plcL
      rw [if_neg (by rw [h]; simp), if_neg (by rw [hc]; simp)]
      refine ⟨fun x => ⟨x, by omega, by omega⟩, ?_, by show _ = ((a + hoN s a : Nat) : Int); omega, rfl, rfl⟩
      unfold endB
      congr 1
      rw [Bool.eq_iff_iff, beq_iff_eq, decide_eq_true_eq]; omega
  · cases h
attribute [push_cast] ckPlaceK
def ckRowK : List V → List Blk → Option (Prop × V × List Blk)
  | [.ptr _ 0, .str w], [.cells [.str s, .int .i64 a, .str sc, .str ho, .str po, .str pa, .str qu, .bool hq, .str fr, .bool hf]] => some (s.length ≤ 2000 ∧ 0 ≤ a ∧ a ≤ s.length, .tup [.str (cutS s a.toNat (rdRow s a.toNat w).1), .bool (rdRow s a.toNat w).2], [.cells [.str s, .int .i64 (a + (rdRow s a.toNat w).1), .str sc, .str ho, .str po, .str pa, .str qu, .bool hq, .str fr, .bool hf]])
  | _, _ => none
def ckRow : Cf := ⟨fun | [.ptr i _, _] => [i] | _ => [], ckRowK⟩
theorem conRow : FCon pg 84 ckRow := by
  have hct := (ctA_ok conRowEnd (ctN_ok _))
  intro args bs q r bs' h hq
  replace h : ckRowK args bs = some (q, r, bs') := h
  unfold ckRowK at h
  split at h
  · cases h
    rename_i i w s a sc ho po pa qu hq1 fr hf
    refine ⟨rfl, by first | exact Nat.le_refl _ | exact Nat.zero_le _, ?_⟩
    obtain ⟨h1, h2, h3⟩ := hq
    obtain ⟨a, rfl⟩ : ∃ k : Nat, a = k := ⟨a.toNat, by omega⟩
    rw [Int.toNat_natCast]
    show FCall pg 84 [.ptr (i + 9000) 0, .str w] [(i + 9000, .cells [.str s, .int .i64 a, .str sc, .str ho, .str po, .str pa, .str qu, .bool hq1, .str fr, .bool hf])] (.tup [.str (cutS s a (rdRow s a w).1), .bool (rdRow s a w).2]) [(i + 9000, .cells [.str s, .int .i64 (a + (rdRow s a w).1), .str sc, .str ho, .str po, .str pa, .str qu, .bool hq1, .str fr, .bool hf])]
    refine fw84 (fun _ => false) [] rfl hct rfl (by simp) (by simp [hlIn, idsIn, Blk.menIn, V.menInL, V.menIn, V.flat, byF, lsF]) (by simp [V.menIn, V.menInL, idsIn]) ?_
    push_cast (config := { maxSteps := 10000000 })
    have hb := rdRow_le (s := s) (a := a) (w := w) (by omega)
    have e1 : reL (s.drop a) w (s.length - a + 1) 0 = rdRow s a w := by unfold rdRow; rw [List.length_drop]
    rw [e1]
    have e2 : ((a : Int) + ((rdRow s a w).1 : Int)).toNat - a = (rdRow s a w).1 := by omega
    rw [e2]
    exact ⟨by omega, by omega, ⟨by omega, by omega⟩, ⟨⟨by omega, by omega⟩, by omega, by omega⟩, ⟨by omega, by omega⟩, ⟨rfl, rfl⟩, rfl⟩
  · cases h
attribute [push_cast] ckRowK
@[push_cast] theorem place_ids (i o : Nat) : ckPlace.ids [.ptr i o] = [i] := rfl
@[push_cast] theorem place_k (i : Nat) (s sc ho pa qu fr : List UInt8) (hq hf : Bool) (a : Int) : ckPlace.k [.ptr i 0] [.cells [.str s, .int .i64 a, .str sc, .str ho, .str [], .str pa, .str qu, .bool hq, .str fr, .bool hf]] = some (s.length ≤ 2000 ∧ 0 ≤ a ∧ a ≤ s.length, .bool (plcL s a.toNat).ok, [.cells [.str s, .int .i64 (plcL s a.toNat).at', .str sc, .str (plcL s a.toNat).ho, .str (plcL s a.toNat).po, .str pa, .str qu, .bool hq, .str fr, .bool hf]]) := rfl
@[push_cast] theorem row_ids (i o : Nat) (x : V) : ckRow.ids [.ptr i o, x] = [i] := rfl
@[push_cast] theorem row_k (i : Nat) (w s sc ho po pa qu fr : List UInt8) (hq hf : Bool) (a : Int) : ckRow.k [.ptr i 0, .str w] [.cells [.str s, .int .i64 a, .str sc, .str ho, .str po, .str pa, .str qu, .bool hq, .str fr, .bool hf]] = some (s.length ≤ 2000 ∧ 0 ≤ a ∧ a ≤ s.length, .tup [.str (cutS s a.toNat (rdRow s a.toNat w).1), .bool (rdRow s a.toNat w).2], [.cells [.str s, .int .i64 (a + (rdRow s a.toNat w).1), .str sc, .str ho, .str po, .str pa, .str qu, .bool hq, .str fr, .bool hf]]) := rfl
theorem rest3 {s P Q : List UInt8} {d : Nat} {b : Bool} (h1 : s.length ≤ 2000) (hd : d ≤ s.length) {R : Rst} (hR : R = rst3 s d P Q b) : ((0 ≤ (d : Int) ∧ (d : Int) ≤ s.length) ∧ (d : Int) ≤ s.length) ∧
    ((s.length - d : Nat) : Int) ≤ 4611686018427387904 ∧
      (hasPre (s.drop d) [35] = true → (-9223372036854775808 ≤ ((d + 1 : Nat) : Int) ∧ ((d + 1 : Nat) : Int) ≤ 9223372036854775807) ∧
          (s.length ≤ 2000 ∧ 0 ≤ ((d + 1 : Nat) : Int) ∧ ((d + 1 : Nat) : Int) ≤ s.length) ∧
            ((rdRow s (d + 1) []).2 = false → false = R.ok ∧ ((d + 1 : Nat) : Int) + (rdRow s (d + 1) []).1 = R.at' ∧ P = R.pa ∧ Q = R.qu ∧ b = R.hq ∧ cutS s (d + 1) (rdRow s (d + 1) []).1 = R.fr ∧ true = R.hf) ∧
            ((rdRow s (d + 1) []).2 = true → true = R.ok ∧ ((d + 1 : Nat) : Int) + (rdRow s (d + 1) []).1 = R.at' ∧ P = R.pa ∧ Q = R.qu ∧ b = R.hq ∧ cutS s (d + 1) (rdRow s (d + 1) []).1 = R.fr ∧ true = R.hf)) ∧
      (hasPre (s.drop d) [35] = false → true = R.ok ∧ (d : Int) = R.at' ∧ P = R.pa ∧ Q = R.qu ∧ b = R.hq ∧ [] = R.fr ∧ false = R.hf) := by
  subst hR
  have hp : hasPre (s.drop d) [35] = isAt s d 35 := pre1 s d 35
  rw [hp]
  refine ⟨⟨⟨by omega, by omega⟩, by omega⟩, by omega, fun h => ?_, fun h => ?_⟩
  · have hl := isAt_lt h
    have hr := rdRow_le (s := s) (a := d + 1) (w := []) (by omega)
    unfold rst3
    rw [if_pos h]
    exact ⟨⟨by omega, by omega⟩, ⟨h1, by omega, by omega⟩, fun h2 => ⟨h2.symm, by show _ = ((d + 1 + (rdRow s (d + 1) []).1 : Nat) : Int); omega, rfl, rfl, rfl, rfl, rfl⟩, fun h2 => ⟨h2.symm, by show _ = ((d + 1 + (rdRow s (d + 1) []).1 : Nat) : Int); omega, rfl, rfl, rfl, rfl, rfl⟩⟩
  · unfold rst3
    rw [if_neg (by rw [h]; simp)]
    exact ⟨rfl, rfl, rfl, rfl, rfl, rfl, rfl⟩
def ckRestK : List V → List Blk → Option (Prop × V × List Blk)
  | [.ptr _ 0], [.cells [.str s, .int .i64 a, .str sc, .str ho, .str po, .str _, .str [], .bool false, .str [], .bool false]] => some (s.length ≤ 2000 ∧ 0 ≤ a ∧ a ≤ s.length, .bool (rstL s a.toNat).ok, [.cells [.str s, .int .i64 (rstL s a.toNat).at', .str sc, .str ho, .str po, .str (rstL s a.toNat).pa, .str (rstL s a.toNat).qu, .bool (rstL s a.toNat).hq, .str (rstL s a.toNat).fr, .bool (rstL s a.toNat).hf]])
  | _, _ => none
def ckRest : Cf := ⟨fun | [.ptr i _] => [i] | _ => [], ckRestK⟩
theorem conRest : FCon pg 52 ckRest := by
  have hct := (ctF_ok conRow (ctA_ok conHasPre (ctN_ok _)))
  intro args bs q r bs' h hq
  replace h : ckRestK args bs = some (q, r, bs') := h
  unfold ckRestK at h
  split at h
  · cases h
    rename_i i s a sc ho po pa
    refine ⟨rfl, by first | exact Nat.le_refl _ | exact Nat.zero_le _, ?_⟩
    obtain ⟨h1, h2, h3⟩ := hq
    obtain ⟨a, rfl⟩ : ∃ k : Nat, a = k := ⟨a.toNat, by omega⟩
    rw [Int.toNat_natCast]
    show FCall pg 52 [.ptr (i + 9000) 0] [(i + 9000, .cells [.str s, .int .i64 a, .str sc, .str ho, .str po, .str pa, .str [], .bool false, .str [], .bool false])] (.bool (rstL s a).ok) [(i + 9000, .cells [.str s, .int .i64 (rstL s a).at', .str sc, .str ho, .str po, .str (rstL s a).pa, .str (rstL s a).qu, .bool (rstL s a).hq, .str (rstL s a).fr, .bool (rstL s a).hf])]
    refine fw52 (fun _ => false) [] rfl hct rfl (by simp) (by simp [hlIn, idsIn, Blk.menIn, V.menInL, V.menIn, V.flat, byF, lsF]) (by simp [V.menIn, V.menInL, idsIn]) ?_
    push_cast (config := { maxSteps := 10000000 })
    have hr1 := rdRow_le (s := s) (a := a) (w := [63, 35]) (by omega)
    have hL : rstL s a = if (rdRow s a [63, 35]).2 = false then ⟨false, a + (rdRow s a [63, 35]).1, cutS s a (rdRow s a [63, 35]).1, [], false, [], false⟩ else rst2 s (a + (rdRow s a [63, 35]).1) (cutS s a (rdRow s a [63, 35]).1) := rfl
    generalize rdRow s a [63, 35] = r1 at hr1 hL ⊢
    obtain ⟨n1, o1⟩ := r1
    simp only at hr1 hL ⊢
    obtain ⟨c, hc⟩ : ∃ c : Nat, c = a + n1 := ⟨_, rfl⟩
    have ec : (a : Int) + (n1 : Int) = (c : Int) := by omega
    have ec1 : (c : Int) + 1 = ((c + 1 : Nat) : Int) := by omega
    rw [← hc] at hL hr1
    generalize cutS s a n1 = P at hL ⊢
    simp only [ec, ec1, Int.toNat_natCast]
    refine ⟨⟨h1, by omega⟩, fun h => ?_, fun h => ⟨⟨⟨by omega, by omega⟩, by omega⟩, by omega, fun hq => ?_, fun hq => ?_⟩⟩
    · rw [hL, if_pos h]; exact ⟨rfl, rfl, rfl, rfl, rfl, rfl, rfl⟩
    all_goals rw [if_neg (by rw [h]; simp)] at hL
    all_goals rw [show hasPre (s.drop c) [63] = isAt s c 63 from pre1 s c 63] at hq
    · have hlt := isAt_lt hq
      have hL : rstL s a = if (rdRow s (c + 1) [35]).2 = false then ⟨false, c + 1 + (rdRow s (c + 1) [35]).1, P, cutS s (c + 1) (rdRow s (c + 1) [35]).1, true, [], false⟩ else rst3 s (c + 1 + (rdRow s (c + 1) [35]).1) P (cutS s (c + 1) (rdRow s (c + 1) [35]).1) true := by rw [hL]; unfold rst2; rw [if_pos hq]
      have hr2 := rdRow_le (s := s) (a := c + 1) (w := [35]) (by omega)
      generalize rdRow s (c + 1) [35] = r2 at hr2 hL ⊢
      obtain ⟨n2, o2⟩ := r2
      simp only at hr2 hL ⊢
      obtain ⟨d, hd⟩ : ∃ d : Nat, d = c + 1 + n2 := ⟨_, rfl⟩
      have ed : ((c + 1 : Nat) : Int) + (n2 : Int) = (d : Int) := by omega
      have ed1 : (d : Int) + 1 = ((d + 1 : Nat) : Int) := by omega
      rw [← hd] at hL hr2
      generalize cutS s (c + 1) n2 = Q at hL ⊢
      simp only [ed, ed1, Int.toNat_natCast]
      refine ⟨⟨by omega, by omega⟩, ⟨h1, by omega, by omega⟩, fun ho => ?_, fun ho => ?_⟩
      · rw [hL, if_pos ho]; exact ⟨rfl, rfl, rfl, rfl, rfl, rfl, rfl⟩
      · exact rest3 h1 hr2 (by rw [hL, if_neg (by rw [ho]; simp)])
    · have hL : rstL s a = rst3 s c P [] false := by rw [hL]; unfold rst2; rw [if_neg (by rw [hq]; simp)]
      exact rest3 h1 hr1 hL
  · cases h
attribute [push_cast] ckRestK
@[push_cast] theorem rest_ids (i o : Nat) : ckRest.ids [.ptr i o] = [i] := rfl
@[push_cast] theorem rest_k (i : Nat) (s sc ho po pa : List UInt8) (a : Int) : ckRest.k [.ptr i 0] [.cells [.str s, .int .i64 a, .str sc, .str ho, .str po, .str pa, .str [], .bool false, .str [], .bool false]] = some (s.length ≤ 2000 ∧ 0 ≤ a ∧ a ≤ s.length, .bool (rstL s a.toNat).ok, [.cells [.str s, .int .i64 (rstL s a.toNat).at', .str sc, .str ho, .str po, .str (rstL s a.toNat).pa, .str (rstL s a.toNat).qu, .bool (rstL s a.toNat).hq, .str (rstL s a.toNat).fr, .bool (rstL s a.toNat).hf]]) := rfl
def ckReadA : Ck
  | [.str s] => some (True, .tup [cAdr.enc (readA s).1, .int .i64 (readA s).2.1, .int .i64 (readA s).2.2])
  | _ => none
theorem conReadA : Con pg 28 ckReadA := by
  have hct := (ctA_ok conScheme (ctF_ok conPlace (ctF_ok conRest (ctN_ok _))))
  intro args q r h hq
  unfold ckReadA at h
  split at h
  · cases h
    rename_i s
    refine w28 (fun _ => false) [] rfl hct rfl rfl ?_
    push_cast (config := { maxSteps := 10000000 })
    have hb := sch_b s
    have hp := plc_b (s := s) (a := (schL s).2) hb
    refine ⟨fun h => ?_, fun h => ⟨by omega, fun h1 => ?_, fun h1 => ⟨⟨by omega, hb⟩, fun h2 => ⟨h2, ⟨by omega, hp⟩, fun h3 => ?_, fun h3 => ?_⟩, fun h2 => ⟨fun x => (by rw [h2] at x; cases x), ?_⟩⟩⟩⟩
    · have e : readA s = (noAdr, 0, 2) := by unfold readA; rw [if_pos (by omega)]
      rw [e]; exact ⟨⟨rfl, rfl, rfl, rfl, rfl, rfl, rfl, rfl⟩, rfl, rfl⟩
    · have e : readA s = (noAdr, ((schL s).2 : Int), 10) := by unfold readA; rw [if_neg (by omega), if_pos h1]
      rw [e]; exact ⟨⟨rfl, rfl, rfl, rfl, rfl, rfl, rfl, rfl⟩, rfl, rfl⟩
    · have h3 : (rstL s (plcL s (schL s).2).at').ok = false := h3.resolve_left (by rw [h2]; simp)
      have e : readA s = (noAdr, ((rstL s (plcL s (schL s).2).at').at' : Int), 10) := by unfold readA; rw [if_neg (by omega), if_neg (by rw [h1]; simp), if_neg (by rw [h2]; simp), if_pos h3]
      rw [e]; exact ⟨⟨rfl, rfl, rfl, rfl, rfl, rfl, rfl, rfl⟩, rfl, rfl⟩
    · have e : readA s = (⟨s.take ((schL s).2 - 3), (plcL s (schL s).2).ho, (plcL s (schL s).2).po, (rstL s (plcL s (schL s).2).at').pa, (rstL s (plcL s (schL s).2).at').qu, (rstL s (plcL s (schL s).2).at').hq, (rstL s (plcL s (schL s).2).at').fr, (rstL s (plcL s (schL s).2).at').hf⟩, 0, 0) := by unfold readA; rw [if_neg (by omega), if_neg (by rw [h1]; simp), if_neg (by rw [h2]; simp), if_neg (by rw [h3.2]; simp)]
      rw [e, if_pos h1]; exact ⟨⟨rfl, rfl, rfl, rfl, rfl, rfl, rfl, rfl⟩, rfl, rfl⟩
    · have e : readA s = (noAdr, ((plcL s (schL s).2).at' : Int), 10) := by unfold readA; rw [if_neg (by omega), if_neg (by rw [h1]; simp), if_pos h2]
      rw [e]; exact ⟨⟨rfl, rfl, rfl, rfl, rfl, rfl, rfl, rfl⟩, rfl, rfl⟩
  · cases h
attribute [push_cast] ckReadA

def ckAtoi : Ck
  | [.str s] => some (1 ≤ s.length ∧ s.length ≤ 18 ∧ s.all isDg = true, .tup [.int .i64 (natOf s), .any])
  | _ => none
theorem conAtoi : Con pg 58 ckAtoi := by
  intro args q r h hq
  unfold ckAtoi at h
  split at h
  · cases h
    rename_i s
    refine pcall_shelf (by kernel_rfl) rfl fun w hw => (Tryz.strconv_Atoi ⟨s.toArray⟩ (natOf s) (by show s.toArray.size ≤ _; have := hq.2.1; simp; omega) ?_ w).mono fun e w' h => ?_
    · exact atoi_dig (show s ≠ [] from fun e => by have := hq.1; rw [e] at this; simp at this) hq.2.2
    · obtain ⟨he, t, rfl⟩ := h
      exact ⟨_, he, grow_below (Lib.bytesWorld_below _ _ _), fun γ imm => .tup _ [_, _] rfl fun i hi => by
        match i, hi with
        | 0, _ => exact .pure (.int _ _)
        | 1, _ => exact .any _⟩
  · cases h
attribute [push_cast] ckAtoi

end Go.Abs
