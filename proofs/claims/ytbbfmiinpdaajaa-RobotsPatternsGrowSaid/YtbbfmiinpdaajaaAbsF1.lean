/- what functions of this program compute: contracts, each a function's own -/
import Derived.Test.YtbbfmiinpdaajaaAbsA42
import Derived.Test.YtbbfmiinpdaajaaAbsFacts
import Derived.Test.YtbbfmiinpdaajaaAbsP0
namespace Go.Abs
open Go Go.Proofs
set_option maxHeartbeats 4000000
set_option maxRecDepth 100000
set_option linter.unusedVariables false
set_option linter.unusedSimpArgs false
def V.toB : V → Bool
  | .bool b => b
  | _ => false
/-- the first place where p holds; -1: none -/
def findI (n : Nat) (p : Nat → Bool) : Int := match (List.range n).find? p with
  | some i => i
  | none => -1
def ckIndexB : Ck
  | [.sl n f, .bool b] => some (n ≤ 1152921504606846976 ∧ ∀ i, i < n → f i = .bool (f i).toB, .int .i64 (findI n fun i => b == (f i).toB))
  | _ => none
theorem findI_at {n : Nat} {p : Nat → Bool} {i : Nat} (hi : i < n) (h : p i = true) (hn : ∀ j, j < i → p j = false) : findI n p = i := by
  unfold findI
  have : (List.range n).find? p = some i := by
    rw [List.find?_range_eq_some]
    exact ⟨h, by simpa using hi, fun j hj => by simp [hn j hj]⟩
  rw [this]
theorem findI_no {n : Nat} {p : Nat → Bool} (hn : ∀ j, j < n → p j = false) : findI n p = -1 := by
  unfold findI
  have : (List.range n).find? p = none := by
    rw [List.find?_eq_none]
    intro j hj
    simp [hn j (by simpa using hj)]
  rw [this]
theorem conIndexB : Con Try.prog 26 ckIndexB := by
  intro args q r h hq
  unfold ckIndexB at h
  split at h
  · cases h
    rename_i n f b
    generalize hg : (fun i => (f i).toB) = g at *
    refine pcall_args (args' := [.sl n fun i => .bool (g i), .bool b]) ⟨VLe.sl rfl fun i hi => by rw [hq.2 i hi, ← hg], VLe.refl _, trivial⟩ ?_
    have hr : (findI n fun i => b == (f i).toB) = findI n fun i => b == g i := by rw [← hg]
    rw [hr]
    refine w26 (fun _ => false) rfl (ctN_ok _) rfl rfl ?_
    push_cast (config := { maxSteps := 10000000 })
    refine LoopW.by ⟨ctN_ok _, fol⟩ (by kernel_rfl) (fun i : Nat => [(0, .sl n fun i => .bool (g i)), (1, .bool b), (7, .int .i64 n), (8, .int .i64 i)]) (fun _ => []) (fun i => i ≤ n ∧ ∀ j, j < i → (b == g j) = false) (fun i => n - i) 0 ?_ fun i hi => ?_
    · push_cast
      exact ⟨by omega, fun j hj => by omega⟩
    · push_cast (config := { maxSteps := 10000000 })
      refine ⟨fun h1 => ⟨by omega, fun h2 => (findI_at h1 (by simp [h2]) hi.2).symm, fun h2 => ⟨by omega, i + 1, ⟨by omega, fun j hj => ?_⟩, by omega, by omega⟩⟩, fun h1 => (findI_no fun j hj => hi.2 j (by omega)).symm⟩
      by_cases e : j = i
      · subst e; exact h2
      · simpa using hi.2 j (by omega)
  · cases h
attribute [push_cast] ckIndexB
def ckContainsB : Ck
  | [.sl n f, .bool b] => some (n ≤ 1152921504606846976 ∧ ∀ i, i < n → f i = .bool (f i).toB, .bool ((List.range n).any fun i => b == (f i).toB))
  | _ => none
theorem findI_any (n : Nat) (p : Nat → Bool) : decide (0 ≤ findI n p) = (List.range n).any p := by
  unfold findI
  cases h : (List.range n).find? p with
  | none =>
    rw [List.find?_eq_none] at h
    have : (List.range n).any p = false := by
      rw [List.any_eq_false]
      exact fun x hx => h x hx
    rw [this]; rfl
  | some i =>
    have h1 := List.find?_some h
    have h2 := List.mem_of_find?_eq_some h
    have : (List.range n).any p = true := List.any_eq_true.2 ⟨i, h2, h1⟩
    rw [this]; simp
theorem conContainsB : Con Try.prog 19 ckContainsB := by
  intro args q r h hq
  unfold ckContainsB at h
  split at h
  · cases h
    refine w19 (fun _ => false) rfl (ctA_ok conIndexB (ctN_ok _)) rfl rfl ?_
    push_cast (config := { maxSteps := 10000000 })
    exact ⟨hq, findI_any _ _⟩
  · cases h
attribute [push_cast] ckContainsB V.toB

def ckFits : Ck
  | [.str p, .str s, .bool w] => some (p.length ≤ 1048576 ∧ s.length ≤ 1048576, .bool (fitsB p s w))
  | _ => none
theorem conFits : Con Try.prog 13 ckFits := by
  have hct : CtOk Try.prog (ctA 19 ckContainsB ctN) := ctA_ok conContainsB (ctN_ok _)
  intro args q r h hq
  unfold ckFits at h
  split at h
  · cases h
    rename_i p s w
    refine w13 (fun _ => false) rfl hct rfl rfl ?_
    push_cast (config := { maxSteps := 10000000 })
    refine ⟨?_, ?_, ?_, ?_, LoopW.adj ⟨hct, fol⟩ (by kernel_rfl) [.ren 26 15] (fun i : Nat => [(0, .str p), (1, .str s), (2, .bool w), (7, .vec 15 (s.length + 1)), (19, .int .i64 p.length), (20, .int .i64 i)]) (fun i => [(15, .vec 1 (s.length + 1) fun k => .bool (reachN p s i k))]) (fun i => i ≤ p.length) (fun i => p.length - i) 0 ?_ fun i hi => ?_⟩
    rotate_left 4
    · push_cast (config := { maxSteps := 10000000 })
      refine ⟨by omega, fun k hk => ?_⟩
      simp only [setF, reachN]
      by_cases hk0 : k = 0 <;> simp [hk0]
    · push_cast (config := { maxSteps := 10000000 })
      refine ⟨fun hip => ⟨by omega, by omega, LoopW.adj ⟨hct, fol⟩ (by kernel_rfl) [] (fun k : Nat => [(0, .str p), (1, .str s), (2, .bool w), (7, .vec 15 (s.length + 1)), (19, .int .i64 p.length), (20, .int .i64 i), (8, .int .i64 i), (9, .vec 26 (s.length + 1)), (10, .bool (decide ((p.getD i 0).toNat = 42) && (List.range k).any (reachN p s i))), (28, .int .i64 (s.length + 1 : Nat)), (29, .int .i64 k)])
        (fun k => [(15, .vec 1 (s.length + 1) fun k => .bool (reachN p s i k)), (26, .vec 1 (s.length + 1) fun j => .bool (decide (j < k) && reachN p s (i + 1) j))]) (fun k => k ≤ s.length + 1) (fun k => s.length + 1 - k) 0 ?_ fun k hk => ?_⟩, ?_⟩
      · push_cast (config := { maxSteps := 10000000 })
        exact ⟨by simp, fun j _ => by simp⟩
      · push_cast (config := { maxSteps := 10000000 })
        have c42 : ((((p.getD i 0).toNat : Nat) : Int) = 42) ↔ (p.getD i 0).toNat = 42 := by omega
        have any1 : (List.range (k + 1)).any (reachN p s i) = ((List.range k).any (reachN p s i) || reachN p s i k) := by simp [List.range_succ]
        refine ⟨fun h1 => ⟨by omega, fun h2 => ⟨fun h => (by first | exact h | exact ⟨h, by omega⟩ | omega), fun h => (by first | exact h | exact ⟨h, by omega⟩ | omega), by omega, by omega, by omega, k + 1, by omega, by omega, ⟨?_, by omega⟩, fun j hj => ?_⟩, fun h2 => ⟨fun h3 => ⟨by omega, by omega, by omega, fun h => (by first | exact h | exact ⟨h, by omega⟩ | omega), fun h => (by first | exact h | exact ⟨h, by omega⟩ | omega), fun h => (by first | exact h | exact ⟨h, by omega⟩ | omega), by omega, by omega, by omega, k + 1, by omega, by omega, ⟨?_, by omega⟩, fun j hj => ?_⟩, fun h3 => ⟨by omega, k + 1, by omega, by omega, ⟨?_, by omega⟩, fun j hj => ?_⟩⟩⟩, fun h1 => ⟨by omega, i + 1, by omega, by omega, by omega, fun j hj => ?_⟩⟩
        · rw [any1]; simp [-List.getD_eq_getElem?_getD, c42.1 h2]
        · simp only [setF]
          by_cases e : j = k
          · subst e; simp [-List.getD_eq_getElem?_getD, reachN, stepR, c42.1 h2, any1]
          · have : (j < k + 1) ↔ j < k := by omega
            simp [-List.getD_eq_getElem?_getD, e, this]
        · have : ¬ (p.getD i 0).toNat = 42 := fun h => h2 (c42.2 h)
          simp [-List.getD_eq_getElem?_getD, this]
        · have n42 : ¬ (p.getD i 0).toNat = 42 := fun h => h2 (c42.2 h)
          have hk1 : ((k : Int) - 1).toNat = k - 1 := by omega
          have hb : ∀ a b : Nat, ((a : Int) == (b : Int)) = (a == b) := fun a b => by rw [Bool.eq_iff_iff]; simp only [beq_iff_eq]; omega
          simp only [setF, hk1, hb]
          by_cases e : j = k
          · subst e
            have h0 : 0 < j := by omega
            simp [-List.getD_eq_getElem?_getD, reachN, stepR, n42, h0]
          · have : (j < k + 1) ↔ j < k := by omega
            simp [-List.getD_eq_getElem?_getD, e, this]
        · have : ¬ (p.getD i 0).toNat = 42 := fun h => h2 (c42.2 h)
          simp [-List.getD_eq_getElem?_getD, this]
        · have hk0 : k = 0 := by omega
          subst hk0
          by_cases e : j = 0
          · subst e
            have : ¬ (p.getD i 0).toNat = 42 := fun h => h2 (c42.2 h)
            simp [-List.getD_eq_getElem?_getD, reachN, stepR, this]
          · have : ¬ j < 1 := by omega
            simp [-List.getD_eq_getElem?_getD, this]
        · have : j < k := by omega
          simp [-List.getD_eq_getElem?_getD, this]
      · intro h1
        have hi' : i = p.length := by omega
        subst hi'
        refine ⟨fun h => ⟨by omega, by omega, by simp [fitsB, h]⟩, fun h => ?_⟩
        exact ⟨by omega, by simp [fitsB, h]⟩
    all_goals omega
  · cases h
attribute [push_cast] ckFits

def ckIsDig : Ck
  | [.int .u8 c] => some (True, .bool (isDig c))
  | _ => none
theorem conIsDig : Con Try.prog 28 ckIsDig := by
  intro args q r h hq
  unfold ckIsDig at h
  split at h
  · cases h
    refine w28 (fun _ => false) rfl (ctN_ok _) rfl rfl ?_
    push_cast (config := { maxSteps := 10000000 })
    rfl
  · cases h
attribute [push_cast] ckIsDig

def ckIsHex : Ck
  | [.int .u8 c] => some (True, .bool (isHex c))
  | _ => none
theorem conIsHex : Con Try.prog 21 ckIsHex := by
  intro args q r h hq
  unfold ckIsHex at h
  split at h
  · cases h
    refine w21 (fun _ => false) rfl (ctA_ok conIsDig (ctN_ok _)) rfl rfl ?_
    push_cast (config := { maxSteps := 10000000 })
    exact ⟨by grind, by grind, rfl⟩
  · cases h
attribute [push_cast] ckIsHex

def ckHexV : Ck
  | [.int .u8 c] => some (0 ≤ c ∧ c < 256 ∧ isHex c = true, .int .u8 (hexV c))
  | _ => none
theorem conHexV : Con Try.prog 29 ckHexV := by
  intro args q r h hq
  unfold ckHexV at h
  split at h
  · cases h
    refine w29 (fun _ => false) rfl (ctA_ok conIsDig (ctN_ok _)) rfl rfl ?_
    push_cast (config := { maxSteps := 10000000 })
    rename_i c
    obtain ⟨h1, h2, h3⟩ := hq
    simp only [hexV]
    simp only [isHex, isDig, Bool.or_eq_true, Bool.and_eq_true, decide_eq_true_eq] at h3
    simp only [isDig, Bool.and_eq_true, decide_eq_true_eq, Bool.and_eq_false_imp, decide_eq_false_iff_not]
    refine ⟨fun h => ?_, fun h => ⟨fun h' => ?_, fun h' => ?_⟩⟩
    · rw [if_pos h]; omega
    · rw [if_neg (by omega), if_pos h']; omega
    · rw [if_neg (by omega), if_neg h']; omega
  · cases h
attribute [push_cast] ckHexV

def ckIsLet : Ck
  | [.int .u8 c] => some (True, .bool (isLet c))
  | _ => none
theorem conIsLet : Con Try.prog 30 ckIsLet := by
  intro args q r h hq
  unfold ckIsLet at h
  split at h
  · cases h
    refine w30 (fun _ => false) rfl (ctN_ok _) rfl rfl ?_
    push_cast (config := { maxSteps := 10000000 })
    exact ⟨by grind, rfl⟩
  · cases h
attribute [push_cast] ckIsLet

def ckNormalRow : Ck
  | [.str s] => some (wfL s = true ∧ s.length ≤ 1073741824, .str (normL s))
  | _ => none
theorem conNormalRow : Con Try.prog 22 ckNormalRow := by
  have hct := (ctA_ok conHexV (ctA_ok conIsLet (ctA_ok conIsDig (ctN_ok _))))
  intro args q r h hq
  unfold ckNormalRow at h
  split at h
  · cases h
    rename_i s
    refine w22 (fun _ => false) rfl hct rfl rfl ?_
    push_cast (config := { maxSteps := 10000000 })
    refine LoopW.adj ⟨hct, fol⟩ (by kernel_rfl) [.nv 3 21 1 (byF [])] (fun t : Nat × List UInt8 => [(0, .str s), (3, .vec 21 t.2.length), (4, .int .i64 t.1)]) (fun t => [(21, .vec 1 t.2.length (byF t.2))]) (fun t => t.1 ≤ s.length ∧ t.2 ++ normL (s.drop t.1) = normL s ∧ wfL (s.drop t.1) = true) (fun t => s.length - t.1) (0, []) ?_ fun t ht => ?_
    · push_cast (config := { maxSteps := 10000000 })
      simp [hq.1]
    · obtain ⟨i, l⟩ := t
      push_cast (config := { maxSteps := 10000000 })
      obtain ⟨h1, h2, h3⟩ : i ≤ s.length ∧ l ++ normL (s.drop i) = normL s ∧ wfL (s.drop i) = true := ht
      have hl : l.length ≤ s.length := by
        have k1 := congrArg List.length h2
        have k2 := normL_len s
        simp only [List.length_append] at k1; omega
      refine ⟨fun hi => ⟨hi, fun hc => ⟨hi, by omega, by omega, (i + 1, l ++ [s.getD i 0]), ⟨by simp; omega, ?_, ?_⟩, by simp; omega, by simp, by simp, fun j hj => ?_⟩, fun hc => ?_⟩, fun hn => ?_⟩
      · rw [normL_no hi (fun h => hc (by rw [h.1]; rfl))] at h2
        simpa using h2
      · exact wfL_no hi (fun h => hc (by rw [h]; rfl)) h3
      · exact appF_lit (bs := [s.getD i 0]) rfl hj
      · have hc' : s.getD i 0 = 37 := (u8_eq _ _).2 hc
        obtain ⟨k1, k2, k3, k4⟩ := wfL_hex hi hc' h3
        have hN1 := hexN_lt k2
        have hN2 := hexN_lt k3
        rw [or_hex k2 k3]
        have e := normL_hex k1 hc' k2 k3
        generalize hv : 16 * hexN (s.getD (i + 1) 0) + hexN (s.getD (i + 2) 0) = v at *
        have hv' : v < 256 := by omega
        have a1 := nib_and ⟨v, hv'⟩
        simp only at a1
        rw [a1, nib_shr]
        have hle := u8_lt (s.getD (i + 1) 0)
        have hle2 := u8_lt (s.getD (i + 2) 0)
        refine ⟨by omega, by omega, ⟨by omega, k2⟩, by omega, by omega, ⟨by omega, k3⟩, fun hf => ⟨by omega, by omega, by omega, (i + 3, l ++ [UInt8.ofNat v]), ⟨by simp; omega, ?_, k4⟩, by simp; omega, by simp; omega, by simp, fun j hj => ?_⟩, fun hf => ⟨by omega, by omega, by omega, by omega, by omega, (i + 3, l ++ [37, hexRow.getD (v / 16) 0, hexRow.getD (v % 16) 0]), ⟨by simp; omega, ?_, k4⟩, by simp; omega, by simp; omega, by simp, fun j hj => ?_⟩⟩
        · rw [e, encB, if_pos (by simp only [isFreeI]; grind)] at h2
          simpa using h2
        · refine appF_lit ?_ hj
          simp [ofNat_toNat hv']
        · rw [e, encB, if_neg (by simp only [isFreeI]; grind)] at h2
          simpa using h2
        · refine appF_lit ?_ hj
          have e1 : ((v : Int) / 16).toNat = v / 16 := by omega
          have e2 : ((v : Int) % 16).toNat = v % 16 := by omega
          simp [hexRow, e1, e2]
      · have : i = s.length := by omega
        subst this
        rw [bytesOf_byF]
        simpa [normL] using h2
  · cases h
attribute [push_cast] ckNormalRow

theorem conIdxStr : Con Try.prog 31 ckIndexByte := con_IndexByteString (fn := Try.f31) (by kernel_rfl) (by kernel_rfl) (by kernel_rfl) (by kernel_rfl) (by kernel_rfl)
theorem conIndexByte1 : Con Try.prog 27 ckIndexByte := by
  intro args q r h hq
  obtain ⟨s, c, rfl, _, rfl⟩ := ckIndexByte_inv h
  refine w27 (fun _ => false) rfl (ctA_ok conIdxStr (ctN_ok _)) rfl rfl ?_
  push_cast (config := { maxSteps := 10000000 })
theorem conIndexByte : Con Try.prog 20 ckIndexByte := by
  intro args q r h hq
  obtain ⟨s, c, rfl, _, rfl⟩ := ckIndexByte_inv h
  refine w20 (fun _ => false) rfl (ctA_ok conIndexByte1 (ctN_ok _)) rfl rfl ?_
  push_cast (config := { maxSteps := 10000000 })

theorem normL_app {a b : List UInt8} (h : (37 : UInt8) ∉ a) : normL (a ++ b) = a ++ normL b := by
  induction a with
  | nil => rfl
  | cons c r ih =>
    have h1 : c ≠ 37 := fun e => h (by simp [e])
    have h2 := ih fun hm => h (by simp [hm])
    have := normL_no (s := c :: (r ++ b)) (i := 0) (by simp) (fun hh => h1 (by simpa using hh.1))
    simp only [List.drop_zero, List.getD_cons_zero] at this
    rw [List.cons_append, this]
    simp [h2]
def ckNormalRowS : Ck
  | [.str s] => some (s.length ≤ 1073741824, .str (normL s))
  | _ => none
theorem conNormalRowS : Con Try.prog 14 ckNormalRowS := by
  have hct := (ctA_ok conIndexByte (ctA_ok conIsHex (ctA_ok conNormalRow (ctN_ok _))))
  intro args q r h hq
  unfold ckNormalRowS at h
  split at h
  · cases h
    rename_i s
    refine w14 (fun _ => false) rfl hct rfl rfl ?_
    push_cast (config := { maxSteps := 10000000 })
    refine LoopW.adj ⟨hct, fol⟩ (by kernel_rfl) [] (fun t : List UInt8 × List UInt8 => [(0, .str t.1), (3, .str t.2)]) (fun _ => []) (fun t => t.2 ++ normL t.1 = normL s ∧ t.1.length ≤ s.length) (fun t => t.1.length) (s, []) ?_ fun t ht => ?_
    · push_cast (config := { maxSteps := 10000000 })
      simp
    · obtain ⟨r, l⟩ := t
      push_cast (config := { maxSteps := 10000000 })
      obtain ⟨h1, h2⟩ : l ++ normL r = normL s ∧ r.length ≤ s.length := ht
      have key : ∀ k : Nat, Lib.indexByte r 37 = (k : Int) → normL r = r.take k ++ normL (r.drop k) ∧ k < r.length ∧ r.getD k 0 = 37 := fun k hk => ⟨by
        conv => lhs; rw [← List.take_append_drop k r]
        exact normL_app (idx_take_mem hk), (idx_at hk).1, (idx_at hk).2.1⟩
      have hl : l.length + (normL r).length ≤ s.length := by
        have k1 := congrArg List.length h1
        have k2 := normL_len s
        simp only [List.length_append] at k1; omega
      refine ⟨fun hr => ⟨fun hn => ?_, fun hn => ?_⟩, fun hr => ?_⟩
      · have := normL_app (a := r) (b := []) (idx_no_mem hn)
        simp [normL] at this
        rw [this] at h1
        exact ⟨by omega, h1⟩
      · obtain ⟨k, hk⟩ : ∃ k : Nat, Lib.indexByte r 37 = (k : Int) := ⟨(Lib.indexByte r 37).toNat, by omega⟩
        obtain ⟨k1, k2, k3⟩ := key k hk
        rw [hk]
        push_cast (config := { maxSteps := 10000000 })
        rw [k1] at h1
        refine ⟨by omega, fun h => by omega, fun h => by omega, fun h => ⟨h, by omega⟩, fun h => ⟨h, by omega⟩, fun h => ?_, fun h => ?_⟩
        · obtain ⟨⟨a1, a2⟩, a3⟩ := h
          have e := normL_hex (s := r) (i := k) (by omega) k3 a2 a3
          have e2 : normL ((r.drop k).take 3) = encB (16 * hexN (r.getD (k + 1) 0) + hexN (r.getD (k + 2) 0)) := by
            rw [drop_at (by omega : k < r.length), drop_at (by omega : k + 1 < r.length), drop_at (by omega : k + 1 + 1 < r.length)]
            simp only [List.take_succ_cons, List.take_zero, normL]
            rw [if_pos ⟨k3, a2, a3⟩, List.append_nil]
          have e3 : wfL ((r.drop k).take 3) = true := by
            rw [drop_at (by omega : k < r.length), drop_at (by omega : k + 1 < r.length), drop_at (by omega : k + 1 + 1 < r.length)]
            simp only [List.take_succ_cons, List.take_zero, wfL]
            rw [if_pos k3]
            simp only [Bool.and_true, Bool.and_eq_true]
            exact ⟨a2, a3⟩
          have e4 := normL_len ((r.drop k).take 3)
          simp only [List.length_take, List.length_drop] at e4
          refine ⟨by omega, by omega, by omega, by omega, ⟨e3, by omega⟩, by omega, by omega, by omega, (r.drop (k + 3), l ++ r.take k ++ normL ((r.drop k).take 3)), ⟨?_, by simp; omega⟩, by simp; omega, rfl, rfl⟩
          rw [e] at h1
          rw [e2]
          simpa using h1
        · have e := normL_no (s := r) (i := k) k2 (fun hh => by
            have := h ⟨by omega, hh.2.2.1⟩
            have h3 := hh.2.2.2
            simp only [isHexB] at h3
            rw [this] at h3; cases h3)
          refine ⟨by omega, by omega, by omega, by omega, by omega, (r.drop (k + 1), l ++ r.take (k + 1)), ⟨?_, by simp; omega⟩, by simp; omega, rfl, rfl⟩
          rw [e] at h1
          have : r.take (k + 1) = r.take k ++ [r.getD k 0] := by
            rw [List.take_add_one, List.getD_eq_getElem?_getD, List.getElem?_eq_getElem k2]; rfl
          rw [this]
          simpa using h1
      · subst hr
        simpa [normL] using h1
  · cases h
attribute [push_cast] ckNormalRowS

def ckHasSuf : Ck
  | [.str s, .str t] => some ((s.length : Int) ≤ 4611686018427387904, .bool (hasSuf s t))
  | _ => none
theorem conHasSuf : Con Try.prog 25 ckHasSuf := by
  intro args q r h hq
  unfold ckHasSuf at h
  split at h
  · cases h
    refine w25 (fun _ => false) rfl (ctN_ok _) rfl rfl ?_
    push_cast (config := { maxSteps := 10000000 })
    rename_i s t
    exact ⟨by omega, by omega, by unfold hasSuf; rfl⟩
  · cases h
attribute [push_cast] ckHasSuf

def ckCutSuf : Ck
  | [.str s, .str t] => some ((s.length : Int) ≤ 4611686018427387904, .tup [.str (bif hasSuf s t then s.take (s.length - t.length) else s), .bool (hasSuf s t)])
  | _ => none
theorem conCutSuf1 : Con Try.prog 18 ckCutSuf := by
  intro args q r h hq
  unfold ckCutSuf at h
  split at h
  · cases h
    refine w18 (fun _ => false) rfl (ctA_ok conHasSuf (ctN_ok _)) rfl rfl ?_
    push_cast (config := { maxSteps := 10000000 })
    rename_i s t
    have hlen : hasSuf s t = true → t.length ≤ s.length := fun h => by simp [hasSuf] at h; exact h.1
    refine ⟨hq, fun h => by simp [h], fun h => ?_⟩
    have := hlen h
    rw [h]
    exact ⟨by omega, by omega, rfl, rfl⟩
  · cases h
attribute [push_cast] ckCutSuf
theorem conCutSuf : Con Try.prog 12 ckCutSuf := by
  intro args q r h hq
  unfold ckCutSuf at h
  split at h
  · cases h
    refine w12 (fun _ => false) rfl (ctA_ok conCutSuf1 (ctN_ok _)) rfl rfl ?_
    push_cast (config := { maxSteps := 10000000 })
    exact hq
  · cases h

def ckMatch : Ck
  | [.str p, .str s] => some (p.length ≤ 1048000 ∧ s.length ≤ 1048000, .bool (matchesB p s))
  | _ => none
theorem conMatch : Con Try.prog 9 ckMatch := by
  have hct := (ctA_ok conFits (ctA_ok conNormalRowS (ctA_ok conCutSuf (ctN_ok _))))
  intro args q r h hq
  unfold ckMatch at h
  split at h
  · cases h
    rename_i p s
    refine w9 (fun _ => false) rfl hct rfl rfl ?_
    push_cast (config := { maxSteps := 10000000 })
    have := normL_len (if hasSuf p [36] = true then p.take (p.length - 1) else p)
    cases h : hasSuf p [36]
    · simp only [h, cond_false, Bool.false_eq_true, if_false] at this ⊢
      exact ⟨by omega, by omega, by omega, by simp [matchesB, h]⟩
    · simp only [h, cond_true, if_true] at this ⊢
      have h2 : (p.take (p.length - 1)).length ≤ p.length := by simp
      exact ⟨by omega, by omega, by omega, by simp [matchesB, h]⟩
  · cases h
attribute [push_cast] ckMatch

def ckPat : Ck
  | [.str s] => some (True, .bool (patOk s))
  | _ => none
theorem conPat : Con Try.prog 8 ckPat := by
  have hct := ctN_ok Try.prog
  intro args q r h hq
  unfold ckPat at h
  split at h
  · cases h
    rename_i s
    refine w8 (fun _ => false) rfl hct rfl rfl ?_
    push_cast (config := { maxSteps := 10000000 })
    refine ⟨by omega, by omega, by omega, fun h0 => ?_, fun h0 => LoopW.by ⟨hct, fol⟩ (by kernel_rfl) (fun i : Nat => [(0, .str s), (23, .int .i64 s.length), (24, .int .i64 i)]) (fun _ => []) (fun i => i ≤ s.length ∧ ∀ j, j < i → okAt s j = true) (fun i => s.length - i) 0 ⟨⟨by omega, fun j hj => by omega⟩, by push_cast⟩ fun i hi => ?_⟩
    · refine boolF fun hp => ?_
      have := (patOk_iff s).1 hp
      omega
    · push_cast (config := { maxSteps := 10000000 })
      refine ⟨fun h1 => ⟨by omega, by omega, by omega, by omega, by omega, by omega, fun h2 => boolF fun hp => ?_, fun h2 => ⟨by omega, i + 1, ⟨by omega, fun j hj => ?_⟩, by omega, by omega⟩⟩, fun h1 => ((patOk_iff s).2 ⟨by omega, by omega, by omega, fun j hj => hi.2 j (by omega)⟩).symm⟩
      · have := (okAt_iff s i).1 (((patOk_iff s).1 hp).2.2.2 i (by omega))
        omega
      · by_cases e : j = i
        · subst e
          exact (okAt_iff s j).2 (by omega)
        · exact hi.2 j (by omega)
  · cases h
attribute [push_cast] ckPat

def ckMatches : Ck
  | [.str p, .str s] => some (True, .tup [.bool (matchesR p s).1, .int .i64 (matchesR p s).2])
  | _ => none
theorem conMatches : Con Try.prog 5 ckMatches := by
  have hct := (ctA_ok conPat (ctA_ok conMatch (ctN_ok _)))
  intro args q r h hq
  unfold ckMatches at h
  split at h
  · cases h
    rename_i p s
    refine w5 (fun _ => false) rfl hct rfl rfl ?_
    push_cast (config := { maxSteps := 10000000 })
    refine ⟨fun h => by simp [matchesR, h], fun h => ⟨fun h2 => ?_, fun h2 => ?_⟩⟩
    · rw [matchesR, if_pos h, if_pos (by omega)]; simp
    · have := (patOk_iff p).1 h
      rw [matchesR, if_pos h, if_neg (by omega)]
      exact ⟨by omega, rfl, rfl⟩
  · cases h
attribute [push_cast] ckMatches

def ckAwake : Ck
  | [] => some (True, .bool true)
  | _ => none
theorem conAwake4 : Con Try.prog 7 ckAwake := by
  have hct := (ctA_ok conMatches (ctN_ok _))
  intro args q r h hq
  unfold ckAwake at h
  split at h
  · cases h
    refine w7 (fun _ => false) rfl hct rfl rfl ?_
    push_cast (config := { maxSteps := 10000000 })
    decide
  · cases h
attribute [push_cast] ckAwake

def ckLawPG : Ck
  | [.str p, .str s, .str m] => some ((s.length : Int) + m.length ≤ 4611686018427387904, .bool true)
  | _ => none
theorem conLawPG : Con Try.prog 4 ckLawPG := by
  have hct := (ctA_ok conMatches (ctA_ok conAwake4 (ctN_ok _)))
  intro args q r h hq
  unfold ckLawPG at h
  split at h
  · cases h
    rename_i p s m
    refine w4 (fun _ => false) rfl hct rfl rfl ?_
    push_cast (config := { maxSteps := 10000000 })
    refine ⟨hq, fun ⟨⟨h1, h2⟩, h3⟩ => ?_⟩
    have k3 : (matchesR [42] s).1 = true := by rw [(matchesR_ok h3).2.2]; exact fits_star_all s
    have k1 := ((patOk_iff p).1 (matchesR_ok h1).1)
    have k2 := grow_law h1 h2
    rw [show ((p.length : Int) - 1).toNat = p.length - 1 by omega]
    generalize (matchesR [42] s).1 = a at *
    subst k3
    have k4 : ((matchesR p s).1 = false ∨ (matchesR p (s ++ m)).1 = true) ∨ (((p.getD (p.length - 1) 0).toNat : Nat) : Int) = 36 := by
      rcases k2 with k | k
      · exact .inl k
      · exact .inr (by omega)
    (repeat' (first | apply And.intro | intro _)) <;> (try first | assumption | contradiction | omega)
    all_goals grind
  · cases h
attribute [push_cast] ckLawPG
theorem allLawPG {H : Type} (ds : List (DataW H)) (hh : hasD [.str, .str, .str] ds) : PCall Try.prog 4 (ds.map toV) (.bool true) := by
  match ds, hh with
  | [_, _, _], ⟨⟨s, e1, _, h1⟩, ⟨p, e2, _, h2⟩, ⟨q, e3, _, h3⟩, _⟩ =>
    simp only [List.map_cons, List.map_nil, e1, e2, e3]
    exact conLawPG _ _ _ rfl (by simp only [reachBytes] at h2 h3; omega)

end Go.Abs
