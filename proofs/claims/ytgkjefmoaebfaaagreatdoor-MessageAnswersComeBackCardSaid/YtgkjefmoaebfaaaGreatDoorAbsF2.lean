/- what functions of this program compute: contracts, each a function's own -/
import Derived.Test.YtgkjefmoaebfaaaGreatDoorAbsK2
import Derived.Test.YtgkjefmoaebfaaaGreatDoorAbsFacts
import Derived.Test.YtgkjefmoaebfaaaGreatDoorAbsF1
import Derived.Test.YtgkjefmoaebfaaaGreatDoorAbsShelf
import Derived.Lib.SplitLaws
import Derived.Lib.SlTrimSet
import Derived.Lib.Atoi
import Derived.Lib.Itoa
import Derived.Lib.ItoaNum
import Derived.Lib.AtoiErrMem
import Derived.Lib.Index
import Derived.Lib.IndexBytes
import Derived.Lib.Walk
import Derived.Lib.BitFns
import Derived.Lib.TrailingZeros
import Derived.Lib.ItoaLen
namespace Go.Abs
open Go Go.Proofs
set_option maxHeartbeats 4000000
set_option maxRecDepth 100000
set_option linter.unusedVariables false
set_option linter.unusedSimpArgs false
/- rows of digits -/
def isDg (c : UInt8) : Bool := decide (48 ≤ c.toNat ∧ c.toNat ≤ 57)
def digs : List UInt8 := [48, 49, 50, 51, 52, 53, 54, 55, 56, 57]
theorem digs_has (c : UInt8) : digs.contains c = isDg c := by
  have key : ∀ n, n < 256 → digs.contains (UInt8.ofNat n) = isDg (UInt8.ofNat n) := by decide +kernel
  have := key c.toNat (UInt8.toNat_lt c)
  simpa using this
theorem dropW_nil {p : UInt8 → Bool} : ∀ {l : List UInt8}, l.dropWhile p = [] ↔ ∀ x ∈ l, p x = true
  | [] => by simp
  | a :: l => by
    rw [List.dropWhile_cons]
    cases h : p a with
    | true => simp only [if_true, dropW_nil, List.mem_cons, forall_eq_or_imp, h, true_and]
    | false => simp [h]
theorem dropW_head {p : UInt8 → Bool} : ∀ {l : List UInt8} {a : UInt8} {t : List UInt8}, l.dropWhile p = a :: t → p a = false
  | [], _, _, h => by simp at h
  | b :: l, a, t, h => by
    rw [List.dropWhile_cons] at h
    cases hb : p b with
    | true => rw [hb] at h; exact dropW_head h
    | false => rw [hb] at h; simp only [Bool.false_eq_true, if_false, List.cons.injEq] at h; rw [← h.1]; exact hb
theorem dropW_sub {p : UInt8 → Bool} : ∀ {l : List UInt8} {x : UInt8}, x ∈ l.dropWhile p → x ∈ l
  | [], _, h => by simp at h
  | b :: l, x, h => by
    rw [List.dropWhile_cons] at h
    split at h
    · exact List.mem_cons_of_mem _ (dropW_sub h)
    · exact h
theorem snoc_ind {α : Type} {P : List α → Prop} (h0 : P []) (h : ∀ s c, P s → P (s ++ [c])) (s : List α) : P s := by
  have : ∀ t : List α, P t.reverse := by
    intro t
    induction t with
    | nil => exact h0
    | cons a t ih => rw [List.reverse_cons]; exact h _ _ ih
  simpa using this s.reverse
theorem trimS_nil (s cs : List UInt8) : Lib.trimS s cs = [] ↔ s.all (cs.contains ·) = true := by
  unfold Lib.trimS Lib.trimLeftS Lib.trimRightS
  rw [dropW_nil, List.all_eq_true]
  constructor
  · intro h x hx
    have hr : s.reverse.dropWhile (fun x => cs.contains x) = [] := by
      cases hd : s.reverse.dropWhile (fun x => cs.contains x) with
      | nil => rfl
      | cons a t =>
        have h1 := dropW_head hd
        have h2 := h a (by rw [hd]; simp)
        rw [h1] at h2; cases h2
    rw [dropW_nil] at hr
    exact hr x (by simpa using hx)
  · intro h x hx
    exact h x (by have := dropW_sub (by simpa using hx); simpa using this)
theorem trim_dig (s : List UInt8) : Lib.trimS s digs = [] ↔ s.all isDg = true := by
  rw [trimS_nil]
  have : (fun x => digs.contains x) = isDg := funext digs_has
  rw [this]
def natOf (s : List UInt8) : Nat := s.foldl (fun a c => a * 10 + (c.toNat - 48)) 0
theorem natOf_snoc (s : List UInt8) (c : UInt8) : natOf (s ++ [c]) = natOf s * 10 + (c.toNat - 48) := by simp [natOf, List.foldl_append]
theorem decFrom_dig : ∀ (s : List UInt8) (a : Nat), s.all isDg = true → Lib.decFrom a s = some (s.foldl (fun a c => a * 10 + (c.toNat - 48)) a)
  | [], a, _ => rfl
  | c :: s, a, h => by
    simp only [List.all_cons, Bool.and_eq_true] at h
    have hc : 48 ≤ c.toNat ∧ c.toNat ≤ 57 := of_decide_eq_true h.1
    simp only [Lib.decFrom, Lib.digitVal, if_pos hc, List.foldl_cons]
    exact decFrom_dig s _ h.2
theorem atoi_dig {s : List UInt8} (h0 : s ≠ []) (h : s.all isDg = true) : Lib.atoi s = some (natOf s : Int) := by
  cases s with
  | nil => exact absurd rfl h0
  | cons c s =>
    have hc : 48 ≤ c.toNat ∧ c.toNat ≤ 57 := of_decide_eq_true (by simp only [List.all_cons, Bool.and_eq_true] at h; exact h.1)
    have h1 : (c == 45) = false := by
      simp only [beq_eq_false_iff_ne]; intro e; subst e; revert hc; decide
    have h2 : (c == 43) = false := by
      simp only [beq_eq_false_iff_ne]; intro e; subst e; revert hc; decide
    unfold Lib.atoi
    simp only [h1, h2, Bool.false_eq_true, if_false]
    unfold Lib.decNat
    simp only [List.isEmpty_cons, Bool.false_eq_true, if_false]
    rw [decFrom_dig _ _ h]
    rfl
theorem natOf_lt (s : List UInt8) : s.all isDg = true → natOf s < 10 ^ s.length := by
  refine snoc_ind (P := fun s => s.all isDg = true → natOf s < 10 ^ s.length) (fun _ => by simp [natOf]) (fun s c ih h => ?_) s
  simp only [List.all_append, List.all_cons, List.all_nil, Bool.and_true, Bool.and_eq_true] at h
  have hc : 48 ≤ c.toNat ∧ c.toNat ≤ 57 := of_decide_eq_true h.2
  have := ih h.1
  rw [natOf_snoc, List.length_append, List.length_singleton, Nat.pow_succ]
  omega
/-- digits, from 1 to n of them, without a needless 0 -/
def digL (s : List UInt8) (n : Int) : Bool := decide (1 ≤ s.length) && decide ((s.length : Int) ≤ n) && s.all isDg && (decide (s.getD 0 0 ≠ 48) || s == [48])
theorem itoa_nat (n : Nat) : Lib.itoa (n : Int) = Lib.decDigits n := by unfold Lib.itoa; rw [if_neg (by omega)]; simp
theorem dec_step {n : Nat} (h : 10 ≤ n) : Lib.decDigits n = Lib.decDigits (n / 10) ++ [UInt8.ofNat (48 + n % 10)] := by
  rw [Lib.decDigits, dif_neg (by omega)]
theorem dec_small {n : Nat} (h : n < 10) : Lib.decDigits n = [UInt8.ofNat (48 + n)] := by
  rw [Lib.decDigits, dif_pos h]
theorem natOf_pos {s : List UInt8} (h : s.all isDg = true) (h0 : 1 ≤ s.length) (h1 : s.getD 0 0 ≠ 48) : 1 ≤ natOf s := by
  revert h h0 h1
  refine snoc_ind (P := fun s => s.all isDg = true → 1 ≤ s.length → s.getD 0 0 ≠ 48 → 1 ≤ natOf s) (fun _ h => by simp at h) (fun s c ih h _ h1 => ?_) s
  simp only [List.all_append, List.all_cons, List.all_nil, Bool.and_true, Bool.and_eq_true] at h
  have hc : 48 ≤ c.toNat ∧ c.toNat ≤ 57 := of_decide_eq_true h.2
  rw [natOf_snoc]
  cases s with
  | nil =>
    simp only [List.nil_append, List.getD_cons_zero] at h1
    have : c.toNat ≠ 48 := fun e => h1 (UInt8.toNat_inj.1 e)
    omega
  | cons a s =>
    have := ih h.1 (by simp) (by simpa using h1)
    omega
/-- a number's digits are written as they were read -/
theorem dec_natOf {s : List UInt8} (h : s.all isDg = true) (h0 : 1 ≤ s.length) (h1 : s.getD 0 0 ≠ 48 ∨ s.length = 1) : Lib.decDigits (natOf s) = s := by
  revert h h0 h1
  refine snoc_ind (P := fun s => s.all isDg = true → 1 ≤ s.length → (s.getD 0 0 ≠ 48 ∨ s.length = 1) → Lib.decDigits (natOf s) = s) (fun _ h => by simp at h) (fun s c ih h _ h1 => ?_) s
  simp only [List.all_append, List.all_cons, List.all_nil, Bool.and_true, Bool.and_eq_true] at h
  have hc : 48 ≤ c.toNat ∧ c.toNat ≤ 57 := of_decide_eq_true h.2
  have hcc : UInt8.ofNat (48 + (c.toNat - 48)) = c := by rw [show 48 + (c.toNat - 48) = c.toNat by omega]; simp
  rw [natOf_snoc]
  cases s with
  | nil =>
    simp only [natOf, List.foldl_nil, Nat.zero_mul, Nat.zero_add, List.nil_append]
    rw [dec_small (by omega), hcc]
  | cons a s =>
    have h48 : (a :: s).getD 0 0 ≠ 48 := by
      rcases h1 with h1 | h1
      · simpa using h1
      · simp at h1
    have hp := natOf_pos h.1 (by simp) h48
    rw [dec_step (by omega), show (natOf (a :: s) * 10 + (c.toNat - 48)) / 10 = natOf (a :: s) by omega, show (natOf (a :: s) * 10 + (c.toNat - 48)) % 10 = c.toNat - 48 by omega, hcc, ih h.1 (by simp) (.inl h48)]
theorem dec_dig (n : Nat) : (Lib.decDigits n).all isDg = true ∧ natOf (Lib.decDigits n) = n ∧ 1 ≤ (Lib.decDigits n).length ∧ ((Lib.decDigits n).getD 0 0 ≠ 48 ∨ (Lib.decDigits n).length = 1) ∧ (10 ≤ n → (Lib.decDigits n).getD 0 0 ≠ 48) := by
  have one : ∀ m, m < 10 → isDg (UInt8.ofNat (48 + m)) = true ∧ (UInt8.ofNat (48 + m)).toNat = 48 + m := fun m hm => by
    have e : (UInt8.ofNat (48 + m)).toNat = 48 + m := by rw [UInt8.toNat_ofNat']; omega
    exact ⟨decide_eq_true (by omega), e⟩
  induction n using Nat.strongRecOn with
  | _ n ih =>
    by_cases h : n < 10
    · rw [dec_small h]
      obtain ⟨a, b⟩ := one n h
      refine ⟨by simp only [List.all_cons, a, List.all_nil, Bool.and_true], by simp only [natOf, List.foldl_cons, List.foldl_nil, b]; omega, by simp, .inr rfl, fun h => by omega⟩
    · rw [dec_step (by omega)]
      obtain ⟨a, b⟩ := one (n % 10) (by omega)
      obtain ⟨i1, i2, i3, i4, i5⟩ := ih (n / 10) (by omega)
      have hg : (Lib.decDigits (n / 10)).getD 0 0 ≠ 48 := by
        by_cases h10 : n / 10 < 10
        · rw [dec_small h10]
          simp only [List.getD_cons_zero]
          intro e
          have := congrArg UInt8.toNat e
          rw [(one (n / 10) h10).2] at this
          have : (48 : UInt8).toNat = 48 := rfl
          omega
        · exact i5 (by omega)
      have hg2 : (Lib.decDigits (n / 10) ++ [UInt8.ofNat (48 + n % 10)]).getD 0 0 ≠ 48 := by
        cases hd : Lib.decDigits (n / 10) with
        | nil => rw [hd] at i3; simp at i3
        | cons x t => rw [hd] at hg; simpa using hg
      refine ⟨by simp only [List.all_append, i1, List.all_cons, a, List.all_nil, Bool.and_true], by rw [natOf_snoc, i2, b]; omega, by simp, .inl hg2, fun _ => hg2⟩
theorem dec_len : ∀ (k n : Nat), n < 10 ^ (k + 1) → (Lib.decDigits n).length ≤ k + 1
  | 0, n, h => by rw [dec_small (by omega)]; simp
  | k + 1, n, h => by
    by_cases h1 : n < 10
    · rw [dec_small h1]; simp
    · rw [dec_step (by omega)]
      have := dec_len k (n / 10) (by rw [Nat.pow_succ] at h; omega)
      simp; omega

/-- what is asked -/
structure Inq where
  me : List UInt8
  tg : List UInt8
  hd : List Hd
  bd : List UInt8
deriving DecidableEq
def decInq : V → Inq
  | .agg [.str me, .str tg, .sl n f, .sl m g] => ⟨me, tg, lsOf cHd n f, bytesOf m g⟩
  | _ => ⟨[], [], [], []⟩
def cInq : Cod Inq := ⟨fun a => .agg [.str a.me, .str a.tg, .sl a.hd.length (lsF cHd a.hd), .sl a.bd.length (byF a.bd)], decInq, ⟨[], [], [], []⟩, fun a => by simp [decInq, lsOf_ls, bytesOf_by]⟩
@[push_cast] theorem enc_inq (a : Inq) : cInq.enc a = .agg [.str a.me, .str a.tg, .sl a.hd.length (lsF cHd a.hd), .sl a.bd.length (byF a.bd)] := rfl
@[push_cast] theorem dec_inq (me tg : List UInt8) (n m : Nat) (f g : Nat → V) : cInq.dec (.agg [.str me, .str tg, .sl n f, .sl m g]) = ⟨me, tg, lsOf cHd n f, bytesOf m g⟩ := rfl
theorem isC_inq {me tg : List UInt8} {n m : Nat} {f g : Nat → V} (h1 : isLs cHd n f) (h2 : isBy m g) : isC cInq (.agg [.str me, .str tg, .sl n f, .sl m g]) :=
  VLe.agg ⟨VLe.refl _, VLe.refl _, isLs.vle h1, isBy.vle h2, trivial⟩
@[push_cast] theorem isC_inqT (a : Inq) : isC cInq (.agg [.str a.me, .str a.tg, .sl a.hd.length (lsF cHd a.hd), .sl a.bd.length (byF a.bd)]) = True := eq_true (isC_enc cInq a)
@[push_cast] theorem inq_eta (a : Inq) : (⟨a.me, a.tg, a.hd, a.bd⟩ : Inq) = a := rfl
def inqOk (a : Inq) : Prop := hdsOk a.hd ∧ a.me.length ≤ 140737488355328 ∧ a.tg.length ≤ 140737488355328 ∧ a.hd.length ≤ 140737488355328 ∧ a.bd.length ≤ 140737488355328
theorem shInq {m : Nat} {v : V} (h : Sh.has (.tup [.str, .str, .list (.tup [.str, .str]), .list (.int .u8)]) m v) : isC cInq v ∧ inqOk (cInq.dec v) := by
  obtain ⟨l, ms, rfl, -, hl⟩ := h
  obtain ⟨m1, v1, ms, l, rfl, h1, hl⟩ := hasL_cons hl
  obtain ⟨m2, v2, ms, l, rfl, h2, hl⟩ := hasL_cons hl
  obtain ⟨m3, v3, ms, l, rfl, h3, hl⟩ := hasL_cons hl
  obtain ⟨m4, v4, ms, l, rfl, h4, hl⟩ := hasL_cons hl
  obtain rfl := hasL_nil hl
  obtain ⟨me, rfl, b1⟩ := shStr h1
  obtain ⟨tg, rfl, b2⟩ := shStr h2
  obtain ⟨n, f, rfl, i3, b3, k3⟩ := shList (c := cHd) (fun m v h => shHead h) h3
  obtain ⟨k, g, rfl, i4, b4⟩ := shBytes h4
  have := reach_le
  refine ⟨isC_inq i3 i4, ?_⟩
  show inqOk ⟨me, tg, lsOf cHd n f, bytesOf k g⟩
  refine ⟨k3, b1, b2, ?_, ?_⟩
  · show (lsOf cHd n f).length ≤ _
    rw [lsOf_len]; exact b3
  · show (bytesOf k g).length ≤ _
    rw [bytesOf_len]; omega
/-- heads, written -/
def headB (h : Hd) : List UInt8 := h.name ++ [58, 32] ++ h.value ++ [13, 10]
def headsB : List Hd → List UInt8
  | [] => []
  | h :: l => headB h ++ headsB l
theorem headsB_snoc (l : List Hd) (h : Hd) : headsB (l ++ [h]) = headsB l ++ headB h := by
  induction l with
  | nil => simp [headsB]
  | cons x l ih => simp [headsB, ih, List.append_assoc]

def ckAtoi : Ck
  | [.str s] => some (1 ≤ s.length ∧ s.length ≤ 18 ∧ s.all isDg = true, .tup [.int .i64 (natOf s), .any])
  | _ => none
theorem conAtoi : Con pg 66 ckAtoi := by
  intro args q r h hq
  unfold ckAtoi at h
  split at h
  · cases h
    rename_i s
    refine pcall_shelf (by kernel_rfl) rfl fun w hw => (Tryz.strconv_Atoi ⟨s.toArray⟩ (natOf s) (by show s.toArray.size ≤ _; have := hq.2.1; simp; omega) ?_ w).mono fun e w' h => ?_
    · exact atoi_dig (show s ≠ [] from fun e => by have := hq.1; rw [e] at this; simp at this) hq.2.2
    · obtain ⟨he, t, rfl⟩ := h
      exact ⟨_, he, grow_below (Lib.bytesWorld_below _ _ _), fun γ imm => .tup _ [_, _] rfl fun i hi => by
        match i, hi with
        | 0, _ => exact .pure (.int _ _)
        | 1, _ => exact .any _⟩
  · cases h
attribute [push_cast] ckAtoi

def valB (c : UInt8) : Bool := decide (c.toNat = 9 ∨ 32 ≤ c.toNat ∧ c.toNat ≤ 126)
def valueL (s : List UInt8) : Bool := decide (s.length ≤ 1000) && (Lib.trimS s [32, 9] == s) && s.all valB
def ckMTrim : Ck
  | [.str s] => some (s.length ≤ 4611686018427387904, .str (Lib.trimS s [32, 9]))
  | _ => none
theorem conMTrim : Con pg 118 ckMTrim := by
  have hct := (ctA_ok conTrim (ctN_ok _))
  intro args q r h hq
  unfold ckMTrim at h
  split at h
  · cases h
    rename_i s
    refine w118 (fun _ => false) [] rfl hct rfl rfl ?_
    push_cast (config := { maxSteps := 10000000 })
    exact hq
  · cases h
attribute [push_cast] ckMTrim
def ckIsValue : Ck
  | [.str s] => some (s.length ≤ 4611686018427387904, .bool (valueL s))
  | _ => none
theorem valueL_no {s : List UInt8} (h : s.all valB = false) : false = valueL s := by unfold valueL; rw [h, Bool.and_false]
theorem conIsValue : Con pg 67 ckIsValue := by
  have hct := (ctA_ok conMTrim (ctN_ok _))
  intro args q r h hq
  unfold ckIsValue at h
  split at h
  · cases h
    rename_i s
    refine w67 (fun _ => false) [] rfl hct rfl rfl ?_
    push_cast (config := { maxSteps := 10000000 })
    refine ⟨fun h => ⟨h, hq⟩, fun h => ?_, fun h => ?_⟩
    · unfold valueL
      rcases h with h | h
      · rw [show decide (s.length ≤ 1000) = false from decide_eq_false (by omega)]; rfl
      · rw [show (Lib.trimS s [32, 9] == s) = false by simpa using h]; simp
    · refine LoopW.adj ⟨hct, fol⟩ (by kernel_rfl) [] (fun i : Nat => [(0, .str s), (14, .int .i64 s.length), (15, .int .i64 i)]) (fun _ => []) (fun i => i ≤ s.length ∧ ∀ j, j < i → valB (s.getD j 0) = true) (fun i => s.length - i) 0 ?_ fun i hi => ?_
      · push_cast (config := { maxSteps := 10000000 })
        exact Nat.zero_le _
      · push_cast (config := { maxSteps := 10000000 })
        obtain ⟨h1, h2⟩ := hi
        (repeat' (first | apply And.intro | intro _)) <;> (try first | assumption | contradiction | omega | exact rfl | exact trivial)
        · rename_i a b
          exact valueL_no (all_no' (d := 0) a (by unfold valB; exact decide_eq_false (by omega)))
        · rename_i a b
          refine ⟨i + 1, ⟨by omega, fun j hj => ?_⟩, by omega, by omega⟩
          by_cases e : j = i
          · subst e
            refine decide_eq_true (Classical.byContradiction fun hn => ?_)
            have := b (by omega)
            omega
          · exact h2 j (by omega)
        · unfold valueL
          rw [all_at' fun j hj => h2 j (by omega), show decide (s.length ≤ 1000) = true from decide_eq_true (by omega), show (Lib.trimS s [32, 9] == s) = true by simpa using h.2]; rfl
  · cases h
attribute [push_cast] ckIsValue
theorem conIsValue2 : Con pg 108 ckIsValue := by
  have hct := (ctA_ok conTrim (ctN_ok _))
  intro args q r h hq
  unfold ckIsValue at h
  split at h
  · cases h
    rename_i s
    refine w108 (fun _ => false) [] rfl hct rfl rfl ?_
    push_cast (config := { maxSteps := 10000000 })
    refine LoopW.adj ⟨hct, fol⟩ (by kernel_rfl) [] (fun i : Nat => [(0, .str s), (3, .int .i64 i)]) (fun _ => []) (fun i => i ≤ s.length ∧ ∀ j, j < i → valB (s.getD j 0) = true) (fun i => s.length - i) 0 ?_ fun i hi => ?_
    · push_cast (config := { maxSteps := 10000000 })
      exact Nat.zero_le _
    · push_cast (config := { maxSteps := 10000000 })
      obtain ⟨h1, h2⟩ := hi
      (repeat' (first | apply And.intro | intro _)) <;> (try first | assumption | contradiction | omega | exact rfl | exact trivial)
      · rename_i a b
        exact valueL_no (all_no' (d := 0) a (by unfold valB; exact decide_eq_false (by omega)))
      · rename_i a b
        refine ⟨i + 1, ⟨by omega, fun j hj => ?_⟩, by omega, by omega⟩
        by_cases e : j = i
        · subst e
          refine decide_eq_true (Classical.byContradiction fun hn => ?_)
          have := b (by omega)
          omega
        · exact h2 j (by omega)
      · unfold valueL
        rw [all_at' fun j hj => h2 j (by omega), Bool.and_true]
        congr 1
        exact decide_eq_decide.2 (by omega)
  · cases h

def headsGo : List Hd → Int
  | [] => 0
  | h :: t => if tokL h.name = true then (if valueL h.value = true then headsGo t else 3) else 5
def checkHeadsL (l : List Hd) : Int := if 100 < l.length then 2 else headsGo l
def ckCheckHeads : Ck
  | [.sl n f] => some (isLs cHd n f ∧ hdsOk (lsOf cHd n f), .int .i64 (checkHeadsL (lsOf cHd n f)))
  | _ => none
theorem headsGo_tok {l : List Hd} {i : Nat} (hi : i < l.length) (h : ¬ tokL (l.getD i ⟨[], []⟩).name = true) : headsGo (l.drop i) = 5 := by
  rw [dropG (d := ⟨[], []⟩) hi, headsGo, if_neg h]
theorem headsGo_val {l : List Hd} {i : Nat} (hi : i < l.length) (h : tokL (l.getD i ⟨[], []⟩).name = true) (h2 : ¬ valueL (l.getD i ⟨[], []⟩).value = true) : headsGo (l.drop i) = 3 := by
  rw [dropG (d := ⟨[], []⟩) hi, headsGo, if_pos h, if_neg h2]
theorem headsGo_next {l : List Hd} {i : Nat} (hi : i < l.length) (h : tokL (l.getD i ⟨[], []⟩).name = true) (h2 : valueL (l.getD i ⟨[], []⟩).value = true) : headsGo (l.drop i) = headsGo (l.drop (i + 1)) := by
  rw [dropG (d := ⟨[], []⟩) hi, headsGo, if_pos h, if_pos h2]
theorem conCheckHeads : Con pg 52 ckCheckHeads := by
  have hct := (ctA_ok conIsToken (ctA_ok conIsValue (ctN_ok _)))
  intro args q r h hq
  unfold ckCheckHeads at h
  split at h
  · cases h
    rename_i n f
    refine pcall_args (args' := [.sl (lsOf cHd n f).length (lsF cHd (lsOf cHd n f))]) ⟨isLs.vle hq.1, trivial⟩ ?_
    obtain ⟨-, hl⟩ := hq
    generalize lsOf cHd n f = l at hl ⊢
    refine w52 (fun _ => false) [] rfl hct rfl rfl ?_
    push_cast (config := { maxSteps := 10000000 })
    refine ⟨fun h => ?_, fun h => ?_⟩
    · unfold checkHeadsL; rw [if_pos (by omega)]
    have e0 : checkHeadsL l = headsGo l := by unfold checkHeadsL; rw [if_neg (by omega)]
    rw [e0]
    refine LoopW.adj ⟨hct, fol⟩ (by kernel_rfl) [] (fun i : Nat => [(8, .sl l.length (lsF cHd l)), (9, .int .i64 l.length), (10, .int .i64 i)]) (fun _ => []) (fun i => i ≤ l.length ∧ headsGo (l.drop i) = headsGo l) (fun i => l.length - i) 0 ?_ fun i hi => ?_
    · push_cast (config := { maxSteps := 10000000 })
      exact Nat.zero_le _
    · push_cast (config := { maxSteps := 10000000 })
      obtain ⟨h1, h2⟩ := hi
      refine ⟨fun hlt => ?_, fun hlt => ?_⟩
      · have hb := hdsOk_at hl hlt
        (repeat' (first | apply And.intro | intro _)) <;> (try first | assumption | contradiction | omega | exact rfl | exact trivial)
        · rw [← h2, headsGo_tok hlt (by simp_all)]
        · rw [← h2, headsGo_val hlt (by assumption) (by simp_all)]
        · refine ⟨i + 1, ⟨by omega, ?_⟩, by omega, by omega⟩
          rw [← h2, headsGo_next hlt (by assumption) (by assumption)]
      · rw [← h2, List.drop_eq_nil_of_le (by omega)]; rfl
  · cases h
attribute [push_cast] ckCheckHeads
theorem conCheckHeads2 : Con pg 59 ckCheckHeads := by
  have hct := (ctA_ok conIsToken2 (ctA_ok conIsValue2 (ctN_ok _)))
  intro args q r h hq
  unfold ckCheckHeads at h
  split at h
  · cases h
    rename_i n f
    refine pcall_args (args' := [.sl (lsOf cHd n f).length (lsF cHd (lsOf cHd n f))]) ⟨isLs.vle hq.1, trivial⟩ ?_
    obtain ⟨-, hl⟩ := hq
    generalize lsOf cHd n f = l at hl ⊢
    refine w59 (fun _ => false) [] rfl hct rfl rfl ?_
    push_cast (config := { maxSteps := 10000000 })
    refine ⟨fun h => ?_, fun h => ?_⟩
    · unfold checkHeadsL; rw [if_pos (by omega)]
    have e0 : checkHeadsL l = headsGo l := by unfold checkHeadsL; rw [if_neg (by omega)]
    rw [e0]
    refine LoopW.adj ⟨hct, fol⟩ (by kernel_rfl) [] (fun i : Nat => [(0, .sl l.length (lsF cHd l)), (3, .int .i64 i)]) (fun _ => []) (fun i => i ≤ l.length ∧ headsGo (l.drop i) = headsGo l) (fun i => l.length - i) 0 ?_ fun i hi => ?_
    · push_cast (config := { maxSteps := 10000000 })
      exact Nat.zero_le _
    · push_cast (config := { maxSteps := 10000000 })
      obtain ⟨h1, h2⟩ := hi
      refine ⟨fun hlt => ?_, fun hlt => ?_⟩
      · have hb := hdsOk_at hl hlt
        (repeat' (first | apply And.intro | intro _)) <;> (try first | assumption | contradiction | omega | exact rfl | exact trivial)
        · rw [← h2, headsGo_tok hlt (by simp_all)]
        · rw [← h2, headsGo_val hlt (by assumption) (by simp_all)]
        · refine ⟨i + 1, ⟨by omega, ?_⟩, by omega, by omega⟩
          rw [← h2, headsGo_next hlt (by assumption) (by assumption)]
      · rw [← h2, List.drop_eq_nil_of_le (by omega)]; rfl
  · cases h

def valuesL (l : List Hd) (name : List UInt8) : List (List UInt8) := (l.filter fun h => lowL h.name == name).map Hd.value
def ckValues : Ck
  | [.sl n f, .str name] => some (isLs cHd n f ∧ hdsOk (lsOf cHd n f) ∧ n ≤ 1000000, .sl (valuesL (lsOf cHd n f) name).length (lsF cStr (valuesL (lsOf cHd n f) name)))
  | _ => none
theorem valuesL_hit {l : List Hd} {i : Nat} {name : List UInt8} (hi : i < l.length) (h : lowL (l.getD i ⟨[], []⟩).name = name) : valuesL (l.drop i) name = (l.getD i ⟨[], []⟩).value :: valuesL (l.drop (i + 1)) name := by
  unfold valuesL
  rw [dropG (d := ⟨[], []⟩) hi, List.filter_cons, if_pos (beq_iff_eq.2 h), List.map_cons]
theorem valuesL_miss {l : List Hd} {i : Nat} {name : List UInt8} (hi : i < l.length) (h : ¬ lowL (l.getD i ⟨[], []⟩).name = name) : valuesL (l.drop i) name = valuesL (l.drop (i + 1)) name := by
  unfold valuesL
  rw [dropG (d := ⟨[], []⟩) hi, List.filter_cons, if_neg (fun e => h (beq_iff_eq.1 e))]
theorem valuesL_le (l : List Hd) (name : List UInt8) : (valuesL l name).length ≤ l.length := by
  unfold valuesL; rw [List.length_map]; exact List.length_filter_le _ _
theorem conValues : Con pg 53 ckValues := by
  have hct := (ctA_ok conSmallA (ctN_ok _))
  intro args q r h hq
  unfold ckValues at h
  split at h
  · cases h
    rename_i n f name
    refine pcall_args (args' := [.sl (lsOf cHd n f).length (lsF cHd (lsOf cHd n f)), .str name]) ⟨isLs.vle hq.1, VLe.refl _, trivial⟩ ?_
    obtain ⟨-, hl, hn⟩ := hq
    have hn2 : (lsOf cHd n f).length ≤ 1000000 := by rw [lsOf_len]; exact hn
    generalize lsOf cHd n f = l at hl hn2 ⊢
    refine w53 (fun _ => false) [.frz 90] rfl hct rfl rfl ?_
    push_cast (config := { maxSteps := 10000000 })
    refine LoopW.adj ⟨hct, fol⟩ (by kernel_rfl) [.nv 5 90 1 (lsF cStr [])] (fun t : Nat × List (List UInt8) => [(1, .str name), (5, .vec 90 t.2.length), (8, .sl l.length (lsF cHd l)), (9, .int .i64 l.length), (10, .int .i64 t.1)]) (fun t => [(90, .vec 1 t.2.length (lsF cStr t.2))]) (fun t => t.1 ≤ l.length ∧ t.2.length ≤ t.1 ∧ t.2 ++ valuesL (l.drop t.1) name = valuesL l name) (fun t => l.length - t.1) (0, []) ?_ fun t ht => ?_
    · push_cast (config := { maxSteps := 10000000 })
      exact Nat.zero_le _
    · obtain ⟨i, o⟩ := t
      obtain ⟨h1, h2, h3⟩ : i ≤ l.length ∧ o.length ≤ i ∧ o ++ valuesL (l.drop i) name = valuesL l name := ht
      push_cast (config := { maxSteps := 10000000 })
      refine ⟨fun hlt => ?_, fun hlt => ?_⟩
      · have hb := hdsOk_at hl hlt
        (repeat' (first | apply And.intro | intro _)) <;> (try first | assumption | contradiction | omega | exact rfl | exact trivial)
        · exact ⟨(i + 1, o ++ [(l.getD i ⟨[], []⟩).value]), ⟨by show i + 1 ≤ l.length; omega, by simp; omega, by rw [← h3, valuesL_hit hlt (by assumption)]; simp⟩, by show l.length - (i + 1) < l.length - i; omega, ⟨by simp, by simp⟩, LsI.app (c := cStr) (LsI.ls o) (LsI.one (c := cStr) rfl) (by simp)⟩
        · exact ⟨(i + 1, o), ⟨by show i + 1 ≤ l.length; omega, by show o.length ≤ i + 1; omega, by rw [← h3, valuesL_miss hlt (by assumption)]⟩, by show l.length - (i + 1) < l.length - i; omega, ⟨rfl, by simp⟩, LsI.ls (c := cStr) o⟩
      · have e : o = valuesL l name := by rw [← h3, List.drop_eq_nil_of_le (by omega)]; simp [valuesL]
        rw [← e]
        exact ⟨rfl, fun _ _ => rfl⟩
  · cases h
attribute [push_cast] ckValues
theorem conValues2 : Con pg 60 ckValues := by
  have hct := (ctA_ok conSmall (ctN_ok _))
  intro args q r h hq
  unfold ckValues at h
  split at h
  · cases h
    rename_i n f name
    refine pcall_args (args' := [.sl (lsOf cHd n f).length (lsF cHd (lsOf cHd n f)), .str name]) ⟨isLs.vle hq.1, VLe.refl _, trivial⟩ ?_
    obtain ⟨-, hl, hn⟩ := hq
    have hn2 : (lsOf cHd n f).length ≤ 1000000 := by rw [lsOf_len]; exact hn
    generalize lsOf cHd n f = l at hl hn2 ⊢
    refine w60 (fun _ => false) [.frz 90] rfl hct rfl rfl ?_
    push_cast (config := { maxSteps := 10000000 })
    refine LoopW.adj ⟨hct, fol⟩ (by kernel_rfl) [.nv 5 90 1 (lsF cStr [])] (fun t : Nat × List (List UInt8) => [(0, .sl l.length (lsF cHd l)), (1, .str name), (5, .vec 90 t.2.length), (6, .int .i64 t.1)]) (fun t => [(90, .vec 1 t.2.length (lsF cStr t.2))]) (fun t => t.1 ≤ l.length ∧ t.2.length ≤ t.1 ∧ t.2 ++ valuesL (l.drop t.1) name = valuesL l name) (fun t => l.length - t.1) (0, []) ?_ fun t ht => ?_
    · push_cast (config := { maxSteps := 10000000 })
      exact Nat.zero_le _
    · obtain ⟨i, o⟩ := t
      obtain ⟨h1, h2, h3⟩ : i ≤ l.length ∧ o.length ≤ i ∧ o ++ valuesL (l.drop i) name = valuesL l name := ht
      push_cast (config := { maxSteps := 10000000 })
      refine ⟨fun hlt => ?_, fun hlt => ?_⟩
      · have hb := hdsOk_at hl hlt
        (repeat' (first | apply And.intro | intro _)) <;> (try first | assumption | contradiction | omega | exact rfl | exact trivial)
        · exact ⟨(i + 1, o ++ [(l.getD i ⟨[], []⟩).value]), ⟨by show i + 1 ≤ l.length; omega, by simp; omega, by rw [← h3, valuesL_hit hlt (by assumption)]; simp⟩, by show l.length - (i + 1) < l.length - i; omega, ⟨by simp, by simp⟩, LsI.app (c := cStr) (LsI.ls o) (LsI.one (c := cStr) rfl) (by simp)⟩
        · exact ⟨(i + 1, o), ⟨by show i + 1 ≤ l.length; omega, by show o.length ≤ i + 1; omega, by rw [← h3, valuesL_miss hlt (by assumption)]⟩, by show l.length - (i + 1) < l.length - i; omega, ⟨rfl, by simp⟩, LsI.ls (c := cStr) o⟩
      · have e : o = valuesL l name := by rw [← h3, List.drop_eq_nil_of_le (by omega)]; simp [valuesL]
        rw [← e]
        exact ⟨rfl, fun _ _ => rfl⟩
  · cases h

def tgB (c : UInt8) : Bool := decide (33 ≤ c.toNat ∧ c.toNat ≤ 126)
def targetL (s : List UInt8) : Bool := decide (1 ≤ s.length) && decide (s.length ≤ 2000) && s.all tgB
theorem targetL_no {s : List UInt8} (h : s.all tgB = false) : false = targetL s := by unfold targetL; rw [h, Bool.and_false]
def ckIsTarget : Ck
  | [.str s] => some (s.length ≤ 4611686018427387904, .bool (targetL s))
  | _ => none
theorem conIsTarget : Con pg 51 ckIsTarget := by
  have hct := ctN_ok pg
  intro args q r h hq
  unfold ckIsTarget at h
  split at h
  · cases h
    rename_i s
    refine w51 (fun _ => false) [] rfl hct rfl rfl ?_
    push_cast (config := { maxSteps := 10000000 })
    refine LoopW.adj ⟨hct, fol⟩ (by kernel_rfl) [] (fun i : Nat => [(0, .str s), (5, .int .i64 s.length), (6, .int .i64 i)]) (fun _ => []) (fun i => i ≤ s.length ∧ ∀ j, j < i → tgB (s.getD j 0) = true) (fun i => s.length - i) 0 ?_ fun i hi => ?_
    · push_cast (config := { maxSteps := 10000000 })
      exact Nat.zero_le _
    · push_cast (config := { maxSteps := 10000000 })
      obtain ⟨h1, h2⟩ := hi
      (repeat' (first | apply And.intro | intro _)) <;> (try first | assumption | contradiction | omega | exact rfl | exact trivial)
      · rename_i a b
        exact targetL_no (all_no' (d := 0) a (by unfold tgB; exact decide_eq_false (by omega)))
      · rename_i a b
        refine ⟨i + 1, ⟨by omega, fun j hj => ?_⟩, by omega, by omega⟩
        by_cases e : j = i
        · subst e; exact decide_eq_true (by omega)
        · exact h2 j (by omega)
      · unfold targetL
        rw [all_at' fun j hj => h2 j (by omega), Bool.and_true]
        congr 1 <;> exact decide_eq_decide.2 (by omega)
  · cases h
attribute [push_cast] ckIsTarget
theorem conIsTarget2 : Con pg 58 ckIsTarget := by
  have hct := (ctA_ok conWithin2b (ctN_ok _))
  intro args q r h hq
  unfold ckIsTarget at h
  split at h
  · cases h
    rename_i s
    refine w58 (fun _ => false) [] rfl hct rfl rfl ?_
    push_cast (config := { maxSteps := 10000000 })
    refine LoopW.adj ⟨hct, fol⟩ (by kernel_rfl) [] (fun i : Nat => [(0, .str s), (3, .int .i64 i)]) (fun _ => []) (fun i => i ≤ s.length ∧ ∀ j, j < i → tgB (s.getD j 0) = true) (fun i => s.length - i) 0 ?_ fun i hi => ?_
    · push_cast (config := { maxSteps := 10000000 })
      exact Nat.zero_le _
    · push_cast (config := { maxSteps := 10000000 })
      obtain ⟨h1, h2⟩ := hi
      (repeat' (first | apply And.intro | intro _)) <;> (try first | assumption | contradiction | omega | exact rfl | exact trivial)
      · rename_i a b
        exact targetL_no (all_no' (d := 0) a (by unfold tgB; exact decide_eq_false (by omega)))
      · rename_i a b
        refine ⟨i + 1, ⟨by omega, fun j hj => ?_⟩, by omega, by omega⟩
        by_cases e : j = i
        · subst e; exact decide_eq_true (by omega)
        · exact h2 j (by omega)
      · unfold targetL
        rw [all_at' fun j hj => h2 j (by omega), Bool.and_true]
        congr 1 <;> exact decide_eq_decide.2 (by omega)
  · cases h
def ckDigits : Ck
  | [.str s, .int .i64 n] => some (s.length ≤ 4611686018427387904, .bool (digL s n))
  | _ => none
theorem conDigits : Con pg 65 ckDigits := by
  have hct := (ctA_ok conTrim (ctN_ok _))
  intro args q r h hq
  unfold ckDigits at h
  split at h
  · cases h
    rename_i s n
    refine w65 (fun _ => false) [] rfl hct rfl rfl ?_
    push_cast (config := { maxSteps := 10000000 })
    refine ⟨fun h => ⟨h, hq⟩, fun h => ⟨h, by have := h.1.1; omega⟩, fun h => ⟨h, fun h2 => ⟨h, h2⟩⟩, ?_⟩
    unfold digL
    have e1 : (Lib.trimS s [48, 49, 50, 51, 52, 53, 54, 55, 56, 57] == []) = s.all isDg := by
      rw [Bool.eq_iff_iff, beq_iff_eq]; exact trim_dig s
    have e2 : (((s.getD 0 0).toNat : Int) != 48) = decide (s.getD 0 0 ≠ 48) := by
      rw [Bool.eq_iff_iff, bne_iff_ne, decide_eq_true_eq, ne_eq, ne_eq, u8_eq]; rfl
    rw [e1, e2]
    congr 3
    exact decide_eq_decide.2 (by omega)
  · cases h
attribute [push_cast] ckDigits
def lenV : List (List UInt8) → Int × Bool
  | [v] => if digL v 1000 = true then (if 9 < v.length then (200001, true) else (min (natOf v : Int) 200001, true)) else (0, false)
  | _ => (0, false)
def lengthL (l : List Hd) : Int × Bool := lenV (valuesL l [108, 101, 110, 103, 116, 104])
def ckLength : Ck
  | [.sl n f] => some (isLs cHd n f ∧ hdsOk (lsOf cHd n f) ∧ n ≤ 1000000, .tup [.int .i64 (lengthL (lsOf cHd n f)).1, .bool (lengthL (lsOf cHd n f)).2])
  | _ => none
theorem valuesL_ok {l : List Hd} (h : hdsOk l) (name : List UInt8) : ∀ v ∈ valuesL l name, v.length ≤ 140737488355328 := by
  intro v hv
  simp only [valuesL, List.mem_map, List.mem_filter] at hv
  obtain ⟨x, ⟨hx, _⟩, rfl⟩ := hv
  exact (h x hx).2
theorem digL_all {v : List UInt8} {n : Int} (h : digL v n = true) : 1 ≤ v.length ∧ (v.length : Int) ≤ n ∧ v.all isDg = true ∧ (v.getD 0 0 ≠ 48 ∨ v = [48]) := by
  simp only [digL, Bool.and_eq_true, Bool.or_eq_true, decide_eq_true_eq, beq_iff_eq] at h
  exact ⟨h.1.1.1, h.1.1.2, h.1.2, h.2⟩
theorem conLength : Con pg 31 ckLength := by
  have hct := (ctA_ok conValues (ctA_ok conDigits (ctA_ok conAtoi (ctN_ok _))))
  intro args q r h hq
  unfold ckLength at h
  split at h
  · cases h
    rename_i n f
    refine w31 (fun _ => false) [] rfl hct rfl rfl ?_
    push_cast (config := { maxSteps := 10000000 })
    refine ⟨hq, ?_⟩
    have hV := valuesL_ok hq.2.1 [108, 101, 110, 103, 116, 104]
    unfold lengthL
    generalize valuesL (lsOf cHd n f) [108, 101, 110, 103, 116, 104] = V at hV ⊢
    match V, hV with
    | [], _ => simp [lenV]
    | [v], hV =>
      have hv := hV v (by simp)
      push_cast (config := { maxSteps := 10000000 })
      refine ⟨by omega, fun h => ?_, fun h => ⟨fun h9 => ?_, fun h9 => ?_⟩⟩
      · simp [lenV, h]
      · simp only [lenV, h, if_true]; rw [if_pos (by omega)]; exact ⟨rfl, rfl⟩
      · have hd := digL_all h
        simp only [lenV, h, if_true]; rw [if_neg (by omega)]
        exact ⟨⟨hd.1, by omega, hd.2.2.1⟩, rfl, rfl⟩
    | a :: b :: r, _ =>
      simp only [lenV, List.length_cons]
      refine ⟨fun h => by omega, fun h => by omega, fun _ => by simp, fun h => by omega⟩
  · cases h
attribute [push_cast] ckLength

def wLen : List UInt8 := [108, 101, 110, 103, 116, 104]
def wCod : List UInt8 := [99, 111, 100, 105, 110, 103]
/-- the length that the heads say is not the body's, or a coding is named -/
def clashL (l : List Hd) (n : Nat) : Bool := (!((valuesL l wLen).length == 0 && n == 0) && !(valuesL l wLen == [Lib.itoa n])) || !((valuesL l wCod).length == 0)
def checkInqL (a : Inq) : Int := if tokL a.me = true then (if targetL a.tg = true then (if checkHeadsL a.hd = 0 then (if a.bd.length ≤ 200000 then (if clashL a.hd a.bd.length = true then 12 else 0) else 2) else checkHeadsL a.hd) else 3) else 5
theorem lenV_eq {l : List (List UInt8)} {n : Nat} (h : n ≤ 200000) : (lenV l).2 = true ∧ (lenV l).1 = n ↔ l = [Lib.itoa n] := by
  rw [itoa_nat]
  match l with
  | [] => simp [lenV]
  | a :: b :: r => simp [lenV]
  | [v] =>
    have hd := dec_dig n
    have hl := dec_len 5 n (by omega)
    constructor
    · intro ⟨h1, h2⟩
      unfold lenV at h1 h2
      simp only at h1 h2
      split at h1
      · rename_i hv
        rw [if_pos hv] at h2
        have hq := digL_all hv
        split at h2
        · simp only at h2; omega
        · simp only at h2
          have : natOf v = n := by omega
          have e := dec_natOf hq.2.2.1 hq.1 (hq.2.2.2.imp id fun e => by rw [e]; rfl)
          rw [← this, e]
      · cases h1
    · intro e
      obtain rfl : v = Lib.decDigits n := by simpa using e
      have hv : digL (Lib.decDigits n) 1000 = true := by
        simp only [digL, Bool.and_eq_true, Bool.or_eq_true, decide_eq_true_eq, beq_iff_eq]
        refine ⟨⟨⟨hd.2.2.1, by omega⟩, hd.1⟩, ?_⟩
        by_cases h10 : 10 ≤ n
        · exact .inl (hd.2.2.2.2 h10)
        · by_cases h0 : n = 0
          · subst h0; exact .inr (by rw [dec_small (by omega)]; rfl)
          · refine .inl ?_
            rw [dec_small (by omega)]
            intro e
            have := congrArg UInt8.toNat e
            simp only [List.getD_cons_zero] at this
            rw [UInt8.toNat_ofNat'] at this
            have : (48 : UInt8).toNat = 48 := rfl
            omega
      simp only [lenV, hv, if_true]
      rw [if_neg (by omega)]
      exact ⟨rfl, by rw [hd.2.1]; omega⟩
theorem itoa_len {n : Nat} (h : n ≤ 200000) : (Lib.itoa n).length ≤ 6 := by rw [itoa_nat]; exact dec_len 5 n (by omega)
theorem clash_iff {l : List Hd} {n : Nat} : clashL l n = true ↔ (((valuesL l wLen).length : Int) = 0 → ¬ (n : Int) = 0) ∧ ¬ valuesL l wLen = [Lib.itoa n] ∨ 0 < ((valuesL l wCod).length : Int) := by
  simp only [clashL, Bool.or_eq_true, Bool.and_eq_true, Bool.not_eq_true', Bool.and_eq_false_iff, beq_eq_false_iff_ne, ne_eq]
  constructor
  · rintro (⟨h1, h2⟩ | h)
    · exact .inl ⟨fun a b => by rcases h1 with h1 | h1 <;> omega, h2⟩
    · exact .inr (by omega)
  · rintro (⟨h1, h2⟩ | h)
    · refine .inl ⟨?_, h2⟩
      by_cases e : (valuesL l wLen).length = 0
      · exact .inr fun e2 => h1 (by omega) (by omega)
      · exact .inl e
    · exact .inr (by omega)
theorem clash_len {l : List Hd} {n : Nat} (h : n ≤ 200000) : clashL l n = true ↔ (((valuesL l wLen).length : Int) = 0 → ¬ (n : Int) = 0) ∧ ((lengthL l).2 = false ∨ ¬ (lengthL l).1 = n) ∨ 0 < ((valuesL l wCod).length : Int) := by
  have e : (¬ valuesL l wLen = [Lib.itoa n]) ↔ ((lengthL l).2 = false ∨ ¬ (lengthL l).1 = n) := by
    rw [← lenV_eq h, Decidable.not_and_iff_or_not, Bool.not_eq_true]; rfl
  rw [clash_iff, e]
theorem sing_iff {l : List (List UInt8)} {x : List UInt8} : l = [x] ↔ (l.length : Int) = 1 ∧ l.getD 0 [] = x := by
  match l with
  | [] => simp
  | [a] => simp
  | a :: b :: r => simp; omega
theorem clash_ref {l : List Hd} {n : Nat} : clashL l n = true ↔ (((valuesL l wLen).length : Int) = 0 → ¬ (n : Int) = 0) ∧ (¬ ((valuesL l wLen).length : Int) = 1 ∨ ¬ (valuesL l wLen).getD 0 [] = Lib.itoa n) ∨ 0 < ((valuesL l wCod).length : Int) := by
  rw [clash_iff, sing_iff, Decidable.not_and_iff_or_not]
theorem heads_100 {l : List Hd} (h : checkHeadsL l = 0) : l.length ≤ 100 := by
  unfold checkHeadsL at h
  split at h
  · omega
  · omega
theorem headsGo_le : ∀ {l : List Hd}, headsGo l = 0 → (headsB l).length ≤ l.length * 1044
  | [], _ => by simp [headsB]
  | h :: t, e => by
    simp only [headsGo] at e
    split at e
    · rename_i h1
      split at e
      · rename_i h2
        have ih := headsGo_le e
        simp only [tokL, valueL, Bool.and_eq_true, decide_eq_true_eq] at h1 h2
        simp only [headsB, headB, List.length_append, List.length_cons, List.length_nil]
        omega
      · omega
    · omega
theorem heads_le {l : List Hd} (h : checkHeadsL l = 0) : (headsB l).length ≤ 104400 := by
  have h1 := heads_100 h
  unfold checkHeadsL at h
  rw [if_neg (by omega)] at h
  have := headsGo_le h
  omega
def ckInq : Ck
  | [.agg [.str me, .str tg, .sl n f, .sl m g]] => some (isLs cHd n f ∧ isBy m g ∧ inqOk ⟨me, tg, lsOf cHd n f, bytesOf m g⟩, .int .i64 (checkInqL ⟨me, tg, lsOf cHd n f, bytesOf m g⟩))
  | _ => none
theorem conCheckInq : Con pg 19 ckInq := by
  have hct := (ctA_ok conIsToken (ctA_ok conIsTarget (ctA_ok conCheckHeads (ctA_ok conLength (ctA_ok conValues (ctN_ok _))))))
  intro args q r h hq
  unfold ckInq at h
  split at h
  · cases h
    rename_i me tg n f m g
    refine w19 (fun _ => false) [] rfl hct rfl rfl ?_
    push_cast (config := { maxSteps := 10000000 })
    obtain ⟨q1, q2, q3, q4, q5, q6, q7⟩ := hq
    simp only at q4 q5
    unfold checkInqL
    simp only [bytesOf_len]
    refine ⟨fun h => by rw [if_neg (by simp [h])], fun h1 => ⟨by omega, fun h => by rw [if_pos h1, if_neg (by simp [h])], fun h2 => ⟨⟨q1, q3⟩, fun h => by rw [if_pos h1, if_pos h2, if_neg h], fun h3 => ⟨fun h => by rw [if_pos h1, if_pos h2, if_pos h3, if_neg (by omega)], fun h => ?_⟩⟩⟩⟩
    rw [if_pos h1, if_pos h2, if_pos h3, if_pos (by omega)]
    have hn := heads_100 h3
    rw [lsOf_len] at hn
    have H : isLs cHd n f ∧ hdsOk (lsOf cHd n f) ∧ n ≤ 1000000 := ⟨q1, q3, by omega⟩
    have e := clash_len (l := lsOf cHd n f) (n := m) (by omega)
    refine ⟨H, H, fun h => ⟨h, fun h' => ⟨h, h'⟩⟩, fun h => ⟨h, H⟩, fun h => by rw [if_pos (e.2 h)], fun h => ?_⟩
    rw [if_neg]
    intro hc
    rcases e.1 hc with ⟨a, b | b⟩ | a
    · rw [(h.1 a).1] at b; cases b
    · exact b (h.1 a).2
    · exact h.2 a
  · cases h
attribute [push_cast] ckInq
theorem conCheckReq : Con pg 23 ckInq := by
  have hct := (ctA_ok conIsToken2 (ctA_ok conIsTarget2 (ctA_ok conCheckHeads2 (ctA_ok conValues2 (ctA_ok conItoa (ctN_ok _))))))
  intro args q r h hq
  unfold ckInq at h
  split at h
  · cases h
    rename_i me tg n f m g
    refine w23 (fun _ => false) [] rfl hct rfl rfl ?_
    push_cast (config := { maxSteps := 10000000 })
    obtain ⟨q1, q2, q3, q4, q5, q6, q7⟩ := hq
    simp only at q4 q5
    unfold checkInqL
    simp only [bytesOf_len]
    refine ⟨by omega, fun h => by rw [if_neg (by simp [h])], fun h1 => ⟨by omega, fun h => by rw [if_pos h1, if_neg (by simp [h])], fun h2 => ⟨⟨q1, q3⟩, fun h => by rw [if_pos h1, if_pos h2, if_neg h], fun h3 => ⟨fun h => by rw [if_pos h1, if_pos h2, if_pos h3, if_neg (by omega)], fun h => ?_⟩⟩⟩⟩
    rw [if_pos h1, if_pos h2, if_pos h3, if_pos (by omega)]
    have hn := heads_100 h3
    rw [lsOf_len] at hn
    have H : isLs cHd n f ∧ hdsOk (lsOf cHd n f) ∧ n ≤ 1000000 := ⟨q1, q3, by omega⟩
    have e := clash_ref (l := lsOf cHd n f) (n := m)
    refine ⟨H, fun h => ⟨h, ?_⟩, fun h => ⟨h, by omega⟩, fun h => ⟨h, fun h' => ⟨h, h'⟩⟩, fun h => ⟨h, H⟩, fun h => by rw [if_pos (e.2 h)], fun h => ?_⟩
    · rw [h.2]; decide
    rw [if_neg]
    intro hc
    rcases e.1 hc with ⟨a, b | b⟩ | a
    · exact b (h.1 a).1
    · exact b (h.1 a).2
    · exact h.2 a
  · cases h

/-- the parts of a string between a byte, part by part -/
def spl (c : UInt8) : List UInt8 → List (List UInt8)
  | [] => [[]]
  | x :: t => if x = c then [] :: spl c t else (x :: (spl c t).headD []) :: (spl c t).tail
theorem spl_ne (c : UInt8) (s : List UInt8) : spl c s ≠ [] := by
  cases s with
  | nil => simp [spl]
  | cons x t => rw [spl]; split <;> simp
theorem splitK_spl (c : UInt8) : ∀ s : List UInt8, Lib.splitK [c] 0 (s.count c) s = spl c s
  | [] => rfl
  | x :: t => by
    have ih := splitK_spl c t
    by_cases h : x = c
    · subst h
      have hix : Lib.index (x :: t) [x] = 0 := by rw [Lib.index]; simp [List.isPrefixOf]
      rw [show (x :: t).count x = t.count x + 1 by simp, Lib.splitK, hix]
      rw [spl, if_pos rfl, ← ih]
      rfl
    · have hp : ([c] : List UInt8).isPrefixOf (x :: t) = false := by simp [List.isPrefixOf, Ne.symm h]
      have hix : Lib.index (x :: t) [c] = if Lib.index t [c] == -1 then -1 else Lib.index t [c] + 1 := by rw [Lib.index, hp]; simp
      rw [show (x :: t).count c = t.count c by rw [List.count_cons_of_ne (by simpa using h)]]
      rw [spl, if_neg h]
      cases hk : t.count c with
      | zero =>
        rw [hk] at ih
        rw [← ih]; rfl
      | succ k =>
        rw [hk] at ih
        rw [← ih]
        simp only [Lib.splitK]
        rw [hix]
        by_cases hm : (Lib.index t [c] == -1) = true
        · simp only [hm, if_true]; rfl
        · have hge := Lib.index_ge t [c]
          have hn : Lib.index t [c] ≠ -1 := fun e => hm (beq_iff_eq.2 e)
          have hm2 : (Lib.index t [c] + 1 == -1) = false := by rw [beq_eq_false_iff_ne]; omega
          simp only [hm, if_false, Bool.false_eq_true, hm2]
          rw [show (Lib.index t [c] + 1).toNat = (Lib.index t [c]).toNat + 1 by omega]
          simp
theorem splitL_eq (s : List UInt8) (c : UInt8) : splitL s c = spl c s := by
  unfold splitL
  rw [Lib.splitB_data]
  have e : Lib.countB ⟨s.toArray⟩ ⟨#[c]⟩ = s.count c := by
    unfold Lib.countB
    rw [show (⟨s.toArray⟩ : ByteArray).data.toList = s by simp]
    exact Lib.count_one c s
  rw [e]
  simpa using splitK_spl c s
theorem spl_len (c : UInt8) : ∀ s : List UInt8, ∀ p ∈ spl c s, p.length ≤ s.length
  | [], p, h => by simp [spl] at h; simp [h]
  | x :: t, p, h => by
    have ih := spl_len c t
    rw [spl] at h
    split at h
    · rcases List.mem_cons.1 h with rfl | h
      · simp
      · have := ih p h; simp only [List.length_cons]; omega
    · rcases List.mem_cons.1 h with rfl | h
      · cases hs : spl c t with
        | nil => exact absurd hs (spl_ne c t)
        | cons a r =>
          have := ih a (by rw [hs]; simp)
          simp only [List.headD_cons, List.length_cons]; omega
      · have := ih p (List.mem_of_mem_tail h); simp only [List.length_cons]; omega
/-- the parts, joined again -/
theorem spl_join (c : UInt8) : ∀ s : List UInt8, List.intercalate [c] (spl c s) = s
  | [] => rfl
  | x :: t => by
    have ih := spl_join c t
    have hne := spl_ne c t
    rw [spl]
    cases hs : spl c t with
    | nil => exact absurd hs hne
    | cons a r =>
      rw [hs] at ih
      split
      · rename_i h; subst h
        rw [← ih]
        simp [List.intercalate, List.intersperse]
      · rw [← ih]
        cases r <;> simp [List.intercalate, List.intersperse]

def noInq : Inq := ⟨[], [], [], []⟩
@[push_cast] theorem noInq_me : noInq.me = [] := rfl
@[push_cast] theorem noInq_tg : noInq.tg = [] := rfl
@[push_cast] theorem noInq_hd : noInq.hd = [] := rfl
@[push_cast] theorem noInq_bd : noInq.bd = [] := rfl
def wWeb : List UInt8 := [87, 69, 66, 47, 49]
/-- the three words of a request's first line -/
def rqW (b : List UInt8) : List (List UInt8) := splitL (lnS b 0) 32
def rqOk (b : List UInt8) : Bool := lnB b 0 && decide ((rqW b).length = 3) && ((rqW b).getD 0 [] != []) && ((rqW b).getD 1 [] != []) && ((rqW b).getD 2 [] == wWeb)
def rqH (b : List UInt8) : List Hd × Nat × Bool := rhL b (b.length + 1) (lnN b 0) []
def rqI (b : List UInt8) : Inq := ⟨(rqW b).getD 0 [], (rqW b).getD 1 [], (rqH b).1, b.drop (rqH b).2.1⟩
/-- a request, read: it, the place of an error, the error -/
def rqL (b : List UInt8) : Inq × Nat × Int := if 400000 < b.length then (noInq, 0, 2) else if rqOk b = true then (if (rqH b).2.2 = true then (if checkInqL (rqI b) = 0 then (rqI b, 0, 0) else (noInq, 0, checkInqL (rqI b))) else (noInq, (rqH b).2.1, 10)) else (noInq, 0, 10)
def hdsLe (n : Nat) (l : List Hd) : Prop := ∀ h ∈ l, h.name.length ≤ n ∧ h.value.length ≤ n
theorem hdV_le (s : List UInt8) : (hdV s).name.length ≤ s.length ∧ (hdV s).value.length ≤ s.length := by
  unfold hdV
  split
  · unfold hdCut Lib.cut
    split <;> simp <;> omega
  · simp
theorem lnS_le (b : List UInt8) {a : Nat} (ha : a ≤ b.length) : (lnS b a).length ≤ b.length := by
  cases h : lnB b a with
  | true => have := ln_fit ha h; omega
  | false =>
    unfold lnB at h
    unfold lnS
    cases hs : lineS (b.drop a) with
    | none => simp
    | some s => rw [hs] at h; cases h
theorem rh_fit {b : List UInt8} : ∀ (k a : Nat) (out : List Hd), a ≤ b.length → hdsLe b.length out → (rhL b k a out).2.1 ≤ b.length ∧ hdsLe b.length (rhL b k a out).1 ∧ (rhL b k a out).1.length ≤ out.length + k
  | 0, a, out, ha, ho => by simp [rhL, hdsLe]
  | k + 1, a, out, ha, ho => by
    rw [rhL]
    split
    · simp [hdsLe]
    split
    · simp [hdsLe]; omega
    rename_i h1 h2
    have hB : lnB b a = true := by simpa using h2
    have hf := ln_fit ha hB
    split
    · refine ⟨hf.2.1, ho, by simp⟩
    split
    · simp [hdsLe]; omega
    · have := rh_fit k (lnN b a) (out ++ [hdV (lnS b a)]) hf.2.1 (fun h hh => by
        rcases List.mem_append.1 hh with hh | hh
        · exact ho h hh
        · rw [List.mem_singleton] at hh; subst hh
          have h3 := hdV_le (lnS b a)
          have h4 := lnS_le b ha
          omega)
      refine ⟨this.1, this.2.1, ?_⟩
      have h5 := this.2.2
      simp only [List.length_append, List.length_singleton] at h5; omega
theorem drop_by {b : List UInt8} {p : Nat} (hp : p ≤ b.length) : ByI (b.length - p) (fun i => shF (byF b) p i) (b.drop p) := by
  have h := ByI.sh (ByI.by b) (l := p) (k := b.length - p) (by omega)
  rw [List.take_of_length_le (by simp)] at h
  exact h
@[push_cast] theorem kill_shby (d p : Nat) (s : List UInt8) (i : Nat) : V.kill d (shF (byF s) p i) = shF (byF s) p i := rfl
@[push_cast] theorem men_shby (d p : Nat) (s : List UInt8) (i : Nat) : V.men d (shF (byF s) p i) = false := rfl
def ckReadReq : Ck
  | [.sl n f] => some (isBy n f ∧ n ≤ 4611686018427387900, .tup [cInq.enc (rqL (bytesOf n f)).1, .int .i64 (rqL (bytesOf n f)).2.1, .int .i64 (rqL (bytesOf n f)).2.2])
  | _ => none
theorem conReadReq : Con pg 6 ckReadReq := by
  have hct := (ctA_ok conLine (ctA_ok conSplit (ctA_ok conReadHeads (ctA_ok conCheckInq (ctN_ok _)))))
  intro args q r h hq
  unfold ckReadReq at h
  split at h
  · cases h
    rename_i n f
    refine pcall_args (args' := [.sl (bytesOf n f).length (byF (bytesOf n f))]) ⟨isBy.vle hq.1, trivial⟩ ?_
    have h1 : (bytesOf n f).length ≤ 4611686018427387900 := by rw [bytesOf_len]; exact hq.2
    generalize bytesOf n f = b at h1 ⊢
    refine w6 (fun _ => false) [.frz 71] rfl hct rfl rfl ?_
    push_cast (config := { maxSteps := 10000000 })
    have hln : lnS b 0 = lnS b 0 := rfl
    have hsl := lnS_le b (Nat.zero_le b.length)
    have no : ∀ {p : Nat} {f : Int}, rqL b = (noInq, p, f) → ([] = (rqL b).1.me ∧ [] = (rqL b).1.tg ∧ (rqL b).1.hd.length = 0 ∧ (rqL b).1.bd.length = 0) ∧ p = (rqL b).2.1 ∧ f = (rqL b).2.2 := fun h => by rw [h]; exact ⟨⟨rfl, rfl, rfl, rfl⟩, rfl, rfl⟩
    refine ⟨fun h => ?_, fun h0 => ⟨h1, by omega, fun h => ⟨h, by omega⟩, fun h => ⟨h, by omega⟩, fun h => ⟨h, by omega⟩, fun h => ?_, fun h => ?_⟩⟩
    · have e : rqL b = (noInq, 0, 2) := by unfold rqL; rw [if_pos (by omega)]
      have := no e
      exact ⟨this.1, by rw [e]; rfl, this.2.2⟩
    · have ek : rqOk b = false := by
        unfold rqOk rqW
        rcases h with (((h | h) | h) | h) | h
        · rw [h]; rfl
        · rw [decide_eq_false (by omega)]; simp
        · rw [h]; simp
        · rw [h]; simp
        · rw [show ((splitL (lnS b 0) 32).getD 2 [] == wWeb) = false from beq_eq_false_iff_ne.2 h]; simp
      have e : rqL b = (noInq, 0, 10) := by unfold rqL; rw [if_neg (by omega), if_neg (by simp [ek])]
      have := no e
      exact ⟨this.1, by rw [e]; rfl, this.2.2⟩
    have ek : rqOk b = true := by
      unfold rqOk rqW
      rw [h.1.1.1.1, decide_eq_true (by omega), bne_iff_ne.2 h.1.1.2, bne_iff_ne.2 h.1.2, h.2]; rfl
    have hf := ln_fit (Nat.zero_le b.length) h.1.1.1.1
    have hr := rh_fit (b.length + 1) (lnN b 0) [] hf.2.1 (fun _ hh => by cases hh)
    have e1 : rqL b = if (rqH b).2.2 = true then (if checkInqL (rqI b) = 0 then (rqI b, 0, 0) else (noInq, 0, checkInqL (rqI b))) else (noInq, (rqH b).2.1, 10) := by unfold rqL; rw [if_neg (by omega), if_pos ek]
    have hdb := drop_by hr.1
    have hI : (⟨(splitL (lnS b 0) 32).getD 0 [], (splitL (lnS b 0) 32).getD 1 [], (rhL b (b.length + 1) (lnN b 0) []).1, b.drop (rhL b (b.length + 1) (lnN b 0) []).2.1⟩ : Inq) = rqI b := rfl
    rw [hdb.bytes, hI]
    have hRH : rhL b (b.length + 1) (lnN b 0) [] = rqH b := rfl
    rw [hRH] at hr hdb ⊢
    refine ⟨⟨hf.2.1, by omega⟩, fun h3 => ?_, fun h3 => ⟨by omega, by omega, hr.1, ⟨by omega, by omega⟩, ⟨hdb.is, ?_⟩, hdb.pure, fun h4 => ⟨hdb.pure, ?_⟩, fun h4 => ⟨hdb.pure, ?_⟩⟩⟩
    · exact no (by rw [e1, if_neg (by simp [h3])])
    · have hw : ∀ i, ((splitL (lnS b 0) 32).getD i []).length ≤ (lnS b 0).length := fun i => by
        rw [splitL_eq]
        by_cases hi : i < (spl 32 (lnS b 0)).length
        · rw [List.getD_eq_getElem?_getD, List.getElem?_eq_getElem hi]
          exact spl_len 32 _ _ (List.getElem_mem hi)
        · rw [List.getD_eq_getElem?_getD, List.getElem?_eq_none (by omega)]; simp
      have w0 := hw 0
      have w1 := hw 1
      refine ⟨fun x hx => ?_, ?_, ?_, ?_, ?_⟩
      · have := hr.2.1 x hx; omega
      · show ((splitL (lnS b 0) 32).getD 0 []).length ≤ _; omega
      · show ((splitL (lnS b 0) 32).getD 1 []).length ≤ _; omega
      · show (rqH b).1.length ≤ _; have := hr.2.2; simp only [List.length_nil] at this; omega
      · show (b.drop (rqH b).2.1).length ≤ _; rw [List.length_drop]; omega
    · have e := e1
      rw [if_pos h3, if_neg h4] at e
      have := no e
      exact ⟨this.1, by rw [e]; rfl, this.2.2⟩
    · have e := e1
      rw [if_pos h3, if_pos h4] at e
      rw [e]
      refine ⟨⟨rfl, rfl, ⟨rfl, fun _ _ => rfl⟩, ?_, fun i hi => ?_⟩, rfl, rfl⟩
      · show _ = (b.drop (rqH b).2.1).length; rw [List.length_drop]
      · exact hdb.2 i hi
  · cases h
attribute [push_cast] ckReadReq

def ckWriteHeadsK : List V → List Blk → Option (Prop × V × List Blk)
  | [.vec i n, .sl m f], [.vec 1 k g] => some (k = n ∧ isBy n g ∧ isLs cHd m f ∧ n ≤ 1000000 ∧ m ≤ 1000000 ∧ (headsB (lsOf cHd m f)).length ≤ 100000000000, .vec i (n + (headsB (lsOf cHd m f)).length + 2), [.vec 1 (n + (headsB (lsOf cHd m f)).length + 2) (byF (bytesOf n g ++ headsB (lsOf cHd m f) ++ [13, 10]))])
  | _, _ => none
def ckWriteHeads : Cf := ⟨fun | [.vec i _, _] => [i] | _ => [], ckWriteHeadsK⟩
theorem conWriteHeads : FCon pg 27 ckWriteHeads := by
  have hct := ctN_ok pg
  intro args bs q r bs' h hq
  replace h : ckWriteHeadsK args bs = some (q, r, bs') := h
  unfold ckWriteHeadsK at h
  split at h
  · cases h
    rename_i i n m f k g
    refine ⟨rfl, rfl, ?_⟩
    obtain ⟨rfl, hg, hf, hk, hm, hb⟩ := hq
    refine fcall_args (args' := [.vec (i + 9000) (bytesOf k g).length, .sl (lsOf cHd m f).length (lsF cHd (lsOf cHd m f))]) ⟨VLe.of_eq (by rw [bytesOf_len]; rfl), isLs.vle hf, trivial⟩ ?_
    refine fcall_blk (hm := [(i + 9000, .vec 1 (bytesOf k g).length (byF (bytesOf k g)))]) ⟨rfl, ⟨rfl, (bytesOf_len k g).symm, fun j hj => by show V.shift (g j) = _; rw [hg.2 j hj]; rfl⟩, trivial⟩ ?_
    have hk2 : (bytesOf k g).length ≤ 1000000 := by rw [bytesOf_len]; exact hk
    have hm2 : (lsOf cHd m f).length ≤ 1000000 := by rw [lsOf_len]; exact hm
    have ek : k = (bytesOf k g).length := (bytesOf_len k g).symm
    rw [show k + (headsB (lsOf cHd m f)).length + 2 = (bytesOf k g).length + (headsB (lsOf cHd m f)).length + 2 by rw [← ek]]
    generalize bytesOf k g = b at hk2 ⊢
    generalize lsOf cHd m f = l at hb hm2 ⊢
    show FCall pg 27 [.vec (i + 9000) b.length, .sl l.length (lsF cHd l)] [(i + 9000, .vec 1 b.length (byF b))] (.vec (i + 9000) (b.length + (headsB l).length + 2)) [(i + 9000, .vec 1 (b.length + (headsB l).length + 2) (byF (b ++ headsB l ++ [13, 10])))]
    refine fw27 (fun _ => false) [] rfl hct rfl (by simp) (by simp [hlIn, idsIn, Blk.menIn, V.menInL, V.menIn, V.flat, byF, lsF]) (by simp [V.menIn, V.menInL, idsIn]) ?_
    push_cast (config := { maxSteps := 10000000 })
    refine LoopW.adj ⟨hct, fol⟩ (by kernel_rfl) [] (fun t : Nat × List UInt8 => [(0, .vec (i + 9000) t.2.length), (7, .sl l.length (lsF cHd l)), (8, .int .i64 l.length), (9, .int .i64 t.1)]) (fun t => [(i + 9000, .vec 1 t.2.length (byF t.2))]) (fun t => t.1 ≤ l.length ∧ t.2 ++ headsB (l.drop t.1) = b ++ headsB l) (fun t => l.length - t.1) (0, b) ?_ fun t ht => ?_
    · push_cast (config := { maxSteps := 10000000 })
      exact Nat.zero_le _
    · obtain ⟨j, o⟩ := t
      obtain ⟨h1, h2⟩ : j ≤ l.length ∧ o ++ headsB (l.drop j) = b ++ headsB l := ht
      have hl := congrArg List.length h2
      simp only [List.length_append] at hl
      push_cast (config := { maxSteps := 10000000 })
      refine ⟨fun hlt => ?_, fun hge => ?_⟩
      · have e := dropG (d := ⟨[], []⟩) hlt
        rw [e, headsB] at h2 hl
        clear e
        generalize l.getD j ⟨[], []⟩ = x at *
        have hx : (headB x).length = x.name.length + 2 + x.value.length + 2 := by simp [headB]; omega
        simp only [List.length_append] at hl
        have app := ByI.app (ByI.by o) (ByI.by (headB x)) rfl
        refine ⟨hlt, by omega, by omega, by omega, ⟨by omega, by omega⟩, ⟨by omega, by omega⟩, (j + 1, o ++ headB x), ⟨by show j + 1 ≤ l.length; omega, by rw [← h2]; simp⟩, by show l.length - (j + 1) < l.length - j; omega, ⟨by rw [List.length_append, hx], by simp⟩, by rw [List.length_append, hx], fun i hi => app.2 i (by rw [hx]; omega)⟩
      · rw [List.drop_eq_nil_of_le (by omega)] at h2 hl
        simp only [headsB, List.append_nil, List.length_nil] at h2 hl
        subst h2
        have app := ByI.app (ByI.by (b ++ headsB l)) (ByI.by [13, 10]) rfl
        exact ⟨⟨by omega, by omega⟩, by omega, by omega, app.2⟩
  · cases h
attribute [push_cast] ckWriteHeadsK
@[push_cast] theorem wh_ids (i n : Nat) (x : V) : ckWriteHeads.ids [.vec i n, x] = [i] := rfl
@[push_cast] theorem wh_k (i n : Nat) (m : Nat) (f : Nat → V) (k : Nat) (g : Nat → V) : ckWriteHeads.k [.vec i n, .sl m f] [.vec 1 k g] = some (k = n ∧ isBy n g ∧ isLs cHd m f ∧ n ≤ 1000000 ∧ m ≤ 1000000 ∧ (headsB (lsOf cHd m f)).length ≤ 100000000000, .vec i (n + (headsB (lsOf cHd m f)).length + 2), [.vec 1 (n + (headsB (lsOf cHd m f)).length + 2) (byF (bytesOf n g ++ headsB (lsOf cHd m f) ++ [13, 10]))]) := rfl

def reqP (a : Inq) : List UInt8 := a.me ++ [32] ++ a.tg ++ [32, 87, 69, 66, 47, 49, 13, 10]
def reqB (a : Inq) : List UInt8 := reqP a ++ headsB a.hd ++ [13, 10] ++ a.bd
def reqA (a : Inq) : List UInt8 := if checkInqL a = 0 then reqB a else []
theorem inq_ok {a : Inq} (h : checkInqL a = 0) : a.me.length ≤ 40 ∧ a.tg.length ≤ 2000 ∧ a.hd.length ≤ 100 ∧ (headsB a.hd).length ≤ 104400 ∧ a.bd.length ≤ 200000 := by
  unfold checkInqL at h
  split at h
  · rename_i h1
    split at h
    · rename_i h2
      split at h
      · rename_i h3
        split at h
        · simp only [tokL, targetL, Bool.and_eq_true, decide_eq_true_eq] at h1 h2
          exact ⟨by omega, by omega, heads_100 h3, heads_le h3, by omega⟩
        · omega
      · omega
    · omega
  · omega
def ckReq : Ck
  | [x] => some (isC cInq x ∧ inqOk (cInq.dec x), .tup [.sl (reqA (cInq.dec x)).length (byF (reqA (cInq.dec x))), .int .i64 (checkInqL (cInq.dec x))])
  | _ => none
end Go.Abs
