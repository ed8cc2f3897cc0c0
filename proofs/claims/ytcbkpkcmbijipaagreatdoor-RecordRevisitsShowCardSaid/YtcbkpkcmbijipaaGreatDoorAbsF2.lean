/- what functions of this program compute: contracts, each a function's own -/
import Derived.Test.YtcbkpkcmbijipaaGreatDoorAbsK3
import Derived.Test.YtcbkpkcmbijipaaGreatDoorAbsFacts
import Derived.Test.YtcbkpkcmbijipaaGreatDoorAbsF1
import Derived.Test.YtcbkpkcmbijipaaGreatDoorAbsShelf
import Derived.Lib.SlTrimSet
import Derived.Lib.Atoi
import Derived.Lib.Itoa
import Derived.Lib.ItoaNum
import Derived.Lib.AtoiErrMem
import Derived.Lib.Repeat
import Derived.Lib.ItoaLen
import Derived.Lib.Fold
namespace Go.Abs
open Go Go.Proofs
set_option maxHeartbeats 4000000
set_option maxRecDepth 100000
set_option linter.unusedVariables false
set_option linter.unusedSimpArgs false
/- rows of digits -/
def isDg (c : UInt8) : Bool := decide (48 ≤ c.toNat ∧ c.toNat ≤ 57)
def digs : List UInt8 := [48, 49, 50, 51, 52, 53, 54, 55, 56, 57]
theorem digs_has (c : UInt8) : digs.contains c = isDg c := by
  have key : ∀ n, n < 256 → digs.contains (UInt8.ofNat n) = isDg (UInt8.ofNat n) := by decide +kernel
  have := key c.toNat (UInt8.toNat_lt c)
  simpa using this
theorem dropW_nil {p : UInt8 → Bool} : ∀ {l : List UInt8}, l.dropWhile p = [] ↔ ∀ x ∈ l, p x = true
  | [] => by simp
  | a :: l => by
    rw [List.dropWhile_cons]
    cases h : p a with
    | true => simp only [if_true, dropW_nil, List.mem_cons, forall_eq_or_imp, h, true_and]
    | false => simp [h]
theorem dropW_head {p : UInt8 → Bool} : ∀ {l : List UInt8} {a : UInt8} {t : List UInt8}, l.dropWhile p = a :: t → p a = false
  | [], _, _, h => by simp at h
  | b :: l, a, t, h => by
    rw [List.dropWhile_cons] at h
    cases hb : p b with
    | true => rw [hb] at h; exact dropW_head h
    | false => rw [hb] at h; simp only [Bool.false_eq_true, if_false, List.cons.injEq] at h; rw [← h.1]; exact hb
theorem dropW_sub {p : UInt8 → Bool} : ∀ {l : List UInt8} {x : UInt8}, x ∈ l.dropWhile p → x ∈ l
  | [], _, h => by simp at h
  | b :: l, x, h => by
    rw [List.dropWhile_cons] at h
    split at h
    · exact List.mem_cons_of_mem _ (dropW_sub h)
    · exact h
theorem snoc_ind {α : Type} {P : List α → Prop} (h0 : P []) (h : ∀ s c, P s → P (s ++ [c])) (s : List α) : P s := by
  have : ∀ t : List α, P t.reverse := by
    intro t
    induction t with
    | nil => exact h0
    | cons a t ih => rw [List.reverse_cons]; exact h _ _ ih
  simpa using this s.reverse
theorem trimS_nil (s cs : List UInt8) : Lib.trimS s cs = [] ↔ s.all (cs.contains ·) = true := by
  unfold Lib.trimS Lib.trimLeftS Lib.trimRightS
  rw [dropW_nil, List.all_eq_true]
  constructor
  · intro h x hx
    have hr : s.reverse.dropWhile (fun x => cs.contains x) = [] := by
      cases hd : s.reverse.dropWhile (fun x => cs.contains x) with
      | nil => rfl
      | cons a t =>
        have h1 := dropW_head hd
        have h2 := h a (by rw [hd]; simp)
        rw [h1] at h2; cases h2
    rw [dropW_nil] at hr
    exact hr x (by simpa using hx)
  · intro h x hx
    exact h x (by have := dropW_sub (by simpa using hx); simpa using this)
theorem trim_dig (s : List UInt8) : Lib.trimS s digs = [] ↔ s.all isDg = true := by
  rw [trimS_nil]
  have : (fun x => digs.contains x) = isDg := funext digs_has
  rw [this]
def natOf (s : List UInt8) : Nat := s.foldl (fun a c => a * 10 + (c.toNat - 48)) 0
theorem natOf_snoc (s : List UInt8) (c : UInt8) : natOf (s ++ [c]) = natOf s * 10 + (c.toNat - 48) := by simp [natOf, List.foldl_append]
theorem decFrom_dig : ∀ (s : List UInt8) (a : Nat), s.all isDg = true → Lib.decFrom a s = some (s.foldl (fun a c => a * 10 + (c.toNat - 48)) a)
  | [], a, _ => rfl
  | c :: s, a, h => by
    simp only [List.all_cons, Bool.and_eq_true] at h
    have hc : 48 ≤ c.toNat ∧ c.toNat ≤ 57 := of_decide_eq_true h.1
    simp only [Lib.decFrom, Lib.digitVal, if_pos hc, List.foldl_cons]
    exact decFrom_dig s _ h.2
theorem atoi_dig {s : List UInt8} (h0 : s ≠ []) (h : s.all isDg = true) : Lib.atoi s = some (natOf s : Int) := by
  cases s with
  | nil => exact absurd rfl h0
  | cons c s =>
    have hc : 48 ≤ c.toNat ∧ c.toNat ≤ 57 := of_decide_eq_true (by simp only [List.all_cons, Bool.and_eq_true] at h; exact h.1)
    have h1 : (c == 45) = false := by
      simp only [beq_eq_false_iff_ne]; intro e; subst e; revert hc; decide
    have h2 : (c == 43) = false := by
      simp only [beq_eq_false_iff_ne]; intro e; subst e; revert hc; decide
    unfold Lib.atoi
    simp only [h1, h2, Bool.false_eq_true, if_false]
    unfold Lib.decNat
    simp only [List.isEmpty_cons, Bool.false_eq_true, if_false]
    rw [decFrom_dig _ _ h]
    rfl
theorem natOf_lt (s : List UInt8) : s.all isDg = true → natOf s < 10 ^ s.length := by
  refine snoc_ind (P := fun s => s.all isDg = true → natOf s < 10 ^ s.length) (fun _ => by simp [natOf]) (fun s c ih h => ?_) s
  simp only [List.all_append, List.all_cons, List.all_nil, Bool.and_true, Bool.and_eq_true] at h
  have hc : 48 ≤ c.toNat ∧ c.toNat ≤ 57 := of_decide_eq_true h.2
  have := ih h.1
  rw [natOf_snoc, List.length_append, List.length_singleton, Nat.pow_succ]
  omega
/-- digits, from 1 to n of them, without a needless 0 -/
def digL (s : List UInt8) (n : Int) : Bool := decide (1 ≤ s.length) && decide ((s.length : Int) ≤ n) && s.all isDg && (decide (s.getD 0 0 ≠ 48) || s == [48])
theorem itoa_nat (n : Nat) : Lib.itoa (n : Int) = Lib.decDigits n := by unfold Lib.itoa; rw [if_neg (by omega)]; simp
theorem dec_step {n : Nat} (h : 10 ≤ n) : Lib.decDigits n = Lib.decDigits (n / 10) ++ [UInt8.ofNat (48 + n % 10)] := by
  rw [Lib.decDigits, dif_neg (by omega)]
theorem dec_small {n : Nat} (h : n < 10) : Lib.decDigits n = [UInt8.ofNat (48 + n)] := by
  rw [Lib.decDigits, dif_pos h]
theorem natOf_pos {s : List UInt8} (h : s.all isDg = true) (h0 : 1 ≤ s.length) (h1 : s.getD 0 0 ≠ 48) : 1 ≤ natOf s := by
  revert h h0 h1
  refine snoc_ind (P := fun s => s.all isDg = true → 1 ≤ s.length → s.getD 0 0 ≠ 48 → 1 ≤ natOf s) (fun _ h => by simp at h) (fun s c ih h _ h1 => ?_) s
  simp only [List.all_append, List.all_cons, List.all_nil, Bool.and_true, Bool.and_eq_true] at h
  have hc : 48 ≤ c.toNat ∧ c.toNat ≤ 57 := of_decide_eq_true h.2
  rw [natOf_snoc]
  cases s with
  | nil =>
    simp only [List.nil_append, List.getD_cons_zero] at h1
    have : c.toNat ≠ 48 := fun e => h1 (UInt8.toNat_inj.1 e)
    omega
  | cons a s =>
    have := ih h.1 (by simp) (by simpa using h1)
    omega
/-- a number's digits are written as they were read -/
theorem dec_natOf {s : List UInt8} (h : s.all isDg = true) (h0 : 1 ≤ s.length) (h1 : s.getD 0 0 ≠ 48 ∨ s.length = 1) : Lib.decDigits (natOf s) = s := by
  revert h h0 h1
  refine snoc_ind (P := fun s => s.all isDg = true → 1 ≤ s.length → (s.getD 0 0 ≠ 48 ∨ s.length = 1) → Lib.decDigits (natOf s) = s) (fun _ h => by simp at h) (fun s c ih h _ h1 => ?_) s
  simp only [List.all_append, List.all_cons, List.all_nil, Bool.and_true, Bool.and_eq_true] at h
  have hc : 48 ≤ c.toNat ∧ c.toNat ≤ 57 := of_decide_eq_true h.2
  have hcc : UInt8.ofNat (48 + (c.toNat - 48)) = c := by rw [show 48 + (c.toNat - 48) = c.toNat by omega]; simp
  rw [natOf_snoc]
  cases s with
  | nil =>
    simp only [natOf, List.foldl_nil, Nat.zero_mul, Nat.zero_add, List.nil_append]
    rw [dec_small (by omega), hcc]
  | cons a s =>
    have h48 : (a :: s).getD 0 0 ≠ 48 := by
      rcases h1 with h1 | h1
      · simpa using h1
      · simp at h1
    have hp := natOf_pos h.1 (by simp) h48
    rw [dec_step (by omega), show (natOf (a :: s) * 10 + (c.toNat - 48)) / 10 = natOf (a :: s) by omega, show (natOf (a :: s) * 10 + (c.toNat - 48)) % 10 = c.toNat - 48 by omega, hcc, ih h.1 (by simp) (.inl h48)]
theorem dec_dig (n : Nat) : (Lib.decDigits n).all isDg = true ∧ natOf (Lib.decDigits n) = n ∧ 1 ≤ (Lib.decDigits n).length ∧ ((Lib.decDigits n).getD 0 0 ≠ 48 ∨ (Lib.decDigits n).length = 1) ∧ (10 ≤ n → (Lib.decDigits n).getD 0 0 ≠ 48) := by
  have one : ∀ m, m < 10 → isDg (UInt8.ofNat (48 + m)) = true ∧ (UInt8.ofNat (48 + m)).toNat = 48 + m := fun m hm => by
    have e : (UInt8.ofNat (48 + m)).toNat = 48 + m := by rw [UInt8.toNat_ofNat']; omega
    exact ⟨decide_eq_true (by omega), e⟩
  induction n using Nat.strongRecOn with
  | _ n ih =>
    by_cases h : n < 10
    · rw [dec_small h]
      obtain ⟨a, b⟩ := one n h
      refine ⟨by simp only [List.all_cons, a, List.all_nil, Bool.and_true], by simp only [natOf, List.foldl_cons, List.foldl_nil, b]; omega, by simp, .inr rfl, fun h => by omega⟩
    · rw [dec_step (by omega)]
      obtain ⟨a, b⟩ := one (n % 10) (by omega)
      obtain ⟨i1, i2, i3, i4, i5⟩ := ih (n / 10) (by omega)
      have hg : (Lib.decDigits (n / 10)).getD 0 0 ≠ 48 := by
        by_cases h10 : n / 10 < 10
        · rw [dec_small h10]
          simp only [List.getD_cons_zero]
          intro e
          have := congrArg UInt8.toNat e
          rw [(one (n / 10) h10).2] at this
          have : (48 : UInt8).toNat = 48 := rfl
          omega
        · exact i5 (by omega)
      have hg2 : (Lib.decDigits (n / 10) ++ [UInt8.ofNat (48 + n % 10)]).getD 0 0 ≠ 48 := by
        cases hd : Lib.decDigits (n / 10) with
        | nil => rw [hd] at i3; simp at i3
        | cons x t => rw [hd] at hg; simpa using hg
      refine ⟨by simp only [List.all_append, i1, List.all_cons, a, List.all_nil, Bool.and_true], by rw [natOf_snoc, i2, b]; omega, by simp, .inl hg2, fun _ => hg2⟩
theorem dec_len : ∀ (k n : Nat), n < 10 ^ (k + 1) → (Lib.decDigits n).length ≤ k + 1
  | 0, n, h => by rw [dec_small (by omega)]; simp
  | k + 1, n, h => by
    by_cases h1 : n < 10
    · rw [dec_small h1]; simp
    · rw [dec_step (by omega)]
      have := dec_len k (n / 10) (by rw [Nat.pow_succ] at h; omega)
      simp; omega

/-- what is asked -/
structure Inq where
  me : List UInt8
  tg : List UInt8
  hd : List Hd
  bd : List UInt8
deriving DecidableEq
def decInq : V → Inq
  | .agg [.str me, .str tg, .sl n f, .sl m g] => ⟨me, tg, lsOf cHd n f, bytesOf m g⟩
  | _ => ⟨[], [], [], []⟩
def cInq : Cod Inq := ⟨fun a => .agg [.str a.me, .str a.tg, .sl a.hd.length (lsF cHd a.hd), .sl a.bd.length (byF a.bd)], decInq, ⟨[], [], [], []⟩, fun a => by simp [decInq, lsOf_ls, bytesOf_by]⟩
@[push_cast] theorem enc_inq (a : Inq) : cInq.enc a = .agg [.str a.me, .str a.tg, .sl a.hd.length (lsF cHd a.hd), .sl a.bd.length (byF a.bd)] := rfl
@[push_cast] theorem dec_inq (me tg : List UInt8) (n m : Nat) (f g : Nat → V) : cInq.dec (.agg [.str me, .str tg, .sl n f, .sl m g]) = ⟨me, tg, lsOf cHd n f, bytesOf m g⟩ := rfl
theorem isC_inq {me tg : List UInt8} {n m : Nat} {f g : Nat → V} (h1 : isLs cHd n f) (h2 : isBy m g) : isC cInq (.agg [.str me, .str tg, .sl n f, .sl m g]) :=
  VLe.agg ⟨VLe.refl _, VLe.refl _, isLs.vle h1, isBy.vle h2, trivial⟩
@[push_cast] theorem isC_inqT (a : Inq) : isC cInq (.agg [.str a.me, .str a.tg, .sl a.hd.length (lsF cHd a.hd), .sl a.bd.length (byF a.bd)]) = True := eq_true (isC_enc cInq a)
@[push_cast] theorem inq_eta (a : Inq) : (⟨a.me, a.tg, a.hd, a.bd⟩ : Inq) = a := rfl
def inqOk (a : Inq) : Prop := hdsOk a.hd ∧ a.me.length ≤ 140737488355328 ∧ a.tg.length ≤ 140737488355328 ∧ a.hd.length ≤ 140737488355328 ∧ a.bd.length ≤ 140737488355328
theorem shInq {m : Nat} {v : V} (h : Sh.has (.tup [.str, .str, .list (.tup [.str, .str]), .list (.int .u8)]) m v) : isC cInq v ∧ inqOk (cInq.dec v) := by
  obtain ⟨l, ms, rfl, -, hl⟩ := h
  obtain ⟨m1, v1, ms, l, rfl, h1, hl⟩ := hasL_cons hl
  obtain ⟨m2, v2, ms, l, rfl, h2, hl⟩ := hasL_cons hl
  obtain ⟨m3, v3, ms, l, rfl, h3, hl⟩ := hasL_cons hl
  obtain ⟨m4, v4, ms, l, rfl, h4, hl⟩ := hasL_cons hl
  obtain rfl := hasL_nil hl
  obtain ⟨me, rfl, b1⟩ := shStr h1
  obtain ⟨tg, rfl, b2⟩ := shStr h2
  obtain ⟨n, f, rfl, i3, b3, k3⟩ := shList (c := cHd) (fun m v h => shHead h) h3
  obtain ⟨k, g, rfl, i4, b4⟩ := shBytes h4
  have := reach_le
  refine ⟨isC_inq i3 i4, ?_⟩
  show inqOk ⟨me, tg, lsOf cHd n f, bytesOf k g⟩
  refine ⟨k3, b1, b2, ?_, ?_⟩
  · show (lsOf cHd n f).length ≤ _
    rw [lsOf_len]; exact b3
  · show (bytesOf k g).length ≤ _
    rw [bytesOf_len]; omega
/-- heads, written -/
def headB (h : Hd) : List UInt8 := h.name ++ [58, 32] ++ h.value ++ [13, 10]
def headsB : List Hd → List UInt8
  | [] => []
  | h :: l => headB h ++ headsB l
theorem headsB_snoc (l : List Hd) (h : Hd) : headsB (l ++ [h]) = headsB l ++ headB h := by
  induction l with
  | nil => simp [headsB]
  | cons x l ih => simp [headsB, ih, List.append_assoc]

/-- a record -/
structure Rcd where
  ki : Int
  id : List UInt8
  ow : List UInt8
  ti : Int
  ke : List UInt8
  hd : List Hd
  bd : List UInt8
deriving DecidableEq
def noRec : Rcd := ⟨0, [], [], 0, [], [], []⟩
def decRec : V → Rcd
  | .agg [.int _ ki, .str id, .str ow, .int _ ti, .str ke, .sl n f, .sl m g] => ⟨ki, id, ow, ti, ke, lsOf cHd n f, bytesOf m g⟩
  | _ => noRec
def cRec : Cod Rcd := ⟨fun a => .agg [.int .i64 a.ki, .str a.id, .str a.ow, .int .i64 a.ti, .str a.ke, .sl a.hd.length (lsF cHd a.hd), .sl a.bd.length (byF a.bd)], decRec, noRec, fun a => by simp [decRec, lsOf_ls, bytesOf_by]⟩
@[push_cast] theorem enc_rec (a : Rcd) : cRec.enc a = .agg [.int .i64 a.ki, .str a.id, .str a.ow, .int .i64 a.ti, .str a.ke, .sl a.hd.length (lsF cHd a.hd), .sl a.bd.length (byF a.bd)] := rfl
@[push_cast] theorem dec_rec (k k' : IntKind) (ki ti : Int) (id ow ke : List UInt8) (n m : Nat) (f g : Nat → V) : cRec.dec (.agg [.int k ki, .str id, .str ow, .int k' ti, .str ke, .sl n f, .sl m g]) = ⟨ki, id, ow, ti, ke, lsOf cHd n f, bytesOf m g⟩ := rfl
theorem isC_rec {ki ti : Int} {id ow ke : List UInt8} {n m : Nat} {f g : Nat → V} (h1 : isLs cHd n f) (h2 : isBy m g) : isC cRec (.agg [.int .i64 ki, .str id, .str ow, .int .i64 ti, .str ke, .sl n f, .sl m g]) :=
  VLe.agg ⟨VLe.refl _, VLe.refl _, VLe.refl _, VLe.refl _, VLe.refl _, isLs.vle h1, isBy.vle h2, trivial⟩
@[push_cast] theorem isC_recT (a : Rcd) : isC cRec (.agg [.int .i64 a.ki, .str a.id, .str a.ow, .int .i64 a.ti, .str a.ke, .sl a.hd.length (lsF cHd a.hd), .sl a.bd.length (byF a.bd)]) = True := eq_true (isC_enc cRec a)
@[push_cast] theorem rec_eta (a : Rcd) : (⟨a.ki, a.id, a.ow, a.ti, a.ke, a.hd, a.bd⟩ : Rcd) = a := rfl
def recOk (a : Rcd) : Prop := hdsOk a.hd ∧ a.id.length ≤ 140737488355328 ∧ a.ow.length ≤ 140737488355328 ∧ a.ke.length ≤ 140737488355328 ∧ a.hd.length ≤ 140737488355328 ∧ a.bd.length ≤ 140737488355328 ∧ -9223372036854775808 ≤ a.ti ∧ a.ti ≤ 9223372036854775807 ∧ -9223372036854775808 ≤ a.ki ∧ a.ki ≤ 9223372036854775807
theorem shRec {m : Nat} {v : V} (h : Sh.has (.tup [.int .i64, .str, .str, .int .i64, .str, .list (.tup [.str, .str]), .list (.int .u8)]) m v) : isC cRec v ∧ recOk (cRec.dec v) := by
  obtain ⟨l, ms, rfl, -, hl⟩ := h
  obtain ⟨m1, v1, ms, l, rfl, h1, hl⟩ := hasL_cons hl
  obtain ⟨m2, v2, ms, l, rfl, h2, hl⟩ := hasL_cons hl
  obtain ⟨m3, v3, ms, l, rfl, h3, hl⟩ := hasL_cons hl
  obtain ⟨m4, v4, ms, l, rfl, h4, hl⟩ := hasL_cons hl
  obtain ⟨m5, v5, ms, l, rfl, h5, hl⟩ := hasL_cons hl
  obtain ⟨m6, v6, ms, l, rfl, h6, hl⟩ := hasL_cons hl
  obtain ⟨m7, v7, ms, l, rfl, h7, hl⟩ := hasL_cons hl
  obtain rfl := hasL_nil hl
  obtain ⟨ki, rfl, c1⟩ := shInt h1
  obtain ⟨id, rfl, b2⟩ := shStr h2
  obtain ⟨ow, rfl, b3⟩ := shStr h3
  obtain ⟨ti, rfl, c4⟩ := shInt h4
  obtain ⟨ke, rfl, b5⟩ := shStr h5
  obtain ⟨n, f, rfl, i6, b6, k6⟩ := shList (c := cHd) (fun m v h => shHead h) h6
  obtain ⟨k, g, rfl, i7, b7⟩ := shBytes h7
  have := reach_le
  simp only [Lit.wf, Bool.and_eq_true, decide_eq_true_eq] at c1 c4
  refine ⟨isC_rec i6 i7, ?_⟩
  show recOk ⟨ki, id, ow, ti, ke, lsOf cHd n f, bytesOf k g⟩
  refine ⟨k6, b2, b3, b5, ?_, ?_, c4.1, c4.2, c1.1, c1.2⟩
  · show (lsOf cHd n f).length ≤ _
    rw [lsOf_len]; exact b6
  · show (bytesOf k g).length ≤ _
    rw [bytesOf_len]; omega
/-- a name -/
def nmB (c : UInt8) : Bool := decide (97 ≤ c.toNat ∧ c.toNat ≤ 122 ∨ 48 ≤ c.toNat ∧ c.toNat ≤ 57 ∨ c.toNat = 45)
def smB (c : UInt8) : Bool := decide (97 ≤ c.toNat ∧ c.toNat ≤ 122)
def nameL (s : List UInt8) : Bool := decide (1 ≤ s.length) && decide (s.length ≤ 40) && smB (s.getD 0 0) && s.all nmB
def nmS : List UInt8 := [97, 98, 99, 100, 101, 102, 103, 104, 105, 106, 107, 108, 109, 110, 111, 112, 113, 114, 115, 116, 117, 118, 119, 120, 121, 122, 48, 49, 50, 51, 52, 53, 54, 55, 56, 57, 45]
theorem nmS_has (c : UInt8) : nmS.contains c = nmB c := by
  have key : ∀ n, n < 256 → nmS.contains (UInt8.ofNat n) = nmB (UInt8.ofNat n) := by decide +kernel
  have := key c.toNat (UInt8.toNat_lt c)
  simpa using this
theorem trim_nm (s : List UInt8) : Lib.trimS s nmS = [] ↔ s.all nmB = true := by
  rw [trimS_nil]
  have : (fun x => nmS.contains x) = nmB := funext nmS_has
  rw [this]
/-- a record's digest -/
def mixS (n : Int) (c : UInt8) : Int := bitsI .xor .u64 n (c.toNat % 18446744073709551616) * 1099511628211 % 18446744073709551616
def mixL (s : List UInt8) : Int := s.foldl mixS 14695981039346656037
theorem mix_b (s : List UInt8) : 0 ≤ mixL s ∧ mixL s < 18446744073709551616 := by
  have : ∀ (s : List UInt8) (n : Int), (0 ≤ n ∧ n < 18446744073709551616) → 0 ≤ s.foldl mixS n ∧ s.foldl mixS n < 18446744073709551616 := by
    intro s
    induction s with
    | nil => intro n h; exact h
    | cons c t ih => intro n h; rw [List.foldl_cons]; exact ih _ (by unfold mixS; omega)
  exact this s _ (by omega)
theorem mixL_snoc (s : List UInt8) (c : UInt8) : mixL (s ++ [c]) = mixS (mixL s) c := by simp [mixL, List.foldl_append]
theorem andF (n : Int) (h0 : 0 ≤ n) (h : n < 18446744073709551616) : bitsI .and .u64 n 15 = n % 16 := by
  obtain ⟨u, rfl⟩ : ∃ u : Nat, n = u := ⟨n.toNat, by omega⟩
  show IntKind.u64.wrap (((BitVec.ofInt 64 (u : Int) &&& BitVec.ofInt 64 15 : BitVec 64).toNat : Nat) : Int) = _
  have e3 : (BitVec.ofInt 64 (u : Int) &&& BitVec.ofInt 64 15 : BitVec 64).toNat = u % 16 := by
    rw [BitVec.ofInt_natCast, BitVec.toNat_and, show (BitVec.ofInt 64 15 : BitVec 64).toNat = 2 ^ 4 - 1 from rfl, BitVec.toNat_ofNat, Nat.mod_eq_of_lt (by omega), Nat.and_two_pow_sub_one_eq_mod]
  rw [e3, wrap_u64]
  omega
theorem shrF (n : Int) (h0 : 0 ≤ n) : n.fdiv (2 ^ min 4 IntKind.u64.bits) = n / 16 := by
  rw [show (2 : Int) ^ min 4 IntKind.u64.bits = 16 from rfl, Int.fdiv_eq_ediv_of_nonneg _ (by omega)]
def hexT : List UInt8 := [48, 49, 50, 51, 52, 53, 54, 55, 56, 57, 97, 98, 99, 100, 101, 102]
def hex16 (n : Int) : List UInt8 := (List.range 16).map fun j => hexT.getD ((n / 16 ^ (15 - j)) % 16).toNat 0
def digestL (s : List UInt8) : List UInt8 := hex16 (mixL s)
theorem hex16_len (n : Int) : (hex16 n).length = 16 := by simp [hex16]
/-- the words of the lines of a record's own -/
def ownW : List (List UInt8) := [[105, 100], [111, 102], [107, 105, 110, 100], [100, 97, 116, 101], [107, 101, 121], [108, 101, 110, 103, 116, 104], [100, 105, 103, 101, 115, 116]]
def kindW : List (List UInt8) := [[105, 110, 102, 111], [114, 101, 113, 117, 101, 115, 116], [97, 110, 115, 119, 101, 114], [114, 101, 118, 105, 115, 105, 116], [112, 105, 101, 99, 101]]
def ownH (lw : List UInt8 → List UInt8) (l : List Hd) : Bool := l.any fun h => ownW.contains (lw h.name)
def hexD (n : Int) : UInt8 := hexT.getD (n % 16).toNat 0
/-- the lines of a record -/
def lnB2 (w v : List UInt8) : List UInt8 := w ++ [58, 32] ++ v ++ [13, 10]

def valB (c : UInt8) : Bool := decide (c.toNat = 9 ∨ 32 ≤ c.toNat ∧ c.toNat ≤ 126)
def valueL (s : List UInt8) : Bool := decide (s.length ≤ 1000) && (Lib.trimS s [32, 9] == s) && s.all valB
def ckMTrim : Ck
  | [.str s] => some (s.length ≤ 4611686018427387904, .str (Lib.trimS s [32, 9]))
  | _ => none
theorem conMTrim : Con pg 93 ckMTrim := by
  have hct := (ctA_ok conTrim (ctN_ok _))
  intro args q r h hq
  unfold ckMTrim at h
  split at h
  · cases h
    rename_i s
    refine w93 (fun _ => false) [] rfl hct rfl rfl ?_
    push_cast (config := { maxSteps := 10000000 })
    exact hq
  · cases h
attribute [push_cast] ckMTrim
def ckIsValue : Ck
  | [.str s] => some (s.length ≤ 4611686018427387904, .bool (valueL s))
  | _ => none
theorem valueL_no {s : List UInt8} (h : s.all valB = false) : false = valueL s := by unfold valueL; rw [h, Bool.and_false]
theorem conIsValue : Con pg 74 ckIsValue := by
  have hct := (ctA_ok conMTrim (ctN_ok _))
  intro args q r h hq
  unfold ckIsValue at h
  split at h
  · cases h
    rename_i s
    refine w74 (fun _ => false) [] rfl hct rfl rfl ?_
    push_cast (config := { maxSteps := 10000000 })
    refine ⟨fun h => ⟨h, hq⟩, fun h => ?_, fun h => ?_⟩
    · unfold valueL
      rcases h with h | h
      · rw [show decide (s.length ≤ 1000) = false from decide_eq_false (by omega)]; rfl
      · rw [show (Lib.trimS s [32, 9] == s) = false by simpa using h]; simp
    · refine LoopW.adj ⟨hct, fol⟩ (by kernel_rfl) [] (fun i : Nat => [(0, .str s), (14, .int .i64 s.length), (15, .int .i64 i)]) (fun _ => []) (fun i => i ≤ s.length ∧ ∀ j, j < i → valB (s.getD j 0) = true) (fun i => s.length - i) 0 ?_ fun i hi => ?_
      · push_cast (config := { maxSteps := 10000000 })
        exact Nat.zero_le _
      · push_cast (config := { maxSteps := 10000000 })
        obtain ⟨h1, h2⟩ := hi
        (repeat' (first | apply And.intro | intro _)) <;> (try first | assumption | contradiction | omega | exact rfl | exact trivial)
        · rename_i a b
          exact valueL_no (all_no' (d := 0) a (by unfold valB; exact decide_eq_false (by omega)))
        · rename_i a b
          refine ⟨i + 1, ⟨by omega, fun j hj => ?_⟩, by omega, by omega⟩
          by_cases e : j = i
          · subst e
            refine decide_eq_true (Classical.byContradiction fun hn => ?_)
            have := b (by omega)
            omega
          · exact h2 j (by omega)
        · unfold valueL
          rw [all_at' fun j hj => h2 j (by omega), show decide (s.length ≤ 1000) = true from decide_eq_true (by omega), show (Lib.trimS s [32, 9] == s) = true by simpa using h.2]; rfl
  · cases h
attribute [push_cast] ckIsValue
theorem conIsValue2 : Con pg 83 ckIsValue := by
  have hct := (ctA_ok conTrim (ctN_ok _))
  intro args q r h hq
  unfold ckIsValue at h
  split at h
  · cases h
    rename_i s
    refine w83 (fun _ => false) [] rfl hct rfl rfl ?_
    push_cast (config := { maxSteps := 10000000 })
    refine LoopW.adj ⟨hct, fol⟩ (by kernel_rfl) [] (fun i : Nat => [(0, .str s), (3, .int .i64 i)]) (fun _ => []) (fun i => i ≤ s.length ∧ ∀ j, j < i → valB (s.getD j 0) = true) (fun i => s.length - i) 0 ?_ fun i hi => ?_
    · push_cast (config := { maxSteps := 10000000 })
      exact Nat.zero_le _
    · push_cast (config := { maxSteps := 10000000 })
      obtain ⟨h1, h2⟩ := hi
      (repeat' (first | apply And.intro | intro _)) <;> (try first | assumption | contradiction | omega | exact rfl | exact trivial)
      · rename_i a b
        exact valueL_no (all_no' (d := 0) a (by unfold valB; exact decide_eq_false (by omega)))
      · rename_i a b
        refine ⟨i + 1, ⟨by omega, fun j hj => ?_⟩, by omega, by omega⟩
        by_cases e : j = i
        · subst e
          refine decide_eq_true (Classical.byContradiction fun hn => ?_)
          have := b (by omega)
          omega
        · exact h2 j (by omega)
      · unfold valueL
        rw [all_at' fun j hj => h2 j (by omega), Bool.and_true]
        congr 1
        exact decide_eq_decide.2 (by omega)
  · cases h

def headsGo : List Hd → Int
  | [] => 0
  | h :: t => if tokL h.name = true then (if valueL h.value = true then headsGo t else 3) else 5
def checkHeadsL (l : List Hd) : Int := if 100 < l.length then 2 else headsGo l
def ckCheckHeads : Ck
  | [.sl n f] => some (isLs cHd n f ∧ hdsOk (lsOf cHd n f), .int .i64 (checkHeadsL (lsOf cHd n f)))
  | _ => none
theorem headsGo_tok {l : List Hd} {i : Nat} (hi : i < l.length) (h : ¬ tokL (l.getD i ⟨[], []⟩).name = true) : headsGo (l.drop i) = 5 := by
  rw [dropG (d := ⟨[], []⟩) hi, headsGo, if_neg h]
theorem headsGo_val {l : List Hd} {i : Nat} (hi : i < l.length) (h : tokL (l.getD i ⟨[], []⟩).name = true) (h2 : ¬ valueL (l.getD i ⟨[], []⟩).value = true) : headsGo (l.drop i) = 3 := by
  rw [dropG (d := ⟨[], []⟩) hi, headsGo, if_pos h, if_neg h2]
theorem headsGo_next {l : List Hd} {i : Nat} (hi : i < l.length) (h : tokL (l.getD i ⟨[], []⟩).name = true) (h2 : valueL (l.getD i ⟨[], []⟩).value = true) : headsGo (l.drop i) = headsGo (l.drop (i + 1)) := by
  rw [dropG (d := ⟨[], []⟩) hi, headsGo, if_pos h, if_pos h2]
theorem conCheckHeads : Con pg 51 ckCheckHeads := by
  have hct := (ctA_ok conIsToken (ctA_ok conIsValue (ctN_ok _)))
  intro args q r h hq
  unfold ckCheckHeads at h
  split at h
  · cases h
    rename_i n f
    refine pcall_args (args' := [.sl (lsOf cHd n f).length (lsF cHd (lsOf cHd n f))]) ⟨isLs.vle hq.1, trivial⟩ ?_
    obtain ⟨-, hl⟩ := hq
    generalize lsOf cHd n f = l at hl ⊢
    refine w51 (fun _ => false) [] rfl hct rfl rfl ?_
    push_cast (config := { maxSteps := 10000000 })
    refine ⟨fun h => ?_, fun h => ?_⟩
    · unfold checkHeadsL; rw [if_pos (by omega)]
    have e0 : checkHeadsL l = headsGo l := by unfold checkHeadsL; rw [if_neg (by omega)]
    rw [e0]
    refine LoopW.adj ⟨hct, fol⟩ (by kernel_rfl) [] (fun i : Nat => [(8, .sl l.length (lsF cHd l)), (9, .int .i64 l.length), (10, .int .i64 i)]) (fun _ => []) (fun i => i ≤ l.length ∧ headsGo (l.drop i) = headsGo l) (fun i => l.length - i) 0 ?_ fun i hi => ?_
    · push_cast (config := { maxSteps := 10000000 })
      exact Nat.zero_le _
    · push_cast (config := { maxSteps := 10000000 })
      obtain ⟨h1, h2⟩ := hi
      refine ⟨fun hlt => ?_, fun hlt => ?_⟩
      · have hb := hdsOk_at hl hlt
        (repeat' (first | apply And.intro | intro _)) <;> (try first | assumption | contradiction | omega | exact rfl | exact trivial)
        · rw [← h2, headsGo_tok hlt (by simp_all)]
        · rw [← h2, headsGo_val hlt (by assumption) (by simp_all)]
        · refine ⟨i + 1, ⟨by omega, ?_⟩, by omega, by omega⟩
          rw [← h2, headsGo_next hlt (by assumption) (by assumption)]
      · rw [← h2, List.drop_eq_nil_of_le (by omega)]; rfl
  · cases h
attribute [push_cast] ckCheckHeads
theorem conCheckHeads2 : Con pg 67 ckCheckHeads := by
  have hct := (ctA_ok conIsToken2 (ctA_ok conIsValue2 (ctN_ok _)))
  intro args q r h hq
  unfold ckCheckHeads at h
  split at h
  · cases h
    rename_i n f
    refine pcall_args (args' := [.sl (lsOf cHd n f).length (lsF cHd (lsOf cHd n f))]) ⟨isLs.vle hq.1, trivial⟩ ?_
    obtain ⟨-, hl⟩ := hq
    generalize lsOf cHd n f = l at hl ⊢
    refine w67 (fun _ => false) [] rfl hct rfl rfl ?_
    push_cast (config := { maxSteps := 10000000 })
    refine ⟨fun h => ?_, fun h => ?_⟩
    · unfold checkHeadsL; rw [if_pos (by omega)]
    have e0 : checkHeadsL l = headsGo l := by unfold checkHeadsL; rw [if_neg (by omega)]
    rw [e0]
    refine LoopW.adj ⟨hct, fol⟩ (by kernel_rfl) [] (fun i : Nat => [(0, .sl l.length (lsF cHd l)), (3, .int .i64 i)]) (fun _ => []) (fun i => i ≤ l.length ∧ headsGo (l.drop i) = headsGo l) (fun i => l.length - i) 0 ?_ fun i hi => ?_
    · push_cast (config := { maxSteps := 10000000 })
      exact Nat.zero_le _
    · push_cast (config := { maxSteps := 10000000 })
      obtain ⟨h1, h2⟩ := hi
      refine ⟨fun hlt => ?_, fun hlt => ?_⟩
      · have hb := hdsOk_at hl hlt
        (repeat' (first | apply And.intro | intro _)) <;> (try first | assumption | contradiction | omega | exact rfl | exact trivial)
        · rw [← h2, headsGo_tok hlt (by simp_all)]
        · rw [← h2, headsGo_val hlt (by assumption) (by simp_all)]
        · refine ⟨i + 1, ⟨by omega, ?_⟩, by omega, by omega⟩
          rw [← h2, headsGo_next hlt (by assumption) (by assumption)]
      · rw [← h2, List.drop_eq_nil_of_le (by omega)]; rfl
  · cases h

def valuesL (l : List Hd) (name : List UInt8) : List (List UInt8) := (l.filter fun h => lowL h.name == name).map Hd.value
def ckValues : Ck
  | [.sl n f, .str name] => some (isLs cHd n f ∧ hdsOk (lsOf cHd n f) ∧ n ≤ 1000000, .sl (valuesL (lsOf cHd n f) name).length (lsF cStr (valuesL (lsOf cHd n f) name)))
  | _ => none
theorem valuesL_hit {l : List Hd} {i : Nat} {name : List UInt8} (hi : i < l.length) (h : lowL (l.getD i ⟨[], []⟩).name = name) : valuesL (l.drop i) name = (l.getD i ⟨[], []⟩).value :: valuesL (l.drop (i + 1)) name := by
  unfold valuesL
  rw [dropG (d := ⟨[], []⟩) hi, List.filter_cons, if_pos (beq_iff_eq.2 h), List.map_cons]
theorem valuesL_miss {l : List Hd} {i : Nat} {name : List UInt8} (hi : i < l.length) (h : ¬ lowL (l.getD i ⟨[], []⟩).name = name) : valuesL (l.drop i) name = valuesL (l.drop (i + 1)) name := by
  unfold valuesL
  rw [dropG (d := ⟨[], []⟩) hi, List.filter_cons, if_neg (fun e => h (beq_iff_eq.1 e))]
theorem valuesL_le (l : List Hd) (name : List UInt8) : (valuesL l name).length ≤ l.length := by
  unfold valuesL; rw [List.length_map]; exact List.length_filter_le _ _
attribute [push_cast] ckValues
theorem conValues2 : Con pg 39 ckValues := by
  have hct := (ctA_ok conSmall (ctN_ok _))
  intro args q r h hq
  unfold ckValues at h
  split at h
  · cases h
    rename_i n f name
    refine pcall_args (args' := [.sl (lsOf cHd n f).length (lsF cHd (lsOf cHd n f)), .str name]) ⟨isLs.vle hq.1, VLe.refl _, trivial⟩ ?_
    obtain ⟨-, hl, hn⟩ := hq
    have hn2 : (lsOf cHd n f).length ≤ 1000000 := by rw [lsOf_len]; exact hn
    generalize lsOf cHd n f = l at hl hn2 ⊢
    refine w39 (fun _ => false) [.frz 90] rfl hct rfl rfl ?_
    push_cast (config := { maxSteps := 10000000 })
    refine LoopW.adj ⟨hct, fol⟩ (by kernel_rfl) [.nv 5 90 1 (lsF cStr [])] (fun t : Nat × List (List UInt8) => [(0, .sl l.length (lsF cHd l)), (1, .str name), (5, .vec 90 t.2.length), (6, .int .i64 t.1)]) (fun t => [(90, .vec 1 t.2.length (lsF cStr t.2))]) (fun t => t.1 ≤ l.length ∧ t.2.length ≤ t.1 ∧ t.2 ++ valuesL (l.drop t.1) name = valuesL l name) (fun t => l.length - t.1) (0, []) ?_ fun t ht => ?_
    · push_cast (config := { maxSteps := 10000000 })
      exact Nat.zero_le _
    · obtain ⟨i, o⟩ := t
      obtain ⟨h1, h2, h3⟩ : i ≤ l.length ∧ o.length ≤ i ∧ o ++ valuesL (l.drop i) name = valuesL l name := ht
      push_cast (config := { maxSteps := 10000000 })
      refine ⟨fun hlt => ?_, fun hlt => ?_⟩
      · have hb := hdsOk_at hl hlt
        (repeat' (first | apply And.intro | intro _)) <;> (try first | assumption | contradiction | omega | exact rfl | exact trivial)
        · exact ⟨(i + 1, o ++ [(l.getD i ⟨[], []⟩).value]), ⟨by show i + 1 ≤ l.length; omega, by simp; omega, by rw [← h3, valuesL_hit hlt (by assumption)]; simp⟩, by show l.length - (i + 1) < l.length - i; omega, ⟨by simp, by simp⟩, LsI.app (c := cStr) (LsI.ls o) (LsI.one (c := cStr) rfl) (by simp)⟩
        · exact ⟨(i + 1, o), ⟨by show i + 1 ≤ l.length; omega, by show o.length ≤ i + 1; omega, by rw [← h3, valuesL_miss hlt (by assumption)]⟩, by show l.length - (i + 1) < l.length - i; omega, ⟨rfl, by simp⟩, LsI.ls (c := cStr) o⟩
      · have e : o = valuesL l name := by rw [← h3, List.drop_eq_nil_of_le (by omega)]; simp [valuesL]
        rw [← e]
        exact ⟨rfl, fun _ _ => rfl⟩
  · cases h

def ckAtoi : Ck
  | [.str s] => some (1 ≤ s.length ∧ s.length ≤ 18 ∧ s.all isDg = true, .tup [.int .i64 (natOf s), .any])
  | _ => none
theorem conAtoi : Con pg 77 ckAtoi := by
  intro args q r h hq
  unfold ckAtoi at h
  split at h
  · cases h
    rename_i s
    refine pcall_shelf (by kernel_rfl) rfl fun w hw => (Tryz.strconv_Atoi ⟨s.toArray⟩ (natOf s) (by show s.toArray.size ≤ _; have := hq.2.1; simp; omega) ?_ w).mono fun e w' h => ?_
    · exact atoi_dig (show s ≠ [] from fun e => by have := hq.1; rw [e] at this; simp at this) hq.2.2
    · obtain ⟨he, t, rfl⟩ := h
      exact ⟨_, he, grow_below (Lib.bytesWorld_below _ _ _), fun γ imm => .tup _ [_, _] rfl fun i hi => by
        match i, hi with
        | 0, _ => exact .pure (.int _ _)
        | 1, _ => exact .any _⟩
  · cases h
attribute [push_cast] ckAtoi

def tgB (c : UInt8) : Bool := decide (33 ≤ c.toNat ∧ c.toNat ≤ 126)
def targetL (s : List UInt8) : Bool := decide (1 ≤ s.length) && decide (s.length ≤ 2000) && s.all tgB
theorem targetL_no {s : List UInt8} (h : s.all tgB = false) : false = targetL s := by unfold targetL; rw [h, Bool.and_false]
def ckIsTarget : Ck
  | [.str s] => some (s.length ≤ 4611686018427387904, .bool (targetL s))
  | _ => none
attribute [push_cast] ckIsTarget
def ckDigits : Ck
  | [.str s, .int .i64 n] => some (s.length ≤ 4611686018427387904, .bool (digL s n))
  | _ => none
theorem conDigits : Con pg 76 ckDigits := by
  have hct := (ctA_ok conTrim (ctN_ok _))
  intro args q r h hq
  unfold ckDigits at h
  split at h
  · cases h
    rename_i s n
    refine w76 (fun _ => false) [] rfl hct rfl rfl ?_
    push_cast (config := { maxSteps := 10000000 })
    refine ⟨fun h => ⟨h, hq⟩, fun h => ⟨h, by have := h.1.1; omega⟩, fun h => ⟨h, fun h2 => ⟨h, h2⟩⟩, ?_⟩
    unfold digL
    have e1 : (Lib.trimS s [48, 49, 50, 51, 52, 53, 54, 55, 56, 57] == []) = s.all isDg := by
      rw [Bool.eq_iff_iff, beq_iff_eq]; exact trim_dig s
    have e2 : (((s.getD 0 0).toNat : Int) != 48) = decide (s.getD 0 0 ≠ 48) := by
      rw [Bool.eq_iff_iff, bne_iff_ne, decide_eq_true_eq, ne_eq, ne_eq, u8_eq]; rfl
    rw [e1, e2]
    congr 3
    exact decide_eq_decide.2 (by omega)
  · cases h
attribute [push_cast] ckDigits
def lenV : List (List UInt8) → Int × Bool
  | [v] => if digL v 1000 = true then (if 9 < v.length then (200001, true) else (min (natOf v : Int) 200001, true)) else (0, false)
  | _ => (0, false)
def lengthL (l : List Hd) : Int × Bool := lenV (valuesL l [108, 101, 110, 103, 116, 104])
def ckLength : Ck
  | [.sl n f] => some (isLs cHd n f ∧ hdsOk (lsOf cHd n f) ∧ n ≤ 1000000, .tup [.int .i64 (lengthL (lsOf cHd n f)).1, .bool (lengthL (lsOf cHd n f)).2])
  | _ => none
theorem valuesL_ok {l : List Hd} (h : hdsOk l) (name : List UInt8) : ∀ v ∈ valuesL l name, v.length ≤ 140737488355328 := by
  intro v hv
  simp only [valuesL, List.mem_map, List.mem_filter] at hv
  obtain ⟨x, ⟨hx, _⟩, rfl⟩ := hv
  exact (h x hx).2
theorem digL_all {v : List UInt8} {n : Int} (h : digL v n = true) : 1 ≤ v.length ∧ (v.length : Int) ≤ n ∧ v.all isDg = true ∧ (v.getD 0 0 ≠ 48 ∨ v = [48]) := by
  simp only [digL, Bool.and_eq_true, Bool.or_eq_true, decide_eq_true_eq, beq_iff_eq] at h
  exact ⟨h.1.1.1, h.1.1.2, h.1.2, h.2⟩
attribute [push_cast] ckLength
def wLen : List UInt8 := [108, 101, 110, 103, 116, 104]
def wCod : List UInt8 := [99, 111, 100, 105, 110, 103]
/-- the length that the heads say is not the body's, or a coding is named -/
def clashL (l : List Hd) (n : Nat) : Bool := (!((valuesL l wLen).length == 0 && n == 0) && !(valuesL l wLen == [Lib.itoa n])) || !((valuesL l wCod).length == 0)
def checkInqL (a : Inq) : Int := if tokL a.me = true then (if targetL a.tg = true then (if checkHeadsL a.hd = 0 then (if a.bd.length ≤ 200000 then (if clashL a.hd a.bd.length = true then 12 else 0) else 2) else checkHeadsL a.hd) else 3) else 5
theorem lenV_eq {l : List (List UInt8)} {n : Nat} (h : n ≤ 200000) : (lenV l).2 = true ∧ (lenV l).1 = n ↔ l = [Lib.itoa n] := by
  rw [itoa_nat]
  match l with
  | [] => simp [lenV]
  | a :: b :: r => simp [lenV]
  | [v] =>
    have hd := dec_dig n
    have hl := dec_len 5 n (by omega)
    constructor
    · intro ⟨h1, h2⟩
      unfold lenV at h1 h2
      simp only at h1 h2
      split at h1
      · rename_i hv
        rw [if_pos hv] at h2
        have hq := digL_all hv
        split at h2
        · simp only at h2; omega
        · simp only at h2
          have : natOf v = n := by omega
          have e := dec_natOf hq.2.2.1 hq.1 (hq.2.2.2.imp id fun e => by rw [e]; rfl)
          rw [← this, e]
      · cases h1
    · intro e
      obtain rfl : v = Lib.decDigits n := by simpa using e
      have hv : digL (Lib.decDigits n) 1000 = true := by
        simp only [digL, Bool.and_eq_true, Bool.or_eq_true, decide_eq_true_eq, beq_iff_eq]
        refine ⟨⟨⟨hd.2.2.1, by omega⟩, hd.1⟩, ?_⟩
        by_cases h10 : 10 ≤ n
        · exact .inl (hd.2.2.2.2 h10)
        · by_cases h0 : n = 0
          · subst h0; exact .inr (by rw [dec_small (by omega)]; rfl)
          · refine .inl ?_
            rw [dec_small (by omega)]
            intro e
            have := congrArg UInt8.toNat e
            simp only [List.getD_cons_zero] at this
            rw [UInt8.toNat_ofNat'] at this
            have : (48 : UInt8).toNat = 48 := rfl
            omega
      simp only [lenV, hv, if_true]
      rw [if_neg (by omega)]
      exact ⟨rfl, by rw [hd.2.1]; omega⟩
theorem itoa_len {n : Nat} (h : n ≤ 200000) : (Lib.itoa n).length ≤ 6 := by rw [itoa_nat]; exact dec_len 5 n (by omega)
theorem clash_iff {l : List Hd} {n : Nat} : clashL l n = true ↔ (((valuesL l wLen).length : Int) = 0 → ¬ (n : Int) = 0) ∧ ¬ valuesL l wLen = [Lib.itoa n] ∨ 0 < ((valuesL l wCod).length : Int) := by
  simp only [clashL, Bool.or_eq_true, Bool.and_eq_true, Bool.not_eq_true', Bool.and_eq_false_iff, beq_eq_false_iff_ne, ne_eq]
  constructor
  · rintro (⟨h1, h2⟩ | h)
    · exact .inl ⟨fun a b => by rcases h1 with h1 | h1 <;> omega, h2⟩
    · exact .inr (by omega)
  · rintro (⟨h1, h2⟩ | h)
    · refine .inl ⟨?_, h2⟩
      by_cases e : (valuesL l wLen).length = 0
      · exact .inr fun e2 => h1 (by omega) (by omega)
      · exact .inl e
    · exact .inr (by omega)
theorem clash_len {l : List Hd} {n : Nat} (h : n ≤ 200000) : clashL l n = true ↔ (((valuesL l wLen).length : Int) = 0 → ¬ (n : Int) = 0) ∧ ((lengthL l).2 = false ∨ ¬ (lengthL l).1 = n) ∨ 0 < ((valuesL l wCod).length : Int) := by
  have e : (¬ valuesL l wLen = [Lib.itoa n]) ↔ ((lengthL l).2 = false ∨ ¬ (lengthL l).1 = n) := by
    rw [← lenV_eq h, Decidable.not_and_iff_or_not, Bool.not_eq_true]; rfl
  rw [clash_iff, e]
theorem sing_iff {l : List (List UInt8)} {x : List UInt8} : l = [x] ↔ (l.length : Int) = 1 ∧ l.getD 0 [] = x := by
  match l with
  | [] => simp
  | [a] => simp
  | a :: b :: r => simp; omega
theorem clash_ref {l : List Hd} {n : Nat} : clashL l n = true ↔ (((valuesL l wLen).length : Int) = 0 → ¬ (n : Int) = 0) ∧ (¬ ((valuesL l wLen).length : Int) = 1 ∨ ¬ (valuesL l wLen).getD 0 [] = Lib.itoa n) ∨ 0 < ((valuesL l wCod).length : Int) := by
  rw [clash_iff, sing_iff, Decidable.not_and_iff_or_not]
theorem heads_100 {l : List Hd} (h : checkHeadsL l = 0) : l.length ≤ 100 := by
  unfold checkHeadsL at h
  split at h
  · omega
  · omega
theorem headsGo_le : ∀ {l : List Hd}, headsGo l = 0 → (headsB l).length ≤ l.length * 1044
  | [], _ => by simp [headsB]
  | h :: t, e => by
    simp only [headsGo] at e
    split at e
    · rename_i h1
      split at e
      · rename_i h2
        have ih := headsGo_le e
        simp only [tokL, valueL, Bool.and_eq_true, decide_eq_true_eq] at h1 h2
        simp only [headsB, headB, List.length_append, List.length_cons, List.length_nil]
        omega
      · omega
    · omega
theorem heads_le {l : List Hd} (h : checkHeadsL l = 0) : (headsB l).length ≤ 104400 := by
  have h1 := heads_100 h
  unfold checkHeadsL at h
  rw [if_neg (by omega)] at h
  have := headsGo_le h
  omega
def ckInq : Ck
  | [.agg [.str me, .str tg, .sl n f, .sl m g]] => some (isLs cHd n f ∧ isBy m g ∧ inqOk ⟨me, tg, lsOf cHd n f, bytesOf m g⟩, .int .i64 (checkInqL ⟨me, tg, lsOf cHd n f, bytesOf m g⟩))
  | _ => none
attribute [push_cast] ckInq
def ownL (l : List Hd) : Bool := l.any fun h => ownW.contains (lowL h.name)
theorem values_ne {l : List Hd} {w : List UInt8} : 0 < ((valuesL l w).length : Int) ↔ ∃ h ∈ l, lowL h.name = w := by
  unfold valuesL
  rw [List.length_map]
  constructor
  · intro h
    have : (l.filter fun h => lowL h.name == w) ≠ [] := fun e => by rw [e] at h; simp at h
    obtain ⟨x, hx⟩ := List.exists_mem_of_ne_nil _ this
    rw [List.mem_filter, beq_iff_eq] at hx
    exact ⟨x, hx⟩
  · rintro ⟨x, h1, h2⟩
    have : x ∈ l.filter fun h => lowL h.name == w := List.mem_filter.2 ⟨h1, beq_iff_eq.2 h2⟩
    have := List.length_pos_of_mem this
    omega
theorem own_iff {l : List Hd} : ownL l = true ↔ ∃ w ∈ ownW, 0 < ((valuesL l w).length : Int) := by
  unfold ownL
  rw [List.any_eq_true]
  constructor
  · rintro ⟨h, h1, h2⟩
    rw [List.contains_iff_mem] at h2
    exact ⟨_, h2, values_ne.2 ⟨h, h1, rfl⟩⟩
  · rintro ⟨w, h1, h2⟩
    obtain ⟨h, h3, rfl⟩ := values_ne.1 h2
    exact ⟨h, h3, List.contains_iff_mem.2 h1⟩
/-- the error of a record -/
def checkRecL (r : Rcd) : Int :=
  if r.ki < 1 ∨ 5 < r.ki then 4
  else if ¬ (nameL r.id = true ∧ (r.ow = [] ∨ nameL r.ow = true)) then 5
  else if r.ow = r.id ∨ (r.ow = [] ∧ (r.ki = 4 ∨ r.ki = 5)) ∨ (r.ow ≠ [] ∧ r.ki = 1) then 12
  else if ¬ (0 ≤ r.ti ∧ r.ti ≤ 253402300799) then 1
  else if ¬ targetL r.ke = true then 3
  else if 30 < r.hd.length then 2
  else if ¬ checkHeadsL r.hd = 0 then checkHeadsL r.hd
  else if ownL r.hd = true then 12
  else if 200000 < r.bd.length then 2
  else if 0 < r.bd.length ∧ r.ki = 4 then 3 else 0
theorem rec_ok {r : Rcd} (h : checkRecL r = 0) : 1 ≤ r.ki ∧ r.ki ≤ 5 ∧ nameL r.id = true ∧ (r.ow = [] ∨ nameL r.ow = true) ∧ 0 ≤ r.ti ∧ r.ti ≤ 253402300799 ∧ targetL r.ke = true ∧ r.hd.length ≤ 30 ∧ checkHeadsL r.hd = 0 ∧ r.bd.length ≤ 200000 := by
  unfold checkRecL at h
  by_cases c1 : r.ki < 1 ∨ 5 < r.ki
  · rw [if_pos c1] at h; omega
  rw [if_neg c1] at h
  by_cases c2 : ¬ (nameL r.id = true ∧ (r.ow = [] ∨ nameL r.ow = true))
  · rw [if_pos c2] at h; omega
  rw [if_neg c2] at h
  by_cases c3 : r.ow = r.id ∨ (r.ow = [] ∧ (r.ki = 4 ∨ r.ki = 5)) ∨ (r.ow ≠ [] ∧ r.ki = 1)
  · rw [if_pos c3] at h; omega
  rw [if_neg c3] at h
  by_cases c4 : ¬ (0 ≤ r.ti ∧ r.ti ≤ 253402300799)
  · rw [if_pos c4] at h; omega
  rw [if_neg c4] at h
  by_cases c5 : ¬ targetL r.ke = true
  · rw [if_pos c5] at h; omega
  rw [if_neg c5] at h
  by_cases c6 : 30 < r.hd.length
  · rw [if_pos c6] at h; omega
  rw [if_neg c6] at h
  by_cases c7 : ¬ checkHeadsL r.hd = 0
  · rw [if_pos c7] at h; exact absurd h c7
  rw [if_neg c7] at h
  by_cases c8 : ownL r.hd = true
  · rw [if_pos c8] at h; omega
  rw [if_neg c8] at h
  by_cases c9 : 200000 < r.bd.length
  · rw [if_pos c9] at h; omega
  exact ⟨by omega, by omega, (Classical.not_not.1 c2).1, (Classical.not_not.1 c2).2, by omega, by omega, Classical.not_not.1 c5, by omega, Classical.not_not.1 c7, by omega⟩
def wKept : List UInt8 := [75, 69, 80, 84, 47, 49, 13, 10]
/-- the lines ahead of a record's heads, and behind them -/
def recP (r : Rcd) : List UInt8 := wKept ++ lnB2 [105, 100] r.id ++ (if r.ow = [] then [] else lnB2 [111, 102] r.ow) ++ lnB2 [107, 105, 110, 100] (kindW.getD (r.ki - 1).toNat []) ++ lnB2 [100, 97, 116, 101] (dateTextL r.ti) ++ lnB2 [107, 101, 121] r.ke
def recQ (r : Rcd) : List UInt8 := lnB2 [108, 101, 110, 103, 116, 104] (Lib.itoa r.bd.length) ++ lnB2 [100, 105, 103, 101, 115, 116] (digestL r.bd) ++ [13, 10]
def recB (r : Rcd) : List UInt8 := recP r ++ headsB r.hd ++ recQ r ++ r.bd ++ [13, 10, 13, 10]

def idxL (l : List (List UInt8)) (w : List UInt8) : Int := match l.findIdx? (· == w) with
  | some k => k
  | none => -1
theorem idxL_at {l : List (List UInt8)} {w : List UInt8} {i : Nat} (hi : i < l.length) (h : w = l.getD i []) (hn : ∀ j, j < i → ¬ w = l.getD j []) : idxL l w = i := by
  unfold idxL
  have : l.findIdx? (· == w) = some i := by
    rw [List.findIdx?_eq_some_iff_getElem]
    refine ⟨hi, ?_, fun j hj => ?_⟩
    · rw [List.getD_eq_getElem?_getD, List.getElem?_eq_getElem hi] at h; simp [h]
    · have h1 := hn j hj
      rw [List.getD_eq_getElem?_getD, List.getElem?_eq_getElem (by omega)] at h1
      simp only [Option.getD_some] at h1
      simp only [Bool.not_eq_true, beq_eq_false_iff_ne]
      exact fun e => h1 e.symm
  rw [this]
theorem idxL_no {l : List (List UInt8)} {w : List UInt8} (hn : ∀ j, j < l.length → ¬ w = l.getD j []) : idxL l w = -1 := by
  unfold idxL
  have : l.findIdx? (· == w) = none := by
    rw [List.findIdx?_eq_none_iff]
    intro x hx
    obtain ⟨j, hj, rfl⟩ := List.getElem_of_mem hx
    have h1 := hn j hj
    rw [List.getD_eq_getElem?_getD, List.getElem?_eq_getElem hj] at h1
    simp only [Option.getD_some] at h1
    exact beq_eq_false_iff_ne.2 fun e => h1 e.symm
  rw [this]
def ckIndexStr : Ck
  | [.sl n f, .str w] => some (isLs cStr n f ∧ n ≤ 4611686018427387904, .int .i64 (idxL (lsOf cStr n f) w))
  | _ => none
theorem conIndexStr : Con pg 58 ckIndexStr := by
  have hct := ctN_ok pg
  intro args q r h hq
  unfold ckIndexStr at h
  split at h
  · cases h
    rename_i n f w
    refine pcall_args (args' := [.sl (lsOf cStr n f).length (lsF cStr (lsOf cStr n f)), .str w]) ⟨isLs.vle hq.1, VLe.refl _, trivial⟩ ?_
    have hn : (lsOf cStr n f).length ≤ 4611686018427387904 := by rw [lsOf_len]; exact hq.2
    generalize lsOf cStr n f = a at hn ⊢
    refine w58 (fun _ => false) [] rfl hct rfl rfl ?_
    push_cast (config := { maxSteps := 10000000 })
    refine LoopW.adj ⟨hct, fol⟩ (by kernel_rfl) [] (fun i : Nat => [(0, .sl a.length (lsF cStr a)), (1, .str w), (7, .int .i64 a.length), (8, .int .i64 i)]) (fun _ => []) (fun i => i ≤ a.length ∧ ∀ j, j < i → ¬ w = a.getD j []) (fun i => a.length - i) 0 ?_ fun i hi => ?_
    · push_cast (config := { maxSteps := 10000000 })
      exact Nat.zero_le _
    · push_cast (config := { maxSteps := 10000000 })
      obtain ⟨h1, h2⟩ := hi
      refine ⟨fun h => ⟨h, fun h3 => (idxL_at h h3 h2).symm, fun h3 => ⟨by omega, i + 1, ⟨by omega, fun j hj => ?_⟩, by omega, by omega⟩⟩, fun h => (idxL_no fun j hj => h2 j (by omega)).symm⟩
      by_cases e : j = i
      · subst e; exact h3
      · exact h2 j (by omega)
  · cases h
attribute [push_cast] ckIndexStr

def ckName : Ck
  | [.str s] => some (s.length ≤ 4611686018427387900, .bool (nameL s))
  | _ => none
theorem conIsName : Con pg 48 ckName := by
  have hct := (ctA_ok conTrim (ctN_ok _))
  intro args q r h hq
  unfold ckName at h
  split at h
  · cases h
    rename_i s
    refine w48 (fun _ => false) [] rfl hct rfl rfl ?_
    push_cast (config := { maxSteps := 10000000 })
    refine ⟨fun h => ⟨h, by omega⟩, fun h => ⟨h, by omega⟩, fun h => ⟨h, by omega⟩, ?_⟩
    have e := trim_nm s
    unfold nmS at e
    rw [Bool.eq_iff_iff]
    simp only [nameL, smB, Bool.and_eq_true, decide_eq_true_eq, beq_iff_eq, e]
    exact ⟨fun ⟨⟨⟨⟨a, b⟩, c⟩, d⟩, f⟩ => ⟨⟨⟨by omega, by omega⟩, by omega, by omega⟩, f⟩, fun ⟨⟨⟨a, b⟩, c, d⟩, f⟩ => ⟨⟨⟨⟨by omega, by omega⟩, by omega⟩, by omega⟩, f⟩⟩
  · cases h
attribute [push_cast] ckName
theorem conIsName2 : Con pg 65 ckName := by
  have hct := ctN_ok pg
  intro args q r h hq
  unfold ckName at h
  split at h
  · cases h
    rename_i s
    refine w65 (fun _ => false) [] rfl hct rfl rfl ?_
    push_cast (config := { maxSteps := 10000000 })
    refine LoopW.adj ⟨hct, fol⟩ (by kernel_rfl) [] (fun i : Nat => [(0, .str s), (3, .int .i64 i)]) (fun _ => []) (fun i => i ≤ s.length ∧ (0 < i → smB (s.getD 0 0) = true) ∧ ∀ j, j < i → nmB (s.getD j 0) = true) (fun i => s.length - i) 0 ?_ fun i hi => ?_
    · push_cast (config := { maxSteps := 10000000 })
      exact Nat.zero_le _
    · push_cast (config := { maxSteps := 10000000 })
      obtain ⟨h1, h2, h3⟩ := hi
      refine ⟨fun h => ⟨h, fun a => ⟨a, fun b => ⟨a, b⟩⟩, fun a => ⟨a, fun b => ⟨a, b⟩⟩, fun a => ⟨a, fun b => ⟨a, b⟩⟩, fun a => ?_, fun a => ⟨⟨by omega, by omega⟩, i + 1, ⟨by omega, fun _ => ?_, fun j hj => ?_⟩, by omega, by omega⟩⟩, fun h => ?_⟩
      · have hs : smB (s.getD i 0) = false := decide_eq_false (fun x => a.1 (by omega) (by omega))
        rcases a.2 with a2 | a2
        · obtain rfl : i = 0 := by omega
          unfold nameL; rw [hs]; simp
        · have : nmB (s.getD i 0) = false := decide_eq_false (fun x => by
            rcases x with x | x | x
            · exact a.1 (by omega) (by omega)
            · exact a2.2 (by omega) (by omega)
            · exact a2.1 (by omega))
          unfold nameL; rw [all_no h this]; simp
      · by_cases e : i = 0
        · subst e
          refine decide_eq_true (Classical.byContradiction fun hn => ?_)
          exact (a (fun x y => hn ⟨by omega, by omega⟩)).1 rfl
        · exact h2 (by omega)
      · by_cases e : j = i
        · subst e
          refine decide_eq_true (Classical.byContradiction fun hn => ?_)
          have := a (fun x y => hn (.inl ⟨by omega, by omega⟩))
          have h45 : ¬((s.getD j 0).toNat : Int) = 45 := fun x => hn (.inr (.inr (by omega)))
          have := this.2 h45
          exact hn (.inr (.inl ⟨by omega, by omega⟩))
        · exact h3 j (by omega)
      · unfold nameL
        have ha := all_at fun j hj => h3 j (by omega : j < i)
        cases s with
        | nil => rfl
        | cons c t =>
          rw [ha, h2 (by simp at h; omega), show (c :: t != []) = true from rfl]
          simp
          omega
  · cases h
def ckKey : Ck
  | [.str s] => some (s.length ≤ 4611686018427387900, .bool (targetL s))
  | _ => none
theorem conIsKey : Con pg 50 ckKey := by
  have hct := ctN_ok pg
  intro args q r h hq
  unfold ckKey at h
  split at h
  · cases h
    rename_i s
    refine w50 (fun _ => false) [] rfl hct rfl rfl ?_
    push_cast (config := { maxSteps := 10000000 })
    refine LoopW.adj ⟨hct, fol⟩ (by kernel_rfl) [] (fun i : Nat => [(0, .str s), (5, .int .i64 s.length), (6, .int .i64 i)]) (fun _ => []) (fun i => i ≤ s.length ∧ ∀ j, j < i → tgB (s.getD j 0) = true) (fun i => s.length - i) 0 ?_ fun i hi => ?_
    · push_cast (config := { maxSteps := 10000000 })
      exact Nat.zero_le _
    · push_cast (config := { maxSteps := 10000000 })
      obtain ⟨h1, h2⟩ := hi
      refine ⟨fun h => ⟨h, fun a => ⟨a, h⟩, fun a => ?_, fun a => ⟨⟨by omega, by omega⟩, i + 1, ⟨by omega, fun j hj => ?_⟩, by omega, by omega⟩⟩, fun h => ?_⟩
      · unfold targetL; rw [all_no h (decide_eq_false (by omega))]; simp
      · by_cases e : j = i
        · subst e; exact decide_eq_true (by omega)
        · exact h2 j (by omega)
      · unfold targetL
        rw [all_at fun j hj => h2 j (by omega), Bool.and_true]
        congr 1 <;> exact decide_eq_decide.2 (by omega)
  · cases h
attribute [push_cast] ckKey
def ckWithin6 : Ck
  | [.int .i64 n, .int .i64 a, .int .i64 b] => some (True, .bool (decide (a ≤ n) && decide (n ≤ b)))
  | _ => none
theorem conWithin6 : Con pg 38 ckWithin6 := by
  have hct := ctN_ok pg
  intro args q r h hq
  unfold ckWithin6 at h
  split at h
  · cases h
    rename_i n a b
    refine w38 (fun _ => false) [] rfl hct rfl rfl ?_
    push_cast (config := { maxSteps := 10000000 })
  · cases h
attribute [push_cast] ckWithin6
theorem conIsKey2 : Con pg 66 ckKey := by
  have hct := (ctA_ok conWithin6 (ctN_ok _))
  intro args q r h hq
  unfold ckKey at h
  split at h
  · cases h
    rename_i s
    refine w66 (fun _ => false) [] rfl hct rfl rfl ?_
    push_cast (config := { maxSteps := 10000000 })
    refine LoopW.adj ⟨hct, fol⟩ (by kernel_rfl) [] (fun i : Nat => [(0, .str s), (3, .int .i64 i)]) (fun _ => []) (fun i => i ≤ s.length ∧ ∀ j, j < i → tgB (s.getD j 0) = true) (fun i => s.length - i) 0 ?_ fun i hi => ?_
    · push_cast (config := { maxSteps := 10000000 })
      exact Nat.zero_le _
    · push_cast (config := { maxSteps := 10000000 })
      obtain ⟨h1, h2⟩ := hi
      refine ⟨fun h => ⟨h, fun a => ⟨a, h⟩, fun a => ?_, fun a => ⟨⟨by omega, by omega⟩, i + 1, ⟨by omega, fun j hj => ?_⟩, by omega, by omega⟩⟩, fun h => ?_⟩
      · unfold targetL; rw [all_no h (decide_eq_false (by omega))]; simp
      · by_cases e : j = i
        · subst e; exact decide_eq_true (by omega)
        · exact h2 j (by omega)
      · unfold targetL
        rw [all_at fun j hj => h2 j (by omega), Bool.and_true]
        congr 1 <;> exact decide_eq_decide.2 (by omega)
  · cases h
theorem idx_has (l : List (List UInt8)) (w : List UInt8) : decide (0 ≤ idxL l w) = l.contains w := by
  unfold idxL
  cases h : l.findIdx? (· == w) with
  | none =>
    rw [List.findIdx?_eq_none_iff] at h
    have : l.contains w = false := by
      rw [Bool.eq_false_iff]
      intro hc
      rw [List.contains_iff_mem] at hc
      have := h w hc
      simp at this
    rw [this]; rfl
  | some k =>
    rw [List.findIdx?_eq_some_iff_getElem] at h
    obtain ⟨hk, h1, _⟩ := h
    have : l.contains w = true := by
      rw [List.contains_iff_mem]
      have e := beq_iff_eq.1 h1
      rw [← e]; exact List.getElem_mem hk
    rw [this]
    exact decide_eq_true (Int.natCast_nonneg k)
def ckHasStr : Ck
  | [.sl n f, .str w] => some (isLs cStr n f ∧ n ≤ 4611686018427387904, .bool ((lsOf cStr n f).contains w))
  | _ => none
theorem conHasStr : Con pg 28 ckHasStr := by
  have hct := (ctA_ok conIndexStr (ctN_ok _))
  intro args q r h hq
  unfold ckHasStr at h
  split at h
  · cases h
    rename_i n f w
    refine w28 (fun _ => false) [] rfl hct rfl rfl ?_
    push_cast (config := { maxSteps := 10000000 })
    exact ⟨hq, idx_has _ _⟩
  · cases h
attribute [push_cast] ckHasStr
def ckKinds : Ck
  | [] => some (True, .sl 5 (lsF cStr kindW))
  | _ => none
theorem conKinds : Con pg 54 ckKinds := by
  have hct := ctN_ok pg
  intro args q r h hq
  unfold ckKinds at h
  split at h
  · cases h
    refine w54 (fun _ => false) [] rfl hct rfl rfl ?_
    push_cast (config := { maxSteps := 10000000 })
    intro i hi
    rcases (by omega : i = 0 ∨ i = 1 ∨ i = 2 ∨ i = 3 ∨ i = 4) with rfl | rfl | rfl | rfl | rfl <;> rfl
  · cases h
attribute [push_cast] ckKinds
def ckOwn : Ck
  | [] => some (True, .sl 7 (lsF cStr ownW))
  | _ => none
theorem conOwn : Con pg 52 ckOwn := by
  have hct := ctN_ok pg
  intro args q r h hq
  unfold ckOwn at h
  split at h
  · cases h
    refine w52 (fun _ => false) [] rfl hct rfl rfl ?_
    push_cast (config := { maxSteps := 10000000 })
    intro i hi
    rcases (by omega : i = 0 ∨ i = 1 ∨ i = 2 ∨ i = 3 ∨ i = 4 ∨ i = 5 ∨ i = 6) with rfl | rfl | rfl | rfl | rfl | rfl | rfl <;> rfl
  · cases h
attribute [push_cast] ckOwn
def ckKindW : Ck
  | [.int .i64 k] => some (1 ≤ k ∧ k ≤ 5, .str (kindW.getD (k - 1).toNat []))
  | _ => none
theorem conKindW : Con pg 78 ckKindW := by
  have hct := ctN_ok pg
  intro args q r h hq
  unfold ckKindW at h
  split at h
  · cases h
    rename_i k
    refine w78 (fun _ => false) [] rfl hct rfl rfl ?_
    push_cast (config := { maxSteps := 10000000 })
    rcases (by omega : k = 1 ∨ k = 2 ∨ k = 3 ∨ k = 4 ∨ k = 5) with rfl | rfl | rfl | rfl | rfl <;> exact ⟨⟨by omega, by omega⟩, ⟨by omega, by omega, rfl⟩, Nat.le_refl _, trivial, rfl⟩
  · cases h
attribute [push_cast] ckKindW

end Go.Abs
