/- what functions of this program compute: contracts, each a function's own -/
import Derived.Test.YtgkjefmoaebfaaaDoorAbsK2
import Derived.Test.YtgkjefmoaebfaaaDoorAbsFacts
import Derived.Test.YtgkjefmoaebfaaaDoorAbsF0
import Derived.Test.YtgkjefmoaebfaaaDoorAbsShelf
import Derived.Lib.SlTrimSet
import Derived.Lib.Atoi
import Derived.Lib.Itoa
import Derived.Lib.ItoaNum
import Derived.Lib.SplitLaws
import Derived.Lib.ItoaLen
import Derived.Lib.Walk
import Derived.Deep.RegionLaw
import Derived.Lib.SliceRun
import Derived.Shelf.RegionOpenPlain
namespace Go.Abs
open Go Go.Proofs
set_option maxHeartbeats 4000000
set_option maxRecDepth 100000
set_option linter.unusedVariables false
set_option linter.unusedSimpArgs false
/- rows of digits -/
def isDg (c : UInt8) : Bool := decide (48 ≤ c.toNat ∧ c.toNat ≤ 57)
def digs : List UInt8 := [48, 49, 50, 51, 52, 53, 54, 55, 56, 57]
theorem digs_has (c : UInt8) : digs.contains c = isDg c := by
  have key : ∀ n, n < 256 → digs.contains (UInt8.ofNat n) = isDg (UInt8.ofNat n) := by decide +kernel
  have := key c.toNat (UInt8.toNat_lt c)
  simpa using this
theorem dropW_nil {p : UInt8 → Bool} : ∀ {l : List UInt8}, l.dropWhile p = [] ↔ ∀ x ∈ l, p x = true
  | [] => by simp
  | a :: l => by
    rw [List.dropWhile_cons]
    cases h : p a with
    | true => simp only [if_true, dropW_nil, List.mem_cons, forall_eq_or_imp, h, true_and]
    | false => simp [h]
theorem dropW_head {p : UInt8 → Bool} : ∀ {l : List UInt8} {a : UInt8} {t : List UInt8}, l.dropWhile p = a :: t → p a = false
  | [], _, _, h => by simp at h
  | b :: l, a, t, h => by
    rw [List.dropWhile_cons] at h
    cases hb : p b with
    | true => rw [hb] at h; exact dropW_head h
    | false => rw [hb] at h; simp only [Bool.false_eq_true, if_false, List.cons.injEq] at h; rw [← h.1]; exact hb
theorem dropW_sub {p : UInt8 → Bool} : ∀ {l : List UInt8} {x : UInt8}, x ∈ l.dropWhile p → x ∈ l
  | [], _, h => by simp at h
  | b :: l, x, h => by
    rw [List.dropWhile_cons] at h
    split at h
    · exact List.mem_cons_of_mem _ (dropW_sub h)
    · exact h
theorem snoc_ind {α : Type} {P : List α → Prop} (h0 : P []) (h : ∀ s c, P s → P (s ++ [c])) (s : List α) : P s := by
  have : ∀ t : List α, P t.reverse := by
    intro t
    induction t with
    | nil => exact h0
    | cons a t ih => rw [List.reverse_cons]; exact h _ _ ih
  simpa using this s.reverse
theorem trimS_nil (s cs : List UInt8) : Lib.trimS s cs = [] ↔ s.all (cs.contains ·) = true := by
  unfold Lib.trimS Lib.trimLeftS Lib.trimRightS
  rw [dropW_nil, List.all_eq_true]
  constructor
  · intro h x hx
    have hr : s.reverse.dropWhile (fun x => cs.contains x) = [] := by
      cases hd : s.reverse.dropWhile (fun x => cs.contains x) with
      | nil => rfl
      | cons a t =>
        have h1 := dropW_head hd
        have h2 := h a (by rw [hd]; simp)
        rw [h1] at h2; cases h2
    rw [dropW_nil] at hr
    exact hr x (by simpa using hx)
  · intro h x hx
    exact h x (by have := dropW_sub (by simpa using hx); simpa using this)
theorem trim_dig (s : List UInt8) : Lib.trimS s digs = [] ↔ s.all isDg = true := by
  rw [trimS_nil]
  have : (fun x => digs.contains x) = isDg := funext digs_has
  rw [this]
def natOf (s : List UInt8) : Nat := s.foldl (fun a c => a * 10 + (c.toNat - 48)) 0
theorem natOf_snoc (s : List UInt8) (c : UInt8) : natOf (s ++ [c]) = natOf s * 10 + (c.toNat - 48) := by simp [natOf, List.foldl_append]
theorem decFrom_dig : ∀ (s : List UInt8) (a : Nat), s.all isDg = true → Lib.decFrom a s = some (s.foldl (fun a c => a * 10 + (c.toNat - 48)) a)
  | [], a, _ => rfl
  | c :: s, a, h => by
    simp only [List.all_cons, Bool.and_eq_true] at h
    have hc : 48 ≤ c.toNat ∧ c.toNat ≤ 57 := of_decide_eq_true h.1
    simp only [Lib.decFrom, Lib.digitVal, if_pos hc, List.foldl_cons]
    exact decFrom_dig s _ h.2
theorem atoi_dig {s : List UInt8} (h0 : s ≠ []) (h : s.all isDg = true) : Lib.atoi s = some (natOf s : Int) := by
  cases s with
  | nil => exact absurd rfl h0
  | cons c s =>
    have hc : 48 ≤ c.toNat ∧ c.toNat ≤ 57 := of_decide_eq_true (by simp only [List.all_cons, Bool.and_eq_true] at h; exact h.1)
    have h1 : (c == 45) = false := by
      simp only [beq_eq_false_iff_ne]; intro e; subst e; revert hc; decide
    have h2 : (c == 43) = false := by
      simp only [beq_eq_false_iff_ne]; intro e; subst e; revert hc; decide
    unfold Lib.atoi
    simp only [h1, h2, Bool.false_eq_true, if_false]
    unfold Lib.decNat
    simp only [List.isEmpty_cons, Bool.false_eq_true, if_false]
    rw [decFrom_dig _ _ h]
    rfl
theorem natOf_lt (s : List UInt8) : s.all isDg = true → natOf s < 10 ^ s.length := by
  refine snoc_ind (P := fun s => s.all isDg = true → natOf s < 10 ^ s.length) (fun _ => by simp [natOf]) (fun s c ih h => ?_) s
  simp only [List.all_append, List.all_cons, List.all_nil, Bool.and_true, Bool.and_eq_true] at h
  have hc : 48 ≤ c.toNat ∧ c.toNat ≤ 57 := of_decide_eq_true h.2
  have := ih h.1
  rw [natOf_snoc, List.length_append, List.length_singleton, Nat.pow_succ]
  omega
/-- digits, from 1 to n of them, without a needless 0 -/
def digL (s : List UInt8) (n : Int) : Bool := decide (1 ≤ s.length) && decide ((s.length : Int) ≤ n) && s.all isDg && (decide (s.getD 0 0 ≠ 48) || s == [48])
theorem itoa_nat (n : Nat) : Lib.itoa (n : Int) = Lib.decDigits n := by unfold Lib.itoa; rw [if_neg (by omega)]; simp
theorem dec_step {n : Nat} (h : 10 ≤ n) : Lib.decDigits n = Lib.decDigits (n / 10) ++ [UInt8.ofNat (48 + n % 10)] := by
  rw [Lib.decDigits, dif_neg (by omega)]
theorem dec_small {n : Nat} (h : n < 10) : Lib.decDigits n = [UInt8.ofNat (48 + n)] := by
  rw [Lib.decDigits, dif_pos h]
theorem natOf_pos {s : List UInt8} (h : s.all isDg = true) (h0 : 1 ≤ s.length) (h1 : s.getD 0 0 ≠ 48) : 1 ≤ natOf s := by
  revert h h0 h1
  refine snoc_ind (P := fun s => s.all isDg = true → 1 ≤ s.length → s.getD 0 0 ≠ 48 → 1 ≤ natOf s) (fun _ h => by simp at h) (fun s c ih h _ h1 => ?_) s
  simp only [List.all_append, List.all_cons, List.all_nil, Bool.and_true, Bool.and_eq_true] at h
  have hc : 48 ≤ c.toNat ∧ c.toNat ≤ 57 := of_decide_eq_true h.2
  rw [natOf_snoc]
  cases s with
  | nil =>
    simp only [List.nil_append, List.getD_cons_zero] at h1
    have : c.toNat ≠ 48 := fun e => h1 (UInt8.toNat_inj.1 e)
    omega
  | cons a s =>
    have := ih h.1 (by simp) (by simpa using h1)
    omega
/-- a number's digits are written as they were read -/
theorem dec_natOf {s : List UInt8} (h : s.all isDg = true) (h0 : 1 ≤ s.length) (h1 : s.getD 0 0 ≠ 48 ∨ s.length = 1) : Lib.decDigits (natOf s) = s := by
  revert h h0 h1
  refine snoc_ind (P := fun s => s.all isDg = true → 1 ≤ s.length → (s.getD 0 0 ≠ 48 ∨ s.length = 1) → Lib.decDigits (natOf s) = s) (fun _ h => by simp at h) (fun s c ih h _ h1 => ?_) s
  simp only [List.all_append, List.all_cons, List.all_nil, Bool.and_true, Bool.and_eq_true] at h
  have hc : 48 ≤ c.toNat ∧ c.toNat ≤ 57 := of_decide_eq_true h.2
  have hcc : UInt8.ofNat (48 + (c.toNat - 48)) = c := by rw [show 48 + (c.toNat - 48) = c.toNat by omega]; simp
  rw [natOf_snoc]
  cases s with
  | nil =>
    simp only [natOf, List.foldl_nil, Nat.zero_mul, Nat.zero_add, List.nil_append]
    rw [dec_small (by omega), hcc]
  | cons a s =>
    have h48 : (a :: s).getD 0 0 ≠ 48 := by
      rcases h1 with h1 | h1
      · simpa using h1
      · simp at h1
    have hp := natOf_pos h.1 (by simp) h48
    rw [dec_step (by omega), show (natOf (a :: s) * 10 + (c.toNat - 48)) / 10 = natOf (a :: s) by omega, show (natOf (a :: s) * 10 + (c.toNat - 48)) % 10 = c.toNat - 48 by omega, hcc, ih h.1 (by simp) (.inl h48)]
theorem dec_dig (n : Nat) : (Lib.decDigits n).all isDg = true ∧ natOf (Lib.decDigits n) = n ∧ 1 ≤ (Lib.decDigits n).length ∧ ((Lib.decDigits n).getD 0 0 ≠ 48 ∨ (Lib.decDigits n).length = 1) ∧ (10 ≤ n → (Lib.decDigits n).getD 0 0 ≠ 48) := by
  have one : ∀ m, m < 10 → isDg (UInt8.ofNat (48 + m)) = true ∧ (UInt8.ofNat (48 + m)).toNat = 48 + m := fun m hm => by
    have e : (UInt8.ofNat (48 + m)).toNat = 48 + m := by rw [UInt8.toNat_ofNat']; omega
    exact ⟨decide_eq_true (by omega), e⟩
  induction n using Nat.strongRecOn with
  | _ n ih =>
    by_cases h : n < 10
    · rw [dec_small h]
      obtain ⟨a, b⟩ := one n h
      refine ⟨by simp only [List.all_cons, a, List.all_nil, Bool.and_true], by simp only [natOf, List.foldl_cons, List.foldl_nil, b]; omega, by simp, .inr rfl, fun h => by omega⟩
    · rw [dec_step (by omega)]
      obtain ⟨a, b⟩ := one (n % 10) (by omega)
      obtain ⟨i1, i2, i3, i4, i5⟩ := ih (n / 10) (by omega)
      have hg : (Lib.decDigits (n / 10)).getD 0 0 ≠ 48 := by
        by_cases h10 : n / 10 < 10
        · rw [dec_small h10]
          simp only [List.getD_cons_zero]
          intro e
          have := congrArg UInt8.toNat e
          rw [(one (n / 10) h10).2] at this
          have : (48 : UInt8).toNat = 48 := rfl
          omega
        · exact i5 (by omega)
      have hg2 : (Lib.decDigits (n / 10) ++ [UInt8.ofNat (48 + n % 10)]).getD 0 0 ≠ 48 := by
        cases hd : Lib.decDigits (n / 10) with
        | nil => rw [hd] at i3; simp at i3
        | cons x t => rw [hd] at hg; simpa using hg
      refine ⟨by simp only [List.all_append, i1, List.all_cons, a, List.all_nil, Bool.and_true], by rw [natOf_snoc, i2, b]; omega, by simp, .inl hg2, fun _ => hg2⟩
theorem dec_len : ∀ (k n : Nat), n < 10 ^ (k + 1) → (Lib.decDigits n).length ≤ k + 1
  | 0, n, h => by rw [dec_small (by omega)]; simp
  | k + 1, n, h => by
    by_cases h1 : n < 10
    · rw [dec_small h1]; simp
    · rw [dec_step (by omega)]
      have := dec_len k (n / 10) (by rw [Nat.pow_succ] at h; omega)
      simp; omega

/-- a cookie -/
structure Coo where
  na : List UInt8
  va : List UInt8
  ho : List UInt8
  wi : Bool
  pa : List UInt8
  se : Bool
  un : Int
  si : Int
deriving DecidableEq
def noCoo : Coo := ⟨[], [], [], false, [], false, 0, 0⟩
def decCoo : V → Coo
  | .agg [.str na, .str va, .str ho, .bool wi, .str pa, .bool se, .int _ un, .int _ si] => ⟨na, va, ho, wi, pa, se, un, si⟩
  | _ => noCoo
def cCoo : Cod Coo := ⟨fun a => .agg [.str a.na, .str a.va, .str a.ho, .bool a.wi, .str a.pa, .bool a.se, .int .i64 a.un, .int .i64 a.si], decCoo, noCoo, fun _ => rfl⟩
@[push_cast] theorem enc_coo (a : Coo) : cCoo.enc a = .agg [.str a.na, .str a.va, .str a.ho, .bool a.wi, .str a.pa, .bool a.se, .int .i64 a.un, .int .i64 a.si] := rfl
@[push_cast] theorem lsF_coo (l : List Coo) (i : Nat) : lsF cCoo l i = .agg [.str (l.getD i noCoo).na, .str (l.getD i noCoo).va, .str (l.getD i noCoo).ho, .bool (l.getD i noCoo).wi, .str (l.getD i noCoo).pa, .bool (l.getD i noCoo).se, .int .i64 (l.getD i noCoo).un, .int .i64 (l.getD i noCoo).si] := rfl
@[push_cast] theorem coo_eta (a : Coo) : (⟨a.na, a.va, a.ho, a.wi, a.pa, a.se, a.un, a.si⟩ : Coo) = a := rfl
def cooOk (a : Coo) : Prop := a.na.length ≤ 140737488355328 ∧ a.va.length ≤ 140737488355328 ∧ a.ho.length ≤ 140737488355328 ∧ a.pa.length ≤ 140737488355328 ∧ I64 a.un ∧ I64 a.si
def coosOk (l : List Coo) : Prop := ∀ a ∈ l, cooOk a
theorem coosOk_at {l : List Coo} (h : coosOk l) {i : Nat} (hi : i < l.length) : cooOk (l.getD i noCoo) := by
  rw [List.getD_eq_getElem?_getD, List.getElem?_eq_getElem hi]; exact h _ (List.getElem_mem hi)

theorem maxLen {w : World} (h : pg.ok w) : ∃ m, w.cell? ⟨0, 0, none⟩ = some (.int .i64 m) := by
  obtain ⟨w0, ⟨_, h1⟩, h2⟩ := h
  obtain ⟨m, hm⟩ := (Tryd.laysM146).s1_3 w0 h1
  exact ⟨m, by rw [cell_same (h2 0 (by decide))]; exact hm⟩
theorem grow_drewN (w : World) (n : Nat) : World.grow w (w.drewN n) := ⟨rfl, rfl, rfl, Nat.le_refl _, fun _ _ => rfl⟩
def ckCut : Ck
  | [.str s, .str sep] => some (s.length < 4294967281, .tup [.str (Lib.cut s sep).1, .str (Lib.cut s sep).2.1, .bool (Lib.cut s sep).2.2])
  | _ => none
attribute [push_cast] ckCut
def ckContains : Ck
  | [.str s, .str sub] => some (s.length < 4294967281, .bool (Lib.contains s sub))
  | _ => none
attribute [push_cast] ckContains
/-- the parts of a string between a byte -/
def splitL (s : List UInt8) (c : UInt8) : List (List UInt8) := (Lib.splitB ⟨#[c]⟩ 0 (Lib.countB ⟨s.toArray⟩ ⟨#[c]⟩) ⟨s.toArray⟩).map fun b => b.data.toList
def ckSplit : Ck
  | [.str s, .str [c]] => some (s.length < 4294967281, .sl (splitL s c).length (lsF cStr (splitL s c)))
  | _ => none
theorem conSplit : Con pg 38 ckSplit := by
  intro args q r h hq
  unfold ckSplit at h
  split at h
  · cases h
    rename_i s c
    refine pcall_shelf2 (by kernel_rfl) rfl fun w hw => ?_
    obtain ⟨m, hm⟩ := maxLen hw
    refine (Tryd.strings_Split ⟨s.toArray⟩ ⟨#[c]⟩ m w (by show s.toArray.size < _; simpa using hq) hm (Nat.le_refl 1)).mono fun e w' h => ?_
    have hl : (splitL s c).length = Lib.countB ⟨s.toArray⟩ ⟨#[c]⟩ + 1 := by
      unfold splitL
      rw [List.length_map]
      exact Lib.splitB_all ⟨#[c]⟩ (Nat.le_refl 1) 0 _ _ rfl
    refine shelf_strs (l := fun i => (splitL s c).getD i []) (by rw [hl]; exact h.1) h.2 (by omega) (fun i hi => ?_) fun i hi => rfl
    unfold splitL at hi ⊢
    rw [List.length_map] at hi
    simp [List.getD_eq_getElem?_getD, List.getElem?_eq_getElem hi]
  · cases h
attribute [push_cast] ckSplit

/-- the parts of a string between a byte, part by part -/
def spl (c : UInt8) : List UInt8 → List (List UInt8)
  | [] => [[]]
  | x :: t => if x = c then [] :: spl c t else (x :: (spl c t).headD []) :: (spl c t).tail
theorem spl_ne (c : UInt8) (s : List UInt8) : spl c s ≠ [] := by
  cases s with
  | nil => simp [spl]
  | cons x t => rw [spl]; split <;> simp
theorem splitK_spl (c : UInt8) : ∀ s : List UInt8, Lib.splitK [c] 0 (s.count c) s = spl c s
  | [] => rfl
  | x :: t => by
    have ih := splitK_spl c t
    by_cases h : x = c
    · subst h
      have hix : Lib.index (x :: t) [x] = 0 := by rw [Lib.index]; simp [List.isPrefixOf]
      rw [show (x :: t).count x = t.count x + 1 by simp, Lib.splitK, hix]
      rw [spl, if_pos rfl, ← ih]
      rfl
    · have hp : ([c] : List UInt8).isPrefixOf (x :: t) = false := by simp [List.isPrefixOf, Ne.symm h]
      have hix : Lib.index (x :: t) [c] = if Lib.index t [c] == -1 then -1 else Lib.index t [c] + 1 := by rw [Lib.index, hp]; simp
      rw [show (x :: t).count c = t.count c by rw [List.count_cons_of_ne (by simpa using h)]]
      rw [spl, if_neg h]
      cases hk : t.count c with
      | zero =>
        rw [hk] at ih
        rw [← ih]; rfl
      | succ k =>
        rw [hk] at ih
        rw [← ih]
        simp only [Lib.splitK]
        rw [hix]
        by_cases hm : (Lib.index t [c] == -1) = true
        · simp only [hm, if_true]; rfl
        · have hge := Lib.index_ge t [c]
          have hn : Lib.index t [c] ≠ -1 := fun e => hm (beq_iff_eq.2 e)
          have hm2 : (Lib.index t [c] + 1 == -1) = false := by rw [beq_eq_false_iff_ne]; omega
          simp only [hm, if_false, Bool.false_eq_true, hm2]
          rw [show (Lib.index t [c] + 1).toNat = (Lib.index t [c]).toNat + 1 by omega]
          simp
theorem splitL_eq (s : List UInt8) (c : UInt8) : splitL s c = spl c s := by
  unfold splitL
  rw [Lib.splitB_data]
  have e : Lib.countB ⟨s.toArray⟩ ⟨#[c]⟩ = s.count c := by
    unfold Lib.countB
    rw [show (⟨s.toArray⟩ : ByteArray).data.toList = s by simp]
    exact Lib.count_one c s
  rw [e]
  simpa using splitK_spl c s
theorem spl_len (c : UInt8) : ∀ s : List UInt8, ∀ p ∈ spl c s, p.length ≤ s.length
  | [], p, h => by simp [spl] at h; simp [h]
  | x :: t, p, h => by
    have ih := spl_len c t
    rw [spl] at h
    split at h
    · rcases List.mem_cons.1 h with rfl | h
      · simp
      · have := ih p h; simp only [List.length_cons]; omega
    · rcases List.mem_cons.1 h with rfl | h
      · cases hs : spl c t with
        | nil => exact absurd hs (spl_ne c t)
        | cons a r =>
          have := ih a (by rw [hs]; simp)
          simp only [List.headD_cons, List.length_cons]; omega
      · have := ih p (List.mem_of_mem_tail h); simp only [List.length_cons]; omega
/-- the parts, joined again -/
theorem spl_join (c : UInt8) : ∀ s : List UInt8, List.intercalate [c] (spl c s) = s
  | [] => rfl
  | x :: t => by
    have ih := spl_join c t
    have hne := spl_ne c t
    rw [spl]
    cases hs : spl c t with
    | nil => exact absurd hs hne
    | cons a r =>
      rw [hs] at ih
      split
      · rename_i h; subst h
        rw [← ih]
        simp [List.intercalate, List.intersperse]
      · rw [← ih]
        cases r <;> simp [List.intercalate, List.intersperse]

def labB (c : UInt8) : Bool := isLet (c.toNat : Int) || isDig (c.toNat : Int) || decide (c.toNat = 45)
/-- a label, a host -/
def labelL (s : List UInt8) : Bool := decide (1 ≤ s.length) && decide (s.length ≤ 63) && decide ((s.getD 0 0).toNat ≠ 45) && decide ((s.getD (s.length - 1) 0).toNat ≠ 45) && s.all labB
def hostL (s : List UInt8) : Bool := decide (s.length ≤ 253) && (splitL s 46).all labelL
theorem conLetter : Con pg 50 ckIsLet := by
  have hct := ctN_ok pg
  intro args q r h hq
  unfold ckIsLet at h
  split at h
  · cases h
    rename_i c
    refine w50 (fun _ => false) [] rfl hct rfl rfl ?_
    push_cast (config := { maxSteps := 10000000 })
    exact ⟨by grind, rfl⟩
  · cases h
theorem conDigit : Con pg 51 ckIsDig := by
  have hct := ctN_ok pg
  intro args q r h hq
  unfold ckIsDig at h
  split at h
  · cases h
    rename_i c
    refine w51 (fun _ => false) [] rfl hct rfl rfl ?_
    push_cast (config := { maxSteps := 10000000 })
    rfl
  · cases h
def ckIsLabel : Ck
  | [.str s] => some (s.length ≤ 4611686018427387904, .bool (labelL s))
  | _ => none
theorem conIsLabel : Con pg 46 ckIsLabel := by
  have hct := (ctA_ok conIsLet (ctA_ok conIsDig (ctN_ok _)))
  intro args q r h hq
  unfold ckIsLabel at h
  split at h
  · cases h
    rename_i s
    refine w46 (fun _ => false) [] rfl hct rfl rfl ?_
    push_cast (config := { maxSteps := 10000000 })
    have ee : ∀ h : 1 ≤ s.length, s.getD ((s.length : Int) - 1).toNat 0 = s.getD (s.length - 1) 0 := fun h => by rw [show ((s.length : Int) - 1).toNat = s.length - 1 by omega]
    refine ⟨fun h => ⟨h, by omega⟩, fun h => ⟨h, by omega, by omega⟩, fun h => ⟨h, by omega, by omega⟩, fun h => ?_, fun h => ?_⟩
    · unfold labelL
      by_cases h1 : 1 ≤ s.length
      · rw [ee h1] at h
        by_cases h2 : s.length ≤ 63
        · by_cases h3 : (s.getD 0 0).toNat = 45
          · rw [decide_eq_false (show ¬ (s.getD 0 0).toNat ≠ 45 from fun x => x h3)]; simp
          · rw [decide_eq_false (show ¬ (s.getD (s.length - 1) 0).toNat ≠ 45 from fun x => x (by omega))]; simp
        · rw [decide_eq_false h2]; simp
      · rw [decide_eq_false h1]; rfl
    have h1 : 1 ≤ s.length := by omega
    rw [ee h1] at h
    have e0 : labelL s = s.all labB := by
      unfold labelL
      rw [decide_eq_true h1, decide_eq_true (show s.length ≤ 63 by omega), decide_eq_true (show (s.getD 0 0).toNat ≠ 45 by omega), decide_eq_true (show (s.getD (s.length - 1) 0).toNat ≠ 45 by omega)]; rfl
    rw [e0]
    refine LoopW.adj ⟨hct, fol⟩ (by kernel_rfl) [] (fun i : Nat => [(0, .str s), (26, .int .i64 s.length), (27, .int .i64 i)]) (fun _ => []) (fun i => i ≤ s.length ∧ ∀ j, j < i → labB (s.getD j 0) = true) (fun i => s.length - i) 0 ?_ fun i hi => ?_
    · push_cast (config := { maxSteps := 10000000 })
      exact Nat.zero_le _
    · push_cast (config := { maxSteps := 10000000 })
      obtain ⟨h3, h4⟩ := hi
      refine ⟨fun hw => ⟨hw, fun a => ⟨a, hw⟩, fun a => ⟨a, hw⟩, fun a => ?_, fun a => ⟨by omega, i + 1, ⟨by omega, fun j hj => ?_⟩, by omega, by omega⟩⟩, fun hw => ?_⟩
      · refine (all_no hw ?_).symm
        unfold labB
        rw [a.1.1, a.1.2, decide_eq_false (by omega)]; rfl
      · by_cases e : j = i
        · subst e
          unfold labB
          cases g1 : isLet ((s.getD j 0).toNat : Int) with
          | true => rfl
          | false =>
            cases g2 : isDig ((s.getD j 0).toNat : Int) with
            | true => rfl
            | false => rw [decide_eq_true (show (s.getD j 0).toNat = 45 by have := a ⟨g1, g2⟩; omega)]; rfl
        · exact h4 j (by omega)
      · exact (all_at fun j hj => h4 j (by omega)).symm
  · cases h
attribute [push_cast] ckIsLabel
theorem conIsLabel2 : Con pg 39 ckIsLabel := by
  have hct := (ctA_ok conLetter (ctA_ok conDigit (ctN_ok _)))
  intro args q r h hq
  unfold ckIsLabel at h
  split at h
  · cases h
    rename_i s
    refine w39 (fun _ => false) [] rfl hct rfl rfl ?_
    push_cast (config := { maxSteps := 10000000 })
    have hs : (s = []) = ((s.length : Int) < 1) := propext ⟨fun h => by rw [h]; simp, fun h => List.length_eq_zero_iff.1 (by omega)⟩
    rw [hs]
    have ee : ∀ h : 1 ≤ s.length, s.getD ((s.length : Int) - 1).toNat 0 = s.getD (s.length - 1) 0 := fun h => by rw [show ((s.length : Int) - 1).toNat = s.length - 1 by omega]
    refine ⟨fun h => ⟨h, by omega⟩, fun h => ⟨h, by omega, by omega⟩, fun h => ⟨h, by omega, by omega⟩, fun h => ?_, fun h => ?_⟩
    · unfold labelL
      by_cases h1 : 1 ≤ s.length
      · rw [ee h1] at h
        by_cases h2 : s.length ≤ 63
        · by_cases h3 : (s.getD 0 0).toNat = 45
          · rw [decide_eq_false (show ¬ (s.getD 0 0).toNat ≠ 45 from fun x => x h3)]; simp
          · rw [decide_eq_false (show ¬ (s.getD (s.length - 1) 0).toNat ≠ 45 from fun x => x (by omega))]; simp
        · rw [decide_eq_false h2]; simp
      · rw [decide_eq_false h1]; rfl
    have h1 : 1 ≤ s.length := by omega
    rw [ee h1] at h
    have e0 : labelL s = s.all labB := by
      unfold labelL
      rw [decide_eq_true h1, decide_eq_true (show s.length ≤ 63 by omega), decide_eq_true (show (s.getD 0 0).toNat ≠ 45 by omega), decide_eq_true (show (s.getD (s.length - 1) 0).toNat ≠ 45 by omega)]; rfl
    rw [e0]
    refine LoopW.adj ⟨hct, fol⟩ (by kernel_rfl) [] (fun i : Nat => [(0, .str s), (3, .int .i64 i)]) (fun _ => []) (fun i => i ≤ s.length ∧ ∀ j, j < i → labB (s.getD j 0) = true) (fun i => s.length - i) 0 ?_ fun i hi => ?_
    · push_cast (config := { maxSteps := 10000000 })
      exact Nat.zero_le _
    · push_cast (config := { maxSteps := 10000000 })
      obtain ⟨h3, h4⟩ := hi
      refine ⟨fun hw => ⟨hw, fun a => ⟨a, hw⟩, fun a => ⟨a, hw⟩, fun a => ?_, fun a => ⟨by omega, i + 1, ⟨by omega, fun j hj => ?_⟩, by omega, by omega⟩⟩, fun hw => ?_⟩
      · refine (all_no hw ?_).symm
        unfold labB
        rw [a.1.1, a.1.2, decide_eq_false (by omega)]; rfl
      · by_cases e : j = i
        · subst e
          unfold labB
          cases g1 : isLet ((s.getD j 0).toNat : Int) with
          | true => rfl
          | false =>
            cases g2 : isDig ((s.getD j 0).toNat : Int) with
            | true => rfl
            | false => rw [decide_eq_true (show (s.getD j 0).toNat = 45 by have := a ⟨g1, g2⟩; omega)]; rfl
        · exact h4 j (by omega)
      · exact (all_at fun j hj => h4 j (by omega)).symm
  · cases h
def ckIsHost : Ck
  | [.str s] => some (s.length ≤ 4611686018427387904, .bool (hostL s))
  | _ => none
theorem splitL_le (s : List UInt8) (c : UInt8) : (splitL s c).length ≤ s.length + 1 := by
  rw [splitL_eq]
  induction s with
  | nil => simp [spl]
  | cons x t ih =>
    rw [spl]
    have := List.length_pos_iff.2 (spl_ne c t)
    split
    · simp only [List.length_cons]; omega
    · simp only [List.length_cons, List.length_tail]; omega
theorem conIsHost0 : Con pg 34 ckIsHost := by
  have hct := (ctA_ok conSplit (ctA_ok conIsLabel (ctN_ok _)))
  intro args q r h hq
  unfold ckIsHost at h
  split at h
  · cases h
    rename_i s
    refine w34 (fun _ => false) [] rfl hct rfl rfl ?_
    push_cast (config := { maxSteps := 10000000 })
    refine ⟨fun h => by unfold hostL; rw [decide_eq_false (by omega)]; rfl, fun h => ⟨by omega, ?_⟩⟩
    have e0 : hostL s = (splitL s 46).all labelL := by unfold hostL; rw [decide_eq_true (by omega)]; rfl
    have hw : ∀ i, ((splitL s 46).getD i []).length ≤ s.length := fun i => by
      rw [splitL_eq]
      by_cases hi : i < (spl 46 s).length
      · rw [List.getD_eq_getElem?_getD, List.getElem?_eq_getElem hi]
        exact spl_len 46 _ _ (List.getElem_mem hi)
      · rw [List.getD_eq_getElem?_getD, List.getElem?_eq_none (by omega)]; simp
    rw [e0]
    have hl := splitL_le s 46
    generalize splitL s 46 = l at *
    refine LoopW.adj ⟨hct, fol⟩ (by kernel_rfl) [] (fun i : Nat => [(9, .sl l.length (lsF cStr l)), (10, .int .i64 l.length), (11, .int .i64 i)]) (fun _ => []) (fun i => i ≤ l.length ∧ ∀ j, j < i → labelL (l.getD j []) = true) (fun i => l.length - i) 0 ?_ fun i hi => ?_
    · push_cast (config := { maxSteps := 10000000 })
      exact Nat.zero_le _
    · push_cast (config := { maxSteps := 10000000 })
      obtain ⟨h3, h4⟩ := hi
      refine ⟨fun h5 => ⟨h5, by have := hw i; omega, fun h6 => (all_no' (d := []) h5 h6).symm, fun h6 => ⟨⟨by omega, by omega⟩, i + 1, ⟨by omega, fun j hj => ?_⟩, by omega, by omega⟩⟩, fun h5 => (all_at' fun j hj => h4 j (by omega)).symm⟩
      by_cases e : j = i
      · subst e; exact h6
      · exact h4 j (by omega)
  · cases h
attribute [push_cast] ckIsHost
theorem conIsHost2 : Con pg 28 ckIsHost := by
  have hct := (ctA_ok conSplit (ctA_ok conIsLabel2 (ctN_ok _)))
  intro args q r h hq
  unfold ckIsHost at h
  split at h
  · cases h
    rename_i s
    refine w28 (fun _ => false) [] rfl hct rfl rfl ?_
    push_cast (config := { maxSteps := 10000000 })
    refine ⟨fun h => by unfold hostL; rw [decide_eq_false (by omega)]; rfl, fun h => ⟨by omega, ?_⟩⟩
    have e0 : hostL s = (splitL s 46).all labelL := by unfold hostL; rw [decide_eq_true (by omega)]; rfl
    have hw : ∀ i, ((splitL s 46).getD i []).length ≤ s.length := fun i => by
      rw [splitL_eq]
      by_cases hi : i < (spl 46 s).length
      · rw [List.getD_eq_getElem?_getD, List.getElem?_eq_getElem hi]
        exact spl_len 46 _ _ (List.getElem_mem hi)
      · rw [List.getD_eq_getElem?_getD, List.getElem?_eq_none (by omega)]; simp
    rw [e0]
    have hl := splitL_le s 46
    generalize splitL s 46 = l at *
    refine LoopW.adj ⟨hct, fol⟩ (by kernel_rfl) [] (fun i : Nat => [(3, .sl l.length (lsF cStr l)), (4, .int .i64 i)]) (fun _ => []) (fun i => i ≤ l.length ∧ ∀ j, j < i → labelL (l.getD j []) = true) (fun i => l.length - i) 0 ?_ fun i hi => ?_
    · push_cast (config := { maxSteps := 10000000 })
      exact Nat.zero_le _
    · push_cast (config := { maxSteps := 10000000 })
      obtain ⟨h3, h4⟩ := hi
      refine ⟨fun h5 => ⟨h5, by have := hw i; omega, fun h6 => (all_no' (d := []) h5 h6).symm, fun h6 => ⟨⟨by omega, by omega⟩, i + 1, ⟨by omega, fun j hj => ?_⟩, by omega, by omega⟩⟩, fun h5 => (all_at' fun j hj => h4 j (by omega)).symm⟩
      by_cases e : j = i
      · subst e; exact h6
      · exact h4 j (by omega)
  · cases h
def ckIsHostA : Ck
  | [.str s] => some (s.length ≤ 140737488355328, .bool (hostL s && lowL s == s))
  | _ => none
theorem conIsHost : Con pg 24 ckIsHostA := by
  have hct := (ctA_ok conIsHost0 (ctA_ok conSmallA (ctN_ok _)))
  intro args q r h hq
  unfold ckIsHostA at h
  split at h
  · cases h
    rename_i s
    refine w24 (fun _ => false) [] rfl hct rfl rfl ?_
    push_cast (config := { maxSteps := 10000000 })
    exact ⟨by omega, fun h => ⟨h, hq⟩⟩
  · cases h
attribute [push_cast] ckIsHostA

def rowB (c : UInt8) : Bool := decide (33 ≤ c.toNat) && decide (c.toNat ≤ 126) && decide (Lib.indexByte [34, 35, 60, 62, 92, 94, 123, 124, 125, 96] c < 0)
/-- % and two digits at a place, or another byte -/
def pctB (s : List UInt8) (i : Nat) : Bool := decide (i + 2 < s.length) && isHex ((s.getD (i + 1) 0).toNat : Int) && isHex ((s.getD (i + 2) 0).toNat : Int)
/-- how far a row goes -/
def reL (s w : List UInt8) : Nat → Nat → Nat × Bool
  | 0, _ => (s.length, true)
  | k + 1, i => if s.length ≤ i then (s.length, true) else if 0 ≤ Lib.indexByte w (s.getD i 0) then (i, true) else if rowB (s.getD i 0) = false then (i, false) else if (s.getD i 0).toNat = 37 then (if pctB s i = true then reL s w k (i + 3) else (i, false)) else reL s w k (i + 1)
def ckRowEnd : Ck
  | [.str s, .str w] => some (s.length ≤ 4611686018427387900, .tup [.int .i64 (reL s w (s.length + 1) 0).1, .bool (reL s w (s.length + 1) 0).2])
  | _ => none
theorem conRowEnd : Con pg 48 ckRowEnd := by
  have hct := (ctA_ok conIndexByte (ctA_ok conIsHex (ctN_ok _)))
  intro args q r h hq
  unfold ckRowEnd at h
  split at h
  · cases h
    rename_i s w
    refine w48 (fun _ => false) [] rfl hct rfl rfl ?_
    push_cast (config := { maxSteps := 10000000 })
    generalize hR : reL s w (s.length + 1) 0 = R
    refine LoopW.adj ⟨hct, fol⟩ (by kernel_rfl) [] (fun i : Nat => [(0, .str s), (1, .str w), (6, .int .i64 i)]) (fun _ => []) (fun i => i ≤ s.length ∧ ∃ k, s.length < i + k ∧ reL s w k i = R) (fun i => s.length - i) 0 ?_ fun i hi => ?_
    · push_cast (config := { maxSteps := 10000000 })
      exact ⟨Nat.zero_le _, _, by omega, hR⟩
    · obtain ⟨i1, k, i3, i4⟩ := hi
      push_cast (config := { maxSteps := 10000000 })
      obtain ⟨k, rfl⟩ : ∃ k', k = k' + 1 := ⟨k - 1, by omega⟩
      rw [reL] at i4
      refine ⟨fun h => ?_, fun h => ?_⟩
      · rw [if_neg (by omega)] at i4
        refine ⟨h, fun h1 => ?_, fun h1 => ⟨fun h2 => ?_, fun h2 => ?_⟩⟩
        · rw [if_pos h1] at i4; rw [← i4]; exact ⟨rfl, rfl⟩
        · have hb : rowB (s.getD i 0) = false := by
            unfold rowB
            rcases h2 with (h2 | h2) | h2
            · rw [decide_eq_false (by omega)]; rfl
            · rw [decide_eq_false (show ¬ (s.getD i 0).toNat ≤ 126 by omega)]; simp
            · rw [decide_eq_false (show ¬ Lib.indexByte [34, 35, 60, 62, 92, 94, 123, 124, 125, 96] (s.getD i 0) < 0 by omega)]; simp
          rw [if_neg h1, if_pos hb] at i4; rw [← i4]; exact ⟨rfl, rfl⟩
        · have hb : rowB (s.getD i 0) = true := by
            unfold rowB
            rw [decide_eq_true (by omega), decide_eq_true (by omega), decide_eq_true (by omega)]; rfl
          rw [if_neg h1, if_neg (by rw [hb]; simp)] at i4
          refine ⟨fun h3 => ⟨⟨by omega, by omega⟩, fun h4 => ⟨h4, by omega, by omega⟩, fun h4 => ⟨h4, by omega, by omega⟩, fun h4 => ⟨h4, by omega, by omega⟩, fun h4 => ⟨h4, by omega, by omega⟩, fun h4 => ?_, fun h4 => ?_⟩, fun h3 => ?_⟩
          · have hp : ¬ pctB s i = true := fun hp => by
              simp only [pctB, Bool.and_eq_true, decide_eq_true_eq] at hp
              rcases h4 with (h4 | h4) | h4
              · omega
              · rw [hp.1.2] at h4; cases h4
              · rw [hp.2] at h4; cases h4
            rw [if_pos (by omega), if_neg hp] at i4; rw [← i4]; exact ⟨rfl, rfl⟩
          · have hp : pctB s i = true := by
              simp only [pctB, Bool.and_eq_true, decide_eq_true_eq]
              exact ⟨⟨by have := h4.1.1; omega, h4.1.2⟩, h4.2⟩
            rw [if_pos (by omega), if_pos hp] at i4
            have := h4.1.1
            exact ⟨⟨by omega, by omega⟩, ⟨by omega, by omega⟩, i + 3, ⟨by omega, k, by omega, i4⟩, by omega, by omega⟩
          · rw [if_neg (by omega)] at i4
            exact ⟨⟨by omega, by omega⟩, i + 1, ⟨by omega, k, by omega, i4⟩, by omega, by omega⟩
      · rw [if_pos (by omega)] at i4; rw [← i4]; exact ⟨rfl, rfl⟩
  · cases h
attribute [push_cast] ckRowEnd
def ckIsRow : Ck
  | [.str s, .str w] => some (s.length ≤ 4611686018427387900, .bool ((reL s w (s.length + 1) 0).2 && ((reL s w (s.length + 1) 0).1 == s.length)))
  | _ => none
theorem conIsRow : Con pg 37 ckIsRow := by
  have hct := (ctA_ok conRowEnd (ctN_ok _))
  intro args q r h hq
  unfold ckIsRow at h
  split at h
  · cases h
    rename_i s w
    refine w37 (fun _ => false) [] rfl hct rfl rfl ?_
    push_cast (config := { maxSteps := 10000000 })
    refine ⟨hq, ?_⟩
    congr 1
    rw [Bool.eq_iff_iff, beq_iff_eq, beq_iff_eq]; omega
  · cases h
attribute [push_cast] ckIsRow
theorem conHex2 : Con pg 64 ckIsHex := by
  have hct := (ctA_ok conDigit (ctN_ok _))
  intro args q r h hq
  unfold ckIsHex at h
  split at h
  · cases h
    rename_i c
    refine w64 (fun _ => false) [] rfl hct rfl rfl ?_
    push_cast (config := { maxSteps := 10000000 })
    exact ⟨by grind, by grind, rfl⟩
  · cases h
theorem row_eq (n : Nat) (h : n < 256) : (decide (33 ≤ (n : Int)) && decide ((n : Int) ≤ 126) && ((n : Int) != 96) && decide (Lib.indexByte [34, 35, 60, 62, 92, 94, 123, 124, 125] n.toUInt8 < 0)) = rowB (UInt8.ofNat n) := by
  revert n
  decide +kernel
def ckRowByte : Ck
  | [.int .u8 c] => some (0 ≤ c ∧ c < 256, .bool (rowB (UInt8.ofNat c.toNat)))
  | _ => none
theorem conRowByte : Con pg 63 ckRowByte := by
  have hct := (ctA_ok conIndexByte (ctN_ok _))
  intro args q r h hq
  unfold ckRowByte at h
  split at h
  · cases h
    rename_i c
    refine w63 (fun _ => false) [] rfl hct rfl rfl ?_
    push_cast (config := { maxSteps := 10000000 })
    have := row_eq c.toNat (by omega)
    rw [show ((c.toNat : Nat) : Int) = c by omega] at this
    exact this
  · cases h
attribute [push_cast] ckRowByte
def cellP (s : List UInt8) (j : Nat) : Bool := rowB (s.getD j 0) && decide ((s.getD j 0).toNat ≠ 63) && (decide ((s.getD j 0).toNat ≠ 37) || pctB s j)
/-- a row without a question mark -/
def rowP (s : List UInt8) : Bool := (List.range s.length).all (cellP s)
def rbL (s : List UInt8) : Nat → Nat → Int
  | 0, _ => -1
  | k + 1, i => if s.length ≤ i then -1 else if cellP s i = true then rbL s k (i + 1) else i
def ckRowBad : Ck
  | [.str s, .int .u8 c] => some (c = 63 ∧ s.length ≤ 4611686018427387900, .int .i64 (rbL s (s.length + 1) 0))
  | _ => none
theorem conRowBad : Con pg 52 ckRowBad := by
  have hct := (ctA_ok conRowByte (ctA_ok conHex2 (ctN_ok _)))
  intro args q r h hq
  unfold ckRowBad at h
  split at h
  · cases h
    rename_i s c
    refine w52 (fun _ => false) [] rfl hct rfl rfl ?_
    push_cast (config := { maxSteps := 10000000 })
    obtain ⟨rfl, hs⟩ := hq
    generalize hR : rbL s (s.length + 1) 0 = R
    refine LoopW.adj ⟨hct, fol⟩ (by kernel_rfl) [] (fun i : Nat => [(0, .str s), (1, .int .u8 63), (5, .int .i64 i)]) (fun _ => []) (fun i => i ≤ s.length ∧ ∃ k, s.length < i + k ∧ rbL s k i = R) (fun i => s.length - i) 0 ?_ fun i hi => ?_
    · push_cast (config := { maxSteps := 10000000 })
      exact ⟨Nat.zero_le _, _, by omega, hR⟩
    · obtain ⟨i1, k, i3, i4⟩ := hi
      push_cast (config := { maxSteps := 10000000 })
      obtain ⟨k, rfl⟩ : ∃ k', k = k' + 1 := ⟨k - 1, by omega⟩
      rw [rbL] at i4
      refine ⟨fun h => ⟨h, by have := UInt8.toNat_lt (s.getD i 0); omega, fun a => ⟨a, h⟩, fun a => ?_, fun a => ⟨h, fun b => ⟨b, by omega, by omega⟩, fun b => ⟨b, by omega, by omega⟩, fun b => ⟨b, by omega, by omega⟩, fun b => ⟨b, fun c => ⟨b, c⟩⟩, fun b => ⟨b, by omega, by omega⟩, fun b => ⟨b, by omega, by omega⟩, fun b => ⟨b, fun c => ⟨b, c⟩⟩, fun b => ?_, fun b => ?_⟩⟩, fun h => ?_⟩
      · have hc : ¬ cellP s i = true := fun hc => by
          simp only [cellP, Bool.and_eq_true, decide_eq_true_eq] at hc
          rcases a with a | a
          · rw [hc.1.1] at a; cases a
          · exact hc.1.2 (by omega)
        rw [if_neg (by omega), if_neg hc] at i4
        exact i4
      · have hc : ¬ cellP s i = true := fun hc => by
          simp only [cellP, pctB, Bool.and_eq_true, Bool.or_eq_true, decide_eq_true_eq] at hc
          rcases hc.2 with hc | hc
          · exact hc (by omega)
          · rcases b.2 with (b | b) | b
            · omega
            · rw [hc.1.2] at b; cases b
            · rw [hc.2] at b; cases b
        rw [if_neg (by omega), if_neg hc] at i4
        exact i4
      · have hc : cellP s i = true := by
          simp only [cellP, pctB, Bool.and_eq_true, Bool.or_eq_true, decide_eq_true_eq]
          refine ⟨⟨a.1, fun x => a.2 (by omega)⟩, ?_⟩
          by_cases e : (s.getD i 0).toNat = 37
          · have := b (by omega)
            exact .inr ⟨⟨by have := this.1.1; omega, this.1.2⟩, this.2⟩
          · exact .inl e
        rw [if_neg (by omega), if_pos hc] at i4
        exact ⟨⟨by omega, by omega⟩, i + 1, ⟨by omega, k, by omega, i4⟩, by omega, by omega⟩
      · rw [if_pos (by omega)] at i4
        exact i4
  · cases h
attribute [push_cast] ckRowBad
theorem cell_hex (c : UInt8) : isHex (c.toNat : Int) = true → rowB c = true ∧ c.toNat ≠ 63 ∧ c.toNat ≠ 37 := by
  have key : ∀ n, n < 256 → isHex ((UInt8.ofNat n).toNat : Int) = true → rowB (UInt8.ofNat n) = true ∧ (UInt8.ofNat n).toNat ≠ 63 ∧ (UInt8.ofNat n).toNat ≠ 37 := by decide +kernel
  have := key c.toNat (UInt8.toNat_lt c)
  simpa using this
theorem rb_all {s : List UInt8} : ∀ (k i : Nat), s.length < i + k → (rbL s k i < 0 ↔ ∀ j, i ≤ j → j < s.length → cellP s j = true)
  | 0, i, h => ⟨fun _ j h1 h2 => by omega, fun _ => by show (-1 : Int) < 0; omega⟩
  | k + 1, i, h => by
    rw [rbL]
    by_cases h1 : s.length ≤ i
    · rw [if_pos h1]; exact ⟨fun _ j h1 h2 => by omega, fun _ => by omega⟩
    rw [if_neg h1]
    by_cases hc : cellP s i = true
    · rw [if_pos hc, rb_all k (i + 1) (by omega)]
      refine ⟨fun hh j h2 h3 => ?_, fun hh j h2 h3 => hh j (by omega) h3⟩
      by_cases e : j = i
      · subst e; exact hc
      · exact hh j (by omega) h3
    · rw [if_neg hc]
      exact ⟨fun hh => by omega, fun hh => absurd (hh i (Nat.le_refl _) (by omega)) hc⟩
theorem idx_one (d c : UInt8) : 0 ≤ Lib.indexByte [d] c ↔ c = d := by
  have e : Lib.indexByte [d] c = if d == c then 0 else -1 := rfl
  rw [e]
  by_cases h : d = c
  · subst h; simp
  · rw [if_neg (by simpa using h)]
    exact ⟨fun x => by omega, fun x => absurd x.symm h⟩
theorem re_all {s : List UInt8} : ∀ (k i : Nat), s.length < i + k → (((reL s [63] k i).2 = true ∧ (reL s [63] k i).1 = s.length) ↔ ∀ j, i ≤ j → j < s.length → cellP s j = true)
  | 0, i, h => ⟨fun _ j h1 h2 => by omega, fun _ => ⟨rfl, rfl⟩⟩
  | k + 1, i, h => by
    have hq : (0 ≤ Lib.indexByte [63] (s.getD i 0)) ↔ (s.getD i 0).toNat = 63 := by
      have : (s.getD i 0).toNat = 63 ↔ s.getD i 0 = 63 := ⟨fun e => UInt8.toNat_inj.1 e, fun e => by rw [e]; rfl⟩
      rw [this]
      exact idx_one 63 _
    rw [reL]
    by_cases h1 : s.length ≤ i
    · rw [if_pos h1]; exact ⟨fun _ j h1 h2 => by omega, fun _ => ⟨rfl, rfl⟩⟩
    rw [if_neg h1]
    by_cases h2 : 0 ≤ Lib.indexByte [63] (s.getD i 0)
    · rw [if_pos h2]
      refine ⟨fun hh => absurd hh.2 (by show i ≠ s.length; omega), fun hh => ?_⟩
      have := hh i (Nat.le_refl _) (by omega)
      simp only [cellP, Bool.and_eq_true, decide_eq_true_eq] at this
      exact absurd (hq.1 h2) this.1.2
    rw [if_neg h2]
    have h63 : (s.getD i 0).toNat ≠ 63 := fun e => h2 (hq.2 e)
    by_cases h3 : rowB (s.getD i 0) = false
    · rw [if_pos h3]
      refine ⟨fun hh => absurd hh.1 (by simp), fun hh => ?_⟩
      have := hh i (Nat.le_refl _) (by omega)
      simp only [cellP, Bool.and_eq_true, h3] at this
      exact absurd this.1.1 (by simp)
    rw [if_neg h3]
    have h3' : rowB (s.getD i 0) = true := by simpa using h3
    by_cases h4 : (s.getD i 0).toNat = 37
    · rw [if_pos h4]
      by_cases hp : pctB s i = true
      · rw [if_pos hp, re_all k (i + 3) (by omega)]
        have hp' := hp
        simp only [pctB, Bool.and_eq_true, decide_eq_true_eq] at hp'
        refine ⟨fun hh j h5 h6 => ?_, fun hh j h5 h6 => hh j (by omega) h6⟩
        rcases (by omega : j = i ∨ j = i + 1 ∨ j = i + 2 ∨ i + 3 ≤ j) with rfl | rfl | rfl | h7
        · simp only [cellP, Bool.and_eq_true, Bool.or_eq_true, decide_eq_true_eq]
          exact ⟨⟨h3', h63⟩, .inr hp⟩
        · have := cell_hex _ hp'.1.2
          simp only [cellP, Bool.and_eq_true, Bool.or_eq_true, decide_eq_true_eq]
          exact ⟨⟨this.1, this.2.1⟩, .inl this.2.2⟩
        · have := cell_hex _ hp'.2
          simp only [cellP, Bool.and_eq_true, Bool.or_eq_true, decide_eq_true_eq]
          exact ⟨⟨this.1, this.2.1⟩, .inl this.2.2⟩
        · exact hh j h7 h6
      · rw [if_neg hp]
        refine ⟨fun hh => absurd hh.1 (by simp), fun hh => ?_⟩
        have := hh i (Nat.le_refl _) (by omega)
        simp only [cellP, Bool.and_eq_true, Bool.or_eq_true, decide_eq_true_eq] at this
        rcases this.2 with h | h
        · exact absurd h4 h
        · exact absurd h hp
    · rw [if_neg h4, re_all k (i + 1) (by omega)]
      refine ⟨fun hh j h5 h6 => ?_, fun hh j h5 h6 => hh j (by omega) h6⟩
      by_cases e : j = i
      · subst e
        simp only [cellP, Bool.and_eq_true, Bool.or_eq_true, decide_eq_true_eq]
        exact ⟨⟨h3', h63⟩, .inl h4⟩
      · exact hh j (by omega) h6
theorem rowP_rb (s : List UInt8) : decide (rbL s (s.length + 1) 0 < 0) = rowP s := by
  rw [Bool.eq_iff_iff, decide_eq_true_eq, rb_all _ 0 (by omega)]
  simp [rowP, List.all_eq_true]
theorem rowP_re (s : List UInt8) : ((reL s [63] (s.length + 1) 0).2 && ((reL s [63] (s.length + 1) 0).1 == s.length)) = rowP s := by
  rw [Bool.eq_iff_iff, Bool.and_eq_true, beq_iff_eq, re_all _ 0 (by omega)]
  simp [rowP, List.all_eq_true]
/-- a cookie's path -/
def cpathL (s : List UInt8) : Bool := decide (1 ≤ s.length) && decide ((s.getD 0 0).toNat = 47) && rowP s && decide (s.length ≤ 2000)
def ckIsPath1 : Ck
  | [.str s] => some (s.length ≤ 4611686018427387900, .bool (s == [] || (decide ((s.getD 0 0).toNat = 47) && rowP s)))
  | _ => none
theorem i47 (c : UInt8) : (((c.toNat : Int)) == 47) = decide (c.toNat = 47) := by
  rw [Bool.eq_iff_iff, beq_iff_eq, decide_eq_true_eq]; omega
theorem sne_pos {s : List UInt8} (h : ¬ s = []) : 0 < (s.length : Int) := by
  have := List.length_pos_iff.2 h; omega
theorem conIsPath1 : Con pg 40 ckIsPath1 := by
  have hct := (ctA_ok conRowBad (ctN_ok _))
  intro args q r h hq
  unfold ckIsPath1 at h
  split at h
  · cases h
    rename_i s
    refine w40 (fun _ => false) [] rfl hct rfl rfl ?_
    push_cast (config := { maxSteps := 10000000 })
    exact ⟨fun h => ⟨h, sne_pos h⟩, fun h => ⟨h, hq⟩, fun h => ⟨h, fun h2 => ⟨h, h2⟩⟩, by rw [rowP_rb, i47]⟩
  · cases h
attribute [push_cast] ckIsPath1
def ckCPath2 : Ck
  | [.str s] => some (s.length ≤ 4611686018427387900, .bool (cpathL s))
  | _ => none
theorem conCPath2 : Con pg 30 ckCPath2 := by
  have hct := (ctA_ok conIsPath1 (ctN_ok _))
  intro args q r h hq
  unfold ckCPath2 at h
  split at h
  · cases h
    rename_i s
    refine w30 (fun _ => false) [] rfl hct rfl rfl ?_
    push_cast (config := { maxSteps := 10000000 })
    refine ⟨fun h => ⟨h, sne_pos h⟩, fun h => ⟨h, hq⟩, ?_⟩
    unfold cpathL
    rw [i47]
    cases s with
    | nil => rfl
    | cons c t =>
      rw [decide_eq_true (show 1 ≤ (c :: t).length by simp), show (c :: t != []) = true from rfl, show (c :: t == []) = false from rfl]
      simp only [Bool.true_and, Bool.false_or]
      cases decide (((c :: t).getD 0 0).toNat = 47) <;> simp
      congr 1
      exact decide_eq_decide.2 (by omega)
  · cases h
attribute [push_cast] ckCPath2

def bkB (c : UInt8) : Bool := decide (33 ≤ c.toNat ∧ c.toNat ≤ 126 ∧ c.toNat ≠ 59 ∧ c.toNat ≠ 44)
def bakedL (s : List UInt8) : Bool := s.all bkB && decide (s.length ≤ 1000)
def ckBaked : Ck
  | [.str s] => some (s.length ≤ 4611686018427387900, .bool (bakedL s))
  | _ => none
theorem conBaked : Con pg 23 ckBaked := by
  have hct := ctN_ok pg
  intro args q r h hq
  unfold ckBaked at h
  split at h
  · cases h
    rename_i s
    refine w23 (fun _ => false) [] rfl hct rfl rfl ?_
    push_cast (config := { maxSteps := 10000000 })
    refine LoopW.adj ⟨hct, fol⟩ (by kernel_rfl) [] (fun i : Nat => [(0, .str s), (5, .int .i64 s.length), (6, .int .i64 i)]) (fun _ => []) (fun i => i ≤ s.length ∧ ∀ j, j < i → bkB (s.getD j 0) = true) (fun i => s.length - i) 0 ?_ fun i hi => ?_
    · push_cast (config := { maxSteps := 10000000 })
      exact Nat.zero_le _
    · push_cast (config := { maxSteps := 10000000 })
      obtain ⟨h3, h4⟩ := hi
      refine ⟨fun h => ⟨h, fun a => ⟨a, h⟩, fun a => ⟨a, h⟩, fun a => ⟨a, h⟩, fun a => ?_, fun a => ⟨⟨by omega, by omega⟩, i + 1, ⟨by omega, fun j hj => ?_⟩, by omega, by omega⟩⟩, fun h => ?_⟩
      · unfold bakedL
        rw [all_no h (decide_eq_false (by omega))]; rfl
      · by_cases e : j = i
        · subst e; exact decide_eq_true (by omega)
        · exact h4 j (by omega)
      · unfold bakedL
        rw [all_at fun j hj => h4 j (by omega), Bool.true_and]
        exact decide_eq_decide.2 (by omega)
  · cases h
attribute [push_cast] ckBaked
theorem conBaked2 : Con pg 27 ckBaked := by
  have hct := ctN_ok pg
  intro args q r h hq
  unfold ckBaked at h
  split at h
  · cases h
    rename_i s
    refine w27 (fun _ => false) [] rfl hct rfl rfl ?_
    push_cast (config := { maxSteps := 10000000 })
    refine LoopW.adj ⟨hct, fol⟩ (by kernel_rfl) [] (fun i : Nat => [(0, .str s), (3, .int .i64 i)]) (fun _ => []) (fun i => i ≤ s.length ∧ ∀ j, j < i → bkB (s.getD j 0) = true) (fun i => s.length - i) 0 ?_ fun i hi => ?_
    · push_cast (config := { maxSteps := 10000000 })
      exact Nat.zero_le _
    · push_cast (config := { maxSteps := 10000000 })
      obtain ⟨h3, h4⟩ := hi
      refine ⟨fun h => ⟨h, fun a => ⟨a, h⟩, fun a => ⟨a, h⟩, fun a => ⟨a, h⟩, fun a => ?_, fun a => ⟨⟨by omega, by omega⟩, i + 1, ⟨by omega, fun j hj => ?_⟩, by omega, by omega⟩⟩, fun h => ?_⟩
      · unfold bakedL
        rw [all_no h (decide_eq_false (by omega))]; rfl
      · by_cases e : j = i
        · subst e; exact decide_eq_true (by omega)
        · exact h4 j (by omega)
      · unfold bakedL
        rw [all_at fun j hj => h4 j (by omega), Bool.true_and]
        exact decide_eq_decide.2 (by omega)
  · cases h
def ckHasPre : Ck
  | [.str s, .str p] => some (True, .bool (Lib.hasPrefix s p))
  | _ => none
theorem conHasPre : Con pg 36 ckHasPre := by
  intro args q r h hq
  unfold ckHasPre at h
  split at h
  · cases h
    rename_i s p
    exact pcall_shelf (by kernel_rfl) rfl fun w hw => (Tryd.strings_HasPrefix ⟨s.toArray⟩ ⟨p.toArray⟩ w).mono fun e w' h => shelf_bool h.1 (grow_eq h.2)
  · cases h
attribute [push_cast] ckHasPre
def ckIsPathM : Ck
  | [.str s] => some (s.length ≤ 4611686018427387900, .bool (decide (1 ≤ s.length) && decide ((s.getD 0 0).toNat = 47) && rowP s))
  | _ => none
theorem pre47 (s : List UInt8) : Lib.hasPrefix s [47] = (decide (1 ≤ s.length) && decide ((s.getD 0 0).toNat = 47)) := by
  cases s with
  | nil => rfl
  | cons c t =>
    rw [decide_eq_true (show 1 ≤ (c :: t).length by simp), Bool.true_and, List.getD_cons_zero]
    have e : Lib.hasPrefix (c :: t) [47] = (47 == c) := by simp [Lib.hasPrefix, List.isPrefixOf]
    rw [e, Bool.eq_iff_iff, beq_iff_eq, decide_eq_true_eq]
    exact ⟨fun h => by rw [← h]; rfl, fun h => (UInt8.toNat_inj.1 h).symm⟩
theorem conIsPathM : Con pg 25 ckIsPathM := by
  have hct := (ctA_ok conHasPre (ctA_ok conIsRow (ctN_ok _)))
  intro args q r h hq
  unfold ckIsPathM at h
  split at h
  · cases h
    rename_i s
    refine w25 (fun _ => false) [] rfl hct rfl rfl ?_
    push_cast (config := { maxSteps := 10000000 })
    exact ⟨fun h => ⟨h, hq⟩, by rw [rowP_re, pre47]⟩
  · cases h
attribute [push_cast] ckIsPathM
/-- the error of a cookie alone -/
def checkCooL (c : Coo) : Int := if tokL c.na = true then (if bakedL c.va = true then (if (hostL c.ho && lowL c.ho == c.ho) = true then (if cpathL c.pa = true then (if (-1 ≤ c.un ∧ c.un ≤ 256402300799) ∧ 0 ≤ c.si ∧ c.si ≤ 253402300799 then 0 else 1) else 3) else 10) else 3) else 5
def ckCheckCoo : Ck
  | [.agg [.str na, .str va, .str ho, .bool wi, .str pa, .bool se, .int .i64 un, .int .i64 si]] => some (cooOk ⟨na, va, ho, wi, pa, se, un, si⟩, .int .i64 (checkCooL ⟨na, va, ho, wi, pa, se, un, si⟩))
  | _ => none
theorem cc5 {c : Coo} (h : tokL c.na = false) : 5 = checkCooL c := by unfold checkCooL; rw [if_neg (by rw [h]; simp)]
theorem ccv {c : Coo} (h1 : tokL c.na = true) (h : bakedL c.va = false) : 3 = checkCooL c := by unfold checkCooL; rw [if_pos h1, if_neg (by rw [h]; simp)]
theorem cch {c : Coo} (h1 : tokL c.na = true) (h2 : bakedL c.va = true) (h : ¬ (hostL c.ho = true ∧ lowL c.ho = c.ho)) : 10 = checkCooL c := by unfold checkCooL; rw [if_pos h1, if_pos h2, if_neg (by rw [Bool.and_eq_true, beq_iff_eq]; exact h)]
theorem ccp {c : Coo} (h1 : tokL c.na = true) (h2 : bakedL c.va = true) (h3 : hostL c.ho = true ∧ lowL c.ho = c.ho) (h : ¬ cpathL c.pa = true) : 3 = checkCooL c := by unfold checkCooL; rw [if_pos h1, if_pos h2, if_pos (by rw [Bool.and_eq_true, beq_iff_eq]; exact h3), if_neg h]
theorem ccr {c : Coo} (h1 : tokL c.na = true) (h2 : bakedL c.va = true) (h3 : hostL c.ho = true ∧ lowL c.ho = c.ho) (h4 : cpathL c.pa = true) : checkCooL c = if (-1 ≤ c.un ∧ c.un ≤ 256402300799) ∧ 0 ≤ c.si ∧ c.si ≤ 253402300799 then 0 else 1 := by unfold checkCooL; rw [if_pos h1, if_pos h2, if_pos (by rw [Bool.and_eq_true, beq_iff_eq]; exact h3), if_pos h4]
theorem cpath_iff {s : List UInt8} : cpathL s = true ↔ ((1 ≤ s.length ∧ (s.getD 0 0).toNat = 47) ∧ rowP s = true) ∧ s.length ≤ 2000 := by
  simp only [cpathL, Bool.and_eq_true, decide_eq_true_eq]
theorem conCheckCoo : Con pg 10 ckCheckCoo := by
  have hct := (ctA_ok conIsToken (ctA_ok conBaked (ctA_ok conIsHost (ctA_ok conIsPathM (ctA_ok conIsMoment (ctN_ok _))))))
  intro args q r h hq
  unfold ckCheckCoo at h
  split at h
  · cases h
    rename_i na va ho wi pa se un si
    refine w10 (fun _ => false) [] rfl hct rfl rfl ?_
    push_cast (config := { maxSteps := 10000000 })
    have q2 : va.length ≤ 140737488355328 := hq.2.1
    have q3 : ho.length ≤ 140737488355328 := hq.2.2.1
    have q4 : pa.length ≤ 140737488355328 := hq.2.2.2.1
    refine ⟨fun h => cc5 h, fun h1 => ⟨by omega, fun h => ccv h1 h, fun h2 => ⟨by omega, fun h => cch h1 h2 (fun x => h x.1 x.2), fun h3 => ⟨by omega, fun h => ccp h1 h2 h3 ?_, fun h4 => ?_⟩⟩⟩⟩
    · intro hc
      have hc := cpath_iff.1 hc
      rcases h with h | h
      · have := h hc.1.1
        rw [hc.1.2] at this; cases this
      · have := hc.2
        change pa.length ≤ 2000 at this
        omega
    · have hr := ccr (c := ⟨na, va, ho, wi, pa, se, un, si⟩) h1 h2 h3 (cpath_iff.2 ⟨h4.1, by have := h4.2; show pa.length ≤ 2000; omega⟩)
      simp only at hr
      rw [hr]
      exact ⟨fun h => by rw [if_neg (by omega)], fun h => by rw [if_pos (by omega)]⟩
  · cases h
attribute [push_cast] ckCheckCoo
theorem conCheckCoo2 : Con pg 15 ckCheckCoo := by
  have hct := (ctA_ok conIsToken2 (ctA_ok conBaked2 (ctA_ok conIsHost2 (ctA_ok conSmall (ctA_ok conCPath2 (ctA_ok conWithin2b (ctN_ok _)))))))
  intro args q r h hq
  unfold ckCheckCoo at h
  split at h
  · cases h
    rename_i na va ho wi pa se un si
    refine w15 (fun _ => false) [] rfl hct rfl rfl ?_
    push_cast (config := { maxSteps := 10000000 })
    have q1 : na.length ≤ 140737488355328 := hq.1
    have q2 : va.length ≤ 140737488355328 := hq.2.1
    have q3 : ho.length ≤ 140737488355328 := hq.2.2.1
    have q4 : pa.length ≤ 140737488355328 := hq.2.2.2.1
    refine ⟨by omega, fun h => cc5 h, fun h1 => ⟨by omega, fun h => ccv h1 h, fun h2 => ⟨by omega, fun h => ⟨h, by omega⟩, fun h => cch h1 h2 (fun x => ?_), fun h3 => ⟨by omega, fun h => ccp h1 h2 h3 (by rw [h]; simp), fun h4 => ?_⟩⟩⟩⟩
    · rcases h with h | h
      · have := x.1
        change hostL ho = true at this
        rw [h] at this; cases this
      · exact h x.2
    · have hr := ccr (c := ⟨na, va, ho, wi, pa, se, un, si⟩) h1 h2 h3 h4
      simp only at hr
      rw [hr]
      exact ⟨fun h => by rw [if_neg (by omega)], fun h => by rw [if_pos (by omega)]⟩
  · cases h
def sameC (a b : Coo) : Bool := a.na == b.na && a.ho == b.ho && a.pa == b.pa
def ckSame : Ck
  | [.agg [.str a1, .str a2, .str a3, .bool a4, .str a5, .bool a6, .int .i64 a7, .int .i64 a8], .agg [.str b1, .str b2, .str b3, .bool b4, .str b5, .bool b6, .int .i64 b7, .int .i64 b8]] => some (True, .bool (a1 == b1 && a3 == b3 && a5 == b5))
  | _ => none
theorem conSame : Con pg 13 ckSame := by
  have hct := ctN_ok pg
  intro args q r h hq
  unfold ckSame at h
  split at h
  · cases h
    rename_i a1 a2 a3 a4 a5 a6 a7 a8 b1 b2 b3 b4 b5 b6 b7 b8
    refine w13 (fun _ => false) [] rfl hct rfl rfl ?_
    push_cast (config := { maxSteps := 10000000 })
  · cases h
attribute [push_cast] ckSame
theorem conSame2 : Con pg 18 ckSame := by
  have hct := ctN_ok pg
  intro args q r h hq
  unfold ckSame at h
  split at h
  · cases h
    rename_i a1 a2 a3 a4 a5 a6 a7 a8 b1 b2 b3 b4 b5 b6 b7 b8
    refine w18 (fun _ => false) [] rfl hct rfl rfl ?_
    push_cast (config := { maxSteps := 10000000 })
  · cases h
def endedC (a : Coo) (m : Int) : Bool := decide (a.un ≠ -1) && decide (a.un ≤ m)
def ckEnded : Ck
  | [.agg [.str a1, .str a2, .str a3, .bool a4, .str a5, .bool a6, .int .i64 a7, .int .i64 a8], .int .i64 m] => some (True, .bool (decide (a7 ≠ -1) && decide (a7 ≤ m)))
  | _ => none
theorem conEnded : Con pg 12 ckEnded := by
  have hct := ctN_ok pg
  intro args q r h hq
  unfold ckEnded at h
  split at h
  · cases h
    rename_i a1 a2 a3 a4 a5 a6 a7 a8 m
    refine w12 (fun _ => false) [] rfl hct rfl rfl ?_
    push_cast (config := { maxSteps := 10000000 })
    congr 1
    rw [Bool.eq_iff_iff, bne_iff_ne, decide_eq_true_eq]
  · cases h
attribute [push_cast] ckEnded
theorem conEnded2 : Con pg 17 ckEnded := by
  have hct := ctN_ok pg
  intro args q r h hq
  unfold ckEnded at h
  split at h
  · cases h
    rename_i a1 a2 a3 a4 a5 a6 a7 a8 m
    refine w17 (fun _ => false) [] rfl hct rfl rfl ?_
    push_cast (config := { maxSteps := 10000000 })
    congr 1
    rw [Bool.eq_iff_iff, bne_iff_ne, decide_eq_true_eq]
  · cases h

end Go.Abs
