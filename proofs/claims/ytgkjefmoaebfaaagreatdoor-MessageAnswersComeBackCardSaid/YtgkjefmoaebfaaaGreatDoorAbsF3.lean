/- what functions of this program compute: contracts, each a function's own -/
import Derived.Test.YtgkjefmoaebfaaaGreatDoorAbsK2
import Derived.Test.YtgkjefmoaebfaaaGreatDoorAbsFacts
import Derived.Test.YtgkjefmoaebfaaaGreatDoorAbsF2
import Derived.Test.YtgkjefmoaebfaaaGreatDoorAbsShelf
import Derived.Lib.SplitLaws
import Derived.Lib.SlTrimSet
import Derived.Lib.Atoi
import Derived.Lib.Itoa
import Derived.Lib.ItoaNum
import Derived.Lib.AtoiErrMem
import Derived.Lib.Index
import Derived.Lib.IndexBytes
import Derived.Lib.Walk
import Derived.Lib.BitFns
import Derived.Lib.TrailingZeros
import Derived.Lib.ItoaLen
namespace Go.Abs
open Go Go.Proofs
set_option maxHeartbeats 4000000
set_option maxRecDepth 100000
set_option linter.unusedVariables false
set_option linter.unusedSimpArgs false
def bareL (s : List UInt8) : Bool := s.all fun c => decide (c ≠ 13) && decide (c ≠ 10)
theorem crlf_pre (c : UInt8) (t : List UInt8) : crlf.isPrefixOf (c :: t) = true ↔ c = 13 ∧ t.getD 0 0 = 10 ∧ 0 < t.length := by
  cases t with
  | nil => simp [crlf, List.isPrefixOf]
  | cons d t => simp [crlf, List.isPrefixOf]; exact ⟨fun h => ⟨h.1.symm, h.2.symm⟩, fun h => ⟨h.1.symm, h.2.symm⟩⟩
theorem lineS_idx : ∀ r : List UInt8, lineS r = if 0 ≤ Lib.index r crlf ∧ bareL (r.take (Lib.index r crlf).toNat) = true then some (r.take (Lib.index r crlf).toNat) else none
  | [] => by
    have e : Lib.index [] crlf = -1 := by rw [Lib.index]; rfl
    rw [e, if_neg (by omega)]; rfl
  | c :: t => by
    have ih := lineS_idx t
    have hp := crlf_pre c t
    have hge := Lib.index_ge t crlf
    rw [lineS, Lib.index]
    by_cases h : crlf.isPrefixOf (c :: t) = true
    · obtain ⟨h1, h2, h3⟩ := hp.1 h
      rw [if_pos h, if_pos h1, if_pos ⟨h2, h3⟩, if_pos ⟨by omega, rfl⟩]
      rfl
    · rw [if_neg h]
      by_cases hm : (Lib.index t crlf == -1) = true
      · rw [if_pos hm]
        rw [show (if 0 ≤ (-1 : Int) ∧ bareL ((c :: t).take (-1 : Int).toNat) = true then some ((c :: t).take (-1 : Int).toNat) else none) = none from if_neg (fun x => by have := x.1; omega)]
        rw [beq_iff_eq] at hm
        rw [if_neg (fun x => by have := x.1; omega)] at ih
        by_cases h1 : c = 13
        · rw [if_pos h1, if_neg (fun x => h (hp.2 ⟨h1, x.1, x.2⟩))]
        rw [if_neg h1, ih]
        by_cases h2 : c = 10
        · rw [if_pos h2]
        · rw [if_neg h2]; rfl
      · rw [if_neg hm]
        have hn : Lib.index t crlf ≠ -1 := fun e => hm (beq_iff_eq.2 e)
        rw [show (Lib.index t crlf + 1).toNat = (Lib.index t crlf).toNat + 1 by omega, List.take_succ_cons]
        by_cases h1 : c = 13
        · rw [if_pos h1, if_neg (fun x => h (hp.2 ⟨h1, x.1, x.2⟩)), if_neg]
          rintro ⟨_, x⟩
          unfold bareL at x
          rw [List.all_cons, Bool.and_eq_true] at x
          subst h1
          exact absurd x.1 (by decide)
        rw [if_neg h1]
        by_cases h2 : c = 10
        · rw [if_pos h2, if_neg]
          rintro ⟨_, x⟩
          unfold bareL at x
          rw [List.all_cons, Bool.and_eq_true] at x
          subst h2
          exact absurd x.1 (by decide)
        rw [if_neg h2, ih]
        have eb : bareL (c :: t.take (Lib.index t crlf).toNat) = bareL (t.take (Lib.index t crlf).toNat) := by
          unfold bareL
          rw [List.all_cons, decide_eq_true h1, decide_eq_true h2]; rfl
        rw [eb]
        by_cases hb : bareL (t.take (Lib.index t crlf).toNat) = true
        · rw [if_pos ⟨by omega, hb⟩, if_pos ⟨by omega, hb⟩]; rfl
        · rw [if_neg (fun x => hb x.2), if_neg (fun x => hb x.2)]; rfl

/- a request is read as it was written -/
theorem lineS_app : ∀ (s r : List UInt8), bareL s = true → lineS (s ++ [13, 10] ++ r) = some s
  | [], r, _ => by
    show lineS (13 :: 10 :: r) = some []
    rw [lineS, if_pos rfl, if_pos ⟨rfl, by simp⟩]
  | c :: t, r, h => by
    unfold bareL at h
    rw [List.all_cons, Bool.and_eq_true, Bool.and_eq_true, decide_eq_true_eq, decide_eq_true_eq] at h
    have ih := lineS_app t r h.2
    show lineS (c :: (t ++ [13, 10] ++ r)) = _
    rw [lineS, if_neg h.1.1, if_neg h.1.2, ih]; rfl
theorem lineS_inv : ∀ {l s : List UInt8}, lineS l = some s → l = s ++ [13, 10] ++ l.drop (s.length + 2)
  | [], s, h => by cases h
  | c :: t, s, h => by
    rw [lineS] at h
    split at h
    · split at h
      · rename_i h1 h2
        cases h
        subst h1
        match t, h2 with
        | d :: u, h2 =>
          have e : d = 10 := by simpa using h2.1
          subst e; rfl
      · cases h
    · split at h
      · cases h
      · cases ht : lineS t with
        | none => rw [ht] at h; cases h
        | some z =>
          rw [ht] at h; cases h
          have ih := lineS_inv ht
          simp only [List.length_cons, List.cons_append]
          rw [show z.length + 1 + 2 = (z.length + 2) + 1 by omega, List.drop_succ_cons]
          congr 1
theorem ln_app {p s r : List UInt8} (h : bareL s = true) : lnB (p ++ (s ++ [13, 10] ++ r)) p.length = true ∧ lnS (p ++ (s ++ [13, 10] ++ r)) p.length = s ∧ lnN (p ++ (s ++ [13, 10] ++ r)) p.length = (p ++ (s ++ [13, 10])).length := by
  have e : lineS ((p ++ (s ++ [13, 10] ++ r)).drop p.length) = some s := by rw [List.drop_left]; exact lineS_app s r h
  unfold lnB lnS lnN
  rw [e]
  refine ⟨rfl, rfl, ?_⟩
  simp; omega
theorem bare_app (a b : List UInt8) : bareL (a ++ b) = (bareL a && bareL b) := by unfold bareL; rw [List.all_append]
theorem all_imp {s : List UInt8} {p q : UInt8 → Bool} (h : s.all p = true) (hi : ∀ c, p c = true → q c = true) : s.all q = true := by
  rw [List.all_eq_true] at h ⊢
  exact fun x hx => hi x (h x hx)
theorem u8_all {P : UInt8 → Prop} (h : ∀ n, n < 256 → P (UInt8.ofNat n)) (c : UInt8) : P c := by
  have := h c.toNat (UInt8.toNat_lt c)
  simpa using this
theorem tok_plain (c : UInt8) : tokB c = true → c ≠ 13 ∧ c ≠ 10 ∧ c ≠ 32 ∧ c ≠ 58 := by
  refine u8_all (P := fun c => tokB c = true → c ≠ 13 ∧ c ≠ 10 ∧ c ≠ 32 ∧ c ≠ 58) ?_ c
  decide +kernel
theorem val_plain (c : UInt8) : valB c = true → c ≠ 13 ∧ c ≠ 10 := by
  refine u8_all (P := fun c => valB c = true → c ≠ 13 ∧ c ≠ 10) ?_ c
  decide +kernel
theorem tg_plain (c : UInt8) : tgB c = true → c ≠ 13 ∧ c ≠ 10 ∧ c ≠ 32 := by
  refine u8_all (P := fun c => tgB c = true → c ≠ 13 ∧ c ≠ 10 ∧ c ≠ 32) ?_ c
  decide +kernel
theorem spl_no (c : UInt8) : ∀ s : List UInt8, (∀ x ∈ s, x ≠ c) → spl c s = [s]
  | [], _ => rfl
  | x :: t, h => by
    rw [spl, if_neg (h x (by simp)), spl_no c t fun y hy => h y (by simp [hy])]; rfl
theorem spl_cut (c : UInt8) : ∀ (s r : List UInt8), (∀ x ∈ s, x ≠ c) → spl c (s ++ c :: r) = s :: spl c r
  | [], r, _ => by show spl c (c :: r) = _; rw [spl, if_pos rfl]
  | x :: t, r, h => by
    show spl c (x :: (t ++ c :: r)) = _
    rw [spl, if_neg (h x (by simp)), spl_cut c t r fun y hy => h y (by simp [hy])]; rfl
theorem idx_colon : ∀ (n v : List UInt8), (∀ x ∈ n, x ≠ 58) → Lib.index (n ++ 58 :: 32 :: v) [58, 32] = n.length
  | [], v, _ => by
    show Lib.index (58 :: 32 :: v) [58, 32] = 0
    rw [Lib.index, if_pos (by simp [List.isPrefixOf])]
  | x :: t, v, h => by
    have ih := idx_colon t v fun y hy => h y (by simp [hy])
    have hx := h x (by simp)
    show Lib.index (x :: (t ++ 58 :: 32 :: v)) [58, 32] = _
    have hp : ([58, 32] : List UInt8).isPrefixOf (x :: (t ++ 58 :: 32 :: v)) = false := by simp [List.isPrefixOf, Ne.symm hx]
    rw [Lib.index, hp, ih]
    have h2 : ((t.length : Int) == -1) = false := by rw [beq_eq_false_iff_ne]; omega
    rw [h2]
    simp
theorem no_colon {n : List UInt8} (h : ∀ x ∈ n, x ≠ 58) : Lib.contains n [58] = false := by
  unfold Lib.contains
  rw [decide_eq_false]
  intro h0
  rcases Lib.index_spec n [58] with ⟨h1, _⟩ | ⟨i, h1, h2, h3, _⟩
  · omega
  · unfold Lib.occAt at h3
    cases hd : n.drop i with
    | nil => rw [hd] at h3; simp [List.isPrefixOf] at h3
    | cons y t =>
      rw [hd] at h3
      have e : (58 : UInt8) = y := by simpa [List.isPrefixOf] using h3
      exact h y (List.mem_of_mem_drop (by rw [hd]; simp)) e.symm
theorem hd_app {h : Hd} (hn : ∀ x ∈ h.name, x ≠ 58) (hne : h.name ≠ []) : hdB (h.name ++ [58, 32] ++ h.value) = true ∧ hdV (h.name ++ [58, 32] ++ h.value) = h := by
  have e : hdCut (h.name ++ [58, 32] ++ h.value) = (h.name, h.value, true) := by
    unfold hdCut Lib.cut
    rw [show h.name ++ [58, 32] ++ h.value = h.name ++ 58 :: 32 :: h.value by simp, idx_colon _ _ hn, if_pos (by omega)]
    simp
  have hB : hdB (h.name ++ [58, 32] ++ h.value) = true := by
    unfold hdB
    rw [e]
    simp only
    rw [no_colon hn, bne_iff_ne.2 hne]; rfl
  refine ⟨hB, ?_⟩
  unfold hdV
  rw [if_pos hB, e]
theorem hd_inv {s : List UInt8} (h : hdB s = true) : s = (hdV s).name ++ [58, 32] ++ (hdV s).value := by
  unfold hdV
  rw [if_pos h]
  unfold hdB at h
  simp only [Bool.and_eq_true] at h
  have h1 := h.1.1
  unfold hdCut Lib.cut at h1 ⊢
  rcases Lib.index_spec s [58, 32] with ⟨h2, _⟩ | ⟨i, h2, h3, h4, _⟩
  · rw [h2, if_neg (by omega)] at h1; cases h1
  · rw [h2, if_pos (by omega)]
    unfold Lib.occAt at h4
    obtain ⟨t, ht⟩ := List.isPrefixOf_iff_prefix.1 h4
    simp only [Int.toNat_natCast]
    have e : s = s.take i ++ s.drop i := (List.take_append_drop i s).symm
    have e2 : s.drop (i + ([58, 32] : List UInt8).length) = t := by
      rw [← List.drop_drop, ← ht]; rfl
    show s = s.take i ++ [58, 32] ++ s.drop (i + ([58, 32] : List UInt8).length)
    rw [e2, List.append_assoc, ht]; exact e
theorem rh_app : ∀ (hd : List Hd) (p : List UInt8) (out : List Hd) (k : Nat) (r : List UInt8), hd.length < k → (∀ h ∈ hd, tokL h.name = true ∧ valueL h.value = true) → rhL (p ++ (headsB hd ++ [13, 10] ++ r)) k p.length out = (out ++ hd, (p ++ (headsB hd ++ [13, 10])).length, true)
  | [], p, out, k + 1, r, _, _ => by
    have h := ln_app (p := p) (s := []) (r := r) rfl
    simp only [List.nil_append] at h
    show rhL (p ++ ([13, 10] ++ r)) (k + 1) p.length out = _
    rw [rhL, if_neg (by simp), h.1, if_neg (by simp), h.2.1, if_pos rfl, h.2.2]
    simp [headsB]
  | x :: t, p, out, k + 1, r, hk, hok => by
    have hx := hok x (by simp)
    have ht := hx.1
    have hv := hx.2
    simp only [tokL, valueL, Bool.and_eq_true, decide_eq_true_eq] at ht hv
    have hbare : bareL (x.name ++ [58, 32] ++ x.value) = true := by
      rw [bare_app, bare_app]
      have b1 : bareL x.name = true := all_imp ht.2 fun c hc => by have := tok_plain c hc; simp [this.1, this.2.1]
      have b2 : bareL x.value = true := all_imp hv.2 fun c hc => by have := val_plain c hc; simp [this.1, this.2]
      rw [b1, b2]; rfl
    have hn : ∀ y ∈ x.name, y ≠ 58 := fun y hy => (tok_plain y (List.all_eq_true.1 ht.2 y hy)).2.2.2
    have hne : x.name ≠ [] := fun e => by rw [e] at ht; simp at ht
    have e : p ++ (headsB (x :: t) ++ [13, 10] ++ r) = p ++ ((x.name ++ [58, 32] ++ x.value) ++ [13, 10] ++ (headsB t ++ [13, 10] ++ r)) := by simp [headsB, headB]
    have h := ln_app (p := p) (s := x.name ++ [58, 32] ++ x.value) (r := headsB t ++ [13, 10] ++ r) hbare
    have hh := hd_app hn hne
    rw [e, rhL, if_neg (by simp; omega), h.1, if_neg (by simp), h.2.1, if_neg (by simp), hh.1, if_neg (by simp), hh.2, h.2.2]
    have ih := rh_app t (p ++ ((x.name ++ [58, 32] ++ x.value) ++ [13, 10])) (out ++ [x]) k r (by simp at hk; omega) fun y hy => hok y (by simp [hy])
    rw [show p ++ ((x.name ++ [58, 32] ++ x.value) ++ [13, 10] ++ (headsB t ++ [13, 10] ++ r)) = p ++ ((x.name ++ [58, 32] ++ x.value) ++ [13, 10]) ++ (headsB t ++ [13, 10] ++ r) by simp, ih]
    simp [headsB, headB]
theorem headsB_ge : ∀ l : List Hd, l.length ≤ (headsB l).length
  | [] => Nat.zero_le _
  | x :: t => by have := headsB_ge t; simp [headsB, headB]; omega
theorem inq_parts {a : Inq} (h : checkInqL a = 0) : tokL a.me = true ∧ targetL a.tg = true ∧ checkHeadsL a.hd = 0 := by
  unfold checkInqL at h
  split at h
  · rename_i h1
    split at h
    · rename_i h2
      split at h
      · rename_i h3; exact ⟨h1, h2, h3⟩
      · rename_i h3; exact absurd h h3
    · omega
  · omega
theorem heads_mem {l : List Hd} (e : checkHeadsL l = 0) : ∀ h ∈ l, tokL h.name = true ∧ valueL h.value = true := by
  unfold checkHeadsL at e
  split at e
  · omega
  · have key : ∀ {l : List Hd}, headsGo l = 0 → ∀ h ∈ l, tokL h.name = true ∧ valueL h.value = true := by
      intro l
      induction l with
      | nil => intro _ h hh; cases hh
      | cons x t ih =>
        intro e h hh
        simp only [headsGo] at e
        split at e
        · rename_i h1
          split at e
          · rename_i h2
            rcases List.mem_cons.1 hh with rfl | hh
            · exact ⟨h1, h2⟩
            · exact ih e h hh
          · omega
        · omega
    exact key e
/-- a request that was written is read -/
theorem req_back {a : Inq} (h : checkInqL a = 0) (hl : (reqB a).length ≤ 400000) : rqL (reqB a) = (a, 0, 0) := by
  obtain ⟨p1, p2, p3⟩ := inq_parts h
  simp only [tokL, targetL, Bool.and_eq_true, decide_eq_true_eq] at p1 p2
  have m1 : ∀ x ∈ a.me, x ≠ 32 := fun x hx => (tok_plain x (List.all_eq_true.1 p1.2 x hx)).2.2.1
  have m2 : ∀ x ∈ a.tg, x ≠ 32 := fun x hx => (tg_plain x (List.all_eq_true.1 p2.2 x hx)).2.2
  have hb : bareL (a.me ++ 32 :: (a.tg ++ 32 :: wWeb)) = true := by
    rw [bare_app, show 32 :: (a.tg ++ 32 :: wWeb) = [32] ++ (a.tg ++ ([32] ++ wWeb)) from rfl, bare_app, bare_app]
    have b1 : bareL a.me = true := all_imp p1.2 fun c hc => by have := tok_plain c hc; simp [this.1, this.2.1]
    have b2 : bareL a.tg = true := all_imp p2.2 fun c hc => by have := tg_plain c hc; simp [this.1, this.2.1]
    rw [b1, b2]; rfl
  have e : reqB a = [] ++ ((a.me ++ 32 :: (a.tg ++ 32 :: wWeb)) ++ [13, 10] ++ (headsB a.hd ++ [13, 10] ++ a.bd)) := by simp [reqB, reqP, wWeb]
  have hln := ln_app (p := []) (r := headsB a.hd ++ [13, 10] ++ a.bd) hb
  rw [← e] at hln
  simp only [List.length_nil] at hln
  have hw : rqW (reqB a) = [a.me, a.tg, wWeb] := by
    unfold rqW
    rw [hln.2.1, splitL_eq, spl_cut 32 _ _ m1, spl_cut 32 _ _ m2, spl_no 32 wWeb (by decide)]
  have hk : rqOk (reqB a) = true := by
    unfold rqOk
    rw [hw, hln.1]
    have n1 : a.me ≠ [] := fun e => by rw [e] at p1; simp at p1
    have n2 : a.tg ≠ [] := fun e => by rw [e] at p2; simp at p2
    simp [n1, n2]
  have hh : rqH (reqB a) = (a.hd, ((a.me ++ 32 :: (a.tg ++ 32 :: wWeb)) ++ [13, 10] ++ (headsB a.hd ++ [13, 10])).length, true) := by
    have hr := rh_app a.hd ((a.me ++ 32 :: (a.tg ++ 32 :: wWeb)) ++ [13, 10]) [] ((reqB a).length + 1) a.bd (by have := heads_100 p3; have : a.hd.length ≤ (headsB a.hd).length := headsB_ge a.hd; have : (headsB a.hd).length ≤ (reqB a).length := (by simp only [reqB, List.length_append]; omega); omega) (heads_mem p3)
    unfold rqH
    rw [hln.2.2]
    have e2 : reqB a = ((a.me ++ 32 :: (a.tg ++ 32 :: wWeb)) ++ [13, 10]) ++ (headsB a.hd ++ [13, 10] ++ a.bd) := by rw [e]; simp
    rw [← e2] at hr
    simpa using hr
  have hI : rqI (reqB a) = a := by
    unfold rqI
    rw [hw, hh]
    have e3 : (reqB a).drop ((a.me ++ 32 :: (a.tg ++ 32 :: wWeb)) ++ [13, 10] ++ (headsB a.hd ++ [13, 10])).length = a.bd := by
      rw [e]
      have : [] ++ ((a.me ++ 32 :: (a.tg ++ 32 :: wWeb)) ++ [13, 10] ++ (headsB a.hd ++ [13, 10] ++ a.bd)) = ((a.me ++ 32 :: (a.tg ++ 32 :: wWeb)) ++ [13, 10] ++ (headsB a.hd ++ [13, 10])) ++ a.bd := by simp
      rw [this, List.drop_left]
    rw [e3]; rfl
  unfold rqL
  rw [if_neg (by omega), if_pos hk, hh, if_pos rfl, hI, if_pos h]

theorem ln_inv {b : List UInt8} {a : Nat} (h : lnB b a = true) : b.drop a = lnS b a ++ [13, 10] ++ b.drop (lnN b a) := by
  unfold lnB at h
  unfold lnS lnN
  cases hs : lineS (b.drop a) with
  | none => rw [hs] at h; cases h
  | some s =>
    have := lineS_inv hs
    simp only [Option.getD_some]
    rw [List.drop_drop] at this
    rw [show a + s.length + 2 = a + (s.length + 2) by omega]; exact this
theorem rh_inv {b : List UInt8} : ∀ (k a : Nat) (out : List Hd), (rhL b k a out).2.2 = true → ∃ t, (rhL b k a out).1 = out ++ t ∧ b.drop a = headsB t ++ [13, 10] ++ b.drop (rhL b k a out).2.1
  | 0, a, out, h => by simp [rhL] at h
  | k + 1, a, out, h => by
    rw [rhL] at h ⊢
    by_cases h1 : b.length ≤ a
    · rw [if_pos h1] at h; cases h
    rw [if_neg h1] at h ⊢
    by_cases h2 : lnB b a = false
    · rw [if_pos h2] at h; cases h
    rw [if_neg h2] at h ⊢
    have hi := ln_inv (b := b) (a := a) (by simpa using h2)
    by_cases h3 : lnS b a = []
    · rw [if_pos h3]
      rw [h3] at hi
      exact ⟨[], by simp, hi⟩
    rw [if_neg h3] at h ⊢
    by_cases h4 : hdB (lnS b a) = false
    · rw [if_pos h4] at h; cases h
    rw [if_neg h4] at h ⊢
    obtain ⟨t, e1, e2⟩ := rh_inv k (lnN b a) (out ++ [hdV (lnS b a)]) h
    have hd := hd_inv (s := lnS b a) (by simpa using h4)
    refine ⟨hdV (lnS b a) :: t, by rw [e1]; simp, ?_⟩
    rw [hi, e2]
    generalize (rhL b k (lnN b a) (out ++ [hdV (lnS b a)])).2.1 = q
    generalize hdV (lnS b a) = h at hd ⊢
    rw [headsB, headB, hd]
    simp
theorem req_inv {b : List UInt8} (h : (rqL b).2.2 = 0) : (rqL b).1 = rqI b ∧ checkInqL (rqI b) = 0 ∧ reqB (rqI b) = b ∧ rqL b = (rqI b, 0, 0) := by
  unfold rqL at h ⊢
  by_cases h0 : 400000 < b.length
  · rw [if_pos h0] at h; cases h
  rw [if_neg h0] at h ⊢
  by_cases h1 : rqOk b = true
  · rw [if_pos h1] at h ⊢
    by_cases h2 : (rqH b).2.2 = true
    · rw [if_pos h2] at h ⊢
      by_cases h3 : checkInqL (rqI b) = 0
      · rw [if_pos h3]
        refine ⟨rfl, h3, ?_, rfl⟩
        simp only [rqOk, Bool.and_eq_true, decide_eq_true_eq, beq_iff_eq] at h1
        obtain ⟨⟨⟨⟨l1, l2⟩, _⟩, _⟩, l3⟩ := h1
        have hi := ln_inv l1
        obtain ⟨t, e1, e2⟩ := rh_inv _ _ _ h2
        have e1' : (rqH b).1 = t := by rw [List.nil_append] at e1; exact e1
        have hj := spl_join 32 (lnS b 0)
        have hw : rqW b = spl 32 (lnS b 0) := by unfold rqW; exact splitL_eq _ _
        rw [← hw] at hj
        have hs : lnS b 0 = (rqW b).getD 0 [] ++ [32] ++ (rqW b).getD 1 [] ++ [32] ++ wWeb := by
          rw [← l3]
          rw [← hj]
          match rqW b, l2 with
          | [x, y, z], _ => simp [List.intercalate, List.intersperse]
        rw [List.drop_zero] at hi
        unfold reqB reqP rqI
        simp only
        rw [e1']
        conv => rhs; rw [hi, hs, e2]
        simp [wWeb, rqH]
      · rw [if_neg h3] at h; exact absurd h h3
    · rw [if_neg h2] at h; cases h
  · rw [if_neg h1] at h; cases h
theorem req_none {b : List UInt8} (h : ¬ (rqL b).2.2 = 0) : (rqL b).1.me = [] := by
  unfold rqL at h ⊢
  (repeat' split) <;> first | rfl | skip
  all_goals (simp_all)

def ckCutPre : Ck
  | [.str s, .str p] => some (s.length ≤ 140737488355328, .tup [.str (Lib.trimPrefix s p), .bool (Lib.hasPrefix s p)])
  | _ => none
theorem conCutPre : Con pg 64 ckCutPre := by
  intro args q r h hq
  unfold ckCutPre at h
  split at h
  · cases h
    rename_i s p
    refine pcall_shelf (by kernel_rfl) rfl fun w hw => (Tryz.strings_CutPrefix ⟨s.toArray⟩ ⟨p.toArray⟩ w).mono fun e w' h => ?_
    refine ⟨_, h.1, ?_, fun γ imm => .tup _ [_, _] rfl fun i hi => ?_⟩
    · exact grow_eq h.2
    match i, hi with
    | 0, _ => exact .pure (.str _)
    | 1, _ => exact .pure (.bool _)
  · cases h
attribute [push_cast] ckCutPre
def wWebS : List UInt8 := [87, 69, 66, 47, 49, 32]
/-- the first line of an answer: the status's digits, the reason -/
def tpC (b : List UInt8) : List UInt8 × List UInt8 × Bool := Lib.cut (Lib.trimPrefix (lnS b 0) wWebS) [32]
def tpOk (b : List UInt8) : Bool := lnB b 0 && Lib.hasPrefix (lnS b 0) wWebS && (tpC b).2.2 && digL (tpC b).1 9
def tpV (b : List UInt8) : Ans × Nat × Bool := if tpOk b = true then (⟨natOf (tpC b).1, (tpC b).2.1, (rqH b).1, []⟩, (rqH b).2.1, (rqH b).2.2) else (⟨0, [], [], []⟩, 0, false)
def ckReadTop : Ck
  | [.sl n f] => some (isBy n f ∧ n ≤ 400000, .tup [cAns.enc (tpV (bytesOf n f)).1, .int .i64 (tpV (bytesOf n f)).2.1, .bool (tpV (bytesOf n f)).2.2])
  | _ => none
theorem conReadTop : Con pg 30 ckReadTop := by
  have hct := (ctA_ok conLine (ctA_ok conCutPre (ctA_ok conCut (ctA_ok conDigits (ctA_ok conAtoi (ctA_ok conReadHeads (ctN_ok _)))))))
  intro args q r h hq
  unfold ckReadTop at h
  split at h
  · cases h
    rename_i n f
    refine pcall_args (args' := [.sl (bytesOf n f).length (byF (bytesOf n f))]) ⟨isBy.vle hq.1, trivial⟩ ?_
    have h1 : (bytesOf n f).length ≤ 400000 := by rw [bytesOf_len]; exact hq.2
    generalize bytesOf n f = b at h1 ⊢
    refine w30 (fun _ => false) [] rfl hct rfl rfl ?_
    push_cast (config := { maxSteps := 10000000 })
    have hsl := lnS_le b (Nat.zero_le b.length)
    have hl : (Lib.trimPrefix (lnS b 0) wWebS).length ≤ (lnS b 0).length := by unfold Lib.trimPrefix; split <;> simp
    have hc : (Lib.cut (Lib.trimPrefix (lnS b 0) wWebS) [32]).1.length ≤ (lnS b 0).length := by
      unfold Lib.cut; split
      · rw [List.length_take]; omega
      · exact hl
    change b.length ≤ 4611686018427387900 ∧ (lnS b 0).length ≤ 140737488355328 ∧ (Lib.trimPrefix (lnS b 0) wWebS).length < 4294967281 ∧ _
    refine ⟨by omega, by omega, by omega, fun h => ⟨h, ?_⟩, fun h => ?_, fun h => ?_⟩
    · exact Nat.le_trans hc (by omega)
    · have ek : tpOk b = false := by
        unfold tpOk tpC
        rcases h with ((h | h) | h) | h
        · rw [h]; rfl
        · rw [show Lib.hasPrefix (lnS b 0) wWebS = false from h]; simp
        · rw [show (Lib.cut (Lib.trimPrefix (lnS b 0) wWebS) [32]).2.2 = false from h]; simp
        · rw [show digL (Lib.cut (Lib.trimPrefix (lnS b 0) wWebS) [32]).1 9 = false from h]; simp
      unfold tpV; rw [if_neg (by simp [ek])]
      exact ⟨⟨rfl, rfl, rfl, rfl⟩, rfl, rfl⟩
    · have ek : tpOk b = true := by
        unfold tpOk tpC
        rw [h.1.1.1, show Lib.hasPrefix (lnS b 0) wWebS = true from h.1.1.2, show (Lib.cut (Lib.trimPrefix (lnS b 0) wWebS) [32]).2.2 = true from h.1.2, show digL (Lib.cut (Lib.trimPrefix (lnS b 0) wWebS) [32]).1 9 = true from h.2]; rfl
      have hd := digL_all (show digL (Lib.cut (Lib.trimPrefix (lnS b 0) wWebS) [32]).1 9 = true from h.2)
      have hf := ln_fit (Nat.zero_le b.length) h.1.1.1
      unfold tpV; rw [if_pos ek]
      exact ⟨⟨hd.1, by have := hd.2.1; change (Lib.cut (Lib.trimPrefix (lnS b 0) wWebS) [32]).1.length ≤ 18; omega, hd.2.2.1⟩, ⟨hf.2.1, by omega⟩, ⟨rfl, rfl, ⟨rfl, fun _ _ => rfl⟩, rfl⟩, rfl, rfl⟩
  · cases h
attribute [push_cast] ckReadTop

def digsL (s : List UInt8) : Bool := s.all isDg && decide (1 ≤ s.length)
theorem digsL_no {s : List UInt8} (h : s.all isDg = false) : false = digsL s := by unfold digsL; rw [h, Bool.false_and]
def ckIsDigits : Ck
  | [.str s] => some (s.length ≤ 4611686018427387904, .bool (digsL s))
  | _ => none
def plainL (s : List UInt8) : Bool := digsL s && (decide (s.length = 1) || decide (s.getD 0 0 ≠ 48))
/-- of digits: the number, or a limit -/
def capL (s : List UInt8) (n : Int) : Int := if 15 < s.length then n else min (natOf s : Int) n
/-- without 0s at its head, but for the last byte -/
def stripZ : List UInt8 → List UInt8
  | c :: d :: t => if c = 48 then stripZ (d :: t) else c :: d :: t
  | s => s
theorem stripZ_hit {s : List UInt8} (h1 : 1 < s.length) (h2 : s.getD 0 0 = 48) : stripZ s = stripZ (s.drop 1) := by
  match s, h1, h2 with
  | c :: d :: t, _, h2 => simp only [List.getD_cons_zero] at h2; rw [stripZ, if_pos h2]; rfl
theorem stripZ_miss {s : List UInt8} (h : 1 < s.length → ¬ s.getD 0 0 = 48) : stripZ s = s := by
  match s, h with
  | [], _ => rfl
  | [c], _ => rfl
  | c :: d :: t, h => rw [stripZ, if_neg (by simpa using h (by simp))]
theorem natOf_zero (s : List UInt8) : natOf (48 :: s) = natOf s := rfl
theorem natOf_strip (s : List UInt8) : natOf (stripZ s) = natOf s := by
  fun_induction stripZ s with
  | case1 d t ih => rw [ih, natOf_zero]
  | case2 c d t h => rfl
  | case3 s h => rfl
theorem stripZ_len (s : List UInt8) : (stripZ s).length ≤ s.length := by
  fun_induction stripZ s with
  | case1 d t ih => simp only [List.length_cons] at ih ⊢; omega
  | case2 c d t h => exact Nat.le_refl _
  | case3 s h => exact Nat.le_refl _
def ckCap : Ck
  | [.str s, .int .i64 n] => some (digsL s = true ∧ s.length ≤ 4611686018427387904, .int .i64 (capL (stripZ s) n))
  | _ => none
theorem digs_all {s : List UInt8} (h : digsL s = true) : 1 ≤ s.length ∧ s.all isDg = true := by
  simp only [digsL, Bool.and_eq_true, decide_eq_true_eq] at h
  exact ⟨h.2, h.1⟩
theorem plain_digs {s : List UInt8} (h : plainL s = true) : digsL s = true ∧ stripZ s = s := by
  simp only [plainL, Bool.and_eq_true, Bool.or_eq_true, decide_eq_true_eq] at h
  refine ⟨h.1, stripZ_miss fun h1 => ?_⟩
  rcases h.2 with h2 | h2
  · omega
  · exact h2
theorem plain_all {s : List UInt8} (h : plainL s = true) : 1 ≤ s.length ∧ s.all isDg = true ∧ (s.length = 1 ∨ s.getD 0 0 ≠ 48) := by
  simp only [plainL, digsL, Bool.and_eq_true, Bool.or_eq_true, decide_eq_true_eq] at h
  exact ⟨h.1.2, h.1.1, h.2⟩
theorem cap_small {s : List UInt8} {n : Int} (h : s.length ≤ 15) (hn : (natOf s : Int) ≤ n) : capL (stripZ s) n = natOf s := by
  have := stripZ_len s
  unfold capL
  rw [if_neg (by omega), natOf_strip]; omega
attribute [push_cast] ckCap

def ckPlain : Ck
  | [.str s] => some (s.length ≤ 4611686018427387904, .bool (plainL s))
  | _ => none
theorem u8_48 (c : UInt8) : ((c.toNat : Int) != 48) = decide (c ≠ 48) := by
  rw [Bool.eq_iff_iff, bne_iff_ne, decide_eq_true_eq, ne_eq, ne_eq, u8_eq]; rfl
def wChd : List UInt8 := [99, 104, 117, 110, 107, 101, 100]
/-- the frame that heads say -/
def frameL (st : Int) (l : List Hd) : Int := if st < 200 ∨ st = 204 ∨ st = 304 then 1 else if valuesL l wCod = [wChd] then 3 else if (valuesL l wCod).length ≠ 0 then 0 else if (valuesL l wLen).length = 0 then 4 else if (lengthL l).2 = true then 2 else 0
def noBody (st : Int) : Prop := (st < 200 ∨ st = 204) ∨ st = 304
theorem fr1 {st : Int} {l : List Hd} (h : (st < 200 ∨ st = 204) ∨ st = 304) : 1 = frameL st l := by unfold frameL; rw [if_pos (by omega)]
theorem fr3 {st : Int} {l : List Hd} (h : (¬ st < 200 ∧ ¬ st = 204) ∧ ¬ st = 304) (h2 : ((valuesL l wCod).length : Int) = 1 ∧ (valuesL l wCod).getD 0 [] = wChd) : 3 = frameL st l := by unfold frameL; rw [if_neg (by omega), if_pos (sing_iff.2 h2)]
theorem fr0 {st : Int} {l : List Hd} (h : (¬ st < 200 ∧ ¬ st = 204) ∧ ¬ st = 304) (h2 : ((valuesL l wCod).length : Int) = 1 → ¬ (valuesL l wCod).getD 0 [] = wChd) (h3 : 0 < ((valuesL l wCod).length : Int)) : 0 = frameL st l := by
  unfold frameL; rw [if_neg (by omega), if_neg (fun e => h2 (sing_iff.1 e).1 (sing_iff.1 e).2), if_pos (by omega)]
theorem fr4 {st : Int} {l : List Hd} (h : (¬ st < 200 ∧ ¬ st = 204) ∧ ¬ st = 304) (h3 : ¬ 0 < ((valuesL l wCod).length : Int)) (h4 : ((valuesL l wLen).length : Int) = 0) : 4 = frameL st l := by
  unfold frameL; rw [if_neg (by omega), if_neg (fun e => by rw [e] at h3; simp at h3), if_neg (by omega), if_pos (by omega)]
theorem fr2 {st : Int} {l : List Hd} (h : (¬ st < 200 ∧ ¬ st = 204) ∧ ¬ st = 304) (h3 : ¬ 0 < ((valuesL l wCod).length : Int)) (h4 : ¬ ((valuesL l wLen).length : Int) = 0) : frameL st l = if (lengthL l).2 = true then 2 else 0 := by
  unfold frameL; rw [if_neg (by omega), if_neg (fun e => by rw [e] at h3; simp at h3), if_neg (by omega), if_neg (by omega)]
theorem headsGo_mem : ∀ {l : List Hd}, headsGo l = 0 → ∀ h ∈ l, tokL h.name = true ∧ valueL h.value = true
  | [], _, h, hh => by cases hh
  | x :: t, e, h, hh => by
    simp only [headsGo] at e
    split at e
    · rename_i h1
      split at e
      · rename_i h2
        rcases List.mem_cons.1 hh with rfl | hh
        · exact ⟨h1, h2⟩
        · exact headsGo_mem e h hh
      · omega
    · omega
theorem checkH_mem {l : List Hd} (e : checkHeadsL l = 0) : ∀ h ∈ l, tokL h.name = true ∧ valueL h.value = true := by
  unfold checkHeadsL at e
  split at e
  · omega
  · exact headsGo_mem e
theorem valuesL_mem {l : List Hd} {name v : List UInt8} (h : v ∈ valuesL l name) : ∃ x ∈ l, lowL x.name = name ∧ x.value = v := by
  simp only [valuesL, List.mem_map, List.mem_filter, beq_iff_eq] at h
  obtain ⟨x, ⟨h1, h2⟩, h3⟩ := h
  exact ⟨x, h1, h2, h3⟩
theorem value_1000 {s : List UInt8} (h : valueL s = true) : s.length ≤ 1000 := by
  simp only [valueL, Bool.and_eq_true, decide_eq_true_eq] at h; exact h.1.1
theorem digL_plain {v : List UInt8} (h : v.length ≤ 1000) : digL v 1000 = true ↔ plainL v = true := by
  simp only [digL, plainL, digsL, Bool.and_eq_true, Bool.or_eq_true, decide_eq_true_eq, beq_iff_eq]
  constructor
  · rintro ⟨⟨⟨a, _⟩, b⟩, c | c⟩
    · exact ⟨⟨b, a⟩, .inr c⟩
    · exact ⟨⟨b, a⟩, .inl (by rw [c]; rfl)⟩
  · rintro ⟨⟨b, a⟩, c⟩
    refine ⟨⟨⟨a, by omega⟩, b⟩, ?_⟩
    by_cases e : v.getD 0 0 = 48
    · refine .inr ?_
      have : v.length = 1 := c.resolve_right (fun h => h e)
      match v, this, e with
      | [x], _, e => simp at e; rw [e]
    · exact .inl e
theorem len_plain {l : List Hd} (e : checkHeadsL l = 0) : (lengthL l).2 = true ↔ ((valuesL l wLen).length : Int) = 1 ∧ plainL ((valuesL l wLen).getD 0 []) = true := by
  have hm : ∀ v ∈ valuesL l wLen, v.length ≤ 1000 := fun v hv => by
    obtain ⟨x, h1, _, rfl⟩ := valuesL_mem hv
    exact value_1000 (checkH_mem e x h1).2
  unfold lengthL
  rw [show ([108, 101, 110, 103, 116, 104] : List UInt8) = wLen from rfl]
  generalize valuesL l wLen = V at hm ⊢
  match V, hm with
  | [], _ => simp [lenV]
  | a :: b :: r, _ => simp [lenV]; omega
  | [v], hm =>
    have := hm v (by simp)
    rw [show ([v] : List (List UInt8)).getD 0 [] = v from rfl, ← digL_plain this]
    unfold lenV
    simp only
    split
    · rename_i h; simp only [List.length_singleton, h, and_true]; split <;> simp
    · rename_i h; simp [h]
theorem vget_len {V : List (List UInt8)} (h : ∀ v ∈ V, v.length ≤ 140737488355328) : (V.getD 0 []).length ≤ 4611686018427387904 := by
  cases V with
  | nil => simp
  | cons v V => have := h v (by simp); simp only [List.getD_cons_zero]; omega
def ckFrame : Ck
  | [.agg [.int .i64 st, .str re, .sl n f, _]] => some (isLs cHd n f ∧ hdsOk (lsOf cHd n f) ∧ n ≤ 1000000, .int .i64 (frameL st (lsOf cHd n f)))
  | _ => none
theorem conFrame : Con pg 33 ckFrame := by
  have hct := (ctA_ok conValues (ctA_ok conLength (ctN_ok _)))
  intro args q r h hq
  unfold ckFrame at h
  split at h
  · cases h
    rename_i st re n f x
    refine w33 (fun _ => false) [] rfl hct rfl rfl ?_
    push_cast (config := { maxSteps := 10000000 })
    refine ⟨hq, hq, fun h => fr1 h, fun h => ⟨fun h1 => ⟨h1, by omega⟩, fun h1 => fr3 h h1, fun h1 => ⟨fun h2 => fr0 h h1 h2, fun h2 => ⟨fun h3 => fr4 h h2 h3, fun h3 => ⟨hq, fun h4 => ?_, fun h4 => ?_⟩⟩⟩⟩⟩
    · rw [fr2 h h2 h3, if_pos h4]
    · rw [fr2 h h2 h3, if_neg (by simp [h4])]
  · cases h
attribute [push_cast] ckFrame
def ckFrame2 : Ck
  | [.int .i64 st, .sl n f] => some (isLs cHd n f ∧ hdsOk (lsOf cHd n f) ∧ n ≤ 1000000 ∧ checkHeadsL (lsOf cHd n f) = 0, .int .i64 (frameL st (lsOf cHd n f)))
  | _ => none
attribute [push_cast] ckFrame2
/-- the number of bytes that the head length says -/
def toldL (l : List Hd) : Int := capL ((valuesL l wLen).getD 0 []) 200001
def ckTold : Ck
  | [.sl n f] => some (isLs cHd n f ∧ hdsOk (lsOf cHd n f) ∧ n ≤ 1000000 ∧ checkHeadsL (lsOf cHd n f) = 0 ∧ (lengthL (lsOf cHd n f)).2 = true, .int .i64 (toldL (lsOf cHd n f)))
  | _ => none
theorem told_eq {l : List Hd} (h : checkHeadsL l = 0) (h2 : (lengthL l).2 = true) {n : Nat} (hn : n ≤ 200000) : toldL l = n ↔ valuesL l wLen = [Lib.itoa n] := by
  have e := (len_plain h).1 h2
  unfold toldL
  rw [itoa_nat]
  generalize valuesL l wLen = V at e ⊢
  match V, e with
  | [], e => simp at e
  | a :: b :: r, e => simp at e; omega
  | [v], e =>
    have hp := plain_all e.2
    simp only [List.getD_cons_zero] at hp ⊢
    have hd := dec_dig n
    have hl := dec_len 5 n (by omega)
    constructor
    · intro h
      unfold capL at h
      split at h
      · omega
      · have : natOf v = n := by omega
        rw [← this, dec_natOf hp.2.1 hp.1 (hp.2.2.symm)]
    · intro h
      obtain rfl : v = Lib.decDigits n := by simpa using h
      unfold capL
      rw [if_neg (by omega), hd.2.1]; omega

def checkTopL (st : Int) (reason : List UInt8) (l : List Hd) : Int := if st < 100 ∨ 599 < st then 1 else if valueL reason = true then checkHeadsL l else 3
def ckCheckTop : Ck
  | [.agg [.int .i64 st, .str re, .sl n f, _]] => some (isLs cHd n f ∧ hdsOk (lsOf cHd n f) ∧ re.length ≤ 140737488355328, .int .i64 (checkTopL st re (lsOf cHd n f)))
  | _ => none
theorem conCheckTop : Con pg 32 ckCheckTop := by
  have hct := (ctA_ok conIsValue (ctA_ok conCheckHeads (ctN_ok _)))
  intro args q r h hq
  unfold ckCheckTop at h
  split at h
  · cases h
    rename_i st re n f x
    refine w32 (fun _ => false) [] rfl hct rfl rfl ?_
    push_cast (config := { maxSteps := 10000000 })
    obtain ⟨q1, q2, q3⟩ := hq
    refine ⟨fun h => ?_, fun h => ⟨by omega, fun h2 => ?_, fun h2 => ⟨⟨q1, q2⟩, ?_⟩⟩⟩
    · unfold checkTopL; rw [if_pos h]
    · unfold checkTopL; rw [if_neg (by omega), if_neg (by simp [h2])]
    · unfold checkTopL; rw [if_neg (by omega), if_pos h2]
  · cases h
attribute [push_cast] ckCheckTop
def noA : Ans := ⟨0, [], [], []⟩
/-- an answer, read behind its top: a (its top), p (the place behind it): the answer, the frame, the place of an error, the error -/
def raB (b : List UInt8) (a : Ans) (p : Nat) : Ans × Int × Int × Int :=
  if frameL a.st a.hd = 0 then (noA, 0, 0, 12)
  else if frameL a.st a.hd = 1 then (if 0 < (b.drop p).length then (a, 1, p, 3) else (a, 1, 0, 0))
  else if frameL a.st a.hd = 3 then (if (readC (b.drop p)).2.2.2 = 2 then (noA, 0, 0, 2) else if (readC (b.drop p)).2.2.2 = 10 then (noA, 0, p + (readC (b.drop p)).2.2.1, 10) else if ¬ (readC (b.drop p)).2.2.2 = 0 then (⟨a.st, a.re, a.hd, (readC (b.drop p)).1⟩, 3, p + (readC (b.drop p)).2.2.1, (readC (b.drop p)).2.2.2) else (⟨a.st, a.re, a.hd, (readC (b.drop p)).1⟩, 3, 0, 0))
  else if frameL a.st a.hd = 4 then (if 200000 < (b.drop p).length then (noA, 0, 0, 2) else (⟨a.st, a.re, a.hd, b.drop p⟩, 4, 0, 0))
  else if 200000 < (lengthL a.hd).1 then (noA, 0, 0, 2)
  else if ((b.drop p).length : Int) < (lengthL a.hd).1 then (⟨a.st, a.re, a.hd, b.drop p⟩, 2, b.length, 15)
  else if (lengthL a.hd).1 < (b.drop p).length then (⟨a.st, a.re, a.hd, (b.drop p).take (lengthL a.hd).1.toNat⟩, 2, p + (lengthL a.hd).1, 3)
  else (⟨a.st, a.re, a.hd, b.drop p⟩, 2, 0, 0)
def raL (b : List UInt8) : Ans × Int × Int × Int :=
  if 400000 < b.length then (noA, 0, 0, 2)
  else if (tpV b).2.2 = false then (noA, 0, (tpV b).2.1, 10)
  else if checkTopL (tpV b).1.st (tpV b).1.re (tpV b).1.hd = 0 then raB b (tpV b).1 (tpV b).2.1
  else if (frameL (tpV b).1.st (tpV b).1.hd = 2 ∧ (lengthL (tpV b).1.hd).2 = true) ∧ 200000 < (lengthL (tpV b).1.hd).1 then (noA, 0, 0, 2)
  else (noA, 0, 0, checkTopL (tpV b).1.st (tpV b).1.re (tpV b).1.hd)
theorem tp_fit {b : List UInt8} (h : b.length ≤ 400000) : hdsOk (tpV b).1.hd ∧ (tpV b).1.re.length ≤ 400000 ∧ (tpV b).1.hd.length ≤ 400001 ∧ (tpV b).2.1 ≤ b.length ∧ (tpV b).1.bd = [] := by
  unfold tpV
  split
  · rename_i hk
    have hB : lnB b 0 = true := by
      simp only [tpOk, Bool.and_eq_true] at hk; exact hk.1.1.1
    have hf := ln_fit (Nat.zero_le b.length) hB
    have hr := rh_fit (b.length + 1) (lnN b 0) [] hf.2.1 (fun _ hh => by cases hh)
    have hsl := lnS_le b (Nat.zero_le b.length)
    have hl : (Lib.trimPrefix (lnS b 0) wWebS).length ≤ (lnS b 0).length := by unfold Lib.trimPrefix; split <;> simp
    have hc : (tpC b).2.1.length ≤ (lnS b 0).length := by
      unfold tpC Lib.cut; split
      · rw [List.length_drop]; omega
      · simp
    refine ⟨fun x hx => ?_, by show (tpC b).2.1.length ≤ _; omega, ?_, hr.1, rfl⟩
    · have := hr.2.1 x hx; omega
    · have := hr.2.2; simp only [List.length_nil] at this; show (rqH b).1.length ≤ _; unfold rqH; omega
  · exact ⟨fun _ h => (by cases h), Nat.zero_le _, Nat.zero_le _, Nat.zero_le _, rfl⟩
theorem ra_fin {R : Ans × Int × Int × Int} {x : Ans} {f p e : Int} (h : R = (x, f, p, e)) : (x.st = R.1.st ∧ x.re = R.1.re ∧ (x.hd.length = R.1.hd.length ∧ ∀ i, i < x.hd.length → V.agg [.str (x.hd.getD i ⟨[], []⟩).name, .str (x.hd.getD i ⟨[], []⟩).value] = V.agg [.str (R.1.hd.getD i ⟨[], []⟩).name, .str (R.1.hd.getD i ⟨[], []⟩).value]) ∧ (x.bd.length = R.1.bd.length ∧ ∀ i, i < x.bd.length → byF x.bd i = byF R.1.bd i)) ∧ f = R.2.1 ∧ p = R.2.2.1 ∧ e = R.2.2.2 := by
  subst h; exact ⟨⟨rfl, rfl, ⟨rfl, fun _ _ => rfl⟩, rfl, fun _ _ => rfl⟩, rfl, rfl, rfl⟩
theorem ra_no {R : Ans × Int × Int × Int} {f p e : Int} (h : R = (noA, f, p, e)) : (0 = R.1.st ∧ [] = R.1.re ∧ R.1.hd.length = 0 ∧ R.1.bd.length = 0) ∧ f = R.2.1 ∧ p = R.2.2.1 ∧ e = R.2.2.2 := by
  subst h; exact ⟨⟨rfl, rfl, rfl, rfl⟩, rfl, rfl, rfl⟩
theorem ra_fin2 {R : Ans × Int × Int × Int} {a : Ans} {bd : List UInt8} {n : Nat} {g : Nat → V} (hb : ByI n g bd) {f p e : Int} (h : R = (⟨a.st, a.re, a.hd, bd⟩, f, p, e)) : (a.st = R.1.st ∧ a.re = R.1.re ∧ (a.hd.length = R.1.hd.length ∧ ∀ i, i < a.hd.length → V.agg [.str (a.hd.getD i ⟨[], []⟩).name, .str (a.hd.getD i ⟨[], []⟩).value] = V.agg [.str (R.1.hd.getD i ⟨[], []⟩).name, .str (R.1.hd.getD i ⟨[], []⟩).value]) ∧ (n = R.1.bd.length ∧ ∀ i, i < n → g i = byF R.1.bd i)) ∧ f = R.2.1 ∧ p = R.2.2.1 ∧ e = R.2.2.2 := by
  subst h; exact ⟨⟨rfl, rfl, ⟨rfl, fun _ _ => rfl⟩, hb.1, hb.2⟩, rfl, rfl, rfl⟩
theorem readAll_le {b : List UInt8} : ∀ (k a : Nat) (out : List UInt8), a ≤ b.length → (readAll b k a out).2.2.1 ≤ b.length
  | 0, a, out, h => Nat.zero_le _
  | k + 1, a, out, h => by
    have hb := readL_b (b.drop a)
    rw [List.length_drop] at hb
    rw [readAll]
    split
    · exact h
    rename_i h2
    split
    · split <;> simp
    rename_i h1
    have h3 := hb.2 (by omega)
    split
    · exact readAll_le k _ _ (by omega)
    split
    · exact Nat.zero_le _
    split
    · show a + _ ≤ _; omega
    · exact Nat.zero_le _
theorem length_nn (l : List Hd) : 0 ≤ (lengthL l).1 := by
  unfold lengthL lenV
  split
  · split
    · split
      · simp
      · simp only; omega
    · simp
  · simp
theorem frame_4 (st : Int) (l : List Hd) : frameL st l = 0 ∨ frameL st l = 1 ∨ frameL st l = 2 ∨ frameL st l = 3 ∨ frameL st l = 4 := by
  unfold frameL
  repeat' split
  all_goals simp
def ckReadAns : Ck
  | [.sl n f] => some (isBy n f ∧ n ≤ 4611686018427387900, .tup [cAns.enc (raL (bytesOf n f)).1, .int .i64 (raL (bytesOf n f)).2.1, .int .i64 (raL (bytesOf n f)).2.2.1, .int .i64 (raL (bytesOf n f)).2.2.2])
  | _ => none
theorem conReadAns : Con pg 11 ckReadAns := by
  have hct := (ctA_ok conReadTop (ctA_ok conLength (ctA_ok conCheckTop (ctA_ok conFrame (ctA_ok conReadChunks (ctN_ok _))))))
  intro args q r h hq
  unfold ckReadAns at h
  split at h
  · cases h
    rename_i n f
    refine pcall_args (args' := [.sl (bytesOf n f).length (byF (bytesOf n f))]) ⟨isBy.vle hq.1, trivial⟩ ?_
    have h1 : (bytesOf n f).length ≤ 4611686018427387900 := by rw [bytesOf_len]; exact hq.2
    generalize bytesOf n f = b at h1 ⊢
    refine w11 (fun _ => false) [.frz 115, .frz 128] rfl hct rfl rfl ?_
    push_cast (config := { maxSteps := 10000000 })
    refine ⟨fun h => ra_no (by unfold raL; rw [if_pos (by omega)]), fun h0 => ?_⟩
    have hb : b.length ≤ 400000 := by omega
    obtain ⟨t1, t2, t3, t4, t5⟩ := tp_fit hb
    have e0 : raL b = if (tpV b).2.2 = false then (noA, 0, ((tpV b).2.1 : Int), 10) else if checkTopL (tpV b).1.st (tpV b).1.re (tpV b).1.hd = 0 then raB b (tpV b).1 (tpV b).2.1 else if (frameL (tpV b).1.st (tpV b).1.hd = 2 ∧ (lengthL (tpV b).1.hd).2 = true) ∧ 200000 < (lengthL (tpV b).1.hd).1 then (noA, 0, 0, 2) else (noA, 0, 0, checkTopL (tpV b).1.st (tpV b).1.re (tpV b).1.hd) := by unfold raL; rw [if_neg (by omega)]
    generalize hR : raL b = R at e0 ⊢
    generalize tpV b = T at *
    obtain ⟨a, p, ok⟩ := T
    simp only at *
    refine ⟨hb, fun h => ra_no (by rw [e0, if_pos h]), fun hok => ?_⟩
    rw [if_neg (by simp [hok])] at e0
    have H : hdsOk a.hd ∧ a.hd.length ≤ 1000000 := ⟨t1, by omega⟩
    refine ⟨H, ⟨t1, by omega⟩, fun h => ?_, fun h => ?_⟩
    · rw [if_neg h] at e0
      exact ⟨H, fun h2 => ra_no (by rw [e0, if_pos h2]), fun h2 => ra_no (by rw [e0, if_neg (fun x => h2 x.1 x.2)])⟩
    rw [if_pos h] at e0
    have hdb := drop_by t4
    have hby : bytesOf (b.length - p) (shF (byF b) p) = b.drop p := hdb.bytes
    have hdl : (b.drop p).length = b.length - p := List.length_drop
    rw [hby]
    unfold raB at e0
    refine ⟨H, t4, fun hf => ra_no (by rw [e0, if_pos hf]), fun n0 => ?_⟩
    rw [if_neg n0] at e0
    refine ⟨fun hf => ?_, fun n1 => ?_⟩
    · rw [if_pos hf] at e0
      rw [hf]
      exact ⟨fun h5 => ra_fin (by rw [e0, if_pos (by omega)]), fun h5 => ra_fin (by rw [e0, if_neg (by omega)])⟩
    rw [if_neg n1] at e0
    refine ⟨fun hf => ?_, fun n3 => ?_⟩
    · rw [if_pos hf] at e0
      rw [hf]
      refine ⟨⟨hdb.is, by omega⟩, ?_⟩
      have hle := readAll_le ((b.drop p).length + 1) 0 [] (Nat.zero_le (b.drop p).length)
      change (readC (b.drop p)).2.2.1 ≤ _ at hle
      rw [hdl] at hle
      generalize readC (b.drop p) = C at *
      obtain ⟨c1, c2, c3, c4⟩ := C
      simp only at *
      refine ⟨fun g => ra_no (by rw [e0, if_pos (by omega), g]), fun g2 => ?_⟩
      rw [if_neg (by omega)] at e0
      refine ⟨fun g => ⟨⟨by omega, by omega⟩, ra_no (by rw [e0, if_pos (by omega), g])⟩, fun g10 => ?_⟩
      rw [if_neg (by omega)] at e0
      refine ⟨fun g => ⟨⟨by omega, by omega⟩, ra_fin2 (ByI.by c1) (by rw [e0, if_pos (by omega)])⟩, fun g => ra_fin2 (ByI.by c1) (by rw [e0, if_neg (by omega)])⟩
    rw [if_neg n3] at e0
    refine ⟨fun hf => ?_, fun n4 => ?_⟩
    · rw [if_pos hf] at e0
      rw [hf]
      exact ⟨fun h5 => ra_no (by rw [e0, if_pos (by omega)]), fun h5 => ⟨⟨by omega, by omega⟩, hdb.pure, ra_fin2 hdb (by rw [e0, if_neg (by omega)])⟩⟩
    rw [if_neg n4] at e0
    have f2 : frameL a.st a.hd = 2 := by have := frame_4 a.st a.hd; omega
    rw [f2]
    have hL := length_nn a.hd
    generalize (lengthL a.hd).1 = L at *
    refine ⟨fun h5 => ra_no (by rw [e0, if_pos h5]), fun h5 => ?_⟩
    rw [if_neg h5] at e0
    have hbk : ByI (min L ((b.length - p : Nat) : Int)).toNat (fun i => V.kill 128 (shF (shF (byF b) p) 0 i)) ((b.drop p).take (min L ((b.length - p : Nat) : Int)).toNat) := ByI.sh (ByI.by b) (l := p) (k := (min L ((b.length - p : Nat) : Int)).toNat) (by omega)
    refine ⟨⟨⟨by omega, by omega⟩, by omega⟩, ⟨fun i _ => rfl, by omega, by omega⟩, fun h6 => ⟨fun i _ => rfl, ?_⟩, fun h6 => ⟨fun h7 => ⟨⟨by omega, by omega⟩, fun i _ => rfl, ?_⟩, fun h7 => ⟨fun i _ => rfl, ?_⟩⟩⟩
    · rw [if_pos (by omega)] at e0
      rw [List.take_of_length_le (by omega)] at hbk
      exact ra_fin2 hbk e0
    · rw [if_neg (by omega), if_pos (by omega)] at e0
      rw [show (min L ((b.length - p : Nat) : Int)).toNat = L.toNat by omega] at hbk ⊢
      exact ra_fin2 hbk e0
    · rw [if_neg (by omega), if_neg (by omega)] at e0
      rw [List.take_of_length_le (by omega)] at hbk
      exact ra_fin2 hbk e0
  · cases h
attribute [push_cast] ckReadAns

/-- the error of an answer with a frame -/
def checkAnsL (a : Ans) (fr ch : Int) : Int := if checkTopL a.st a.re a.hd = 0 then (if 200000 < a.bd.length then 2 else if fr < 1 ∨ 4 < fr then 4 else if fr = 3 ∧ (ch < 1 ∨ 65536 < ch) ∨ ¬ fr = 3 ∧ ¬ ch = 0 then 1 else if (¬ fr = frameL a.st a.hd ∨ fr = 1 ∧ ¬ a.bd.length = 0) ∨ fr = 2 ∧ ¬ valuesL a.hd wLen = [Lib.itoa a.bd.length] then 12 else 0) else checkTopL a.st a.re a.hd
theorem frame_2 {st : Int} {l : List Hd} (h : frameL st l = 2) : (lengthL l).2 = true := by
  unfold frameL at h
  repeat' split at h
  all_goals first | omega | assumption
theorem caT {a : Ans} {fr ch : Int} (h : ¬ checkTopL a.st a.re a.hd = 0) : checkAnsL a fr ch = checkTopL a.st a.re a.hd := by unfold checkAnsL; rw [if_neg h]
theorem caL {a : Ans} {fr ch : Int} (h0 : checkTopL a.st a.re a.hd = 0) (h : 200000 < a.bd.length) : checkAnsL a fr ch = 2 := by unfold checkAnsL; rw [if_pos h0, if_pos h]
theorem caK {a : Ans} {fr ch : Int} (h0 : checkTopL a.st a.re a.hd = 0) (h1 : ¬ 200000 < a.bd.length) (h : fr < 1 ∨ 4 < fr) : checkAnsL a fr ch = 4 := by unfold checkAnsL; rw [if_pos h0, if_neg h1, if_pos h]
theorem caR {a : Ans} {fr ch : Int} (h0 : checkTopL a.st a.re a.hd = 0) (h1 : ¬ 200000 < a.bd.length) (h2 : ¬ (fr < 1 ∨ 4 < fr)) (h : fr = 3 ∧ (ch < 1 ∨ 65536 < ch) ∨ ¬ fr = 3 ∧ ¬ ch = 0) : checkAnsL a fr ch = 1 := by unfold checkAnsL; rw [if_pos h0, if_neg h1, if_neg h2, if_pos h]
theorem caC {a : Ans} {fr ch : Int} (h0 : checkTopL a.st a.re a.hd = 0) (h1 : ¬ 200000 < a.bd.length) (h2 : ¬ (fr < 1 ∨ 4 < fr)) (h3 : ¬ (fr = 3 ∧ (ch < 1 ∨ 65536 < ch) ∨ ¬ fr = 3 ∧ ¬ ch = 0)) (h : (¬ fr = frameL a.st a.hd ∨ fr = 1 ∧ ¬ a.bd.length = 0) ∨ fr = 2 ∧ ¬ valuesL a.hd wLen = [Lib.itoa a.bd.length]) : checkAnsL a fr ch = 12 := by unfold checkAnsL; rw [if_pos h0, if_neg h1, if_neg h2, if_neg h3, if_pos h]
theorem caO {a : Ans} {fr ch : Int} (h0 : checkTopL a.st a.re a.hd = 0) (h1 : ¬ 200000 < a.bd.length) (h2 : ¬ (fr < 1 ∨ 4 < fr)) (h3 : ¬ (fr = 3 ∧ (ch < 1 ∨ 65536 < ch) ∨ ¬ fr = 3 ∧ ¬ ch = 0)) (h : ¬ ((¬ fr = frameL a.st a.hd ∨ fr = 1 ∧ ¬ a.bd.length = 0) ∨ fr = 2 ∧ ¬ valuesL a.hd wLen = [Lib.itoa a.bd.length])) : checkAnsL a fr ch = 0 := by unfold checkAnsL; rw [if_pos h0, if_neg h1, if_neg h2, if_neg h3, if_neg h]
theorem top_heads {a : Ans} (h : checkTopL a.st a.re a.hd = 0) : checkHeadsL a.hd = 0 ∧ a.re.length ≤ 1000 ∧ 100 ≤ a.st ∧ a.st ≤ 599 ∧ valueL a.re = true := by
  unfold checkTopL at h
  split at h
  · omega
  · split at h
    · rename_i h2
      exact ⟨h, value_1000 h2, by omega, by omega, h2⟩
    · omega
def ckCheckAns : Ck
  | [x, .int .i64 fr, .int .i64 ch] => some (isC cAns x ∧ ansOk (cAns.dec x), .int .i64 (checkAnsL (cAns.dec x) fr ch))
  | _ => none
theorem conCheckAns : Con pg 26 ckCheckAns := by
  have hct := (ctA_ok conCheckTop (ctA_ok conFrame (ctA_ok conLength (ctN_ok _))))
  intro args q r h hq
  unfold ckCheckAns at h
  split at h
  · cases h
    rename_i x fr ch
    refine pcall_args (args' := [cAns.enc (cAns.dec x), .int .i64 fr, .int .i64 ch]) ⟨hq.1, VLe.refl _, VLe.refl _, trivial⟩ ?_
    obtain ⟨-, ha⟩ := hq
    generalize cAns.dec x = a at ha ⊢
    refine w26 (fun _ => false) [] rfl hct rfl rfl ?_
    push_cast (config := { maxSteps := 10000000 })
    refine ⟨⟨ha.1, ha.2.1⟩, fun h => (caT h).symm, fun h0 => ?_⟩
    have hn := heads_100 (top_heads h0).1
    have H : hdsOk a.hd ∧ a.hd.length ≤ 1000000 := ⟨ha.1, by omega⟩
    refine ⟨fun h => (caL h0 (by omega)).symm, fun h1 => ⟨fun h => (caK h0 (by omega) h).symm, fun h2 => ⟨fun h => ⟨h, fun h' => ⟨h, h'⟩⟩, fun h => ⟨h, fun h' => ⟨h, h'⟩⟩, fun h => (caR h0 (by omega) (by omega) h).symm, fun h3 => ?_⟩⟩⟩
    have e := lenV_eq (l := valuesL a.hd wLen) (n := a.bd.length) (by omega)
    have h3' : ¬ (fr = 3 ∧ (ch < 1 ∨ 65536 < ch) ∨ ¬ fr = 3 ∧ ¬ ch = 0) := by
      rintro (⟨a1, a2⟩ | ⟨a1, a2⟩)
      · have := h3.1 a1; omega
      · exact a2 (h3.2 a1)
    have hlen : fr = frameL a.st a.hd → fr = 2 → ((lengthL a.hd).1 = a.bd.length ↔ valuesL a.hd wLen = [Lib.itoa a.bd.length]) := fun h h2 => by
      have h5 : (lengthL a.hd).2 = true := frame_2 (h ▸ h2)
      rw [← e]; exact ⟨fun x => ⟨h5, x⟩, fun x => x.2⟩
    refine ⟨H, fun h => ⟨fun _ => (caC h0 (by omega) (by omega) h3' (.inl (.inl h))).symm, fun h' => absurd h' h⟩, fun h => ⟨fun h' => (caC h0 (by omega) (by omega) h3' (.inl (.inr ⟨h'.1, by omega⟩))).symm, fun h' => ⟨H, fun h4 => (caC h0 (by omega) (by omega) h3' (.inr ⟨h4.1, fun x => h4.2 ((hlen h h4.1).2 x)⟩)).symm, fun h4 => (caO h0 (by omega) (by omega) h3' ?_).symm⟩⟩⟩
    rintro ((x | ⟨x, y⟩) | ⟨x, y⟩)
    · exact x h
    · exact h' x (by omega)
    · exact y ((hlen h x).1 (h4 x))
  · cases h
attribute [push_cast] ckCheckAns

def ansP (a : Ans) : List UInt8 := [87, 69, 66, 47, 49, 32] ++ Lib.itoa a.st ++ [32] ++ a.re ++ [13, 10]
def ansBody (a : Ans) (fr ch : Int) : List UInt8 := if fr = 3 then chunksL ch.toNat a.bd else a.bd
def ansB (a : Ans) (fr ch : Int) : List UInt8 := ansP a ++ headsB a.hd ++ [13, 10] ++ ansBody a fr ch
def ansR (a : Ans) (fr ch : Int) : List UInt8 := if checkAnsL a fr ch = 0 then ansB a fr ch else []
theorem ap3 {N : Nat} {P H b R : List UInt8} (hP : P.length = N) (hR : R = P ++ H ++ [13, 10] ++ b) : ByI (N + H.length + 2 + b.length) (appF (N + H.length + 2) (byF (P ++ H ++ [13, 10])) (byF b)) R := by
  have h := ByI.app (ByI.by (P ++ H ++ [13, 10])) (ByI.by b) rfl
  have hl : (P ++ H ++ [13, 10]).length = N + H.length + 2 := by simp [hP]; omega
  rw [hl] at h
  exact h.eq hR.symm
theorem ans_ok {a : Ans} {fr ch : Int} (h : checkAnsL a fr ch = 0) : (Lib.itoa a.st).length ≤ 6 ∧ 100 ≤ a.st ∧ a.st ≤ 599 ∧ a.re.length ≤ 1000 ∧ a.hd.length ≤ 100 ∧ (headsB a.hd).length ≤ 104400 ∧ a.bd.length ≤ 200000 ∧ (fr = 3 → 1 ≤ ch ∧ ch ≤ 65536) := by
  unfold checkAnsL at h
  split at h
  · rename_i h0
    split at h
    · omega
    · split at h
      · omega
      · split at h
        · omega
        · rename_i h1 h2 h3
          obtain ⟨t1, t2, t3, t4, _⟩ := top_heads h0
          refine ⟨?_, t3, t4, t2, heads_100 t1, heads_le t1, by omega, fun e => by omega⟩
          have := itoa_len (n := a.st.toNat) (by omega)
          rwa [show ((a.st.toNat : Nat) : Int) = a.st by omega] at this
  · omega
theorem body_le {a : Ans} {fr ch : Int} (h : checkAnsL a fr ch = 0) : (ansBody a fr ch).length ≤ 2200005 := by
  obtain ⟨_, _, _, _, _, _, h7, h8⟩ := ans_ok h
  unfold ansBody
  split
  · rename_i e
    have := chunksL_len (k := ch.toNat) (by have := h8 e; omega) (by have := h8 e; omega) a.bd.length a.bd (Nat.le_refl _)
    omega
  · omega
def ckAnsB : Ck
  | [x, .int .i64 fr, .int .i64 ch] => some (isC cAns x ∧ ansOk (cAns.dec x), .tup [.sl (ansR (cAns.dec x) fr ch).length (byF (ansR (cAns.dec x) fr ch)), .int .i64 (checkAnsL (cAns.dec x) fr ch)])
  | _ => none
theorem conAnsB : Con pg 10 ckAnsB := by
  have hct := (ctA_ok conCheckAns (ctA_ok conItoa (ctA_ok conChunks0 (ctF_ok conWriteHeads (ctN_ok _)))))
  intro args q r h hq
  unfold ckAnsB at h
  split at h
  · cases h
    rename_i x fr ch
    refine pcall_args (args' := [cAns.enc (cAns.dec x), .int .i64 fr, .int .i64 ch]) ⟨hq.1, VLe.refl _, VLe.refl _, trivial⟩ ?_
    obtain ⟨-, ha⟩ := hq
    generalize cAns.dec x = a at ha ⊢
    refine w10 (fun _ => false) [.frz 26] rfl hct rfl rfl ?_
    push_cast (config := { maxSteps := 10000000 })
    refine ⟨ha, fun h => by unfold ansR; rw [if_neg h]; rfl, fun h => ?_⟩
    obtain ⟨b1, b2, b3, b4, b5, b6, b7, b8⟩ := ans_ok h
    have hb := body_le h
    have hr : ansR a fr ch = ansB a fr ch := by unfold ansR; rw [if_pos h]
    have hp := ByI.by (87 :: 69 :: 66 :: 47 :: 49 :: 32 :: (Lib.itoa a.st ++ [32] ++ a.re ++ [13, 10]))
    have hpl : (87 :: 69 :: 66 :: 47 :: 49 :: 32 :: (Lib.itoa a.st ++ [32] ++ a.re ++ [13, 10]) : List UInt8).length = (Lib.itoa a.st).length + 1 + a.re.length + 2 + 1 + 1 + 1 + 1 + 1 + 1 := by simp; omega
    rw [hpl] at hp
    rw [hp.bytes]
    unfold ansB ansBody at hr
    unfold ansBody at hb
    refine ⟨⟨by omega, by omega⟩, by omega, by omega, by omega, by omega, ⟨hp.is, by omega, by omega, by omega⟩, fun h3 => ?_, fun h3 => ?_⟩
    · rw [if_pos h3] at hr hb
      have ap := ap3 (H := headsB a.hd) (b := chunksL ch.toNat a.bd) (R := ansR a fr ch) hpl (by rw [hr]; simp [ansP])
      exact ⟨⟨by omega, b8 h3⟩, ⟨by omega, by omega⟩, ap.pure, ⟨ap.1, ap.2⟩, h.symm⟩
    · rw [if_neg h3] at hr hb
      have ap := ap3 (H := headsB a.hd) (b := a.bd) (R := ansR a fr ch) hpl (by rw [hr]; simp [ansP])
      exact ⟨⟨by omega, by omega⟩, ap.pure, ⟨ap.1, ap.2⟩, h.symm⟩
  · cases h
attribute [push_cast] ckAnsB

end Go.Abs
