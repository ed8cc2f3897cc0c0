/- what functions of this program compute: contracts, each a function's own -/
import Derived.Test.YtkpecjbbmadlcaaGreatDoorAbsK3
import Derived.Test.YtkpecjbbmadlcaaGreatDoorAbsFacts
import Derived.Test.YtkpecjbbmadlcaaGreatDoorAbsF3
import Derived.Test.YtkpecjbbmadlcaaGreatDoorAbsShelf
import Derived.Lib.SplitLaws
import Derived.Lib.SlTrimSet
import Derived.Lib.Atoi
import Derived.Lib.Itoa
import Derived.Lib.ItoaNum
import Derived.Lib.ItoaLen
import Derived.Lib.Replace
import Derived.Lib.ReplaceLaws
import Derived.Lib.AtoiErrMem
import Derived.Lib.Overlaps
import Derived.Deep.AppendSrc
import Derived.Laws.NewBlocks
import Derived.WalkKit
import Derived.Lib.Walk
import Derived.Lib.AppendStr
import Derived.Lib.AppendZeros
import Derived.Lib.UnsafeStr
import Derived.Lib.Builder
import Derived.Laws.Externs
import Derived.Lib.Repeat
import Derived.Lib.Join
namespace Go.Abs
open Go Go.Proofs
set_option maxHeartbeats 4000000
set_option maxRecDepth 100000
set_option linter.unusedVariables false
set_option linter.unusedSimpArgs false
/- paths without dots -/
def joinSl (L : List (List UInt8)) : List UInt8 := L.flatMap fun x => 47 :: x
def dotGo : List (List UInt8) → List (List UInt8) → List (List UInt8)
  | [], o => o
  | p :: t, o => if p = [46, 46] then dotGo t (if t = [] then o.dropLast ++ [[]] else o.dropLast) else if p = [46] then dotGo t (if t = [] then o ++ [[]] else o) else dotGo t (o ++ [p])
def undotL (s : List UInt8) : List UInt8 := if s = [] then [] else joinSl (dotGo (splitL (s.drop 1) 47) [])
theorem joinSl_app (a b : List (List UInt8)) : joinSl (a ++ b) = joinSl a ++ joinSl b := by simp [joinSl]
theorem joinSl_one (x : List UInt8) : joinSl [x] = 47 :: x := by simp [joinSl]
theorem joinSl_spl : ∀ t : List UInt8, joinSl (spl 47 t) = 47 :: t
  | [] => rfl
  | x :: t => by
    have ih := joinSl_spl t
    have hne := spl_ne 47 t
    rw [spl]
    cases hs : spl 47 t with
    | nil => exact absurd hs hne
    | cons a r =>
      rw [hs] at ih
      have ih : 47 :: (a ++ joinSl r) = 47 :: t := by simpa [joinSl] using ih
      have ih := (List.cons.inj ih).2
      split
      · rename_i h; subst h
        show 47 :: ([] ++ joinSl (a :: r)) = _
        rw [show joinSl (a :: r) = 47 :: (a ++ joinSl r) by simp [joinSl], ih]; rfl
      · show 47 :: ((x :: a) ++ joinSl r) = _
        rw [List.cons_append, ih]
/- rows, byte by byte -/
def hex2 : List UInt8 → Bool
  | a :: b :: _ => isHex (a.toNat : Int) && isHex (b.toNat : Int)
  | _ => false
def rowR : List UInt8 → Bool
  | [] => true
  | c :: t => rowB c && (decide (c.toNat ≠ 37) || hex2 t) && rowR t
def rowQ (s : List UInt8) : Bool := (List.range s.length).all (cell0 s)
theorem hex2_pct (c : UInt8) (t : List UInt8) : hex2 t = pctB (c :: t) 0 := by
  unfold pctB
  match t with
  | [] => rfl
  | [a] => simp [hex2]
  | a :: b :: r => simp [hex2]
theorem cell0_succ (c : UInt8) (t : List UInt8) (j : Nat) : cell0 (c :: t) (j + 1) = cell0 t j := by
  have e : decide (j + 1 + 2 < (c :: t).length) = decide (j + 2 < t.length) := decide_eq_decide.2 (by simp only [List.length_cons]; omega)
  unfold cell0 pctB
  rw [e]
  rw [List.getD_cons_succ, show j + 1 + 1 = (j + 1) + 1 from rfl, List.getD_cons_succ, show j + 1 + 2 = (j + 2) + 1 from rfl, List.getD_cons_succ]
theorem rowQ_rowR : ∀ s, rowQ s = rowR s
  | [] => rfl
  | c :: t => by
    rw [rowR, ← rowQ_rowR t]
    unfold rowQ
    rw [List.length_cons, List.range_succ_eq_map, List.all_cons, List.all_map]
    congr 1
    · unfold cell0; rw [List.getD_cons_zero, hex2_pct c t]
    · congr 1
      funext j
      exact cell0_succ c t j
theorem rowP_rowR (s : List UInt8) : rowP s = (rowR s && s.all fun c => decide (c.toNat ≠ 63)) := by
  rw [← rowQ_rowR, Bool.eq_iff_iff, Bool.and_eq_true]
  unfold rowP rowQ
  rw [List.all_eq_true, List.all_eq_true, List.all_eq_true]
  constructor
  · intro h
    refine ⟨fun j hj => ?_, fun c hc => ?_⟩
    · have := h j hj
      simp only [cellP, Bool.and_eq_true] at this
      unfold cell0; rw [this.1.1, this.2]; rfl
    · obtain ⟨j, hj, rfl⟩ := List.getElem_of_mem hc
      have := h j (List.mem_range.2 hj)
      simp only [cellP, Bool.and_eq_true] at this
      have h2 := this.1.2
      rwa [List.getD_eq_getElem?_getD, List.getElem?_eq_getElem hj] at h2
  · rintro ⟨h1, h2⟩ j hj
    have := h1 j hj
    have hj' := List.mem_range.1 hj
    have h3 := h2 (s.getD j 0) (by rw [List.getD_eq_getElem?_getD, List.getElem?_eq_getElem hj']; exact List.getElem_mem hj')
    simp only [cell0, Bool.and_eq_true] at this
    unfold cellP; rw [this.1, this.2, h3]; rfl
theorem hex2_app {a : List UInt8} (b : List UInt8) (h : hex2 a = true) : hex2 (a ++ b) = true := by
  match a, h with
  | x :: y :: r, h => exact h
theorem rowR_app : ∀ {a b : List UInt8}, rowR a = true → rowR b = true → rowR (a ++ b) = true
  | [], b, _, h => h
  | c :: t, b, h1, h2 => by
    rw [List.cons_append, rowR]
    rw [rowR] at h1
    simp only [Bool.and_eq_true, Bool.or_eq_true] at h1 ⊢
    exact ⟨⟨h1.1.1, h1.1.2.imp id (hex2_app b)⟩, rowR_app h1.2 h2⟩
theorem rowR_tail : ∀ (a : List UInt8) {b : List UInt8}, rowR (a ++ b) = true → rowR b = true
  | [], _, h => h
  | c :: t, b, h => by
    rw [List.cons_append, rowR] at h
    simp only [Bool.and_eq_true] at h
    exact rowR_tail t h.2
theorem rowR_left : ∀ {a b : List UInt8}, rowR (a ++ 47 :: b) = true → rowR a = true
  | [], b, _ => rfl
  | c :: t, b, h => by
    rw [List.cons_append, rowR] at h
    rw [rowR]
    simp only [Bool.and_eq_true, Bool.or_eq_true] at h ⊢
    refine ⟨⟨h.1.1, h.1.2.imp id fun x => ?_⟩, rowR_left h.2⟩
    have n47 : isHex ((47 : UInt8).toNat : Int) = false := by decide
    match t, x with
    | [], x =>
      cases b with
      | nil => simp [hex2] at x
      | cons y r => simp only [List.nil_append, hex2, n47] at x; cases x
    | [y], x => simp only [List.cons_append, List.nil_append, hex2, n47] at x; simp at x
    | y :: z :: r, x => exact x
theorem rowR_join {L : List (List UInt8)} (h : rowR (joinSl L) = true) : ∀ x ∈ L, rowR x = true := by
  induction L with
  | nil => intro x hx; cases hx
  | cons a t ih =>
    have e : joinSl (a :: t) = 47 :: (a ++ joinSl t) := by simp [joinSl]
    rw [e, rowR] at h
    simp only [Bool.and_eq_true] at h
    intro x hx
    rcases List.mem_cons.1 hx with rfl | hx
    · cases t with
      | nil => simpa [joinSl] using h.2
      | cons b r =>
        rw [show joinSl (b :: r) = 47 :: (b ++ joinSl r) by simp [joinSl]] at h
        exact rowR_left h.2
    · exact ih (rowR_tail a h.2) x hx
theorem rowR_47 {s : List UInt8} (h : rowR s = true) : rowR (47 :: s) = true := by
  rw [rowR, h]
  have e1 : rowB 47 = true := by decide
  have e2 : decide ((47 : UInt8).toNat ≠ 37) = true := by decide
  rw [e1, e2]; rfl
theorem join_rowR {L : List (List UInt8)} (h : ∀ x ∈ L, rowR x = true) : rowR (joinSl L) = true := by
  induction L with
  | nil => rfl
  | cons a t ih =>
    rw [show joinSl (a :: t) = 47 :: (a ++ joinSl t) by simp [joinSl]]
    exact rowR_47 (rowR_app (h a (by simp)) (ih fun x hx => h x (List.mem_cons_of_mem _ hx)))
theorem dotGo_sub : ∀ (t o : List (List UInt8)) (x : List UInt8), x ∈ dotGo t o → x ∈ o ∨ x ∈ t ∨ x = []
  | [], o, x, h => .inl h
  | p :: t, o, x, h => by
    have dl : ∀ y, y ∈ o.dropLast → y ∈ o := fun y hy => List.dropLast_subset _ hy
    rw [dotGo] at h
    split at h
    · rcases dotGo_sub t _ x h with h | h | h
      · split at h
        · rcases List.mem_append.1 h with h | h
          · exact .inl (dl x h)
          · exact .inr (.inr (List.mem_singleton.1 h))
        · exact .inl (dl x h)
      · exact .inr (.inl (List.mem_cons_of_mem _ h))
      · exact .inr (.inr h)
    · split at h
      · rcases dotGo_sub t _ x h with h | h | h
        · split at h
          · rcases List.mem_append.1 h with h | h
            · exact .inl h
            · exact .inr (.inr (List.mem_singleton.1 h))
          · exact .inl h
        · exact .inr (.inl (List.mem_cons_of_mem _ h))
        · exact .inr (.inr h)
      · rcases dotGo_sub t _ x h with h | h | h
        · rcases List.mem_append.1 h with h | h
          · exact .inl h
          · exact .inr (.inl (by rw [List.mem_singleton.1 h]; simp))
        · exact .inr (.inl (List.mem_cons_of_mem _ h))
        · exact .inr (.inr h)
theorem joinSl_len_drop (o : List (List UInt8)) : (joinSl o.dropLast).length ≤ (joinSl o).length := by
  cases o with
  | nil => simp
  | cons a t =>
    have := List.dropLast_concat_getLast (l := a :: t) (by simp)
    conv => rhs; rw [← this, joinSl_app]
    rw [List.length_append]; omega
theorem dotGo_len : ∀ (t o : List (List UInt8)), (joinSl (dotGo t o)).length ≤ (joinSl o).length + (joinSl t).length
  | [], o => by simp [dotGo]
  | p :: t, o => by
    have e : (joinSl (p :: t)).length = p.length + 1 + (joinSl t).length := by simp [joinSl]; omega
    have hd := joinSl_len_drop o
    have h1 : ∀ q : List (List UInt8), (joinSl (q ++ [[]])).length = (joinSl q).length + 1 := fun q => by rw [joinSl_app, List.length_append, joinSl_one]; rfl
    rw [dotGo]
    split
    · rename_i hp
      split
      · have := dotGo_len t (o.dropLast ++ [[]]); rw [h1] at this; omega
      · have := dotGo_len t o.dropLast; omega
    · split
      · split
        · have := dotGo_len t (o ++ [[]]); rw [h1] at this; omega
        · have := dotGo_len t o; omega
      · have := dotGo_len t (o ++ [p])
        rw [joinSl_app, List.length_append, joinSl_one, List.length_cons] at this
        omega
theorem dotGo_ne : ∀ (t o : List (List UInt8)), t ≠ [] → dotGo t o ≠ []
  | [p], o, _ => by
    rw [dotGo]
    split
    · simp [dotGo]
    · split <;> simp [dotGo]
  | p :: q :: t, o, _ => by
    rw [dotGo]
    split
    · exact dotGo_ne (q :: t) _ (by simp)
    · split <;> exact dotGo_ne (q :: t) _ (by simp)
/-- a path without dots is a path, and none too long -/
theorem undot_ok {s : List UInt8} (h : rowP s = true) (h0 : s = [] ∨ s.getD 0 0 = 47) : rowP (undotL s) = true ∧ (undotL s).length ≤ s.length ∧ (s ≠ [] → (undotL s).getD 0 0 = 47 ∧ undotL s ≠ []) ∧ (s = [] → undotL s = []) := by
  cases s with
  | nil => exact ⟨rfl, Nat.le_refl _, fun h => absurd rfl h, fun _ => rfl⟩
  | cons c t =>
    obtain rfl : c = 47 := by simpa using h0
    have eu : undotL (47 :: t) = joinSl (dotGo (spl 47 t) []) := by
      unfold undotL
      rw [if_neg (by simp), List.drop_one, List.tail_cons, splitL_eq]
    rw [eu]
    rw [rowP_rowR, Bool.and_eq_true] at h
    have hj := joinSl_spl t
    have hp := rowR_join (L := spl 47 t) (by rw [hj]; exact h.1)
    have hs := dotGo_sub (spl 47 t) []
    have hl := dotGo_len (spl 47 t) []
    have hn := dotGo_ne (spl 47 t) [] (spl_ne 47 t)
    have hall : ∀ x ∈ spl 47 t, ∀ c ∈ x, c.toNat ≠ 63 := fun x hx c hc => by
      have h2 := List.all_eq_true.1 h.2 c (by rw [← hj]; exact List.mem_flatMap.2 ⟨x, hx, List.mem_cons_of_mem _ hc⟩)
      simpa using h2
    generalize dotGo (spl 47 t) [] = Q at hs hl hn ⊢
    refine ⟨?_, by rw [hj] at hl; simpa [joinSl] using hl, fun _ => ?_, fun x => by cases x⟩
    · rw [rowP_rowR, Bool.and_eq_true]
      refine ⟨join_rowR fun x hx => ?_, ?_⟩
      · rcases hs x hx with h | h | h
        · cases h
        · exact hp x h
        · rw [h]; rfl
      · rw [List.all_eq_true]
        intro c hc
        obtain ⟨x, hx, hc⟩ := List.mem_flatMap.1 hc
        rcases List.mem_cons.1 hc with rfl | hc
        · decide
        · rcases hs x hx with h | h | h
          · cases h
          · exact decide_eq_true (hall x h c hc)
          · rw [h] at hc; cases hc
    · cases Q with
      | nil => exact absurd rfl hn
      | cons a r => rw [show joinSl (a :: r) = 47 :: (a ++ joinSl r) by simp [joinSl]]; exact ⟨rfl, by simp⟩
/- the normal form of a row is a row -/
theorem enc_row (v : Nat) (h : v < 256) : rowR (encB v) = true ∧ (encB v).all (fun c => decide (c.toNat ≠ 63)) = true := by
  revert v
  decide +kernel
theorem norm_rowR (s : List UInt8) (h : rowR s = true) : rowR (normL s) = true := by
  refine normL.induct (motive := fun s => rowR s = true → rowR (normL s) = true) ?_ ?_ ?_ s h
  · intro c a b r hc ih hr
    rw [normL, if_pos hc]
    have hb : 16 * hexN a + hexN b < 256 := by have := hexN_lt hc.2.1; have := hexN_lt hc.2.2; omega
    refine rowR_app (enc_row _ hb).1 (ih ?_)
    exact rowR_tail [c, a, b] hr
  · intro c a b r hc ih hr
    rw [normL, if_neg hc]
    have hr' := rowR_tail [c] hr
    rw [rowR, ih hr']
    rw [rowR] at hr
    simp only [Bool.and_eq_true, Bool.or_eq_true, decide_eq_true_eq] at hr ⊢
    refine ⟨⟨hr.1.1, .inl fun e => ?_⟩, trivial⟩
    rcases hr.1.2 with h | h
    · exact h e
    · simp only [hex2, Bool.and_eq_true] at h
      exact hc ⟨UInt8.toNat_inj.1 e, h.1, h.2⟩
  · intro l hn hr
    match l with
    | [] => rfl
    | [a] => simpa [normL] using hr
    | [a, b] => simpa [normL] using hr
    | c :: a :: b :: r => exact (hn c a b r rfl).elim
theorem norm_63 (s : List UInt8) (h : s.all (fun c => decide (c.toNat ≠ 63)) = true) : (normL s).all (fun c => decide (c.toNat ≠ 63)) = true := by
  refine normL.induct (motive := fun s => s.all (fun c => decide (c.toNat ≠ 63)) = true → (normL s).all (fun c => decide (c.toNat ≠ 63)) = true) ?_ ?_ ?_ s h
  · intro c a b r hc ih hr
    rw [normL, if_pos hc, List.all_append]
    have hb : 16 * hexN a + hexN b < 256 := by have := hexN_lt hc.2.1; have := hexN_lt hc.2.2; omega
    rw [(enc_row _ hb).2, Bool.true_and]
    simp only [List.all_cons, Bool.and_eq_true] at hr
    exact ih hr.2.2.2
  · intro c a b r hc ih hr
    rw [normL, if_neg hc]
    rw [List.all_cons, Bool.and_eq_true] at hr
    rw [List.all_cons, hr.1, Bool.true_and]
    exact ih hr.2
  · intro l hn hr
    match l with
    | [] => rfl
    | [a] => simpa [normL] using hr
    | [a, b] => simpa [normL] using hr
    | c :: a :: b :: r => exact (hn c a b r rfl).elim
theorem norm_rowP {s : List UInt8} (h : rowP s = true) : rowP (normL s) = true := by
  rw [rowP_rowR, Bool.and_eq_true] at h ⊢
  exact ⟨norm_rowR s h.1, norm_63 s h.2⟩
theorem norm_head {s : List UInt8} (h : s = [] ∨ s.getD 0 0 = 47) : (s = [] ∧ normL s = []) ∨ (s ≠ [] ∧ normL s ≠ [] ∧ (normL s).getD 0 0 = 47) := by
  match s, h with
  | [], _ => exact .inl ⟨rfl, rfl⟩
  | [a], h => exact .inr ⟨by simp, by simp [normL], by simpa [normL] using h⟩
  | [a, b], h => exact .inr ⟨by simp, by simp [normL], by simpa [normL] using h⟩
  | c :: a :: b :: r, h =>
    have hc : c = 47 := by simpa using h
    subst hc
    rw [normL, if_neg (fun x => by have := x.1; revert this; decide)]
    exact .inr ⟨by simp, by simp, rfl⟩
theorem rb0_iff (s : List UInt8) : decide (rb0 s < 0) = rowR s := by
  rw [← rowQ_rowR, Bool.eq_iff_iff, decide_eq_true_eq]
  unfold rowQ
  rw [List.all_eq_true]
  constructor
  · intro h j hj
    refine Classical.byContradiction fun hc => ?_
    have hc : cell0 s j = false := by simpa using hc
    have := List.mem_range.1 hj
    obtain ⟨k, hk, h1, h2⟩ : ∃ k, k < s.length ∧ (∀ j, j < k → cell0 s j = true) ∧ cell0 s k = false := by
      have : ∀ n, n < s.length → cell0 s n = false → ∃ k, k < s.length ∧ (∀ j, j < k → cell0 s j = true) ∧ cell0 s k = false := by
        intro n
        induction n using Nat.strongRecOn with
        | _ n ih =>
          intro hn hf
          by_cases ha : ∀ j, j < n → cell0 s j = true
          · exact ⟨n, hn, ha, hf⟩
          · obtain ⟨j, hj⟩ := Classical.not_forall.1 ha
            obtain ⟨hj1, hj2⟩ := Classical.not_imp.1 hj
            exact ih j hj1 (by omega) (by simpa using hj2)
      exact this j (by omega) hc
    rw [rb0_at hk h1 h2] at h
    omega
  · intro h
    rw [rb0_no fun j hj => h j (List.mem_range.2 hj)]
    omega
/- addresses -/
def schOk (s : List UInt8) : Bool := lowL s == wHttp || lowL s == wHttps
def behL (a : Adr) : List UInt8 := a.pa ++ (if a.hq = true then 63 :: a.qu else []) ++ (if a.hf = true then 35 :: a.fr else [])
def wrL (a : Adr) : List UInt8 := a.sc ++ wSep ++ a.ho ++ (if a.po = [] then [] else 58 :: a.po) ++ behL a
def synA (a : Adr) : Bool := schOk a.sc && hostL a.ho && (a.po == [] || decide (portN a.po ≠ 0)) && (a.pa == [] || decide ((a.pa.getD 0 0).toNat = 47)) && rowP a.pa && rowR a.qu && rowR a.fr
def checkAdrL (a : Adr) : Int := if synA a = false then 10 else if (a.qu ≠ [] ∧ a.hq = false) ∨ (a.fr ≠ [] ∧ a.hf = false) then 3 else if 2000 < (wrL a).length then 2 else 0
def trimZ (s : List UInt8) : List UInt8 := s.dropWhile fun c => c == 48
def portA (a : Adr) : List UInt8 := if (lowL a.sc = wHttp ∧ trimZ a.po = [56, 48]) ∨ (lowL a.sc = wHttps ∧ trimZ a.po = [52, 52, 51]) then [] else trimZ a.po
def npL (a : Adr) : List UInt8 := if undotL (normL a.pa) = [] then [47] else undotL (normL a.pa)
def normA (a : Adr) : Adr := ⟨lowL a.sc, lowL a.ho, portA a, npL a, normL a.qu, a.hq, [], false⟩
/-- the path of an address -/
def pathL (a : Adr) : List UInt8 := npL a ++ (if a.hq = true then 63 :: normL a.qu else [])
theorem lowB_idem (c : UInt8) : lowB (lowB c) = lowB c := by
  have key : ∀ n, n < 256 → lowB (lowB (UInt8.ofNat n)) = lowB (UInt8.ofNat n) := by decide +kernel
  have := key c.toNat (UInt8.toNat_lt c)
  simpa using this
theorem lowL_len (s : List UInt8) : (lowL s).length = s.length := by simp [lowL]
theorem lowL_idem (s : List UInt8) : lowL (lowL s) = lowL s := by
  unfold lowL
  rw [List.map_map]
  congr 1
  funext c
  exact lowB_idem c
theorem low_lab (c : UInt8) : labB (lowB c) = labB c ∧ ((lowB c).toNat = 45 ↔ c.toNat = 45) ∧ (lowB c = 46 ↔ c = 46) := by
  have key : ∀ n, n < 256 → labB (lowB (UInt8.ofNat n)) = labB (UInt8.ofNat n) ∧ ((lowB (UInt8.ofNat n)).toNat = 45 ↔ (UInt8.ofNat n).toNat = 45) ∧ (lowB (UInt8.ofNat n) = 46 ↔ UInt8.ofNat n = 46) := by decide +kernel
  have := key c.toNat (UInt8.toNat_lt c)
  simpa using this
theorem spl_low : ∀ s : List UInt8, spl 46 (lowL s) = (spl 46 s).map lowL
  | [] => rfl
  | x :: t => by
    show spl 46 (lowB x :: lowL t) = _
    rw [spl, spl, spl_low t]
    by_cases h : x = 46
    · rw [if_pos ((low_lab x).2.2.2 h), if_pos h]; rfl
    · rw [if_neg (fun e => h ((low_lab x).2.2.1 e)), if_neg h, List.map_cons, List.map_tail]
      cases spl 46 t <;> rfl
theorem getD_low (s : List UInt8) (i : Nat) (h : i < s.length) : (lowL s).getD i 0 = lowB (s.getD i 0) := by
  unfold lowL
  rw [List.getD_eq_getElem?_getD, List.getElem?_map, List.getD_eq_getElem?_getD, List.getElem?_eq_getElem h]; rfl
theorem label_low (s : List UInt8) : labelL (lowL s) = labelL s := by
  unfold labelL
  rw [lowL_len]
  by_cases h : 1 ≤ s.length
  · rw [getD_low s 0 (by omega), getD_low s (s.length - 1) (by omega)]
    have e1 : decide ((lowB (s.getD 0 0)).toNat ≠ 45) = decide ((s.getD 0 0).toNat ≠ 45) := decide_eq_decide.2 (not_congr (low_lab _).2.1)
    have e2 : decide ((lowB (s.getD (s.length - 1) 0)).toNat ≠ 45) = decide ((s.getD (s.length - 1) 0).toNat ≠ 45) := decide_eq_decide.2 (not_congr (low_lab _).2.1)
    have e3 : (lowL s).all labB = s.all labB := by
      unfold lowL
      rw [List.all_map]
      congr 1
      funext c
      exact (low_lab c).1
    rw [e1, e2, e3]
  · rw [decide_eq_false h]; rfl
theorem host_low (s : List UInt8) : hostL (lowL s) = hostL s := by
  unfold hostL
  rw [lowL_len, splitL_eq, splitL_eq, spl_low, List.all_map]
  congr 2
  funext x
  exact label_low x
theorem portV_z (t : List UInt8) : portV (48 :: t) = portV t := rfl
theorem trimZ_len (s : List UInt8) : (trimZ s).length ≤ s.length := by
  induction s with
  | nil => simp [trimZ]
  | cons c t ih =>
    unfold trimZ at *
    rw [List.dropWhile_cons]
    split
    · simp only [List.length_cons]; omega
    · exact Nat.le_refl _
theorem trimZ_port {s : List UInt8} (h : portN s ≠ 0) : portN (trimZ s) ≠ 0 := by
  induction s with
  | nil => exact h
  | cons c t ih =>
    by_cases hc : c = 48
    · subst hc
      have e : trimZ (48 :: t) = trimZ t := by unfold trimZ; rw [List.dropWhile_cons, if_pos (by decide)]
      rw [e]
      refine ih ?_
      unfold portN at h ⊢
      rw [portV_z] at h
      split at h
      · rename_i hx
        have ht : t ≠ [] := fun e => by subst e; exact h rfl
        have := List.length_pos_iff.2 ht
        simp only [List.length_cons, List.all_cons, Bool.and_eq_true] at hx
        rw [if_pos ⟨by omega, by omega, hx.2.2.1.2, hx.2.2.2⟩]; exact h
      · exact absurd rfl h
    · have e : trimZ (c :: t) = c :: t := by unfold trimZ; rw [List.dropWhile_cons, if_neg (by simpa using hc)]
      rw [e]; exact h
/-- the normal form of a right address is right, or too long by the / of its empty path -/
theorem norm_right {a : Adr} (h : checkAdrL a = 0) : checkAdrL (normA a) = 0 ∨ (a.pa = [] ∧ checkAdrL (normA a) ≠ 0) := by
  by_cases hp : a.pa = []
  · by_cases h0 : checkAdrL (normA a) = 0
    · exact .inl h0
    · exact .inr ⟨hp, h0⟩
  left
  unfold checkAdrL at h
  split at h
  · cases h
  rename_i h1
  split at h
  · cases h
  rename_i h2
  split at h
  · cases h
  rename_i h3
  have h1 : synA a = true := by simpa using h1
  unfold synA at h1
  simp only [Bool.and_eq_true, Bool.or_eq_true, beq_iff_eq, decide_eq_true_eq] at h1
  obtain ⟨⟨⟨⟨⟨⟨s1, s2⟩, s3⟩, s4⟩, s5⟩, s6⟩, s7⟩ := h1
  have p47 : a.pa = [] ∨ a.pa.getD 0 0 = 47 := s4.imp id fun e => UInt8.toNat_inj.1 e
  obtain ⟨e, _⟩ | ⟨n1, n2, n3⟩ := norm_head p47
  · exact absurd e hp
  obtain ⟨u1, u2, u3, u4⟩ := undot_ok (norm_rowP s5) (.inr n3)
  obtain ⟨u5, u6⟩ := u3 n2
  have eN : npL a = undotL (normL a.pa) := by unfold npL; rw [if_neg u6]
  have lq := normL_len a.qu
  have lp := normL_len a.pa
  have lz := trimZ_len a.po
  have zz : (portA a).length ≤ (trimZ a.po).length := by unfold portA; split <;> simp
  have syn : synA (normA a) = true := by
    unfold synA normA
    simp only [Bool.and_eq_true, Bool.or_eq_true, beq_iff_eq, decide_eq_true_eq]
    refine ⟨⟨⟨⟨⟨⟨?_, by rw [host_low]; exact s2⟩, ?_⟩, .inr (by rw [eN, u5]; rfl)⟩, by rw [eN]; exact u1⟩, norm_rowR _ s6⟩, rfl⟩
    · unfold schOk at s1 ⊢
      rw [lowL_idem]; exact s1
    · unfold portA
      split
      · exact .inl rfl
      · rcases s3 with s3 | s3
        · left; rw [s3]; rfl
        · exact .inr (trimZ_port s3)
  have hq : ¬ ((normA a).qu ≠ [] ∧ (normA a).hq = false ∨ (normA a).fr ≠ [] ∧ (normA a).hf = false) := by
    rintro (x | x)
    · refine h2 (.inl ⟨fun e => x.1 ?_, x.2⟩)
      show normL a.qu = []
      rw [e]; rfl
    · exact x.1 rfl
  unfold checkAdrL
  rw [if_neg (by rw [syn]; simp), if_neg hq, if_neg]
  have w1 : (wrL (normA a)).length ≤ (wrL a).length := by
    unfold wrL behL normA
    simp only [List.length_append, lowL_len, eN]
    have q : (if a.hq = true then 63 :: normL a.qu else []).length ≤ (if a.hq = true then 63 :: a.qu else []).length := by split <;> simp <;> omega
    have p : (if portA a = [] then [] else 58 :: portA a).length ≤ (if a.po = [] then [] else 58 :: a.po).length := by
      by_cases e : a.po = []
      · have : portA a = [] := List.length_eq_zero_iff.1 (by have h0 : (trimZ a.po).length = 0 := (by rw [e]; rfl); omega)
        rw [if_pos this]; simp
      · rw [if_neg e]
        split
        · simp
        · simp only [List.length_cons] at zz lz ⊢; omega
    simp only [Bool.false_eq_true, if_false, List.length_nil]
    omega
  omega
/-- what the program makes of it -/
theorem path_same {a : Adr} (h : checkAdrL a = 0) (n : Adr) (hn : n = if checkAdrL (normA a) = 0 then normA a else ⟨[], [], [], [47], normL a.qu, a.hq, [], false⟩) : n.pa ++ (if n.hq = true then 63 :: n.qu else []) = pathL a := by
  rcases norm_right h with e | ⟨e1, e2⟩
  · rw [hn, if_pos e]; rfl
  · rw [hn, if_neg e2]
    show [47] ++ _ = npL a ++ _
    have : npL a = [47] := by unfold npL; rw [e1]; rfl
    rw [this]

/- the rules for an agent -/
def agE (r : Rob) (a : List UInt8) : Int := if checkRobL r = 0 then (if agentL a = true ∧ a ≠ [42] then 0 else 5) else checkRobL r
def rulG (G : List Grp) (a : List UInt8) : List Rul := (G.filter fun g => g.ag.contains a).flatMap fun g => g.ru
def delGp (G : List Grp) (a : List UInt8) : Int := (G.filter fun g => g.ag.contains a).foldl (fun d g => max d g.de) (-1)
def namG (G : List Grp) (a : List UInt8) : Bool := G.any fun g => g.ag.contains a
def rulesL (r : Rob) (a : List UInt8) : List Rul × Int := if namG r.gr a = true then (rulG r.gr a, delGp r.gr a) else (rulG r.gr [42], delGp r.gr [42])
theorem take_s {α : Type} (l : List α) (d : α) {i : Nat} (h : i < l.length) : l.take (i + 1) = l.take i ++ [l.getD i d] := by
  rw [List.getD_eq_getElem?_getD, List.getElem?_eq_getElem h, List.take_succ_eq_append_getElem h]; rfl
theorem rulG_s (G : List Grp) (a : List UInt8) {i : Nat} (h : i < G.length) : rulG (G.take (i + 1)) a = if (G.getD i noGrp).ag.contains a = true then rulG (G.take i) a ++ (G.getD i noGrp).ru else rulG (G.take i) a := by
  rw [take_s G noGrp h]
  unfold rulG
  rw [List.filter_append, List.flatMap_append]
  cases hc : (G.getD i noGrp).ag.contains a
  · rw [List.filter_cons_of_neg (by rw [hc]; simp)]; simp
  · rw [List.filter_cons_of_pos (by rw [hc])]; simp
theorem delG_s (G : List Grp) (a : List UInt8) {i : Nat} (h : i < G.length) : delGp (G.take (i + 1)) a = if (G.getD i noGrp).ag.contains a = true then max (delGp (G.take i) a) (G.getD i noGrp).de else delGp (G.take i) a := by
  rw [take_s G noGrp h]
  unfold delGp
  rw [List.filter_append, List.foldl_append]
  cases hc : (G.getD i noGrp).ag.contains a
  · rw [List.filter_cons_of_neg (by rw [hc]; simp)]; simp
  · rw [List.filter_cons_of_pos (by rw [hc])]; simp
theorem namG_s (G : List Grp) (a : List UInt8) {i : Nat} (h : i < G.length) : namG (G.take (i + 1)) a = (namG (G.take i) a || (G.getD i noGrp).ag.contains a) := by
  rw [take_s G noGrp h]
  unfold namG
  rw [List.any_append]; simp
theorem rulG_0 (G : List Grp) (a : List UInt8) : rulG (G.take 0) a = [] := rfl
theorem nam_no {G : List Grp} {a : List UInt8} (h : namG G a = false) : rulG G a = [] ∧ delGp G a = -1 := by
  have e : (G.filter fun g => g.ag.contains a) = [] := by
    rw [List.filter_eq_nil_iff]
    intro g hg hc
    unfold namG at h
    rw [List.any_eq_false] at h
    exact h g hg hc
  unfold rulG delGp
  rw [e]; exact ⟨rfl, rfl⟩
/- what is right has its bounds -/
theorem grp_ok {g : Grp} (h : checkGrpL g = 0) : 1 ≤ g.ag.length ∧ g.ag.length ≤ 50 ∧ (∀ s ∈ g.ag, agentL s = true) ∧ g.ru.length ≤ 200 ∧ (∀ r ∈ g.ru, patOk r.pa = true) ∧ -1 ≤ g.de ∧ g.de ≤ 99999 := by
  unfold checkGrpL at h
  by_cases h1 : g.ag.length = 0
  · rw [if_pos h1] at h; cases h
  rw [if_neg h1] at h
  by_cases h2 : 50 < g.ag.length
  · rw [if_pos h2] at h; cases h
  rw [if_neg h2] at h
  by_cases h3 : g.ag.all agentL = false
  · rw [if_pos h3] at h; cases h
  rw [if_neg h3] at h
  by_cases h4 : 200 < g.ru.length
  · rw [if_pos h4] at h; cases h
  rw [if_neg h4] at h
  by_cases h5 : (g.ru.all fun r => patOk r.pa) = false
  · rw [if_pos h5] at h; cases h
  rw [if_neg h5] at h
  by_cases h6 : g.de < -1 ∨ 99999 < g.de
  · rw [if_pos h6] at h; cases h
  have h3 : g.ag.all agentL = true := by simpa using h3
  have h5 : (g.ru.all fun r => patOk r.pa) = true := by simpa using h5
  exact ⟨by omega, by omega, List.all_eq_true.1 h3, by omega, List.all_eq_true.1 h5, by omega, by omega⟩
theorem grpsE_ok : ∀ {G : List Grp}, grpsE G = 0 → ∀ g ∈ G, checkGrpL g = 0
  | g :: t, h, x, hx => by
    rw [grpsE] at h
    by_cases h1 : checkGrpL g = 0
    · rw [if_pos h1] at h
      rcases List.mem_cons.1 hx with rfl | hx
      · exact h1
      · exact grpsE_ok h x hx
    · rw [if_neg h1] at h; exact absurd h h1
theorem rob_ok {r : Rob} (h : checkRobL r = 0) : r.gr.length ≤ 100 ∧ (∀ g ∈ r.gr, checkGrpL g = 0) ∧ r.ma.length ≤ 100 ∧ ∀ s ∈ r.ma, adrB s = true := by
  unfold checkRobL at h
  by_cases h1 : 100 < r.gr.length
  · rw [if_pos h1] at h; cases h
  rw [if_neg h1] at h
  by_cases h2 : grpsE r.gr = 0
  · rw [if_pos h2] at h
    by_cases h3 : 100 < r.ma.length
    · rw [if_pos h3] at h; cases h
    rw [if_neg h3] at h
    by_cases h4 : r.ma.all adrB = true
    · exact ⟨by omega, grpsE_ok h2, by omega, List.all_eq_true.1 h4⟩
    · rw [if_neg h4] at h; cases h
  · rw [if_neg h2] at h; exact absurd h h2
theorem pat_len {s : List UInt8} (h : patOk s = true) : s.length ≤ 300 := ((patOk_iff s).1 h).2.1
theorem mem_at {α : Type} {l : List α} {d : α} {i : Nat} (h : i < l.length) : l.getD i d ∈ l := by
  rw [List.getD_eq_getElem?_getD, List.getElem?_eq_getElem h]; exact List.getElem_mem h
theorem rulG_b {G : List Grp} (a : List UInt8) (h : ∀ g ∈ G, checkGrpL g = 0) : (rulG G a).length ≤ 200 * G.length ∧ (∀ r ∈ rulG G a, patOk r.pa = true) ∧ -1 ≤ delGp G a ∧ delGp G a ≤ 99999 := by
  refine ⟨?_, fun r hr => ?_, ?_⟩
  · induction G with
    | nil => simp [rulG]
    | cons g t ih =>
      have := ih fun x hx => h x (List.mem_cons_of_mem _ hx)
      have h2 := (grp_ok (h g (by simp))).2.2.2.1
      unfold rulG at *
      rw [List.filter_cons]
      split
      · simp only [List.flatMap_cons, List.length_append, List.length_cons]; omega
      · simp only [List.length_cons]; omega
  · unfold rulG at hr
    obtain ⟨g, hg, hr⟩ := List.mem_flatMap.1 hr
    exact (grp_ok (h g (List.mem_filter.1 hg).1)).2.2.2.2.1 r hr
  · unfold delGp
    have key : ∀ (L : List Grp) (d : Int), (∀ g ∈ L, checkGrpL g = 0) → -1 ≤ d → d ≤ 99999 → -1 ≤ L.foldl (fun d g => max d g.de) d ∧ L.foldl (fun d g => max d g.de) d ≤ 99999 := by
      intro L
      induction L with
      | nil => exact fun d _ h1 h2 => ⟨h1, h2⟩
      | cons g t ih =>
        intro d hL h1 h2
        have := (grp_ok (hL g (by simp))).2.2.2.2.2
        exact ih (max d g.de) (fun x hx => hL x (List.mem_cons_of_mem _ hx)) (by omega) (by omega)
    exact key _ _ (fun g hg => h g (List.mem_filter.1 hg).1) (by omega) (by omega)
theorem rules_b {r : Rob} (a : List UInt8) (h : checkRobL r = 0) : (rulesL r a).1.length ≤ 20000 ∧ (∀ x ∈ (rulesL r a).1, patOk x.pa = true) ∧ -1 ≤ (rulesL r a).2 ∧ (rulesL r a).2 ≤ 99999 := by
  obtain ⟨h1, h2, -, -⟩ := rob_ok h
  have k1 := rulG_b a h2
  have k2 := rulG_b [42] h2
  unfold rulesL
  split
  · exact ⟨by have := k1.1; show (rulG r.gr a).length ≤ _; omega, k1.2⟩
  · exact ⟨by have := k2.1; show (rulG r.gr [42]).length ≤ _; omega, k2.2⟩
/- the rule that decides -/
def betB (l : List Rul) (b : Int) (i : Nat) : Bool := decide (b < 0) || decide ((l.getD b.toNat noRul).pa.length < (l.getD i noRul).pa.length) || (decide ((l.getD i noRul).pa.length = (l.getD b.toNat noRul).pa.length) && (l.getD i noRul).al && !(l.getD b.toNat noRul).al)
def decG (l : List Rul) (p : List UInt8) : Nat → Int
  | 0 => -1
  | i + 1 => if matchesB (l.getD i noRul).pa p = true ∧ betB l (decG l p i) i = true then (i : Int) else decG l p i
def decL (l : List Rul) (p : List UInt8) : Int := decG l p l.length
theorem decG_b (l : List Rul) (p : List UInt8) : ∀ n, -1 ≤ decG l p n ∧ decG l p n < n
  | 0 => ⟨Int.le_refl _, by show (-1 : Int) < 0; omega⟩
  | n + 1 => by
    have := decG_b l p n
    rw [decG]
    split <;> omega
/- what is permitted -/
def wRobots : List UInt8 := [47, 114, 111, 98, 111, 116, 115, 46, 116, 120, 116]
def perL (r : Rob) (a p : List UInt8) : Bool := p == wRobots || (decide (decL (rulesL r a).1 p < 0) || ((rulesL r a).1.getD (decL (rulesL r a).1 p).toNat noRul).al)
def adE (r : Rob) (a : List UInt8) (x : Adr) : Int := if agE r a = 0 then checkAdrL x else agE r a

/- what a site permits, as a text (plain) -/
def lnT (w v : List UInt8) : List UInt8 := w ++ [58, 32] ++ v ++ [10]
def agsT (l : List (List UInt8)) : List UInt8 := (l.map (lnT uaW)).flatten
def delT (g : Grp) : List UInt8 := if 0 ≤ g.de then lnT crawlW (Lib.itoa g.de) else if g.ru.length = 0 then lnT crawlW [45] else []
def rulT (r : Rul) : List UInt8 := lnT (if r.al = true then allowW else disW) r.pa
def rulsT (l : List Rul) : List UInt8 := (l.map rulT).flatten
def grpT (g : Grp) : List UInt8 := agsT g.ag ++ delT g ++ rulsT g.ru
def grpsT (G : List Grp) : List UInt8 := (G.map grpT).flatten
def mapsT (M : List (List UInt8)) : List UInt8 := (M.map (lnT siteW)).flatten
def robT (r : Rob) : List UInt8 := grpsT r.gr ++ mapsT r.ma
def shpM (M : List (List UInt8)) : Bool := M.any fun s => Lib.contains s [35]
def textRob (r : Rob) : List UInt8 × Int :=
  if checkRobL r = 0 then (if 100000 < (robT r).length then ([], 2) else if shpM r.ma = true then ([], 3) else (robT r, 0)) else ([], checkRobL r)
theorem flat_take {α : Type} {d : α} (f : α → List UInt8) {l : List α} {i : Nat} (h : i < l.length) : ((l.take (i + 1)).map f).flatten = ((l.take i).map f).flatten ++ f (l.getD i d) := by
  rw [takeG (d := d) h, List.map_append, List.flatten_append]
  simp
theorem flat_len {α : Type} (f : α → List UInt8) {k : Nat} : ∀ {l : List α}, (∀ x ∈ l, (f x).length ≤ k) → ((l.map f).flatten).length ≤ k * l.length
  | [], _ => Nat.zero_le _
  | a :: l, h => by
    have h1 := h a List.mem_cons_self
    have h2 := flat_len f (l := l) fun x hx => h x (List.mem_cons_of_mem _ hx)
    rw [List.map_cons, List.flatten_cons, List.length_append, List.length_cons, Nat.mul_succ]
    omega
theorem flat_len_take {α : Type} (f : α → List UInt8) {k n : Nat} {l : List α} (h : ∀ x ∈ l, (f x).length ≤ k) (hn : l.length ≤ n) (i : Nat) : (((l.take i).map f).flatten).length ≤ k * n := by
  refine Nat.le_trans (flat_len f fun x hx => h x (List.mem_of_mem_take hx)) (Nat.mul_le_mul_left _ ?_)
  rw [List.length_take]; omega
theorem lnT_len (w v : List UInt8) : (lnT w v).length = w.length + v.length + 3 := by
  unfold lnT
  simp only [List.length_append, List.length_cons, List.length_nil]; omega
theorem agT_len {a : List UInt8} (h : agentL a = true) : (lnT uaW a).length ≤ 53 := by
  rw [lnT_len]
  unfold agentL at h
  simp only [Bool.or_eq_true, beq_iff_eq, Bool.and_eq_true, decide_eq_true_eq] at h
  have : uaW.length = 10 := rfl
  rcases h with rfl | h
  · decide
  · omega
theorem rulT_len {r : Rul} (h : patOk r.pa = true) : (rulT r).length ≤ 311 := by
  have := ((patOk_iff r.pa).1 h).2.1
  unfold rulT
  rw [lnT_len]
  have h1 : allowW.length = 5 := rfl
  have h2 : disW.length = 8 := rfl
  split <;> omega
theorem grp_sz {g : Grp} (h : checkGrpL g = 0) : (∀ i, (agsT (g.ag.take i)).length ≤ 2650) ∧ (delT g).length ≤ 40 ∧ (∀ i, (rulsT (g.ru.take i)).length ≤ 62200) ∧ (grpT g).length ≤ 65000 := by
  obtain ⟨h1, h2, h3, h4, h5, h6, h7⟩ := grp_ok h
  have a := flat_len_take (lnT uaW) (k := 53) (n := 50) (fun x hx => agT_len (h3 x hx)) h2
  have r := flat_len_take rulT (k := 311) (n := 200) (fun x hx => rulT_len (h5 x hx)) h4
  have d : (delT g).length ≤ 40 := by
    have hi := Lib.itoa_length_le g.de (by omega) (by omega)
    have hc : crawlW.length = 11 := rfl
    unfold delT
    split
    · rw [lnT_len]; omega
    · split
      · rw [lnT_len]; simp [hc]
      · simp
  refine ⟨a, d, r, ?_⟩
  have a' := a g.ag.length
  have r' := r g.ru.length
  rw [List.take_length] at a' r'
  have a' : (agsT g.ag).length ≤ 2650 := a'
  have r' : (rulsT g.ru).length ≤ 62200 := r'
  unfold grpT
  rw [List.length_append, List.length_append]
  omega
theorem grps_sz {G : List Grp} (h : ∀ g ∈ G, checkGrpL g = 0) (hl : G.length ≤ 100) (i : Nat) : (grpsT (G.take i)).length ≤ 6500000 := flat_len_take grpT (k := 65000) (n := 100) (fun g hg => (grp_sz (h g hg)).2.2.2) hl i
theorem adrB_len {s : List UInt8} (h : adrB s = true) : s.length ≤ 2000 := by
  have h : (readA s).2.2 = 0 := of_decide_eq_true h
  unfold readA at h
  by_cases h1 : 2000 < s.length
  · rw [if_pos h1] at h; cases h
  · omega
theorem maps_sz {M : List (List UInt8)} (h : ∀ s ∈ M, adrB s = true) (hl : M.length ≤ 100) (i : Nat) : (mapsT (M.take i)).length ≤ 201100 := flat_len_take (lnT siteW) (k := 2011) (n := 100) (fun s hs => by
  have := adrB_len (h s hs)
  have hc : siteW.length = 7 := rfl
  rw [lnT_len]; omega) hl i

/-- a string in which a byte is replaced -/
def rep1 (c : UInt8) (n s : List UInt8) : List UInt8 := (s.map fun x => if x = c then n else [x]).flatten
theorem rep1_cons (c : UInt8) (n : List UInt8) (b : UInt8) (l : List UInt8) : rep1 c n (b :: l) = (if b = c then n else [b]) ++ rep1 c n l := rfl
theorem rep1_app (c : UInt8) (n a b : List UInt8) : rep1 c n (a ++ b) = rep1 c n a ++ rep1 c n b := by
  unfold rep1; rw [List.map_append, List.flatten_append]
theorem rep1_self (c : UInt8) : ∀ s : List UInt8, rep1 c [c] s = s
  | [] => rfl
  | b :: l => by
    rw [rep1_cons, rep1_self c l]
    split
    · rename_i h; rw [h]; rfl
    · rfl
theorem index1_eq (c : UInt8) (l : List UInt8) : Lib.index (c :: l) [c] = ((0 : Nat) : Int) := by rw [Lib.index]; simp [List.isPrefixOf]
theorem index1_ne {b c : UInt8} (l : List UInt8) (h : b ≠ c) : Lib.index (b :: l) [c] = if Lib.index l [c] == -1 then -1 else Lib.index l [c] + 1 := by
  have hp : ([c] : List UInt8).isPrefixOf (b :: l) = false := by simp [List.isPrefixOf, Ne.symm h]
  rw [Lib.index, hp]; simp
theorem replaceK_one (c : UInt8) (n : List UInt8) : ∀ s : List UInt8, Lib.replaceK [c] n (Lib.count s [c]) s = rep1 c n s
  | [] => by rw [Lib.count_miss (by simp [Lib.index])]; rfl
  | b :: l => by
    have ih := replaceK_one c n l
    rw [rep1_cons]
    by_cases h : b = c
    · subst h
      rw [Lib.count_cons_eq, Nat.add_comm, Lib.replaceK_hit _ _ _ _ 0 (index1_eq b l), if_pos rfl]
      show [] ++ n ++ Lib.replaceK [b] n _ l = _
      rw [ih]; rfl
    · rw [Lib.count_cons_ne b c l h, if_neg h, ← ih]
      cases hk : Lib.count l [c] with
      | zero => rfl
      | succ k =>
        obtain ⟨i, hi⟩ := Lib.index_of_count (s := l) (old := [c]) (by omega)
        have e : Lib.index (b :: l) [c] = ((i + 1 : Nat) : Int) := by
          rw [index1_ne l h, if_neg (fun e => by rw [hi] at e; have := beq_iff_eq.1 e; omega), hi]; omega
        rw [Lib.replaceK_hit _ _ _ _ _ e, Lib.replaceK_hit _ _ _ _ _ hi]
        simp only [List.take_succ_cons, List.cons_append, List.nil_append]
        congr 2
theorem replaceAll_one (c : UInt8) (n s : List UInt8) : Lib.replaceAll s [c] n = rep1 c n s := by
  unfold Lib.replaceAll Lib.replace
  by_cases h : ([c] : List UInt8) = n
  · rw [if_pos (beq_iff_eq.2 h), ← h, rep1_self]
  · rw [if_neg (fun e => h (beq_iff_eq.1 e))]
    unfold Lib.replaceNum
    rw [if_pos (Or.inl (by decide)), replaceK_one]
theorem rep1_len (c : UInt8) (n : List UInt8) (h : 1 ≤ n.length) : ∀ s : List UInt8, (rep1 c n s).length ≤ n.length * s.length
  | [] => Nat.zero_le _
  | b :: l => by
    have ih := rep1_len c n h l
    rw [rep1_cons, List.length_append, List.length_cons, Nat.mul_succ]
    have : (if b = c then n else [b]).length ≤ n.length := by
      split
      · exact Nat.le_refl _
      · exact h
    omega
theorem count1_le (c : UInt8) (s : List UInt8) : Lib.count s [c] ≤ s.length := by rw [Lib.count_one]; exact List.count_le_length
def ckReplaceAll : Ck
  | [.str s, .str [c], .str n] => some (s.length ≤ 40000000 ∧ n.length ≤ 1000, .str (rep1 c n s))
  | _ => none
theorem conReplaceAll : Con pg 29 ckReplaceAll := by
  intro args q r h hq
  unfold ckReplaceAll at h
  split at h
  · cases h
    rename_i s c n
    refine pcall_shelf (by kernel_rfl) rfl fun w hw => ?_
    obtain ⟨m, hm⟩ := maxLen hw
    refine (Tryz.strings_ReplaceAll ⟨s.toArray⟩ ⟨#[c]⟩ ⟨n.toArray⟩ m w (by show s.toArray.size < _; simp; omega) hm (Nat.le_refl 1) ?_).mono fun e w' h => ?_
    · show s.toArray.size + Lib.count s.toArray.toList [c] * n.toArray.size ≤ _
      have h1 := count1_le c s
      have : Lib.count s [c] * n.length ≤ 40000000 * 1000 := Nat.mul_le_mul (by omega) (by omega)
      simp only [List.size_toArray, List.toList_toArray]; omega
    · have e := replaceAll_one c n s
      exact shelf_str (by rw [← e]; exact h.1) (grow_below h.2)
  · cases h
attribute [push_cast] ckReplaceAll

/- elements taken out of a row (plain), by any test -/
section
variable {α : Type} (gone : α → Bool)
def keepA (l : List α) : List α := l.filter fun r => !gone r
def delA (l : List α) (j : Nat) : List α := keepA gone (l.take j) ++ l.drop (keepA gone (l.take j)).length
def fstA (l : List α) : Int := match l.findIdx? gone with
  | some k => k
  | none => -1
variable {gone}
theorem fstA_at {l : List α} {i : Nat} {d : α} (hi : i < l.length) (hg : gone (l.getD i d) = true) (hn : ∀ j, j < i → gone (l.getD j d) = false) : fstA gone l = i := by
  unfold fstA
  have : l.findIdx? gone = some i := by
    rw [List.findIdx?_eq_some_iff_getElem]
    refine ⟨hi, ?_, fun j hj => ?_⟩
    · rw [List.getD_eq_getElem?_getD, List.getElem?_eq_getElem hi] at hg; exact hg
    · have h1 := hn j hj
      rw [List.getD_eq_getElem?_getD, List.getElem?_eq_getElem (by omega)] at h1
      simpa using h1
  rw [this]
theorem fstA_no {l : List α} {d : α} (hn : ∀ j, j < l.length → gone (l.getD j d) = false) : fstA gone l = -1 := by
  unfold fstA
  have : l.findIdx? gone = none := by
    rw [List.findIdx?_eq_none_iff]
    intro x hx
    obtain ⟨j, hj, rfl⟩ := List.getElem_of_mem hx
    have h1 := hn j hj
    rw [List.getD_eq_getElem?_getD, List.getElem?_eq_getElem hj] at h1
    exact h1
  rw [this]
theorem fstA_b (l : List α) (d : α) : (fstA gone l = -1 ∧ ∀ x ∈ l, gone x = false) ∨ ∃ k : Nat, fstA gone l = k ∧ k < l.length ∧ (∀ x ∈ l.take k, gone x = false) ∧ gone (l.getD k d) = true := by
  unfold fstA
  cases e : l.findIdx? gone with
  | none => exact .inl ⟨rfl, List.findIdx?_eq_none_iff.1 e⟩
  | some k =>
    rw [List.findIdx?_eq_some_iff_getElem] at e
    obtain ⟨hk, h1, h2⟩ := e
    refine .inr ⟨k, rfl, hk, fun x hx => ?_, ?_⟩
    · obtain ⟨j, hj, rfl⟩ := List.getElem_of_mem hx
      rw [List.length_take] at hj
      have := h2 j (by omega)
      rw [List.getElem_take]
      simpa using this
    · rw [List.getD_eq_getElem?_getD, List.getElem?_eq_getElem hk]; exact h1
theorem keepA_le (l : List α) (j : Nat) (hj : j ≤ l.length) : (keepA gone (l.take j)).length ≤ j := by
  have := List.length_filter_le (fun r => !gone r) (l.take j)
  rw [List.length_take] at this
  unfold keepA; omega
theorem delA_len (l : List α) (j : Nat) (hj : j ≤ l.length) : (delA gone l j).length = l.length := by
  have := keepA_le (gone := gone) l j hj
  unfold delA
  rw [List.length_append, List.length_drop]; omega
theorem delA_at {l : List α} {j : Nat} {d : α} (hj : j < l.length) : (delA gone l j).getD j d = l.getD j d := by
  have := keepA_le (gone := gone) l j (by omega)
  unfold delA
  rw [List.getD_eq_getElem?_getD, List.getD_eq_getElem?_getD, List.getElem?_append_right this, List.getElem?_drop]
  congr 2; omega
theorem keepA_succ {l : List α} {j : Nat} {d : α} (hj : j < l.length) : keepA gone (l.take (j + 1)) = if gone (l.getD j d) = true then keepA gone (l.take j) else keepA gone (l.take j) ++ [l.getD j d] := by
  have e : l.getD j d = l[j] := by rw [List.getD_eq_getElem?_getD, List.getElem?_eq_getElem hj]; rfl
  rw [List.take_succ_eq_append_getElem hj, e]
  unfold keepA
  rw [List.filter_append, List.filter_cons]
  cases gone l[j] <;> simp
theorem delA_gone {l : List α} {j : Nat} {d : α} (hj : j < l.length) (hg : gone (l.getD j d) = true) : delA gone l (j + 1) = delA gone l j := by
  unfold delA; rw [keepA_succ (d := d) hj, if_pos hg]
theorem delA_put {c : Cod α} {l : List α} {j : Nat} (hj : j < l.length) (hg : ¬ gone (l.getD j c.d) = true) (i : Nat) : setF (lsF c (delA gone l j)) (keepA gone (l.take j)).length (c.enc (l.getD j c.d)) i = lsF c (delA gone l (j + 1)) i := by
  have hk := keepA_le (gone := gone) l j (by omega)
  unfold delA
  rw [keepA_succ (d := c.d) hj, if_neg hg]
  generalize keepA gone (l.take j) = a at hk ⊢
  generalize l.getD j c.d = r
  unfold setF lsF
  show _ = c.enc _
  by_cases e : i = a.length
  · rw [decide_eq_true e, cond_true]; subst e; simp
  · rw [decide_eq_false e, cond_false]
    show c.enc _ = c.enc _
    congr 1
    rw [List.getD_eq_getElem?_getD, List.getD_eq_getElem?_getD, List.length_append, List.length_singleton]
    by_cases e2 : i < a.length
    · rw [List.getElem?_append_left e2, List.getElem?_append_left (by simp; omega), List.getElem?_append_left e2]
    · rw [List.getElem?_append_right (by omega), List.getElem?_append_right (by simp; omega), List.getElem?_drop, List.getElem?_drop, List.length_append, List.length_singleton]
      congr 2; omega
theorem keepA_none {l : List α} (hn : ∀ x ∈ l, gone x = false) : keepA gone l = l := by
  unfold keepA
  rw [List.filter_eq_self]
  intro x hx; rw [hn x hx]; rfl
theorem delA_begin {l : List α} {k : Nat} (hk : k ≤ l.length) (hn : ∀ x ∈ l.take k, gone x = false) : delA gone l k = l ∧ (keepA gone (l.take k)).length = k := by
  have e := keepA_none hn
  unfold delA
  rw [e, List.length_take, Nat.min_eq_left hk, List.take_append_drop]
  exact ⟨rfl, rfl⟩
theorem delA_end {c : Cod α} {l : List α} (i : Nat) (hi : i < (keepA gone l).length) : lsF c (delA gone l l.length) i = lsF c (keepA gone l) i := by
  unfold lsF delA
  rw [List.take_length]
  show c.enc _ = c.enc _
  rw [List.getD_eq_getElem?_getD, List.getD_eq_getElem?_getD, List.getElem?_append_left hi]
end

/- reading what a site permits: all of it (plain) -/
def goneG (g : Grp) : Bool := decide (g.ag.length = 0)
theorem spl_two : ∀ t : List UInt8, (spl 10 t).flatMap (spl 13) = spl 10 (rep1 13 [10] t)
  | [] => rfl
  | x :: t => by
    have ih := spl_two t
    rw [rep1_cons]
    by_cases h10 : x = 10
    · subst h10
      rw [if_neg (by decide), spl, if_pos rfl]
      show spl 13 [] ++ (spl 10 t).flatMap (spl 13) = spl 10 (10 :: rep1 13 [10] t)
      rw [ih]
      rfl
    · cases hs : spl 10 t with
      | nil => exact absurd hs (spl_ne 10 t)
      | cons a r =>
        rw [hs] at ih
        have ih : spl 13 a ++ r.flatMap (spl 13) = spl 10 (rep1 13 [10] t) := ih
        have e : spl 10 (x :: t) = (x :: a) :: r := by rw [spl, if_neg h10, hs]; rfl
        rw [e]
        show spl 13 (x :: a) ++ r.flatMap (spl 13) = _
        by_cases h13 : x = 13
        · subst h13
          rw [if_pos rfl]
          show (if (13 : UInt8) = 13 then [] :: spl 13 a else _) ++ _ = spl 10 (10 :: rep1 13 [10] t)
          rw [if_pos rfl, ← List.singleton_append, List.append_assoc, ih]
          rfl
        · rw [if_neg h13]
          show _ = spl 10 (x :: rep1 13 [10] t)
          have e1 : spl 13 (x :: a) = (x :: (spl 13 a).headD []) :: (spl 13 a).tail := by rw [spl, if_neg h13]
          have e2 : spl 10 (x :: rep1 13 [10] t) = (x :: (spl 10 (rep1 13 [10] t)).headD []) :: (spl 10 (rep1 13 [10] t)).tail := by rw [spl, if_neg h10]
          rw [e1, e2, ← ih]
          cases hs2 : spl 13 a with
          | nil => exact absurd hs2 (spl_ne 13 a)
          | cons b q => rfl
/-- the lines -/
def rdLs (t : List UInt8) : List (List UInt8) := splitL (rep1 13 [10] t) 10
theorem rdLs_two (t : List UInt8) : (splitL t 10).flatMap (fun a => splitL a 13) = rdLs t := by
  have e : (fun a => splitL a 13) = spl 13 := by funext a; exact splitL_eq a 13
  unfold rdLs
  rw [e, splitL_eq, splitL_eq, spl_two]
theorem rep1_one (c d : UInt8) : ∀ s : List UInt8, (rep1 c [d] s).length = s.length
  | [] => rfl
  | x :: t => by
    rw [rep1_cons, List.length_append, rep1_one c d t]
    split <;> simp only [List.length_cons, List.length_nil] <;> omega
theorem rdLs_len (t : List UInt8) : (rdLs t).length ≤ t.length + 1 := by
  have := splitL_le (rep1 13 [10] t) 10
  rw [rep1_one] at this
  exact this
/-- what is known when such lines are read -/
def rdF (L : List (List UInt8)) : RdS := L.foldl (fun x s => rdLine s x) rd0
theorem rdF_app (L M : List (List UInt8)) : rdF (L ++ M) = M.foldl (fun x s => rdLine s x) (rdF L) := List.foldl_append ..
theorem rdF_one (L : List (List UInt8)) (s : List UInt8) : rdF (L ++ [s]) = rdLine s (rdF L) := rdF_app L [s]
theorem rdFold_ok : ∀ (L : List (List UInt8)) (x : RdS) (n : Nat), RdOk x n → RdOk (L.foldl (fun x s => rdLine s x) x) (n + 2 * L.length)
  | [], _, _, h => h
  | s :: L, x, n, h => (rdFold_ok L (rdLine s x) (n + 2) (line_ok h)).up (by rw [List.length_cons]; omega)
theorem rdF_ok (L : List (List UInt8)) : RdOk (rdF L) (2 * L.length) := (rdFold_ok L rd0 0 rd0_ok).up (by omega)
/-- after so many pieces, and so many lines of the next -/
def rdAt (P : List (List UInt8)) (i : Nat) (Q : List (List UInt8)) (j : Nat) : RdS := rdF ((P.take i).flatMap (fun a => splitL a 13) ++ Q.take j)
theorem rdAt_succ {P Q : List (List UInt8)} {i j : Nat} (h : j < Q.length) : rdAt P i Q (j + 1) = rdLine (Q.getD j []) (rdAt P i Q j) := by
  unfold rdAt
  rw [takeG (d := []) h, ← List.append_assoc, rdF_one]
theorem rdAt_next {P : List (List UInt8)} {i : Nat} (h : i < P.length) : rdAt P i (splitL (P.getD i []) 13) (splitL (P.getD i []) 13).length = rdAt P (i + 1) [] 0 := by
  unfold rdAt
  rw [takeG (d := []) h, List.flatMap_append, List.take_length, List.take_nil, List.append_nil]
  simp
theorem rdAt_zero (P Q : List (List UInt8)) (i : Nat) : rdAt P i Q 0 = rdAt P i [] 0 := by
  unfold rdAt
  rw [List.take_zero, List.take_zero]
theorem rdAt_end {t : List UInt8} : rdAt (splitL t 10) (splitL t 10).length [] 0 = rdF (rdLs t) := by
  unfold rdAt
  rw [List.take_length, List.take_zero, List.append_nil, rdLs_two]
theorem rdAt_ok {t : List UInt8} {i j : Nat} (h : i < (splitL t 10).length) (ht : t.length ≤ 100000) : RdOk (rdAt (splitL t 10) i (splitL ((splitL t 10).getD i []) 13) j) 1000000 := by
  have h1 := rdLs_len t
  rw [← rdLs_two] at h1
  generalize splitL t 10 = P at h h1 ⊢
  unfold rdAt
  refine (rdF_ok _).up ?_
  have e : P = P.take i ++ P.getD i [] :: P.drop (i + 1) := by rw [← dropG h, List.take_append_drop]
  rw [e, List.flatMap_append, List.flatMap_cons, List.length_append, List.length_append] at h1
  rw [List.length_append, List.length_take]
  have e2 : (P.take i ++ P.getD i [] :: P.drop (i + 1)).getD i [] = P.getD i [] := by rw [← e]
  omega
def fullG (g : Grp) : Bool := decide (50 < g.ag.length ∨ 200 < g.ru.length)
/-- is there too much of something? -/
def fullR (G : List Grp) (M : List (List UInt8)) : Bool := decide (100 < G.length ∨ 100 < M.length) || G.any fullG
def robOf (x : RdS) : Rob × Int := if fullR (keepA goneG (rdG x)) x.ma = true then (noRob, 16) else (⟨keepA goneG (rdG x), x.ma⟩, 0)
def robRead (t : List UInt8) : Rob × Int := if 100000 < t.length then (noRob, 2) else robOf (rdF (rdLs t))
def ckRobRead : Ck
  | [.str t] => some (t.length ≤ 140737488355328, .tup [.agg [.sl (robRead t).1.gr.length (lsF cGrp (robRead t).1.gr), .sl (robRead t).1.ma.length (lsF cStr (robRead t).1.ma)], .int .i64 (robRead t).2])
  | _ => none

/- what is read is right (plain) -/
structure GrpC (g : Grp) : Prop where
  ag : ∀ a ∈ g.ag, agentL a = true
  ru : ∀ r ∈ g.ru, patOk r.pa = true
  d1 : -1 ≤ g.de
  d2 : g.de ≤ 99999
structure RdC (x : RdS) : Prop where
  cl : ∀ g ∈ x.cl, GrpC g
  op : GrpC ⟨x.ag, x.ru, x.de⟩
  ma : ∀ s ∈ x.ma, adrB s = true
theorem no_el {α : Type} {p : α → Prop} : ∀ x ∈ ([] : List α), p x := fun _ h => by cases h
theorem rd0_c : RdC rd0 := ⟨no_el, ⟨no_el, no_el, by decide, by decide⟩, no_el⟩
theorem rdG_c {x : RdS} (h : RdC x) : ∀ g ∈ rdG x, GrpC g := fun g hg => by
  unfold rdG at hg
  split at hg
  · rcases List.mem_append.1 hg with hg | hg
    · exact h.cl g hg
    · rw [List.mem_singleton.1 hg]; exact h.op
  · exact h.cl g hg
theorem open_c {x : RdS} (h : RdC x) : RdC (rdOpen x) := by
  unfold rdOpen
  split
  · exact h
  · exact ⟨rdG_c h, ⟨no_el, no_el, by show (-1 : Int) ≤ -1; decide, by show (-1 : Int) ≤ 99999; decide⟩, h.ma⟩
theorem line_c {s : List UInt8} {x : RdS} (h : RdC x) : RdC (rdLine s x) := by
  have ho := open_c h
  unfold rdLine
  split
  · exact h
  · split
    · unfold rdAgent
      split
      · rename_i ha
        refine ⟨ho.cl, ⟨fun a h1 => ?_, ho.op.ru, ho.op.d1, ho.op.d2⟩, ho.ma⟩
        rcases List.mem_append.1 h1 with h1 | h1
        · exact ho.op.ag a h1
        · rw [List.mem_singleton.1 h1]; exact ha
      · exact ho
    · split
      · unfold rdRule
        split
        · exact h
        · split
          · split
            · rename_i hd
              have h1 := natOf_lt (lnV s) hd.1.2
              have h2 : 10 ^ (lnV s).length ≤ 10 ^ 5 := Nat.pow_le_pow_right (by decide) hd.1.1.2
              exact ⟨h.cl, ⟨h.op.ag, h.op.ru, by show (-1 : Int) ≤ (natOf (lnV s) : Int); omega, by show (natOf (lnV s) : Int) ≤ 99999; omega⟩, h.ma⟩
            · exact ⟨h.cl, h.op, h.ma⟩
          · split
            · rename_i hp
              refine ⟨h.cl, ⟨h.op.ag, fun r h1 => ?_, h.op.d1, h.op.d2⟩, h.ma⟩
              rcases List.mem_append.1 h1 with h1 | h1
              · exact h.op.ru r h1
              · rw [List.mem_singleton.1 h1]; exact hp
            · exact ⟨h.cl, h.op, h.ma⟩
      · split
        · rename_i hs
          refine ⟨h.cl, h.op, fun m h1 => ?_⟩
          rcases List.mem_append.1 h1 with h1 | h1
          · exact h.ma m h1
          · rw [List.mem_singleton.1 h1]; exact decide_eq_true hs.2
        · exact h
theorem rdFold_c : ∀ (L : List (List UInt8)) (x : RdS), RdC x → RdC (L.foldl (fun x s => rdLine s x) x)
  | [], _, h => h
  | s :: L, x, h => rdFold_c L (rdLine s x) (line_c h)
theorem rdF_c (L : List (List UInt8)) : RdC (rdF L) := rdFold_c L rd0 rd0_c
theorem grpC_chk {g : Grp} (h : GrpC g) (h1 : ¬ g.ag.length = 0) (h2 : fullG g = false) : checkGrpL g = 0 := by
  have h3 : ¬ (50 < g.ag.length ∨ 200 < g.ru.length) := of_decide_eq_false h2
  unfold checkGrpL
  rw [if_neg h1, if_neg (by omega), if_neg (by rw [List.all_eq_true.2 h.ag]; simp), if_neg (by omega), if_neg (by rw [List.all_eq_true.2 h.ru]; simp), if_neg (by have := h.d1; have := h.d2; omega)]
theorem grpsE_zero : ∀ {G : List Grp}, (∀ g ∈ G, checkGrpL g = 0) → grpsE G = 0
  | [], _ => rfl
  | g :: G, h => by
    rw [grpsE, if_pos (h g List.mem_cons_self)]
    exact grpsE_zero fun x hx => h x (List.mem_cons_of_mem _ hx)
theorem adrRd_len {s : List UInt8} (h : adrB s = true) : s.length ≤ 2000 := by
  have h : (readA s).2.2 = 0 := of_decide_eq_true h
  unfold readA at h
  by_cases h1 : 2000 < s.length
  · rw [if_pos h1] at h; cases h
  · omega
theorem agRd_len {s : List UInt8} (h : agentL s = true) : s.length ≤ 40 := by
  unfold agentL at h
  simp only [Bool.or_eq_true, beq_iff_eq, Bool.and_eq_true, decide_eq_true_eq] at h
  rcases h with rfl | h
  · decide
  · exact h.1.2
/-- what is right is not too long -/
theorem chkRd_b {r : Rob} (h : checkRobL r = 0) : r.gr.length ≤ 100 ∧ r.ma.length ≤ 100 ∧ (∀ g ∈ r.gr, checkGrpL g = 0) ∧ ∀ s ∈ r.ma, adrB s = true := by
  unfold checkRobL at h
  split at h
  · cases h
  · split at h
    · rename_i h2
      split at h
      · cases h
      · split at h
        · rename_i h4
          have key : ∀ {G : List Grp}, grpsE G = 0 → ∀ g ∈ G, checkGrpL g = 0 := by
            intro G
            induction G with
            | nil => intro _ g hg; cases hg
            | cons a G ih =>
              intro h g hg
              rw [grpsE] at h
              split at h
              · rename_i ha
                rcases List.mem_cons.1 hg with rfl | hg
                · exact ha
                · exact ih h g hg
              · rename_i ha; exact absurd h ha
          exact ⟨by omega, by omega, key h2, List.all_eq_true.1 h4⟩
        · cases h
    · rename_i h2; exact absurd h h2
theorem chkRd_grp {g : Grp} (h : checkGrpL g = 0) : 1 ≤ g.ag.length ∧ g.ag.length ≤ 50 ∧ (∀ a ∈ g.ag, agentL a = true) ∧ g.ru.length ≤ 200 ∧ (∀ r ∈ g.ru, patOk r.pa = true) ∧ -1 ≤ g.de ∧ g.de ≤ 99999 := by
  unfold checkGrpL at h
  by_cases h1 : g.ag.length = 0
  · rw [if_pos h1] at h; cases h
  rw [if_neg h1] at h
  by_cases h2 : 50 < g.ag.length
  · rw [if_pos h2] at h; cases h
  rw [if_neg h2] at h
  by_cases h3 : g.ag.all agentL = false
  · rw [if_pos h3] at h; cases h
  rw [if_neg h3] at h
  by_cases h4 : 200 < g.ru.length
  · rw [if_pos h4] at h; cases h
  rw [if_neg h4] at h
  by_cases h5 : (g.ru.all fun r => patOk r.pa) = false
  · rw [if_pos h5] at h; cases h
  rw [if_neg h5] at h
  by_cases h6 : g.de < -1 ∨ 99999 < g.de
  · rw [if_pos h6] at h; cases h
  exact ⟨by omega, by omega, List.all_eq_true.1 (by simpa using h3), by omega, List.all_eq_true.1 (by simpa using h5), by omega, by omega⟩
theorem chkRd_ok {r : Rob} (h : checkRobL r = 0) : robOk r := by
  obtain ⟨h1, h2, h3, h4⟩ := chkRd_b h
  refine ⟨by omega, fun g hg => ?_, by omega, fun s hs => by have := adrRd_len (h4 s hs); omega⟩
  obtain ⟨a1, a2, a3, a4, a5, a6, a7⟩ := chkRd_grp (h3 g hg)
  exact ⟨by omega, fun a ha => by have := agRd_len (a3 a ha); omega, by omega, fun r hr => by have := ((patOk_iff r.pa).1 (a5 r hr)).2.1; unfold rulOk; omega, by omega, by omega⟩
theorem noRob_chk : checkRobL noRob = 0 := by decide
/-- what is read is right -/
theorem read_chk (t : List UInt8) : checkRobL (robRead t).1 = 0 := by
  unfold robRead
  split
  · exact noRob_chk
  unfold robOf
  split
  · exact noRob_chk
  rename_i hf
  have hc := rdF_c (rdLs t)
  have hf : fullR (keepA goneG (rdG (rdF (rdLs t)))) (rdF (rdLs t)).ma = false := by simpa using hf
  have hg := rdG_c hc
  have hm := hc.ma
  generalize (rdF (rdLs t)).ma = M at *
  generalize rdG (rdF (rdLs t)) = K at *
  unfold fullR at hf
  rw [Bool.or_eq_false_iff] at hf
  have h1 : ¬ (100 < (keepA goneG K).length ∨ 100 < M.length) := of_decide_eq_false hf.1
  have h2 := List.any_eq_false.1 hf.2
  have h3 : grpsE (keepA goneG K) = 0 := grpsE_zero fun g hgK => by
    have h4 := List.mem_filter.1 hgK
    have h5 : ¬ g.ag.length = 0 := by
      have := h4.2
      unfold goneG at this
      simpa using this
    exact grpC_chk (hg g h4.1) h5 (by simpa using h2 g hgK)
  show checkRobL ⟨keepA goneG K, M⟩ = 0
  unfold checkRobL
  rw [if_neg (by show ¬ 100 < (keepA goneG K).length; omega)]
  show (if grpsE (keepA goneG K) = 0 then _ else _) = _
  rw [if_pos h3]
  rw [if_neg (by show ¬ 100 < M.length; omega)]
  rw [if_pos (by show M.all adrB = true; exact List.all_eq_true.2 hm)]

end Go.Abs
