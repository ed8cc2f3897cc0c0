/- what functions of this program compute: contracts, each a function's own -/
import Derived.Test.YtggipkjoemdbkaaGreatDoorAbsK2
import Derived.Test.YtggipkjoemdbkaaGreatDoorAbsFacts
import Derived.Test.YtggipkjoemdbkaaGreatDoorAbsF2
import Derived.Test.YtggipkjoemdbkaaGreatDoorAbsShelf
import Derived.Lib.SplitLaws
import Derived.Lib.SlTrimSet
import Derived.Lib.Atoi
import Derived.Lib.Itoa
import Derived.Lib.ItoaNum
import Derived.Lib.AtoiErrMem
import Derived.Lib.Join
import Derived.Lib.Repeat
import Derived.Lib.Walk
namespace Go.Abs
open Go Go.Proofs
set_option maxHeartbeats 4000000
set_option maxRecDepth 100000
set_option linter.unusedVariables false
set_option linter.unusedSimpArgs false
/- paths without dots -/
def joinSl (L : List (List UInt8)) : List UInt8 := L.flatMap fun x => 47 :: x
def dotGo : List (List UInt8) → List (List UInt8) → List (List UInt8)
  | [], o => o
  | p :: t, o => if p = [46, 46] then dotGo t (if t = [] then o.dropLast ++ [[]] else o.dropLast) else if p = [46] then dotGo t (if t = [] then o ++ [[]] else o) else dotGo t (o ++ [p])
def undotL (s : List UInt8) : List UInt8 := if s = [] then [] else joinSl (dotGo (splitL (s.drop 1) 47) [])
theorem joinSl_app (a b : List (List UInt8)) : joinSl (a ++ b) = joinSl a ++ joinSl b := by simp [joinSl]
theorem joinSl_one (x : List UInt8) : joinSl [x] = 47 :: x := by simp [joinSl]
theorem joinSl_spl : ∀ t : List UInt8, joinSl (spl 47 t) = 47 :: t
  | [] => rfl
  | x :: t => by
    have ih := joinSl_spl t
    have hne := spl_ne 47 t
    rw [spl]
    cases hs : spl 47 t with
    | nil => exact absurd hs hne
    | cons a r =>
      rw [hs] at ih
      have ih : 47 :: (a ++ joinSl r) = 47 :: t := by simpa [joinSl] using ih
      have ih := (List.cons.inj ih).2
      split
      · rename_i h; subst h
        show 47 :: ([] ++ joinSl (a :: r)) = _
        rw [show joinSl (a :: r) = 47 :: (a ++ joinSl r) by simp [joinSl], ih]; rfl
      · show 47 :: ((x :: a) ++ joinSl r) = _
        rw [List.cons_append, ih]
/- rows, byte by byte -/
def hex2 : List UInt8 → Bool
  | a :: b :: _ => isHex (a.toNat : Int) && isHex (b.toNat : Int)
  | _ => false
def rowR : List UInt8 → Bool
  | [] => true
  | c :: t => rowB c && (decide (c.toNat ≠ 37) || hex2 t) && rowR t
def rowQ (s : List UInt8) : Bool := (List.range s.length).all (cell0 s)
theorem hex2_pct (c : UInt8) (t : List UInt8) : hex2 t = pctB (c :: t) 0 := by
  unfold pctB
  match t with
  | [] => rfl
  | [a] => simp [hex2]
  | a :: b :: r => simp [hex2]
theorem cell0_succ (c : UInt8) (t : List UInt8) (j : Nat) : cell0 (c :: t) (j + 1) = cell0 t j := by
  have e : decide (j + 1 + 2 < (c :: t).length) = decide (j + 2 < t.length) := decide_eq_decide.2 (by simp only [List.length_cons]; omega)
  unfold cell0 pctB
  rw [e]
  rw [List.getD_cons_succ, show j + 1 + 1 = (j + 1) + 1 from rfl, List.getD_cons_succ, show j + 1 + 2 = (j + 2) + 1 from rfl, List.getD_cons_succ]
theorem rowQ_rowR : ∀ s, rowQ s = rowR s
  | [] => rfl
  | c :: t => by
    rw [rowR, ← rowQ_rowR t]
    unfold rowQ
    rw [List.length_cons, List.range_succ_eq_map, List.all_cons, List.all_map]
    congr 1
    · unfold cell0; rw [List.getD_cons_zero, hex2_pct c t]
    · congr 1
      funext j
      exact cell0_succ c t j
theorem rowP_rowR (s : List UInt8) : rowP s = (rowR s && s.all fun c => decide (c.toNat ≠ 63)) := by
  rw [← rowQ_rowR, Bool.eq_iff_iff, Bool.and_eq_true]
  unfold rowP rowQ
  rw [List.all_eq_true, List.all_eq_true, List.all_eq_true]
  constructor
  · intro h
    refine ⟨fun j hj => ?_, fun c hc => ?_⟩
    · have := h j hj
      simp only [cellP, Bool.and_eq_true] at this
      unfold cell0; rw [this.1.1, this.2]; rfl
    · obtain ⟨j, hj, rfl⟩ := List.getElem_of_mem hc
      have := h j (List.mem_range.2 hj)
      simp only [cellP, Bool.and_eq_true] at this
      have h2 := this.1.2
      rwa [List.getD_eq_getElem?_getD, List.getElem?_eq_getElem hj] at h2
  · rintro ⟨h1, h2⟩ j hj
    have := h1 j hj
    have hj' := List.mem_range.1 hj
    have h3 := h2 (s.getD j 0) (by rw [List.getD_eq_getElem?_getD, List.getElem?_eq_getElem hj']; exact List.getElem_mem hj')
    simp only [cell0, Bool.and_eq_true] at this
    unfold cellP; rw [this.1, this.2, h3]; rfl
theorem hex2_app {a : List UInt8} (b : List UInt8) (h : hex2 a = true) : hex2 (a ++ b) = true := by
  match a, h with
  | x :: y :: r, h => exact h
theorem rowR_app : ∀ {a b : List UInt8}, rowR a = true → rowR b = true → rowR (a ++ b) = true
  | [], b, _, h => h
  | c :: t, b, h1, h2 => by
    rw [List.cons_append, rowR]
    rw [rowR] at h1
    simp only [Bool.and_eq_true, Bool.or_eq_true] at h1 ⊢
    exact ⟨⟨h1.1.1, h1.1.2.imp id (hex2_app b)⟩, rowR_app h1.2 h2⟩
theorem rowR_tail : ∀ (a : List UInt8) {b : List UInt8}, rowR (a ++ b) = true → rowR b = true
  | [], _, h => h
  | c :: t, b, h => by
    rw [List.cons_append, rowR] at h
    simp only [Bool.and_eq_true] at h
    exact rowR_tail t h.2
theorem rowR_left : ∀ {a b : List UInt8}, rowR (a ++ 47 :: b) = true → rowR a = true
  | [], b, _ => rfl
  | c :: t, b, h => by
    rw [List.cons_append, rowR] at h
    rw [rowR]
    simp only [Bool.and_eq_true, Bool.or_eq_true] at h ⊢
    refine ⟨⟨h.1.1, h.1.2.imp id fun x => ?_⟩, rowR_left h.2⟩
    have n47 : isHex ((47 : UInt8).toNat : Int) = false := by decide
    match t, x with
    | [], x =>
      cases b with
      | nil => simp [hex2] at x
      | cons y r => simp only [List.nil_append, hex2, n47] at x; cases x
    | [y], x => simp only [List.cons_append, List.nil_append, hex2, n47] at x; simp at x
    | y :: z :: r, x => exact x
theorem rowR_join {L : List (List UInt8)} (h : rowR (joinSl L) = true) : ∀ x ∈ L, rowR x = true := by
  induction L with
  | nil => intro x hx; cases hx
  | cons a t ih =>
    have e : joinSl (a :: t) = 47 :: (a ++ joinSl t) := by simp [joinSl]
    rw [e, rowR] at h
    simp only [Bool.and_eq_true] at h
    intro x hx
    rcases List.mem_cons.1 hx with rfl | hx
    · cases t with
      | nil => simpa [joinSl] using h.2
      | cons b r =>
        rw [show joinSl (b :: r) = 47 :: (b ++ joinSl r) by simp [joinSl]] at h
        exact rowR_left h.2
    · exact ih (rowR_tail a h.2) x hx
theorem rowR_47 {s : List UInt8} (h : rowR s = true) : rowR (47 :: s) = true := by
  rw [rowR, h]
  have e1 : rowB 47 = true := by decide
  have e2 : decide ((47 : UInt8).toNat ≠ 37) = true := by decide
  rw [e1, e2]; rfl
theorem join_rowR {L : List (List UInt8)} (h : ∀ x ∈ L, rowR x = true) : rowR (joinSl L) = true := by
  induction L with
  | nil => rfl
  | cons a t ih =>
    rw [show joinSl (a :: t) = 47 :: (a ++ joinSl t) by simp [joinSl]]
    exact rowR_47 (rowR_app (h a (by simp)) (ih fun x hx => h x (List.mem_cons_of_mem _ hx)))
theorem dotGo_sub : ∀ (t o : List (List UInt8)) (x : List UInt8), x ∈ dotGo t o → x ∈ o ∨ x ∈ t ∨ x = []
  | [], o, x, h => .inl h
  | p :: t, o, x, h => by
    have dl : ∀ y, y ∈ o.dropLast → y ∈ o := fun y hy => List.dropLast_subset _ hy
    rw [dotGo] at h
    split at h
    · rcases dotGo_sub t _ x h with h | h | h
      · split at h
        · rcases List.mem_append.1 h with h | h
          · exact .inl (dl x h)
          · exact .inr (.inr (List.mem_singleton.1 h))
        · exact .inl (dl x h)
      · exact .inr (.inl (List.mem_cons_of_mem _ h))
      · exact .inr (.inr h)
    · split at h
      · rcases dotGo_sub t _ x h with h | h | h
        · split at h
          · rcases List.mem_append.1 h with h | h
            · exact .inl h
            · exact .inr (.inr (List.mem_singleton.1 h))
          · exact .inl h
        · exact .inr (.inl (List.mem_cons_of_mem _ h))
        · exact .inr (.inr h)
      · rcases dotGo_sub t _ x h with h | h | h
        · rcases List.mem_append.1 h with h | h
          · exact .inl h
          · exact .inr (.inl (by rw [List.mem_singleton.1 h]; simp))
        · exact .inr (.inl (List.mem_cons_of_mem _ h))
        · exact .inr (.inr h)
theorem joinSl_len_drop (o : List (List UInt8)) : (joinSl o.dropLast).length ≤ (joinSl o).length := by
  cases o with
  | nil => simp
  | cons a t =>
    have := List.dropLast_concat_getLast (l := a :: t) (by simp)
    conv => rhs; rw [← this, joinSl_app]
    rw [List.length_append]; omega
theorem dotGo_len : ∀ (t o : List (List UInt8)), (joinSl (dotGo t o)).length ≤ (joinSl o).length + (joinSl t).length
  | [], o => by simp [dotGo]
  | p :: t, o => by
    have e : (joinSl (p :: t)).length = p.length + 1 + (joinSl t).length := by simp [joinSl]; omega
    have hd := joinSl_len_drop o
    have h1 : ∀ q : List (List UInt8), (joinSl (q ++ [[]])).length = (joinSl q).length + 1 := fun q => by rw [joinSl_app, List.length_append, joinSl_one]; rfl
    rw [dotGo]
    split
    · rename_i hp
      split
      · have := dotGo_len t (o.dropLast ++ [[]]); rw [h1] at this; omega
      · have := dotGo_len t o.dropLast; omega
    · split
      · split
        · have := dotGo_len t (o ++ [[]]); rw [h1] at this; omega
        · have := dotGo_len t o; omega
      · have := dotGo_len t (o ++ [p])
        rw [joinSl_app, List.length_append, joinSl_one, List.length_cons] at this
        omega
theorem dotGo_ne : ∀ (t o : List (List UInt8)), t ≠ [] → dotGo t o ≠ []
  | [p], o, _ => by
    rw [dotGo]
    split
    · simp [dotGo]
    · split <;> simp [dotGo]
  | p :: q :: t, o, _ => by
    rw [dotGo]
    split
    · exact dotGo_ne (q :: t) _ (by simp)
    · split <;> exact dotGo_ne (q :: t) _ (by simp)
/-- a path without dots is a path, and none too long -/
theorem undot_ok {s : List UInt8} (h : rowP s = true) (h0 : s = [] ∨ s.getD 0 0 = 47) : rowP (undotL s) = true ∧ (undotL s).length ≤ s.length ∧ (s ≠ [] → (undotL s).getD 0 0 = 47 ∧ undotL s ≠ []) ∧ (s = [] → undotL s = []) := by
  cases s with
  | nil => exact ⟨rfl, Nat.le_refl _, fun h => absurd rfl h, fun _ => rfl⟩
  | cons c t =>
    obtain rfl : c = 47 := by simpa using h0
    have eu : undotL (47 :: t) = joinSl (dotGo (spl 47 t) []) := by
      unfold undotL
      rw [if_neg (by simp), List.drop_one, List.tail_cons, splitL_eq]
    rw [eu]
    rw [rowP_rowR, Bool.and_eq_true] at h
    have hj := joinSl_spl t
    have hp := rowR_join (L := spl 47 t) (by rw [hj]; exact h.1)
    have hs := dotGo_sub (spl 47 t) []
    have hl := dotGo_len (spl 47 t) []
    have hn := dotGo_ne (spl 47 t) [] (spl_ne 47 t)
    have hall : ∀ x ∈ spl 47 t, ∀ c ∈ x, c.toNat ≠ 63 := fun x hx c hc => by
      have h2 := List.all_eq_true.1 h.2 c (by rw [← hj]; exact List.mem_flatMap.2 ⟨x, hx, List.mem_cons_of_mem _ hc⟩)
      simpa using h2
    generalize dotGo (spl 47 t) [] = Q at hs hl hn ⊢
    refine ⟨?_, by rw [hj] at hl; simpa [joinSl] using hl, fun _ => ?_, fun x => by cases x⟩
    · rw [rowP_rowR, Bool.and_eq_true]
      refine ⟨join_rowR fun x hx => ?_, ?_⟩
      · rcases hs x hx with h | h | h
        · cases h
        · exact hp x h
        · rw [h]; rfl
      · rw [List.all_eq_true]
        intro c hc
        obtain ⟨x, hx, hc⟩ := List.mem_flatMap.1 hc
        rcases List.mem_cons.1 hc with rfl | hc
        · decide
        · rcases hs x hx with h | h | h
          · cases h
          · exact decide_eq_true (hall x h c hc)
          · rw [h] at hc; cases hc
    · cases Q with
      | nil => exact absurd rfl hn
      | cons a r => rw [show joinSl (a :: r) = 47 :: (a ++ joinSl r) by simp [joinSl]]; exact ⟨rfl, by simp⟩
/- the normal form of a row is a row -/
theorem enc_row (v : Nat) (h : v < 256) : rowR (encB v) = true ∧ (encB v).all (fun c => decide (c.toNat ≠ 63)) = true := by
  revert v
  decide +kernel
theorem norm_rowR (s : List UInt8) (h : rowR s = true) : rowR (normL s) = true := by
  refine normL.induct (motive := fun s => rowR s = true → rowR (normL s) = true) ?_ ?_ ?_ s h
  · intro c a b r hc ih hr
    rw [normL, if_pos hc]
    have hb : 16 * hexN a + hexN b < 256 := by have := hexN_lt hc.2.1; have := hexN_lt hc.2.2; omega
    refine rowR_app (enc_row _ hb).1 (ih ?_)
    exact rowR_tail [c, a, b] hr
  · intro c a b r hc ih hr
    rw [normL, if_neg hc]
    have hr' := rowR_tail [c] hr
    rw [rowR, ih hr']
    rw [rowR] at hr
    simp only [Bool.and_eq_true, Bool.or_eq_true, decide_eq_true_eq] at hr ⊢
    refine ⟨⟨hr.1.1, .inl fun e => ?_⟩, trivial⟩
    rcases hr.1.2 with h | h
    · exact h e
    · simp only [hex2, Bool.and_eq_true] at h
      exact hc ⟨UInt8.toNat_inj.1 e, h.1, h.2⟩
  · intro l hn hr
    match l with
    | [] => rfl
    | [a] => simpa [normL] using hr
    | [a, b] => simpa [normL] using hr
    | c :: a :: b :: r => exact (hn c a b r rfl).elim
theorem norm_63 (s : List UInt8) (h : s.all (fun c => decide (c.toNat ≠ 63)) = true) : (normL s).all (fun c => decide (c.toNat ≠ 63)) = true := by
  refine normL.induct (motive := fun s => s.all (fun c => decide (c.toNat ≠ 63)) = true → (normL s).all (fun c => decide (c.toNat ≠ 63)) = true) ?_ ?_ ?_ s h
  · intro c a b r hc ih hr
    rw [normL, if_pos hc, List.all_append]
    have hb : 16 * hexN a + hexN b < 256 := by have := hexN_lt hc.2.1; have := hexN_lt hc.2.2; omega
    rw [(enc_row _ hb).2, Bool.true_and]
    simp only [List.all_cons, Bool.and_eq_true] at hr
    exact ih hr.2.2.2
  · intro c a b r hc ih hr
    rw [normL, if_neg hc]
    rw [List.all_cons, Bool.and_eq_true] at hr
    rw [List.all_cons, hr.1, Bool.true_and]
    exact ih hr.2
  · intro l hn hr
    match l with
    | [] => rfl
    | [a] => simpa [normL] using hr
    | [a, b] => simpa [normL] using hr
    | c :: a :: b :: r => exact (hn c a b r rfl).elim
theorem norm_rowP {s : List UInt8} (h : rowP s = true) : rowP (normL s) = true := by
  rw [rowP_rowR, Bool.and_eq_true] at h ⊢
  exact ⟨norm_rowR s h.1, norm_63 s h.2⟩
theorem norm_head {s : List UInt8} (h : s = [] ∨ s.getD 0 0 = 47) : (s = [] ∧ normL s = []) ∨ (s ≠ [] ∧ normL s ≠ [] ∧ (normL s).getD 0 0 = 47) := by
  match s, h with
  | [], _ => exact .inl ⟨rfl, rfl⟩
  | [a], h => exact .inr ⟨by simp, by simp [normL], by simpa [normL] using h⟩
  | [a, b], h => exact .inr ⟨by simp, by simp [normL], by simpa [normL] using h⟩
  | c :: a :: b :: r, h =>
    have hc : c = 47 := by simpa using h
    subst hc
    rw [normL, if_neg (fun x => by have := x.1; revert this; decide)]
    exact .inr ⟨by simp, by simp, rfl⟩
theorem rb0_iff (s : List UInt8) : decide (rb0 s < 0) = rowR s := by
  rw [← rowQ_rowR, Bool.eq_iff_iff, decide_eq_true_eq]
  unfold rowQ
  rw [List.all_eq_true]
  constructor
  · intro h j hj
    refine Classical.byContradiction fun hc => ?_
    have hc : cell0 s j = false := by simpa using hc
    have := List.mem_range.1 hj
    obtain ⟨k, hk, h1, h2⟩ : ∃ k, k < s.length ∧ (∀ j, j < k → cell0 s j = true) ∧ cell0 s k = false := by
      have : ∀ n, n < s.length → cell0 s n = false → ∃ k, k < s.length ∧ (∀ j, j < k → cell0 s j = true) ∧ cell0 s k = false := by
        intro n
        induction n using Nat.strongRecOn with
        | _ n ih =>
          intro hn hf
          by_cases ha : ∀ j, j < n → cell0 s j = true
          · exact ⟨n, hn, ha, hf⟩
          · obtain ⟨j, hj⟩ := Classical.not_forall.1 ha
            obtain ⟨hj1, hj2⟩ := Classical.not_imp.1 hj
            exact ih j hj1 (by omega) (by simpa using hj2)
      exact this j (by omega) hc
    rw [rb0_at hk h1 h2] at h
    omega
  · intro h
    rw [rb0_no fun j hj => h j (List.mem_range.2 hj)]
    omega
/- addresses -/
def schOk (s : List UInt8) : Bool := lowL s == wHttp || lowL s == wHttps
def behL (a : Adr) : List UInt8 := a.pa ++ (if a.hq = true then 63 :: a.qu else []) ++ (if a.hf = true then 35 :: a.fr else [])
def wrL (a : Adr) : List UInt8 := a.sc ++ wSep ++ a.ho ++ (if a.po = [] then [] else 58 :: a.po) ++ behL a
def synA (a : Adr) : Bool := schOk a.sc && hostL a.ho && (a.po == [] || decide (portN a.po ≠ 0)) && (a.pa == [] || decide ((a.pa.getD 0 0).toNat = 47)) && rowP a.pa && rowR a.qu && rowR a.fr
def checkAdrL (a : Adr) : Int := if synA a = false then 10 else if (a.qu ≠ [] ∧ a.hq = false) ∨ (a.fr ≠ [] ∧ a.hf = false) then 3 else if 2000 < (wrL a).length then 2 else 0
def trimZ (s : List UInt8) : List UInt8 := s.dropWhile fun c => c == 48
def portA (a : Adr) : List UInt8 := if (lowL a.sc = wHttp ∧ trimZ a.po = [56, 48]) ∨ (lowL a.sc = wHttps ∧ trimZ a.po = [52, 52, 51]) then [] else trimZ a.po
def npL (a : Adr) : List UInt8 := if undotL (normL a.pa) = [] then [47] else undotL (normL a.pa)
def normA (a : Adr) : Adr := ⟨lowL a.sc, lowL a.ho, portA a, npL a, normL a.qu, a.hq, [], false⟩
/-- the path of an address -/
def pathL (a : Adr) : List UInt8 := npL a ++ (if a.hq = true then 63 :: normL a.qu else [])
theorem lowB_idem (c : UInt8) : lowB (lowB c) = lowB c := by
  have key : ∀ n, n < 256 → lowB (lowB (UInt8.ofNat n)) = lowB (UInt8.ofNat n) := by decide +kernel
  have := key c.toNat (UInt8.toNat_lt c)
  simpa using this
theorem lowL_len (s : List UInt8) : (lowL s).length = s.length := by simp [lowL]
theorem lowL_idem (s : List UInt8) : lowL (lowL s) = lowL s := by
  unfold lowL
  rw [List.map_map]
  congr 1
  funext c
  exact lowB_idem c
theorem low_lab (c : UInt8) : labB (lowB c) = labB c ∧ ((lowB c).toNat = 45 ↔ c.toNat = 45) ∧ (lowB c = 46 ↔ c = 46) := by
  have key : ∀ n, n < 256 → labB (lowB (UInt8.ofNat n)) = labB (UInt8.ofNat n) ∧ ((lowB (UInt8.ofNat n)).toNat = 45 ↔ (UInt8.ofNat n).toNat = 45) ∧ (lowB (UInt8.ofNat n) = 46 ↔ UInt8.ofNat n = 46) := by decide +kernel
  have := key c.toNat (UInt8.toNat_lt c)
  simpa using this
theorem spl_low : ∀ s : List UInt8, spl 46 (lowL s) = (spl 46 s).map lowL
  | [] => rfl
  | x :: t => by
    show spl 46 (lowB x :: lowL t) = _
    rw [spl, spl, spl_low t]
    by_cases h : x = 46
    · rw [if_pos ((low_lab x).2.2.2 h), if_pos h]; rfl
    · rw [if_neg (fun e => h ((low_lab x).2.2.1 e)), if_neg h, List.map_cons, List.map_tail]
      cases spl 46 t <;> rfl
theorem getD_low (s : List UInt8) (i : Nat) (h : i < s.length) : (lowL s).getD i 0 = lowB (s.getD i 0) := by
  unfold lowL
  rw [List.getD_eq_getElem?_getD, List.getElem?_map, List.getD_eq_getElem?_getD, List.getElem?_eq_getElem h]; rfl
theorem label_low (s : List UInt8) : labelL (lowL s) = labelL s := by
  unfold labelL
  rw [lowL_len]
  by_cases h : 1 ≤ s.length
  · rw [getD_low s 0 (by omega), getD_low s (s.length - 1) (by omega)]
    have e1 : decide ((lowB (s.getD 0 0)).toNat ≠ 45) = decide ((s.getD 0 0).toNat ≠ 45) := decide_eq_decide.2 (not_congr (low_lab _).2.1)
    have e2 : decide ((lowB (s.getD (s.length - 1) 0)).toNat ≠ 45) = decide ((s.getD (s.length - 1) 0).toNat ≠ 45) := decide_eq_decide.2 (not_congr (low_lab _).2.1)
    have e3 : (lowL s).all labB = s.all labB := by
      unfold lowL
      rw [List.all_map]
      congr 1
      funext c
      exact (low_lab c).1
    rw [e1, e2, e3]
  · rw [decide_eq_false h]; rfl
theorem host_low (s : List UInt8) : hostL (lowL s) = hostL s := by
  unfold hostL
  rw [lowL_len, splitL_eq, splitL_eq, spl_low, List.all_map]
  congr 2
  funext x
  exact label_low x
theorem portV_z (t : List UInt8) : portV (48 :: t) = portV t := rfl
theorem trimZ_len (s : List UInt8) : (trimZ s).length ≤ s.length := by
  induction s with
  | nil => simp [trimZ]
  | cons c t ih =>
    unfold trimZ at *
    rw [List.dropWhile_cons]
    split
    · simp only [List.length_cons]; omega
    · exact Nat.le_refl _
theorem trimZ_port {s : List UInt8} (h : portN s ≠ 0) : portN (trimZ s) ≠ 0 := by
  induction s with
  | nil => exact h
  | cons c t ih =>
    by_cases hc : c = 48
    · subst hc
      have e : trimZ (48 :: t) = trimZ t := by unfold trimZ; rw [List.dropWhile_cons, if_pos (by decide)]
      rw [e]
      refine ih ?_
      unfold portN at h ⊢
      rw [portV_z] at h
      split at h
      · rename_i hx
        have ht : t ≠ [] := fun e => by subst e; exact h rfl
        have := List.length_pos_iff.2 ht
        simp only [List.length_cons, List.all_cons, Bool.and_eq_true] at hx
        rw [if_pos ⟨by omega, by omega, hx.2.2.1.2, hx.2.2.2⟩]; exact h
      · exact absurd rfl h
    · have e : trimZ (c :: t) = c :: t := by unfold trimZ; rw [List.dropWhile_cons, if_neg (by simpa using hc)]
      rw [e]; exact h
/-- the normal form of a right address is right, or too long by the / of its empty path -/
theorem norm_right {a : Adr} (h : checkAdrL a = 0) : checkAdrL (normA a) = 0 ∨ (a.pa = [] ∧ checkAdrL (normA a) ≠ 0) := by
  by_cases hp : a.pa = []
  · by_cases h0 : checkAdrL (normA a) = 0
    · exact .inl h0
    · exact .inr ⟨hp, h0⟩
  left
  unfold checkAdrL at h
  split at h
  · cases h
  rename_i h1
  split at h
  · cases h
  rename_i h2
  split at h
  · cases h
  rename_i h3
  have h1 : synA a = true := by simpa using h1
  unfold synA at h1
  simp only [Bool.and_eq_true, Bool.or_eq_true, beq_iff_eq, decide_eq_true_eq] at h1
  obtain ⟨⟨⟨⟨⟨⟨s1, s2⟩, s3⟩, s4⟩, s5⟩, s6⟩, s7⟩ := h1
  have p47 : a.pa = [] ∨ a.pa.getD 0 0 = 47 := s4.imp id fun e => UInt8.toNat_inj.1 e
  obtain ⟨e, _⟩ | ⟨n1, n2, n3⟩ := norm_head p47
  · exact absurd e hp
  obtain ⟨u1, u2, u3, u4⟩ := undot_ok (norm_rowP s5) (.inr n3)
  obtain ⟨u5, u6⟩ := u3 n2
  have eN : npL a = undotL (normL a.pa) := by unfold npL; rw [if_neg u6]
  have lq := normL_len a.qu
  have lp := normL_len a.pa
  have lz := trimZ_len a.po
  have zz : (portA a).length ≤ (trimZ a.po).length := by unfold portA; split <;> simp
  have syn : synA (normA a) = true := by
    unfold synA normA
    simp only [Bool.and_eq_true, Bool.or_eq_true, beq_iff_eq, decide_eq_true_eq]
    refine ⟨⟨⟨⟨⟨⟨?_, by rw [host_low]; exact s2⟩, ?_⟩, .inr (by rw [eN, u5]; rfl)⟩, by rw [eN]; exact u1⟩, norm_rowR _ s6⟩, rfl⟩
    · unfold schOk at s1 ⊢
      rw [lowL_idem]; exact s1
    · unfold portA
      split
      · exact .inl rfl
      · rcases s3 with s3 | s3
        · left; rw [s3]; rfl
        · exact .inr (trimZ_port s3)
  have hq : ¬ ((normA a).qu ≠ [] ∧ (normA a).hq = false ∨ (normA a).fr ≠ [] ∧ (normA a).hf = false) := by
    rintro (x | x)
    · refine h2 (.inl ⟨fun e => x.1 ?_, x.2⟩)
      show normL a.qu = []
      rw [e]; rfl
    · exact x.1 rfl
  unfold checkAdrL
  rw [if_neg (by rw [syn]; simp), if_neg hq, if_neg]
  have w1 : (wrL (normA a)).length ≤ (wrL a).length := by
    unfold wrL behL normA
    simp only [List.length_append, lowL_len, eN]
    have q : (if a.hq = true then 63 :: normL a.qu else []).length ≤ (if a.hq = true then 63 :: a.qu else []).length := by split <;> simp <;> omega
    have p : (if portA a = [] then [] else 58 :: portA a).length ≤ (if a.po = [] then [] else 58 :: a.po).length := by
      by_cases e : a.po = []
      · have : portA a = [] := List.length_eq_zero_iff.1 (by have h0 : (trimZ a.po).length = 0 := (by rw [e]; rfl); omega)
        rw [if_pos this]; simp
      · rw [if_neg e]
        split
        · simp
        · simp only [List.length_cons] at zz lz ⊢; omega
    simp only [Bool.false_eq_true, if_false, List.length_nil]
    omega
  omega
/-- what the program makes of it -/
theorem path_same {a : Adr} (h : checkAdrL a = 0) (n : Adr) (hn : n = if checkAdrL (normA a) = 0 then normA a else ⟨[], [], [], [47], normL a.qu, a.hq, [], false⟩) : n.pa ++ (if n.hq = true then 63 :: n.qu else []) = pathL a := by
  rcases norm_right h with e | ⟨e1, e2⟩
  · rw [hn, if_pos e]; rfl
  · rw [hn, if_neg e2]
    show [47] ++ _ = npL a ++ _
    have : npL a = [47] := by unfold npL; rw [e1]; rfl
    rw [this]

/- the rules for an agent -/
def agE (r : Rob) (a : List UInt8) : Int := if checkRobL r = 0 then (if agentL a = true ∧ a ≠ [42] then 0 else 5) else checkRobL r
def rulG (G : List Grp) (a : List UInt8) : List Rul := (G.filter fun g => g.ag.contains a).flatMap fun g => g.ru
def delG (G : List Grp) (a : List UInt8) : Int := (G.filter fun g => g.ag.contains a).foldl (fun d g => max d g.de) (-1)
def namG (G : List Grp) (a : List UInt8) : Bool := G.any fun g => g.ag.contains a
def rulesL (r : Rob) (a : List UInt8) : List Rul × Int := if namG r.gr a = true then (rulG r.gr a, delG r.gr a) else (rulG r.gr [42], delG r.gr [42])
theorem take_s {α : Type} (l : List α) (d : α) {i : Nat} (h : i < l.length) : l.take (i + 1) = l.take i ++ [l.getD i d] := by
  rw [List.getD_eq_getElem?_getD, List.getElem?_eq_getElem h, List.take_succ_eq_append_getElem h]; rfl
theorem rulG_s (G : List Grp) (a : List UInt8) {i : Nat} (h : i < G.length) : rulG (G.take (i + 1)) a = if (G.getD i noGrp).ag.contains a = true then rulG (G.take i) a ++ (G.getD i noGrp).ru else rulG (G.take i) a := by
  rw [take_s G noGrp h]
  unfold rulG
  rw [List.filter_append, List.flatMap_append]
  cases hc : (G.getD i noGrp).ag.contains a
  · rw [List.filter_cons_of_neg (by rw [hc]; simp)]; simp
  · rw [List.filter_cons_of_pos (by rw [hc])]; simp
theorem delG_s (G : List Grp) (a : List UInt8) {i : Nat} (h : i < G.length) : delG (G.take (i + 1)) a = if (G.getD i noGrp).ag.contains a = true then max (delG (G.take i) a) (G.getD i noGrp).de else delG (G.take i) a := by
  rw [take_s G noGrp h]
  unfold delG
  rw [List.filter_append, List.foldl_append]
  cases hc : (G.getD i noGrp).ag.contains a
  · rw [List.filter_cons_of_neg (by rw [hc]; simp)]; simp
  · rw [List.filter_cons_of_pos (by rw [hc])]; simp
theorem namG_s (G : List Grp) (a : List UInt8) {i : Nat} (h : i < G.length) : namG (G.take (i + 1)) a = (namG (G.take i) a || (G.getD i noGrp).ag.contains a) := by
  rw [take_s G noGrp h]
  unfold namG
  rw [List.any_append]; simp
theorem rulG_0 (G : List Grp) (a : List UInt8) : rulG (G.take 0) a = [] := rfl
theorem nam_no {G : List Grp} {a : List UInt8} (h : namG G a = false) : rulG G a = [] ∧ delG G a = -1 := by
  have e : (G.filter fun g => g.ag.contains a) = [] := by
    rw [List.filter_eq_nil_iff]
    intro g hg hc
    unfold namG at h
    rw [List.any_eq_false] at h
    exact h g hg hc
  unfold rulG delG
  rw [e]; exact ⟨rfl, rfl⟩
/- what is right has its bounds -/
theorem grp_ok {g : Grp} (h : checkGrpL g = 0) : 1 ≤ g.ag.length ∧ g.ag.length ≤ 50 ∧ (∀ s ∈ g.ag, agentL s = true) ∧ g.ru.length ≤ 200 ∧ (∀ r ∈ g.ru, patOk r.pa = true) ∧ -1 ≤ g.de ∧ g.de ≤ 99999 := by
  unfold checkGrpL at h
  by_cases h1 : g.ag.length = 0
  · rw [if_pos h1] at h; cases h
  rw [if_neg h1] at h
  by_cases h2 : 50 < g.ag.length
  · rw [if_pos h2] at h; cases h
  rw [if_neg h2] at h
  by_cases h3 : g.ag.all agentL = false
  · rw [if_pos h3] at h; cases h
  rw [if_neg h3] at h
  by_cases h4 : 200 < g.ru.length
  · rw [if_pos h4] at h; cases h
  rw [if_neg h4] at h
  by_cases h5 : (g.ru.all fun r => patOk r.pa) = false
  · rw [if_pos h5] at h; cases h
  rw [if_neg h5] at h
  by_cases h6 : g.de < -1 ∨ 99999 < g.de
  · rw [if_pos h6] at h; cases h
  have h3 : g.ag.all agentL = true := by simpa using h3
  have h5 : (g.ru.all fun r => patOk r.pa) = true := by simpa using h5
  exact ⟨by omega, by omega, List.all_eq_true.1 h3, by omega, List.all_eq_true.1 h5, by omega, by omega⟩
theorem grpsE_ok : ∀ {G : List Grp}, grpsE G = 0 → ∀ g ∈ G, checkGrpL g = 0
  | g :: t, h, x, hx => by
    rw [grpsE] at h
    by_cases h1 : checkGrpL g = 0
    · rw [if_pos h1] at h
      rcases List.mem_cons.1 hx with rfl | hx
      · exact h1
      · exact grpsE_ok h x hx
    · rw [if_neg h1] at h; exact absurd h h1
theorem rob_ok {r : Rob} (h : checkRobL r = 0) : r.gr.length ≤ 100 ∧ (∀ g ∈ r.gr, checkGrpL g = 0) ∧ r.ma.length ≤ 100 ∧ ∀ s ∈ r.ma, adrB s = true := by
  unfold checkRobL at h
  by_cases h1 : 100 < r.gr.length
  · rw [if_pos h1] at h; cases h
  rw [if_neg h1] at h
  by_cases h2 : grpsE r.gr = 0
  · rw [if_pos h2] at h
    by_cases h3 : 100 < r.ma.length
    · rw [if_pos h3] at h; cases h
    rw [if_neg h3] at h
    by_cases h4 : r.ma.all adrB = true
    · exact ⟨by omega, grpsE_ok h2, by omega, List.all_eq_true.1 h4⟩
    · rw [if_neg h4] at h; cases h
  · rw [if_neg h2] at h; exact absurd h h2
theorem pat_len {s : List UInt8} (h : patOk s = true) : s.length ≤ 300 := ((patOk_iff s).1 h).2.1
theorem mem_at {α : Type} {l : List α} {d : α} {i : Nat} (h : i < l.length) : l.getD i d ∈ l := by
  rw [List.getD_eq_getElem?_getD, List.getElem?_eq_getElem h]; exact List.getElem_mem h
theorem rulG_b {G : List Grp} (a : List UInt8) (h : ∀ g ∈ G, checkGrpL g = 0) : (rulG G a).length ≤ 200 * G.length ∧ (∀ r ∈ rulG G a, patOk r.pa = true) ∧ -1 ≤ delG G a ∧ delG G a ≤ 99999 := by
  refine ⟨?_, fun r hr => ?_, ?_⟩
  · induction G with
    | nil => simp [rulG]
    | cons g t ih =>
      have := ih fun x hx => h x (List.mem_cons_of_mem _ hx)
      have h2 := (grp_ok (h g (by simp))).2.2.2.1
      unfold rulG at *
      rw [List.filter_cons]
      split
      · simp only [List.flatMap_cons, List.length_append, List.length_cons]; omega
      · simp only [List.length_cons]; omega
  · unfold rulG at hr
    obtain ⟨g, hg, hr⟩ := List.mem_flatMap.1 hr
    exact (grp_ok (h g (List.mem_filter.1 hg).1)).2.2.2.2.1 r hr
  · unfold delG
    have key : ∀ (L : List Grp) (d : Int), (∀ g ∈ L, checkGrpL g = 0) → -1 ≤ d → d ≤ 99999 → -1 ≤ L.foldl (fun d g => max d g.de) d ∧ L.foldl (fun d g => max d g.de) d ≤ 99999 := by
      intro L
      induction L with
      | nil => exact fun d _ h1 h2 => ⟨h1, h2⟩
      | cons g t ih =>
        intro d hL h1 h2
        have := (grp_ok (hL g (by simp))).2.2.2.2.2
        exact ih (max d g.de) (fun x hx => hL x (List.mem_cons_of_mem _ hx)) (by omega) (by omega)
    exact key _ _ (fun g hg => h g (List.mem_filter.1 hg).1) (by omega) (by omega)
theorem rules_b {r : Rob} (a : List UInt8) (h : checkRobL r = 0) : (rulesL r a).1.length ≤ 20000 ∧ (∀ x ∈ (rulesL r a).1, patOk x.pa = true) ∧ -1 ≤ (rulesL r a).2 ∧ (rulesL r a).2 ≤ 99999 := by
  obtain ⟨h1, h2, -, -⟩ := rob_ok h
  have k1 := rulG_b a h2
  have k2 := rulG_b [42] h2
  unfold rulesL
  split
  · exact ⟨by have := k1.1; show (rulG r.gr a).length ≤ _; omega, k1.2⟩
  · exact ⟨by have := k2.1; show (rulG r.gr [42]).length ≤ _; omega, k2.2⟩
/- the rule that decides -/
def betB (l : List Rul) (b : Int) (i : Nat) : Bool := decide (b < 0) || decide ((l.getD b.toNat noRul).pa.length < (l.getD i noRul).pa.length) || (decide ((l.getD i noRul).pa.length = (l.getD b.toNat noRul).pa.length) && (l.getD i noRul).al && !(l.getD b.toNat noRul).al)
def decG (l : List Rul) (p : List UInt8) : Nat → Int
  | 0 => -1
  | i + 1 => if matchesB (l.getD i noRul).pa p = true ∧ betB l (decG l p i) i = true then (i : Int) else decG l p i
def decL (l : List Rul) (p : List UInt8) : Int := decG l p l.length
theorem decG_b (l : List Rul) (p : List UInt8) : ∀ n, -1 ≤ decG l p n ∧ decG l p n < n
  | 0 => ⟨Int.le_refl _, by show (-1 : Int) < 0; omega⟩
  | n + 1 => by
    have := decG_b l p n
    rw [decG]
    split <;> omega
/- what is permitted -/
def wRobots : List UInt8 := [47, 114, 111, 98, 111, 116, 115, 46, 116, 120, 116]
def perL (r : Rob) (a p : List UInt8) : Bool := p == wRobots || (decide (decL (rulesL r a).1 p < 0) || ((rulesL r a).1.getD (decL (rulesL r a).1 p).toNat noRul).al)
def adE (r : Rob) (a : List UInt8) (x : Adr) : Int := if agE r a = 0 then checkAdrL x else agE r a

/- without what is needless -/
def ndStep (ru o : List Rul) (y : Rul) : List Rul := if y ∈ o ∨ (y.al = false ∧ (⟨true, y.pa⟩ : Rul) ∈ ru) then o else o ++ [y]
def ndR (ru : List Rul) : List Rul := ru.foldl (ndStep ru) []
def ndG (g : Grp) : Grp := ⟨g.ag, ndR g.ru, g.de⟩
def needL (r : Rob) : Rob := ⟨r.gr.map ndG, r.ma⟩
theorem ndR_s (ru : List Rul) {i : Nat} (h : i < ru.length) : (ru.take (i + 1)).foldl (ndStep ru) [] = ndStep ru ((ru.take i).foldl (ndStep ru) []) (ru.getD i noRul) := by
  rw [take_s ru noRul h, List.foldl_append]; rfl
theorem nd_fold (ru : List Rul) : ∀ (l o : List Rul), (l.foldl (ndStep ru) o).length ≤ o.length + l.length ∧ (∀ y ∈ l.foldl (ndStep ru) o, y ∈ o ∨ y ∈ l) ∧ (∀ y ∈ o, y ∈ l.foldl (ndStep ru) o) ∧ ∀ y ∈ l, y ∈ l.foldl (ndStep ru) o ∨ (y.al = false ∧ (⟨true, y.pa⟩ : Rul) ∈ ru)
  | [], o => ⟨by simp, fun y hy => .inl hy, fun y hy => hy, fun y hy => by cases hy⟩
  | x :: t, o => by
    obtain ⟨h1, h2, h3, h4⟩ := nd_fold ru t (ndStep ru o x)
    have e : (x :: t).foldl (ndStep ru) o = t.foldl (ndStep ru) (ndStep ru o x) := rfl
    rw [e]
    have s1 : (ndStep ru o x).length ≤ o.length + 1 := by unfold ndStep; split <;> simp
    have s2 : ∀ y ∈ ndStep ru o x, y ∈ o ∨ y = x := fun y hy => by
      unfold ndStep at hy
      split at hy
      · exact .inl hy
      · rcases List.mem_append.1 hy with hy | hy
        · exact .inl hy
        · exact .inr (List.mem_singleton.1 hy)
    have s3 : ∀ y ∈ o, y ∈ ndStep ru o x := fun y hy => by
      unfold ndStep
      split
      · exact hy
      · exact List.mem_append_left _ hy
    have s4 : x ∈ ndStep ru o x ∨ (x.al = false ∧ (⟨true, x.pa⟩ : Rul) ∈ ru) := by
      unfold ndStep
      split
      · rename_i h
        exact h.imp id id
      · exact .inl (by simp)
    refine ⟨by simp only [List.length_cons]; omega, fun y hy => ?_, fun y hy => h3 y (s3 y hy), fun y hy => ?_⟩
    · rcases h2 y hy with hy | hy
      · rcases s2 y hy with hy | hy
        · exact .inl hy
        · exact .inr (by rw [hy]; simp)
      · exact .inr (List.mem_cons_of_mem _ hy)
    · rcases List.mem_cons.1 hy with rfl | hy
      · exact s4.imp (h3 y) id
      · exact h4 y hy
theorem ndR_ok (ru : List Rul) : (ndR ru).length ≤ ru.length ∧ (∀ y ∈ ndR ru, y ∈ ru) ∧ ∀ y ∈ ru, y ∈ ndR ru ∨ (y.al = false ∧ (⟨true, y.pa⟩ : Rul) ∈ ru) := by
  obtain ⟨h1, h2, -, h4⟩ := nd_fold ru ru []
  exact ⟨by rw [List.length_nil, Nat.zero_add] at h1; exact h1, fun y hy => (h2 y hy).elim (fun h => by cases h) id, h4⟩
/- allowed rules stay -/
theorem ndR_al (ru : List Rul) {y : Rul} (h : y ∈ ru) (ha : y.al = true) : y ∈ ndR ru := ((ndR_ok ru).2.2 y h).elim id fun x => by rw [ha] at x; cases x.1
theorem chk_nd {g : Grp} (h : checkGrpL g = 0) : checkGrpL (ndG g) = 0 := by
  obtain ⟨h1, h2, h3, h4, h5, h6, h7⟩ := grp_ok h
  obtain ⟨n1, n2, -⟩ := ndR_ok g.ru
  unfold checkGrpL
  rw [show (ndG g).ag = g.ag from rfl, show (ndG g).de = g.de from rfl, show (ndG g).ru = ndR g.ru from rfl]
  rw [if_neg (show ¬ g.ag.length = 0 by omega), if_neg (show ¬ 50 < g.ag.length by omega), if_neg (show ¬ g.ag.all agentL = false by rw [List.all_eq_true.2 h3]; simp), if_neg (show ¬ 200 < (ndR g.ru).length by omega)]
  have e : ((ndR g.ru).all fun r => patOk r.pa) = true := List.all_eq_true.2 fun y hy => h5 y (n2 y hy)
  rw [if_neg (by rw [e]; simp), if_neg (show ¬ (g.de < -1 ∨ 99999 < g.de) by omega)]
theorem grpsE_nd : ∀ {G : List Grp}, grpsE G = 0 → grpsE (G.map ndG) = 0
  | [], _ => rfl
  | g :: t, h => by
    have h1 := grpsE_ok h g (by simp)
    rw [grpsE, if_pos h1] at h
    rw [List.map_cons, grpsE, if_pos (chk_nd h1)]
    exact grpsE_nd h
theorem chk_need {r : Rob} (h : checkRobL r = 0) : checkRobL (needL r) = 0 := by
  unfold checkRobL at h
  by_cases h1 : 100 < r.gr.length
  · rw [if_pos h1] at h; cases h
  rw [if_neg h1] at h
  by_cases h2 : grpsE r.gr = 0
  · rw [if_pos h2] at h
    unfold checkRobL needL
    rw [if_neg (by simpa using h1), if_pos (grpsE_nd h2)]
    exact h
  · rw [if_neg h2] at h; exact absurd h h2
theorem agent_len {s : List UInt8} (h : agentL s = true) : s.length ≤ 40 := by
  unfold agentL at h
  simp only [Bool.or_eq_true, Bool.and_eq_true, beq_iff_eq, decide_eq_true_eq] at h
  rcases h with h | h
  · rw [h]; decide
  · omega
theorem need_ok {r : Rob} (ok : robOk r) (h : checkRobL r = 0) : robOk (needL r) := by
  obtain ⟨c1, c2, c3, c4⟩ := rob_ok h
  obtain ⟨o1, o2, o3, o4⟩ := ok
  refine ⟨by unfold needL; simpa using o1, fun g hg => ?_, o3, o4⟩
  obtain ⟨g0, hg0, rfl⟩ := List.mem_map.1 (show g ∈ r.gr.map ndG from hg)
  obtain ⟨k1, k2, k3, k4, k5, k6⟩ := o2 g0 hg0
  obtain ⟨n1, n2, -⟩ := ndR_ok g0.ru
  exact ⟨k1, k2, by show (ndR g0.ru).length ≤ _; omega, fun y hy => k4 y (n2 y hy), k5, k6⟩
/- what the deciding rule is -/
theorem decG_best (l : List Rul) (p : List UInt8) : ∀ n, n ≤ l.length → (decG l p n < 0 → ∀ j, j < n → matchesB (l.getD j noRul).pa p = false) ∧ (0 ≤ decG l p n → matchesB (l.getD (decG l p n).toNat noRul).pa p = true ∧ ∀ j, j < n → matchesB (l.getD j noRul).pa p = true → (l.getD j noRul).pa.length ≤ (l.getD (decG l p n).toNat noRul).pa.length ∧ ((l.getD j noRul).pa.length = (l.getD (decG l p n).toNat noRul).pa.length → (l.getD j noRul).al = true → (l.getD (decG l p n).toNat noRul).al = true))
  | 0, _ => ⟨fun _ j hj => absurd hj (by omega), fun h => by have h : (0 : Int) ≤ -1 := h; omega⟩
  | n + 1, hn => by
    obtain ⟨i1, i2⟩ := decG_best l p n (by omega)
    have db := decG_b l p n
    rw [decG]
    by_cases h : matchesB (l.getD n noRul).pa p = true ∧ betB l (decG l p n) n = true
    · rw [if_pos h]
      refine ⟨fun x => by omega, fun _ => ?_⟩
      rw [Int.toNat_natCast]
      refine ⟨h.1, fun j hj hm => ?_⟩
      by_cases e : j = n
      · subst e; exact ⟨Nat.le_refl _, fun _ x => x⟩
      · have hb := h.2
        unfold betB at hb
        simp only [Bool.or_eq_true, Bool.and_eq_true, decide_eq_true_eq, Bool.not_eq_true'] at hb
        by_cases hd : decG l p n < 0
        · have := i1 hd j (by omega)
          rw [this] at hm; cases hm
        · have := (i2 (by omega)).2 j (by omega) hm
          rcases hb with (hb | hb) | hb
          · exact absurd hb hd
          · exact ⟨by omega, fun x => by omega⟩
          · exact ⟨by omega, fun _ _ => hb.1.2⟩
    · rw [if_neg h]
      refine ⟨fun x j hj => ?_, fun x => ?_⟩
      · by_cases e : j = n
        · subst e
          refine Classical.byContradiction fun hm => h ⟨by simpa using hm, ?_⟩
          unfold betB
          simp [x]
        · exact i1 x j (by omega)
      · obtain ⟨k1, k2⟩ := i2 x
        refine ⟨k1, fun j hj hm => ?_⟩
        by_cases e : j = n
        · subst e
          have hb : ¬ betB l (decG l p j) j = true := fun y => h ⟨hm, y⟩
          unfold betB at hb
          simp only [Bool.or_eq_true, Bool.and_eq_true, decide_eq_true_eq, Bool.not_eq_true', not_or, not_and] at hb
          obtain ⟨⟨_, b2⟩, b3⟩ := hb
          refine ⟨by omega, fun q w => ?_⟩
          have := b3 ⟨q, w⟩
          simpa using this
        · exact k2 j (by omega) hm
/-- what is permitted by rules, said of the rules alone -/
theorem core_iff (l : List Rul) (p : List UInt8) : (decide (decL l p < 0) || (l.getD (decL l p).toNat noRul).al) = true ↔ ∀ y ∈ l, matchesB y.pa p = true → ∃ z ∈ l, matchesB z.pa p = true ∧ z.al = true ∧ ∀ u ∈ l, matchesB u.pa p = true → u.pa.length ≤ z.pa.length := by
  obtain ⟨h1, h2⟩ := decG_best l p l.length (Nat.le_refl _)
  have db := decG_b l p l.length
  have e : decL l p = decG l p l.length := rfl
  rw [e]
  have at' : ∀ y ∈ l, ∃ j, j < l.length ∧ l.getD j noRul = y := fun y hy => by
    obtain ⟨j, hj, rfl⟩ := List.getElem_of_mem hy
    exact ⟨j, hj, by rw [List.getD_eq_getElem?_getD, List.getElem?_eq_getElem hj]; rfl⟩
  rw [Bool.or_eq_true, decide_eq_true_eq]
  constructor
  · rintro (h | h) y hy hm
    · obtain ⟨j, hj, rfl⟩ := at' y hy
      have := h1 h j hj
      rw [this] at hm; cases hm
    · by_cases hd : decG l p l.length < 0
      · obtain ⟨j, hj, rfl⟩ := at' y hy
        have := h1 hd j hj
        rw [this] at hm; cases hm
      · obtain ⟨k1, k2⟩ := h2 (by omega)
        refine ⟨_, mem_at (d := noRul) (show (decG l p l.length).toNat < l.length by omega), k1, h, fun u hu hm' => ?_⟩
        obtain ⟨j, hj, rfl⟩ := at' u hu
        exact (k2 j hj hm').1
  · intro h
    by_cases hd : decG l p l.length < 0
    · exact .inl hd
    · right
      obtain ⟨k1, k2⟩ := h2 (by omega)
      have hm := mem_at (d := noRul) (show (decG l p l.length).toNat < l.length by omega)
      obtain ⟨z, hz, z1, z2, z3⟩ := h _ hm k1
      obtain ⟨j, hj, rfl⟩ := at' z hz
      have a1 := z3 _ hm k1
      have a2 := k2 j hj z1
      exact a2.2 (by omega) z2
theorem rulG_nd (G : List Grp) (a : List UInt8) : (∀ y ∈ rulG (G.map ndG) a, y ∈ rulG G a) ∧ ∀ y ∈ rulG G a, y ∈ rulG (G.map ndG) a ∨ (y.al = false ∧ (⟨true, y.pa⟩ : Rul) ∈ rulG (G.map ndG) a) := by
  have mem : ∀ (H : List Grp) (y : Rul), y ∈ rulG H a ↔ ∃ g ∈ H, g.ag.contains a = true ∧ y ∈ g.ru := fun H y => by
    unfold rulG
    rw [List.mem_flatMap]
    constructor
    · rintro ⟨g, hg, hy⟩
      exact ⟨g, (List.mem_filter.1 hg).1, (List.mem_filter.1 hg).2, hy⟩
    · rintro ⟨g, hg, hc, hy⟩
      exact ⟨g, List.mem_filter.2 ⟨hg, hc⟩, hy⟩
  refine ⟨fun y hy => ?_, fun y hy => ?_⟩
  · obtain ⟨g, hg, hc, hy⟩ := (mem _ y).1 hy
    obtain ⟨g0, hg0, rfl⟩ := List.mem_map.1 hg
    exact (mem _ y).2 ⟨g0, hg0, hc, (ndR_ok g0.ru).2.1 y hy⟩
  · obtain ⟨g, hg, hc, hy⟩ := (mem _ y).1 hy
    have put : ∀ z ∈ ndR g.ru, z ∈ rulG (G.map ndG) a := fun z hz => (mem _ z).2 ⟨ndG g, List.mem_map.2 ⟨g, hg, rfl⟩, hc, hz⟩
    rcases (ndR_ok g.ru).2.2 y hy with h | ⟨h1, h2⟩
    · exact .inl (put y h)
    · exact .inr ⟨h1, put _ (ndR_al g.ru h2 rfl)⟩
theorem core_nd (G : List Grp) (a p : List UInt8) : (decide (decL (rulG (G.map ndG) a) p < 0) || ((rulG (G.map ndG) a).getD (decL (rulG (G.map ndG) a) p).toNat noRul).al) = (decide (decL (rulG G a) p < 0) || ((rulG G a).getD (decL (rulG G a) p).toNat noRul).al) := by
  obtain ⟨h1, h2⟩ := rulG_nd G a
  generalize rulG (G.map ndG) a = l' at *
  generalize rulG G a = l at *
  rw [Bool.eq_iff_iff, core_iff, core_iff]
  have big : ∀ u ∈ l, matchesB u.pa p = true → ∃ u' ∈ l', matchesB u'.pa p = true ∧ u'.pa = u.pa := fun u hu hm => by
    rcases h2 u hu with h | ⟨_, h⟩
    · exact ⟨u, h, hm, rfl⟩
    · exact ⟨_, h, hm, rfl⟩
  constructor
  · intro h y hy hm
    obtain ⟨y', hy', hm', _⟩ := big y hy hm
    obtain ⟨z, hz, z1, z2, z3⟩ := h y' hy' hm'
    refine ⟨z, h1 z hz, z1, z2, fun u hu hmu => ?_⟩
    obtain ⟨u', hu', hmu', e⟩ := big u hu hmu
    rw [← e]; exact z3 u' hu' hmu'
  · intro h y hy hm
    obtain ⟨z, hz, z1, z2, z3⟩ := h y (h1 y hy) hm
    refine ⟨z, ?_, z1, z2, fun u hu hmu => z3 u (h1 u hu) hmu⟩
    rcases h2 z hz with h | ⟨h, _⟩
    · exact h
    · rw [z2] at h; cases h
theorem per_need (r : Rob) (a p : List UInt8) : perL (needL r) a p = perL r a p := by
  have e : namG (r.gr.map ndG) a = namG r.gr a := by unfold namG; rw [List.any_map]; rfl
  have c1 := core_nd r.gr a p
  have c2 := core_nd r.gr [42] p
  unfold perL rulesL needL
  simp only [e]
  by_cases hn : namG r.gr a = true
  · simp only [if_pos hn]; rw [c1]
  · simp only [if_neg hn]; rw [c2]

/- at a moment -/
def atE (l : List Rdg) (a m : Int) (ag : List UInt8) (y : Adr) : Int := if askE l a m = 0 then adE noRob ag y else askE l a m
def atL (l : List Rdg) (a m : Int) (ag : List UInt8) (y : Adr) : Bool :=
  pathL y == wRobots || ((standL l a m).1 == 3 || ((standL l a m).1 == 2 && perL (l.getD (standL l a m).2.toNat noRdg).ro ag (pathL y)))
def againL (l : List Rdg) (a m : Int) : Int :=
  if lastN l m = 0 then m else if saysB (l.getD (lastN l m - 1) noRdg) = true then (l.getD (lastN l m - 1) noRdg).at' + a else (l.getD (lastN l m - 1) noRdg).at' + (a + 99) / 100
theorem noRob_ok : robOk noRob := by unfold robOk noRob; simp
theorem noRob_chk : checkRobL noRob = 0 := rfl
theorem stand_2 {l : List Rdg} {a m : Int} (h : (standL l a m).1 = 2) : 0 ≤ (standL l a m).2 ∧ (standL l a m).2 < lastN l m := by
  unfold standL at h ⊢
  by_cases h1 : lastN l m = 0
  · rw [if_pos h1] at h; cases h
  rw [if_neg h1] at h ⊢
  have gb : ∀ n, -1 ≤ goodI l n ∧ goodI l n < n := by
    intro n
    induction n with
    | zero => exact ⟨Int.le_refl _, by show (-1 : Int) < 0; omega⟩
    | succ n ih => rw [goodI]; split <;> omega
  have gb := gb (lastN l m)
  by_cases h2 : goodI l (lastN l m) < 0 ∨ (goodI l (lastN l m) < (lastN l m : Int) - 1 ∧ (l.getD (goodI l (lastN l m)).toNat noRdg).at' + a ≤ m)
  · rw [if_pos h2] at h; cases h
  rw [if_neg h2] at h ⊢
  split
  · exact ⟨by show 0 ≤ goodI l _; omega, by show goodI l _ < _; omega⟩
  · exact ⟨by show 0 ≤ goodI l _; omega, by show goodI l _ < _; omega⟩
theorem lastN_le (l : List Rdg) (m : Int) : lastN l m ≤ l.length := by
  unfold lastN
  exact (List.takeWhile_sublist _).length_le
@[push_cast] theorem nilRob : isC cRob (.agg [.nilsl, .nilsl]) = True := eq_true (VLe.agg ⟨VLe.nilsl _, VLe.nilsl _, trivial⟩)
@[push_cast] theorem nilRobD : cRob.dec (.agg [.nilsl, .nilsl]) = noRob := congrArg id (Eq.refl noRob)
theorem ask_ok {l : List Rdg} {a m : Int} (h : askE l a m = 0) : checkRdgs l = 0 ∧ 1 ≤ a ∧ a ≤ 100000000 ∧ 0 ≤ m ∧ m ≤ 253402300799 := by
  unfold askE at h
  by_cases h1 : checkRdgs l = 0
  · rw [if_pos h1] at h
    by_cases h2 : 1 ≤ a ∧ a ≤ 100000000 ∧ 0 ≤ m ∧ m ≤ 253402300799
    · exact ⟨h1, h2⟩
    · rw [if_neg h2] at h; cases h
  · rw [if_neg h1] at h; exact absurd h h1
theorem tw_all {α : Type} {p : α → Bool} : ∀ {l : List α}, (∀ x ∈ l, p x = true) → l.takeWhile p = l
  | [], _ => rfl
  | a :: t, h => by
    rw [List.takeWhile_cons, if_pos (h a (by simp)), tw_all fun x hx => h x (List.mem_cons_of_mem _ hx)]
theorem lastN_s {l : List Rdg} {m : Int} (hs : ∀ i j, i ≤ j → j < l.length → (l.getD i noRdg).at' ≤ (l.getD j noRdg).at') {i : Nat} (h : i < l.length) : lastN (l.take (i + 1)) m = if (l.getD i noRdg).at' ≤ m then i + 1 else lastN (l.take i) m := by
  have e : l.take (i + 1) = l.take i ++ [l.getD i noRdg] := take_s l noRdg h
  have hl : (l.take i).length = i := by rw [List.length_take]; omega
  unfold lastN
  rw [e]
  by_cases hm : (l.getD i noRdg).at' ≤ m
  · rw [if_pos hm]
    have hall : ∀ x ∈ l.take i ++ [l.getD i noRdg], (fun x : Rdg => decide (x.at' ≤ m)) x = true := by
      intro x hx
      rcases List.mem_append.1 hx with hx | hx
      · obtain ⟨j, hj, rfl⟩ := List.getElem_of_mem hx
        rw [hl] at hj
        have := hs j i (by omega) h
        rw [List.getElem_take]
        rw [List.getD_eq_getElem?_getD, List.getElem?_eq_getElem (by omega)] at this
        have this : (l[j]'(by omega)).at' ≤ (l.getD i noRdg).at' := this
        exact decide_eq_true (by omega)
      · rw [List.mem_singleton.1 hx]; exact decide_eq_true hm
    rw [tw_all hall, List.length_append, hl]; rfl
  · rw [if_neg hm, List.takeWhile_append]
    split
    · rename_i h2
      rw [List.takeWhile_cons, if_neg (by simpa using hm), List.append_nil]
      exact h2.symm
    · rfl
theorem lastN_all {m : Int} : ∀ {l : List Rdg}, lastN l m = l.length → ∀ x ∈ l, x.at' ≤ m
  | [], _, x, hx => by cases hx
  | y :: t, h, x, hx => by
    unfold lastN at h
    rw [List.takeWhile_cons] at h
    by_cases hy : y.at' ≤ m
    · rw [if_pos (decide_eq_true hy), List.length_cons, List.length_cons] at h
      rcases List.mem_cons.1 hx with rfl | hx
      · exact hy
      · exact lastN_all (by unfold lastN; omega) x hx
    · rw [if_neg (by simpa using hy)] at h; cases h

def idxL (l : List (List UInt8)) (w : List UInt8) : Int := match l.findIdx? (· == w) with
  | some k => k
  | none => -1
theorem idxL_at {l : List (List UInt8)} {w : List UInt8} {i : Nat} (hi : i < l.length) (h : w = l.getD i []) (hn : ∀ j, j < i → ¬ w = l.getD j []) : idxL l w = i := by
  unfold idxL
  have : l.findIdx? (· == w) = some i := by
    rw [List.findIdx?_eq_some_iff_getElem]
    refine ⟨hi, ?_, fun j hj => ?_⟩
    · rw [List.getD_eq_getElem?_getD, List.getElem?_eq_getElem hi] at h; simp [h]
    · have h1 := hn j hj
      rw [List.getD_eq_getElem?_getD, List.getElem?_eq_getElem (by omega)] at h1
      simp only [Option.getD_some] at h1
      simp only [Bool.not_eq_true, beq_eq_false_iff_ne]
      exact fun e => h1 e.symm
  rw [this]
theorem idxL_no {l : List (List UInt8)} {w : List UInt8} (hn : ∀ j, j < l.length → ¬ w = l.getD j []) : idxL l w = -1 := by
  unfold idxL
  have : l.findIdx? (· == w) = none := by
    rw [List.findIdx?_eq_none_iff]
    intro x hx
    obtain ⟨j, hj, rfl⟩ := List.getElem_of_mem hx
    have h1 := hn j hj
    rw [List.getD_eq_getElem?_getD, List.getElem?_eq_getElem hj] at h1
    simp only [Option.getD_some] at h1
    exact beq_eq_false_iff_ne.2 fun e => h1 e.symm
  rw [this]
def ckIndexStr : Ck
  | [.sl n f, .str w] => some (isLs cStr n f ∧ n ≤ 4611686018427387904, .int .i64 (idxL (lsOf cStr n f) w))
  | _ => none
theorem conIndexStr : Con pg 92 ckIndexStr := by
  have hct := ctN_ok pg
  intro args q r h hq
  unfold ckIndexStr at h
  split at h
  · cases h
    rename_i n f w
    refine pcall_args (args' := [.sl (lsOf cStr n f).length (lsF cStr (lsOf cStr n f)), .str w]) ⟨isLs.vle hq.1, VLe.refl _, trivial⟩ ?_
    have hn : (lsOf cStr n f).length ≤ 4611686018427387904 := by rw [lsOf_len]; exact hq.2
    generalize lsOf cStr n f = a at hn ⊢
    refine w92 (fun _ => false) [] rfl hct rfl rfl ?_
    push_cast (config := { maxSteps := 10000000 })
    refine LoopW.adj ⟨hct, fol⟩ (by kernel_rfl) [] (fun i : Nat => [(0, .sl a.length (lsF cStr a)), (1, .str w), (7, .int .i64 a.length), (8, .int .i64 i)]) (fun _ => []) (fun i => i ≤ a.length ∧ ∀ j, j < i → ¬ w = a.getD j []) (fun i => a.length - i) 0 ?_ fun i hi => ?_
    · push_cast (config := { maxSteps := 10000000 })
      exact Nat.zero_le _
    · push_cast (config := { maxSteps := 10000000 })
      obtain ⟨h1, h2⟩ := hi
      refine ⟨fun h => ⟨h, fun h3 => (idxL_at h h3 h2).symm, fun h3 => ⟨by omega, i + 1, ⟨by omega, fun j hj => ?_⟩, by omega, by omega⟩⟩, fun h => (idxL_no fun j hj => h2 j (by omega)).symm⟩
      by_cases e : j = i
      · subst e; exact h3
      · exact h2 j (by omega)
  · cases h
attribute [push_cast] ckIndexStr

theorem idxC_has (l : List (List UInt8)) (w : List UInt8) : decide (0 ≤ idxL l w) = l.contains w := by
  unfold idxL
  cases h : l.findIdx? (· == w) with
  | none =>
    rw [List.findIdx?_eq_none_iff] at h
    have : l.contains w = false := by
      rw [Bool.eq_false_iff]
      intro hc
      rw [List.contains_iff_mem] at hc
      have := h w hc
      simp at this
    rw [this]; rfl
  | some k =>
    rw [List.findIdx?_eq_some_iff_getElem] at h
    obtain ⟨hk, h1, _⟩ := h
    have : l.contains w = true := by
      rw [List.contains_iff_mem]
      have e := beq_iff_eq.1 h1
      rw [← e]; exact List.getElem_mem hk
    rw [this]
    exact decide_eq_true (Int.natCast_nonneg k)
def ckCtnS : Ck
  | [.sl n f, .str w] => some (isLs cStr n f ∧ n ≤ 4611686018427387904, .bool ((lsOf cStr n f).contains w))
  | _ => none
theorem conCtnS : Con pg 66 ckCtnS := by
  have hct := (ctA_ok conIndexStr (ctN_ok _))
  intro args q r h hq
  unfold ckCtnS at h
  split at h
  · cases h
    rename_i n f w
    refine w66 (fun _ => false) [] rfl hct rfl rfl ?_
    push_cast (config := { maxSteps := 10000000 })
    exact ⟨hq, idxC_has _ _⟩
  · cases h
attribute [push_cast] ckCtnS

/- rows of digits -/
def isDg (c : UInt8) : Bool := decide (48 ≤ c.toNat ∧ c.toNat ≤ 57)
def digs : List UInt8 := [48, 49, 50, 51, 52, 53, 54, 55, 56, 57]
theorem digs_has (c : UInt8) : digs.contains c = isDg c := by
  have key : ∀ n, n < 256 → digs.contains (UInt8.ofNat n) = isDg (UInt8.ofNat n) := by decide +kernel
  have := key c.toNat (UInt8.toNat_lt c)
  simpa using this
theorem dropW_nil {p : UInt8 → Bool} : ∀ {l : List UInt8}, l.dropWhile p = [] ↔ ∀ x ∈ l, p x = true
  | [] => by simp
  | a :: l => by
    rw [List.dropWhile_cons]
    cases h : p a with
    | true => simp only [if_true, dropW_nil, List.mem_cons, forall_eq_or_imp, h, true_and]
    | false => simp [h]
theorem dropW_head {p : UInt8 → Bool} : ∀ {l : List UInt8} {a : UInt8} {t : List UInt8}, l.dropWhile p = a :: t → p a = false
  | [], _, _, h => by simp at h
  | b :: l, a, t, h => by
    rw [List.dropWhile_cons] at h
    cases hb : p b with
    | true => rw [hb] at h; exact dropW_head h
    | false => rw [hb] at h; simp only [Bool.false_eq_true, if_false, List.cons.injEq] at h; rw [← h.1]; exact hb
theorem dropW_sub {p : UInt8 → Bool} : ∀ {l : List UInt8} {x : UInt8}, x ∈ l.dropWhile p → x ∈ l
  | [], _, h => by simp at h
  | b :: l, x, h => by
    rw [List.dropWhile_cons] at h
    split at h
    · exact List.mem_cons_of_mem _ (dropW_sub h)
    · exact h
theorem snoc_ind {α : Type} {P : List α → Prop} (h0 : P []) (h : ∀ s c, P s → P (s ++ [c])) (s : List α) : P s := by
  have : ∀ t : List α, P t.reverse := by
    intro t
    induction t with
    | nil => exact h0
    | cons a t ih => rw [List.reverse_cons]; exact h _ _ ih
  simpa using this s.reverse
theorem trimS_nil (s cs : List UInt8) : Lib.trimS s cs = [] ↔ s.all (cs.contains ·) = true := by
  unfold Lib.trimS Lib.trimLeftS Lib.trimRightS
  rw [dropW_nil, List.all_eq_true]
  constructor
  · intro h x hx
    have hr : s.reverse.dropWhile (fun x => cs.contains x) = [] := by
      cases hd : s.reverse.dropWhile (fun x => cs.contains x) with
      | nil => rfl
      | cons a t =>
        have h1 := dropW_head hd
        have h2 := h a (by rw [hd]; simp)
        rw [h1] at h2; cases h2
    rw [dropW_nil] at hr
    exact hr x (by simpa using hx)
  · intro h x hx
    exact h x (by have := dropW_sub (by simpa using hx); simpa using this)
theorem trim_dig (s : List UInt8) : Lib.trimS s digs = [] ↔ s.all isDg = true := by
  rw [trimS_nil]
  have : (fun x => digs.contains x) = isDg := funext digs_has
  rw [this]
def natOf (s : List UInt8) : Nat := s.foldl (fun a c => a * 10 + (c.toNat - 48)) 0
theorem natOf_snoc (s : List UInt8) (c : UInt8) : natOf (s ++ [c]) = natOf s * 10 + (c.toNat - 48) := by simp [natOf, List.foldl_append]
theorem decFrom_dig : ∀ (s : List UInt8) (a : Nat), s.all isDg = true → Lib.decFrom a s = some (s.foldl (fun a c => a * 10 + (c.toNat - 48)) a)
  | [], a, _ => rfl
  | c :: s, a, h => by
    simp only [List.all_cons, Bool.and_eq_true] at h
    have hc : 48 ≤ c.toNat ∧ c.toNat ≤ 57 := of_decide_eq_true h.1
    simp only [Lib.decFrom, Lib.digitVal, if_pos hc, List.foldl_cons]
    exact decFrom_dig s _ h.2
theorem atoi_dig {s : List UInt8} (h0 : s ≠ []) (h : s.all isDg = true) : Lib.atoi s = some (natOf s : Int) := by
  cases s with
  | nil => exact absurd rfl h0
  | cons c s =>
    have hc : 48 ≤ c.toNat ∧ c.toNat ≤ 57 := of_decide_eq_true (by simp only [List.all_cons, Bool.and_eq_true] at h; exact h.1)
    have h1 : (c == 45) = false := by
      simp only [beq_eq_false_iff_ne]; intro e; subst e; revert hc; decide
    have h2 : (c == 43) = false := by
      simp only [beq_eq_false_iff_ne]; intro e; subst e; revert hc; decide
    unfold Lib.atoi
    simp only [h1, h2, Bool.false_eq_true, if_false]
    unfold Lib.decNat
    simp only [List.isEmpty_cons, Bool.false_eq_true, if_false]
    rw [decFrom_dig _ _ h]
    rfl
theorem natOf_lt (s : List UInt8) : s.all isDg = true → natOf s < 10 ^ s.length := by
  refine snoc_ind (P := fun s => s.all isDg = true → natOf s < 10 ^ s.length) (fun _ => by simp [natOf]) (fun s c ih h => ?_) s
  simp only [List.all_append, List.all_cons, List.all_nil, Bool.and_true, Bool.and_eq_true] at h
  have hc : 48 ≤ c.toNat ∧ c.toNat ≤ 57 := of_decide_eq_true h.2
  have := ih h.1
  rw [natOf_snoc, List.length_append, List.length_singleton, Nat.pow_succ]
  omega
/-- digits, from 1 to n of them, without a needless 0 -/
def digL (s : List UInt8) (n : Int) : Bool := decide (1 ≤ s.length) && decide ((s.length : Int) ≤ n) && s.all isDg && (decide (s.getD 0 0 ≠ 48) || s == [48])
theorem itoa_nat (n : Nat) : Lib.itoa (n : Int) = Lib.decDigits n := by unfold Lib.itoa; rw [if_neg (by omega)]; simp
theorem dec_step {n : Nat} (h : 10 ≤ n) : Lib.decDigits n = Lib.decDigits (n / 10) ++ [UInt8.ofNat (48 + n % 10)] := by
  rw [Lib.decDigits, dif_neg (by omega)]
theorem dec_small {n : Nat} (h : n < 10) : Lib.decDigits n = [UInt8.ofNat (48 + n)] := by
  rw [Lib.decDigits, dif_pos h]
theorem natOf_pos {s : List UInt8} (h : s.all isDg = true) (h0 : 1 ≤ s.length) (h1 : s.getD 0 0 ≠ 48) : 1 ≤ natOf s := by
  revert h h0 h1
  refine snoc_ind (P := fun s => s.all isDg = true → 1 ≤ s.length → s.getD 0 0 ≠ 48 → 1 ≤ natOf s) (fun _ h => by simp at h) (fun s c ih h _ h1 => ?_) s
  simp only [List.all_append, List.all_cons, List.all_nil, Bool.and_true, Bool.and_eq_true] at h
  have hc : 48 ≤ c.toNat ∧ c.toNat ≤ 57 := of_decide_eq_true h.2
  rw [natOf_snoc]
  cases s with
  | nil =>
    simp only [List.nil_append, List.getD_cons_zero] at h1
    have : c.toNat ≠ 48 := fun e => h1 (UInt8.toNat_inj.1 e)
    omega
  | cons a s =>
    have := ih h.1 (by simp) (by simpa using h1)
    omega
/-- a number's digits are written as they were read -/
theorem dec_natOf {s : List UInt8} (h : s.all isDg = true) (h0 : 1 ≤ s.length) (h1 : s.getD 0 0 ≠ 48 ∨ s.length = 1) : Lib.decDigits (natOf s) = s := by
  revert h h0 h1
  refine snoc_ind (P := fun s => s.all isDg = true → 1 ≤ s.length → (s.getD 0 0 ≠ 48 ∨ s.length = 1) → Lib.decDigits (natOf s) = s) (fun _ h => by simp at h) (fun s c ih h _ h1 => ?_) s
  simp only [List.all_append, List.all_cons, List.all_nil, Bool.and_true, Bool.and_eq_true] at h
  have hc : 48 ≤ c.toNat ∧ c.toNat ≤ 57 := of_decide_eq_true h.2
  have hcc : UInt8.ofNat (48 + (c.toNat - 48)) = c := by rw [show 48 + (c.toNat - 48) = c.toNat by omega]; simp
  rw [natOf_snoc]
  cases s with
  | nil =>
    simp only [natOf, List.foldl_nil, Nat.zero_mul, Nat.zero_add, List.nil_append]
    rw [dec_small (by omega), hcc]
  | cons a s =>
    have h48 : (a :: s).getD 0 0 ≠ 48 := by
      rcases h1 with h1 | h1
      · simpa using h1
      · simp at h1
    have hp := natOf_pos h.1 (by simp) h48
    rw [dec_step (by omega), show (natOf (a :: s) * 10 + (c.toNat - 48)) / 10 = natOf (a :: s) by omega, show (natOf (a :: s) * 10 + (c.toNat - 48)) % 10 = c.toNat - 48 by omega, hcc, ih h.1 (by simp) (.inl h48)]
theorem dec_dig (n : Nat) : (Lib.decDigits n).all isDg = true ∧ natOf (Lib.decDigits n) = n ∧ 1 ≤ (Lib.decDigits n).length ∧ ((Lib.decDigits n).getD 0 0 ≠ 48 ∨ (Lib.decDigits n).length = 1) ∧ (10 ≤ n → (Lib.decDigits n).getD 0 0 ≠ 48) := by
  have one : ∀ m, m < 10 → isDg (UInt8.ofNat (48 + m)) = true ∧ (UInt8.ofNat (48 + m)).toNat = 48 + m := fun m hm => by
    have e : (UInt8.ofNat (48 + m)).toNat = 48 + m := by rw [UInt8.toNat_ofNat']; omega
    exact ⟨decide_eq_true (by omega), e⟩
  induction n using Nat.strongRecOn with
  | _ n ih =>
    by_cases h : n < 10
    · rw [dec_small h]
      obtain ⟨a, b⟩ := one n h
      refine ⟨by simp only [List.all_cons, a, List.all_nil, Bool.and_true], by simp only [natOf, List.foldl_cons, List.foldl_nil, b]; omega, by simp, .inr rfl, fun h => by omega⟩
    · rw [dec_step (by omega)]
      obtain ⟨a, b⟩ := one (n % 10) (by omega)
      obtain ⟨i1, i2, i3, i4, i5⟩ := ih (n / 10) (by omega)
      have hg : (Lib.decDigits (n / 10)).getD 0 0 ≠ 48 := by
        by_cases h10 : n / 10 < 10
        · rw [dec_small h10]
          simp only [List.getD_cons_zero]
          intro e
          have := congrArg UInt8.toNat e
          rw [(one (n / 10) h10).2] at this
          have : (48 : UInt8).toNat = 48 := rfl
          omega
        · exact i5 (by omega)
      have hg2 : (Lib.decDigits (n / 10) ++ [UInt8.ofNat (48 + n % 10)]).getD 0 0 ≠ 48 := by
        cases hd : Lib.decDigits (n / 10) with
        | nil => rw [hd] at i3; simp at i3
        | cons x t => rw [hd] at hg; simpa using hg
      refine ⟨by simp only [List.all_append, i1, List.all_cons, a, List.all_nil, Bool.and_true], by rw [natOf_snoc, i2, b]; omega, by simp, .inl hg2, fun _ => hg2⟩
theorem dec_len : ∀ (k n : Nat), n < 10 ^ (k + 1) → (Lib.decDigits n).length ≤ k + 1
  | 0, n, h => by rw [dec_small (by omega)]; simp
  | k + 1, n, h => by
    by_cases h1 : n < 10
    · rw [dec_small h1]; simp
    · rw [dec_step (by omega)]
      have := dec_len k (n / 10) (by rw [Nat.pow_succ] at h; omega)
      simp; omega

end Go.Abs
