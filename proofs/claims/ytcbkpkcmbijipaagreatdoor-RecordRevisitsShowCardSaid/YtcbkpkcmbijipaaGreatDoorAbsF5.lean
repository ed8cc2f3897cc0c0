/- what functions of this program compute: contracts, each a function's own -/
import Derived.Test.YtcbkpkcmbijipaaGreatDoorAbsK3
import Derived.Test.YtcbkpkcmbijipaaGreatDoorAbsFacts
import Derived.Test.YtcbkpkcmbijipaaGreatDoorAbsF4
import Derived.Test.YtcbkpkcmbijipaaGreatDoorAbsShelf
import Derived.Lib.SlTrimSet
import Derived.Lib.Atoi
import Derived.Lib.Itoa
import Derived.Lib.ItoaNum
import Derived.Lib.AtoiErrMem
import Derived.Lib.Repeat
import Derived.Lib.ItoaLen
import Derived.Lib.Fold
namespace Go.Abs
open Go Go.Proofs
set_option maxHeartbeats 4000000
set_option maxRecDepth 100000
set_option linter.unusedVariables false
set_option linter.unusedSimpArgs false
def ckCloneHdN : List V → Option (Prop × V × Blk)
  | [.sl n f] => some (isLs cHd n f ∧ n ≤ 1000000000000, .vec 8999 n, .vec 2 n f)
  | _ => none
theorem conCloneHdN : NCon pg 33 ckCloneHdN := by
  have hct := ctN_ok pg
  intro args q r nb h hq
  unfold ckCloneHdN at h
  split at h
  · cases h
    rename_i n f
    by_cases hn : n = 0
    · subst hn
      refine ncall_nil1 fun a c => ?_
      cases a
      · refine nw33 (fun d => decide (d < 9999)) [.nv 2 8999 2 f] rfl hct rfl rfl ?_ ?_
        · simp [noIdB]
        push_cast (config := { maxSteps := 10000000 })
      · refine nw33 (fun d => decide (d < 9999)) [.ren 5 8999] rfl hct rfl rfl ?_ ?_
        · simp [noIdB]
        push_cast (config := { maxSteps := 10000000 })
    · obtain ⟨h1, h2⟩ := hq
      refine nw33 (fun d => decide (d < 9999)) [.ren 5 8999] rfl hct rfl rfl ?_ ?_
      · intro i hi; show V.noIdL (f i).flat = true; rw [h1.2 i hi]; rfl
      push_cast (config := { maxSteps := 10000000 })
      exact ⟨by omega, ⟨h1.flat (fun _ => rfl), by omega, by omega⟩, fun i hi => by rw [h1.2 i hi]; rfl⟩
  · cases h
attribute [push_cast] ckCloneHdN
theorem eraseH (l : List Hd) (a j : Nat) : (l.eraseIdx a).getD j ⟨[], []⟩ = if j < a then l.getD j ⟨[], []⟩ else l.getD (j + 1) ⟨[], []⟩ := by
  rw [List.getD_eq_getElem?_getD, List.getD_eq_getElem?_getD, List.getD_eq_getElem?_getD, List.getElem?_eraseIdx]
  split <;> rfl
theorem delFH {l : List Hd} {a : Nat} (ha : a < l.length) (Z : Nat → V) {q m : Nat} (hq : q = l.length - 1) (hm : m = 1) : (∀ i, i < l.length - 1 → insF (insF (lsF cHd l) a (l.length - (a + 1)) (shF (lsF cHd l) (a + 1))) q m Z i = lsF cHd (l.eraseIdx a) i) ∧ insF (insF (lsF cHd l) a (l.length - (a + 1)) (shF (lsF cHd l) (a + 1))) q m Z (l.length - 1) = Z 0 := by
  subst hq hm
  refine ⟨fun i hi => ?_, ?_⟩
  · rw [insF_out (.inl hi)]
    by_cases h : i < a
    · rw [insF_out (.inl h)]
      show cHd.enc _ = cHd.enc _
      rw [show cHd.d = (⟨[], []⟩ : Hd) from rfl, eraseH, if_pos h]
    · rw [insF_in (by omega) (by omega)]
      unfold shF
      show cHd.enc _ = cHd.enc _
      rw [show cHd.d = (⟨[], []⟩ : Hd) from rfl, eraseH, if_neg h, show i - a + (a + 1) = i + 1 by omega]
  · rw [insF_in (Nat.le_refl _) (by omega), Nat.sub_self]
def ckDelHK : List V → List Blk → Option (Prop × V × List Blk)
  | [.vec 32 n, .int .i64 a, .int .i64 c], [.vec 2 k f] => some (k = n ∧ isLs cHd n f ∧ 0 ≤ a ∧ a < n ∧ c = a + 1 ∧ n ≤ 1000000, .sl (n - 1) (lsF cHd ((lsOf cHd n f).eraseIdx a.toNat)), [])
  | _, _ => none
def ckDelH : Cf := ⟨fun | [.vec 32 _, _, _] => [32] | _ => [], ckDelHK⟩
theorem conDelH : FCon pg 60 ckDelH := by
  have hct := ctN_ok pg
  intro args bs q r bs' h hq
  replace h : ckDelHK args bs = some (q, r, bs') := h
  unfold ckDelHK at h
  split at h
  · cases h
    rename_i n a c k f
    refine ⟨rfl, Nat.zero_le _, ?_⟩
    obtain ⟨rfl, hf, ha0, han, rfl, hn⟩ := hq
    show FCall pg 60 [.vec (9032) k, .int .i64 a, .int .i64 (a + 1)] [(9032, .vec 2 k fun j => V.shift (f j))] (.sl (k - 1) (lsF cHd ((lsOf cHd k f).eraseIdx a.toNat))) []
    refine fcall_blk (hm := [(9032, .vec 2 (lsOf cHd k f).length (lsF cHd (lsOf cHd k f)))]) ⟨rfl, ⟨rfl, (lsOf_len k f).symm, fun j hj => by show V.shift (f j) = _; rw [hf.2 j hj]; rfl⟩, trivial⟩ ?_
    have hk := lsOf_len (c := cHd) k f
    generalize lsOf cHd k f = l at hk ⊢
    subst hk
    obtain ⟨a, rfl⟩ : ∃ m : Nat, a = m := ⟨a.toNat, by omega⟩
    rw [Int.toNat_natCast]
    have ha : a < l.length := by omega
    refine fw60 (fun d => decide (d < 9999)) [.frz 9032] rfl hct rfl (by simp) trivial rfl ?_
    push_cast (config := { maxSteps := 10000000 })
    have e1 : ((a : Int) + ((l.length - (a + 1) : Nat) : Int)).toNat = l.length - 1 := by omega
    have e2 : l.length - ((a : Int) + ((l.length - (a + 1) : Nat) : Int)).toNat = 1 := by omega
    refine ⟨⟨Nat.le_refl _, ⟨by omega, by omega⟩, by omega, by omega, by omega⟩, fun h => by omega, fun _ => ⟨by omega, ⟨⟨by omega, by omega⟩, by omega⟩, by omega, ⟨Nat.le_refl _, ⟨by omega, by omega⟩, by omega⟩, fun i hi => ?_, by omega, fun i hi => ?_⟩⟩
    · by_cases h : i < l.length - 1
      · exact (congrArg V.isPure ((delFH ha _ e1 e2).1 i h)).trans rfl
      · obtain rfl : i = l.length - 1 := by omega
        exact (congrArg V.isPure (delFH ha _ e1 e2).2).trans rfl
    · exact (delFH ha _ e1 e2).1 i (by omega)
  · cases h
@[push_cast] theorem delH_ids (n : Nat) (x y : V) : ckDelH.ids [.vec 32 n, x, y] = [32] := rfl
@[push_cast] theorem delH_k (n k : Nat) (a c : Int) (f : Nat → V) : ckDelH.k [.vec 32 n, .int .i64 a, .int .i64 c] [.vec 2 k f] = some (k = n ∧ isLs cHd n f ∧ 0 ≤ a ∧ a < n ∧ c = a + 1 ∧ n ≤ 1000000, .sl (n - 1) (lsF cHd ((lsOf cHd n f).eraseIdx a.toNat)), []) := rfl
/-- the number that a head says; 0: none that counts -/
def numV (s : List UInt8) : Int := if digL s 4 = true then natOf s else 0
def ckNumber : Ck
  | [.str s] => some (s.length ≤ 140737488355328, .int .i64 (numV s))
  | _ => none
theorem conNumber : Con pg 59 ckNumber := by
  have hct := (ctA_ok conDigits (ctA_ok conAtoi (ctN_ok _)))
  intro args q r h hq
  unfold ckNumber at h
  split at h
  · cases h
    rename_i s
    refine w59 (fun _ => false) [] rfl hct rfl rfl ?_
    push_cast (config := { maxSteps := 10000000 })
    refine ⟨by omega, fun h => by unfold numV; rw [if_neg (by rw [h]; exact Bool.false_ne_true)], fun h => ?_⟩
    have e : numV s = natOf s := by unfold numV; rw [if_pos h]
    unfold digL at h
    simp only [Bool.and_eq_true, decide_eq_true_eq] at h
    exact ⟨⟨h.1.1.1, by omega, h.1.2⟩, e.symm⟩
  · cases h
attribute [push_cast] ckNumber

/- pieces of a record -/
def wNumber : List UInt8 := [110, 117, 109, 98, 101, 114]
def hdV (x : Rcd) (w : List UInt8) : List UInt8 := (x.hd.getD (fstH x.hd w).toNat ⟨[], []⟩).value
def isPc (r : Rcd) (id : List UInt8) (x : Rcd) : Bool := (((decide (x.ki = 5) && decide (x.ow = id)) && decide (0 ≤ fstH x.hd wNumber)) && decide (x.ti = r.ti)) && decide (x.ke = r.ke)
def nbV (x : Rcd) : Int := numV (hdV x wNumber)
def pcsL (r : Rcd) (id : List UInt8) (l : List Rcd) (n : Int) : List Rcd := l.filter fun x => isPc r id x && decide (nbV x = n)
/-- the rows of a map of records -/
def rowsR (q : Int → List Rcd) : Rws := fun k => match k with
  | .int .i64 n => if q n = [] then none else some ((q n).length, lsF cRec (q n))
  | _ => none
theorem rowsR_no {q : Int → List Rcd} (h : ∀ n, q n = []) : rowsR q = fun _ => none := by
  funext k
  unfold rowsR
  split
  · rw [if_pos (h _)]
  · rfl
theorem rowsR_other {q q' : Int → List Rcd} {n : Int} (h : ∀ m, m ≠ n → q' m = q m) {k : MK} (hk : k ≠ .int .i64 n) : rowsR q' k = rowsR q k := by
  unfold rowsR
  split
  · rename_i m
    rw [h m (fun e => hk (by rw [e]))]
  · rfl
theorem fstH_lt (l : List Hd) (w : List UInt8) : 0 ≤ fstH l w → fstH l w < l.length := by
  unfold fstH
  split
  · rename_i k hk
    have := (List.findIdx?_eq_some_iff_getElem.1 hk).1
    intro _; omega
  · intro h; omega
theorem pcsL_s (r : Rcd) (id : List UInt8) (l : List Rcd) {i : Nat} (h : i < l.length) (n : Int) : pcsL r id (l.take (i + 1)) n = pcsL r id (l.take i) n ++ (if isPc r id (l.getD i noRec) = true ∧ nbV (l.getD i noRec) = n then [l.getD i noRec] else []) := by
  unfold pcsL
  rw [takeG (d := noRec) h, List.filter_append]
  congr 1
  by_cases c : isPc r id (l.getD i noRec) = true ∧ nbV (l.getD i noRec) = n
  · rw [if_pos c, List.filter_cons, if_pos (by rw [c.1, decide_eq_true c.2]; rfl)]; rfl
  · rw [if_neg c, List.filter_cons, if_neg (by simpa using c)]; rfl
theorem pcsL_in {r : Rcd} {id : List UInt8} {l : List Rcd} {i : Nat} (h : i < l.length) {x : Rcd} (hx : l.getD i noRec = x) (hp : isPc r id x = true) : pcsL r id (l.take (i + 1)) (nbV x) = pcsL r id (l.take i) (nbV x) ++ [x] ∧ ∀ m, m ≠ nbV x → pcsL r id (l.take (i + 1)) m = pcsL r id (l.take i) m := by
  refine ⟨?_, fun m hm => ?_⟩
  · rw [pcsL_s r id l h, hx, if_pos ⟨hp, rfl⟩]
  · rw [pcsL_s r id l h, hx, if_neg (fun e => hm e.2.symm), List.append_nil]
theorem pcsL_out {r : Rcd} {id : List UInt8} {l : List Rcd} {i : Nat} (h : i < l.length) {x : Rcd} (hx : l.getD i noRec = x) (hp : ¬ isPc r id x = true) : pcsL r id (l.take (i + 1)) = pcsL r id (l.take i) := by
  funext m
  rw [pcsL_s r id l h, hx, if_neg (fun e => hp e.1), List.append_nil]
theorem isPc_iff {r : Rcd} {id : List UInt8} {x : Rcd} : isPc r id x = true ↔ (((x.ki = 5 ∧ x.ow = id) ∧ 0 ≤ fstH x.hd wNumber) ∧ x.ti = r.ti) ∧ x.ke = r.ke := by
  unfold isPc
  simp only [Bool.and_eq_true, decide_eq_true_eq]
@[push_cast] theorem okL_sl (q : Int → List Rcd) (k : MK) : okL (slM (rowsR q) k) = True := by
  refine eq_true ?_
  unfold slM
  cases rowsR q k <;> exact trivial
@[push_cast] theorem asN_sl (q : Int → List Rcd) (n : Int) : asN (slM (rowsR q) (.int .i64 n)) = (q n).length := by
  unfold slM rowsR
  simp only
  by_cases h : q n = []
  · rw [if_pos h, h]; rfl
  · rw [if_neg h]; rfl
theorem asF_sl {q : Int → List Rcd} {n : Int} {x : Rcd} (h : q n = [x]) : asF (slM (rowsR q) (.int .i64 n)) = lsF cRec [x] := by
  unfold slM rowsR
  simp only [h]
  rw [if_neg (by simp)]; rfl
/-- the blocks of the pieces n .. many are put behind -/
def joinG (q : Int → List Rcd) : Nat → Int → List UInt8 → Option (List UInt8)
  | 0, _, b => some b
  | k + 1, n, b => if (q n).length = 1 then joinG q k (n + 1) (b ++ ((q n).getD 0 noRec).bd) else none
def jnX (r : Rcd) (b : List UInt8) : Rcd := ⟨r.ki, r.id, r.ow, r.ti, r.ke, r.hd.eraseIdx (fstH r.hd wPieces).toNat, b⟩
def jnE (r : Rcd) : Option (List UInt8) → Rcd × Int
  | none => (noRec, 9)
  | some b => if checkRecL (jnX r b) = 0 then (jnX r b, 0) else (noRec, checkRecL (jnX r b))
def jnR (l : List Rcd) (id : List UInt8) (r : Rcd) : Rcd × Int :=
  if fstH r.hd wPieces < 0 then (r, 0)
  else if numV (hdV r wPieces) < 2 then (noRec, 3)
  else jnE r (joinG (pcsL r id l) (numV (hdV r wPieces) - 1).toNat 2 r.bd)
def joinL (l : List Rcd) (id : List UInt8) : Rcd × Int := if ¬ 0 ≤ fndL l id ∨ (fndR l id).ki = 5 then (noRec, 9) else jnR l id (fndR l id)
theorem numV_le (s : List UInt8) : 0 ≤ numV s ∧ numV s ≤ 9999 := by
  unfold numV
  split
  · rename_i h
    unfold digL at h
    simp only [Bool.and_eq_true, decide_eq_true_eq] at h
    have h1 := natOf_lt s h.1.2
    have h2 : s.length ≤ 4 := by omega
    have h3 : (10 : Nat) ^ s.length ≤ 10 ^ 4 := Nat.pow_le_pow_right (by decide) h2
    have h4 : (10 : Nat) ^ 4 = 10000 := rfl
    omega
  · omega
theorem pcsL_mem {r : Rcd} {id : List UInt8} {l : List Rcd} {n : Int} {x : Rcd} (h : x ∈ pcsL r id l n) : x ∈ l := (List.mem_filter.1 h).1
theorem jnX_ok {r : Rcd} {b : List UInt8} (h : recOk r) (hb : b.length ≤ 140737488355328) : recOk (jnX r b) := by
  obtain ⟨h1, h2, h3, h4, h5, h6, h7⟩ := h
  refine ⟨fun x hx => h1 x (List.mem_of_mem_eraseIdx hx), h2, h3, h4, ?_, hb, h7⟩
  have := List.length_eraseIdx_le (l := r.hd) (fstH r.hd wPieces).toNat
  exact Nat.le_trans this h5
def ckJoined : Ck
  | [.sl n f, .str s] => some (isLs cRec n f ∧ recsOk (lsOf cRec n f) ∧ checkFileL (lsOf cRec n f) = 0, .tup [cRec.enc (joinL (lsOf cRec n f) s).1, .int .i64 (joinL (lsOf cRec n f) s).2])
  | _ => none
attribute [push_cast] ckJoined

/- what a record shows -/
def showG (l : List Rcd) : Nat → List (List UInt8) → List UInt8 → List UInt8 × Int
  | 0, _, _ => ([], 0)
  | f + 1, seen, id =>
    if ¬ 0 ≤ fndL l id then ([], 9)
    else if seen.contains id = true then ([], 17)
    else if ¬ (fndR l id).ki = 4 then ((joinL l id).1.bd, (joinL l id).2)
    else showG l f (seen ++ [id]) (fndR l id).ow
def showL (l : List Rcd) (id : List UInt8) : List UInt8 × Int := if ¬ checkFileL l = 0 then ([], checkFileL l) else showG l (l.length + 1) [] id
theorem nodup_len {α : Type} [DecidableEq α] : ∀ (l m : List α), l.Nodup → (∀ x ∈ l, x ∈ m) → l.length ≤ m.length
  | [], _, _, _ => Nat.zero_le _
  | x :: l, m, hn, hm => by
    obtain ⟨h1, h2⟩ := List.nodup_cons.1 hn
    have := nodup_len l (m.erase x) h2 fun y hy => by
      have hne : y ≠ x := fun e => h1 (e ▸ hy)
      exact (List.mem_erase_of_ne hne).2 (hm y (by simp [hy]))
    rw [List.length_erase_of_mem (hm x (by simp))] at this
    have h3 : 0 < m.length := List.length_pos_iff.2 (List.ne_nil_of_mem (hm x (by simp)))
    rw [List.length_cons]; omega
theorem fnd_mem {l : List Rcd} {s : List UInt8} (h : 0 ≤ fndL l s) : s ∈ l.map Rcd.id := by
  obtain ⟨h1, h2⟩ := fndL_ok h
  have := getD_memH (d := noRec) h1
  exact List.mem_map.2 ⟨_, this, h2.1⟩
/-- between the rounds -/
def shI (l : List Rcd) (R : List UInt8 × Int) (t : Nat × List (List UInt8) × List UInt8) : Prop := t.2.1.Nodup ∧ (∀ x ∈ t.2.1, x ∈ l.map Rcd.id) ∧ l.length + 1 ≤ t.1 + t.2.1.length ∧ R = showG l t.1 t.2.1 t.2.2
theorem shI_pos {l : List Rcd} {R : List UInt8 × Int} {t : Nat × List (List UInt8) × List UInt8} (h : shI l R t) : 1 ≤ t.1 ∧ t.2.1.length ≤ l.length := by
  have := nodup_len t.2.1 (l.map Rcd.id) h.1 h.2.1
  rw [List.length_map] at this
  have := h.2.2.1
  omega
theorem shI_s {l : List Rcd} {R : List UInt8 × Int} {f : Nat} {seen : List (List UInt8)} {id : List UInt8} (h : shI l R (f + 1, seen, id)) (h1 : 0 ≤ fndL l id) (h2 : ¬ seen.contains id = true) (h3 : (fndR l id).ki = 4) : shI l R (f, seen ++ [id], (fndR l id).ow) := by
  obtain ⟨a, b, c, d⟩ := h
  refine ⟨?_, fun x hx => ?_, ?_, ?_⟩
  · show (seen ++ [id]).Nodup
    rw [List.nodup_append]
    refine ⟨a, by simp, fun x hx y hy => ?_⟩
    simp only [List.mem_singleton] at hy
    subst hy
    exact fun e => h2 (by rw [List.contains_iff_mem]; exact e ▸ hx)
  · have hx : x ∈ seen ++ [id] := hx
    rcases List.mem_append.1 hx with hx | hx
    · exact b x hx
    · simp only [List.mem_singleton] at hx
      subst hx; exact fnd_mem h1
  · show l.length + 1 ≤ f + (seen ++ [id]).length
    have c : l.length + 1 ≤ f + 1 + seen.length := c
    rw [List.length_append, List.length_singleton]; omega
  · rw [d]
    show (if ¬ 0 ≤ fndL l id then _ else if _ then _ else if _ then _ else _) = _
    rw [if_neg (fun x => x h1), if_neg h2, if_neg (fun x => x h3)]
theorem shI_0 (l : List Rcd) (id : List UInt8) : shI l (showG l (l.length + 1) [] id) (l.length + 1, [], id) := ⟨List.nodup_nil, fun _ h => (by cases h), Nat.le_refl _, rfl⟩
theorem fnd_of_mem {l : List Rcd} {s : List UInt8} (h : s ∈ l.map Rcd.id) : 0 ≤ fndL l s := by
  obtain ⟨r, hr, rfl⟩ := List.mem_map.1 h
  unfold fndL
  cases hk : l.findIdx? (fun x => x.id == r.id) with
  | some k => simp only; omega
  | none =>
    rw [List.findIdx?_eq_none_iff] at hk
    have := hk r hr
    simp at this
theorem joinL_err {l : List Rcd} {s : List UInt8} (h : ¬ (joinL l s).2 = 0) : (joinL l s).1 = noRec := by
  unfold joinL at h ⊢
  split
  · rfl
  · rename_i h1
    rw [if_neg h1] at h
    unfold jnR at h ⊢
    split
    · rename_i h2; rw [if_pos h2] at h; exact absurd rfl h
    · rename_i h2
      rw [if_neg h2] at h
      split
      · rfl
      · rename_i h3
        rw [if_neg h3] at h
        cases hj : joinG (pcsL (fndR l s) s l) (numV (hdV (fndR l s) wPieces) - 1).toNat 2 (fndR l s).bd with
        | none => rfl
        | some b =>
          rw [hj] at h
          unfold jnE at h ⊢
          simp only at h ⊢
          split
          · rename_i h4; rw [if_pos h4] at h; exact absurd rfl h
          · rfl
def ckShown : Ck
  | [.sl n f, .str s] => some (isLs cRec n f ∧ recsOk (lsOf cRec n f), .tup [.sl (showL (lsOf cRec n f) s).1.length (byF (showL (lsOf cRec n f) s).1), .int .i64 (showL (lsOf cRec n f) s).2])
  | _ => none
def ckShown0 : Ck
  | [.sl n f, .str s] => some (isLs cRec n f ∧ recsOk (lsOf cRec n f) ∧ checkFileL (lsOf cRec n f) = 0, .tup [.sl (showL (lsOf cRec n f) s).1.length (byF (showL (lsOf cRec n f) s).1), .int .i64 (showL (lsOf cRec n f) s).2])
  | _ => none
def joinedL (l : List Rcd) (s : List UInt8) : Rcd × Int := if ¬ checkFileL l = 0 then (noRec, checkFileL l) else joinL l s
def ckJoinedX : Ck
  | [.sl n f, .str s] => some (isLs cRec n f ∧ recsOk (lsOf cRec n f), .tup [cRec.enc (joinedL (lsOf cRec n f) s).1, .int .i64 (joinedL (lsOf cRec n f) s).2])
  | _ => none

/- files of records -/
def decFile : V → List Rcd
  | .sl n f => lsOf cRec n f
  | _ => []
def cFile : Cod (List Rcd) := ⟨fun l => .sl l.length (lsF cRec l), decFile, [], fun l => lsOf_ls l⟩
@[push_cast] theorem enc_file (l : List Rcd) : cFile.enc l = .sl l.length (lsF cRec l) := rfl
@[push_cast] theorem dec_file (n : Nat) (f : Nat → V) : cFile.dec (.sl n f) = lsOf cRec n f := rfl
@[push_cast] theorem lsF_file (l : List (List Rcd)) (i : Nat) : lsF cFile l i = .sl (l.getD i []).length (lsF cRec (l.getD i [])) := rfl
/-- records divided: the closed files, the open one, and its length -/
def divGo (m : Int) : List (List Rcd) → List Rcd → Int → List Rcd → List (List Rcd)
  | g, c, _, [] => g ++ [c]
  | g, c, k, r :: t => if m < k + (recB r).length then divGo m (g ++ [c]) [r] (recB r).length t else divGo m g (c ++ [r]) (k + (recB r).length) t
def divOf (m : Int) : List Rcd → List (List Rcd)
  | [] => []
  | r :: t => divGo m [] [r] (recB r).length t
def divL (l : List Rcd) (m : Int) : List (List Rcd) := if checkFileL l = 0 ∧ 1 ≤ m ∧ m ≤ 500000 then divOf m l else []
def divE (l : List Rcd) (m : Int) : Int := if checkFileL l = 0 then (if 1 ≤ m ∧ m ≤ 500000 then 0 else 1) else checkFileL l
theorem fileB_len1 (r : Rcd) : (fileB [r]).length = (recB r).length := by simp [fileB]
theorem div_flat (m : Int) : ∀ (t : List Rcd) (g : List (List Rcd)) (c : List Rcd) (k : Int), (divGo m g c k t).flatten = g.flatten ++ c ++ t
  | [], g, c, k => by simp [divGo]
  | r :: t, g, c, k => by
    rw [divGo]
    split
    · rw [div_flat]; simp
    · rw [div_flat]; simp
theorem divOf_flat (m : Int) (l : List Rcd) : (divOf m l).flatten = l := by
  cases l with
  | nil => rfl
  | cons r t => show (divGo m [] [r] _ t).flatten = _; rw [div_flat]; simp
def fitF (m : Int) (c : List Rcd) : Prop := c ≠ [] ∧ (((fileB c).length : Int) ≤ m ∨ c.length ≤ 1)
theorem div_fit (m : Int) : ∀ (t : List Rcd) (g : List (List Rcd)) (c : List Rcd) (k : Int), (∀ x ∈ g, fitF m x) → fitF m c → k = ((fileB c).length : Int) → ∀ x ∈ divGo m g c k t, fitF m x
  | [], g, c, k, hg, hc, hk => by
    intro x hx
    rw [divGo, List.mem_append, List.mem_singleton] at hx
    rcases hx with h | rfl
    · exact hg x h
    · exact hc
  | r :: t, g, c, k, hg, hc, hk => by
    rw [divGo]
    split
    · refine div_fit m t _ _ _ (fun x hx => ?_) ⟨by simp, .inr (by simp)⟩ (by rw [fileB_len1])
      rcases List.mem_append.1 hx with h | h
      · exact hg x h
      · rw [List.mem_singleton.1 h]; exact hc
    · refine div_fit m t g _ _ hg ⟨by simp, .inl ?_⟩ ?_
      · rw [fileB_app, List.length_append, fileB_len1]; omega
      · rw [fileB_app, List.length_append, fileB_len1]; omega
theorem divOf_fit (m : Int) (l : List Rcd) : ∀ x ∈ divOf m l, fitF m x := by
  cases l with
  | nil => intro x hx; cases hx
  | cons r t => exact div_fit m t [] [r] _ (fun x hx => by cases hx) ⟨by simp, .inr (by simp)⟩ (by rw [fileB_len1])
/- a piece of a right file is right -/
theorem cfGo_len : ∀ {l : List Rcd} {s : List (List UInt8)} {m : Int}, cfGo s m l = 0 → ∀ {s' : List (List UInt8)} {m' : Int}, (∀ x ∈ s', x ∈ s) → m' ≤ m → cfGo s' m' l = 0
  | [], s, m, h, s', m', hs, hm => by
    rw [cfGo] at h ⊢
    split at h
    · omega
    · rw [if_neg (by omega)]
  | r :: t, s, m, h, s', m', hs, hm => by
    rw [cfGo] at h ⊢
    by_cases h1 : checkRecL r = 0
    · rw [if_neg (fun x => x h1)] at h ⊢
      by_cases h2 : s.contains r.id = true
      · rw [if_pos h2] at h; omega
      · rw [if_neg h2] at h
        rw [if_neg (fun x => h2 (by rw [List.contains_iff_mem] at x ⊢; exact hs _ x))]
        exact cfGo_len h (fun x hx => by
          rcases List.mem_append.1 hx with a | a
          · exact List.mem_append_left _ (hs x a)
          · exact List.mem_append_right _ a) (by omega)
    · rw [if_pos h1] at h; exact absurd h h1
theorem cfGo_l : ∀ {a b : List Rcd} {s : List (List UInt8)} {m : Int}, 0 ≤ m → cfGo s m (a ++ b) = 0 → cfGo s m a = 0
  | [], b, s, m, hm, h => by
    have := (cfGo_ok h).2
    rw [cfGo, if_neg (by omega)]
  | r :: t, b, s, m, hm, h => by
    rw [List.cons_append, cfGo] at h
    rw [cfGo]
    by_cases h1 : checkRecL r = 0
    · rw [if_neg (fun x => x h1)] at h ⊢
      by_cases h2 : s.contains r.id = true
      · rw [if_pos h2] at h; omega
      · rw [if_neg h2] at h ⊢
        exact cfGo_l (by omega) h
    · rw [if_pos h1] at h; exact absurd h h1
theorem cfGo_r : ∀ {a b : List Rcd} {s : List (List UInt8)} {m : Int}, 0 ≤ m → cfGo s m (a ++ b) = 0 → cfGo [] 0 b = 0
  | [], b, s, m, hm, h => cfGo_len h (fun x hx => by cases hx) hm
  | r :: t, b, s, m, hm, h => by
    rw [List.cons_append, cfGo] at h
    by_cases h1 : checkRecL r = 0
    · rw [if_neg (fun x => x h1)] at h
      by_cases h2 : s.contains r.id = true
      · rw [if_pos h2] at h; omega
      · rw [if_neg h2] at h
        exact cfGo_r (by omega) h
    · rw [if_pos h1] at h; exact absurd h h1
theorem file_piece {a b c : List Rcd} (h : checkFileL (a ++ b ++ c) = 0) : checkFileL b = 0 := by
  unfold checkFileL at h ⊢
  split at h
  · omega
  · rename_i hl
    simp only [List.length_append] at hl
    rw [if_neg (by omega)]
    rw [List.append_assoc] at h
    have h1 := cfGo_r (by omega) h
    exact cfGo_l (by omega) h1
theorem file_part {L : List (List Rcd)} (h : checkFileL L.flatten = 0) {x : List Rcd} (hx : x ∈ L) : checkFileL x = 0 := by
  obtain ⟨a, b, rfl⟩ := List.append_of_mem hx
  refine file_piece (a := a.flatten) (c := b.flatten) ?_
  simpa using h

/- the names of a right file are apart -/
theorem cf_nodup' : ∀ {l : List Rcd} {s : List (List UInt8)} {m : Int}, cfGo s m l = 0 → (∀ r ∈ l, s.contains r.id = false) ∧ (l.map Rcd.id).Nodup
  | [], s, m, h => ⟨fun r hr => (by cases hr), List.nodup_nil⟩
  | r :: t, s, m, h => by
    rw [cfGo] at h
    by_cases h1 : checkRecL r = 0
    · rw [if_neg (fun x => x h1)] at h
      by_cases h2 : s.contains r.id = true
      · rw [if_pos h2] at h; omega
      · rw [if_neg h2] at h
        obtain ⟨a, b⟩ := cf_nodup' h
        refine ⟨fun x hx => ?_, ?_⟩
        · rcases List.mem_cons.1 hx with rfl | hx
          · simpa using h2
          · have := a x hx
            simp only [Bool.eq_false_iff, ne_eq, List.contains_iff_mem, List.mem_append, not_or] at this ⊢
            exact this.1
        · rw [List.map_cons, List.nodup_cons]
          refine ⟨fun hm => ?_, b⟩
          obtain ⟨x, hx, e⟩ := List.mem_map.1 hm
          have := a x hx
          simp [e] at this
    · rw [if_pos h1] at h; exact absurd h h1
theorem file_apart {l : List Rcd} (h : checkFileL l = 0) {i j : Nat} (hi : i < l.length) (hj : j < l.length) (e : (l.getD i noRec).id = (l.getD j noRec).id) : i = j := by
  have hn : (l.map Rcd.id).Nodup := by
    unfold checkFileL at h
    split at h
    · omega
    · exact (cf_nodup' h).2
  rw [List.getD_eq_getElem?_getD, List.getD_eq_getElem?_getD, List.getElem?_eq_getElem hi, List.getElem?_eq_getElem hj] at e
  have := (List.getElem_inj (i := i) (j := j) (xs := l.map Rcd.id) (h₀ := by simpa using hi) (h₁ := by simpa using hj) hn).1
  exact this (by simpa using e)
/-- one record's step -/
def woS (s : List (List UInt8)) (r : Rcd) : List (List UInt8) := if s.contains r.id = false ∧ s.contains r.ow = true then s ++ [r.id] else s
/-- once over all records -/
def woP (s : List (List UInt8)) (l : List Rcd) : List (List UInt8) := l.foldl woS s
def woN (l : List Rcd) : Nat → List (List UInt8) → List (List UInt8)
  | 0, s => s
  | n + 1, s => woN l n (woP s l)
theorem woP_cons (s : List (List UInt8)) (r : Rcd) (t : List Rcd) : woP s (r :: t) = woP (woS s r) t := rfl
theorem woS_or (s : List (List UInt8)) (r : Rcd) : woS s r = s ∨ (s.contains r.id = false ∧ woS s r = s ++ [r.id]) := by
  unfold woS
  split
  · rename_i h; exact .inr ⟨h.1, rfl⟩
  · exact .inl rfl
theorem woS_sub (s : List (List UInt8)) (r : Rcd) {x : List UInt8} (h : s.contains x = true) : (woS s r).contains x = true := by
  rcases woS_or s r with e | ⟨_, e⟩ <;> rw [e]
  · exact h
  · rw [List.contains_iff_mem] at h ⊢; exact List.mem_append_left _ h
theorem woP_sub : ∀ (t : List Rcd) (s : List (List UInt8)) {x : List UInt8}, s.contains x = true → (woP s t).contains x = true
  | [], _, _, h => h
  | r :: t, s, _, h => woP_sub t _ (woS_sub s r h)
theorem woP_len : ∀ (t : List Rcd) (s : List (List UInt8)), s.length ≤ (woP s t).length
  | [], _ => Nat.le_refl _
  | r :: t, s => by
    rw [woP_cons]
    have := woP_len t (woS s r)
    rcases woS_or s r with e | ⟨_, e⟩ <;> rw [e] at this ⊢
    · exact this
    · simp at this; omega
theorem woP_same : ∀ (t : List Rcd) (s : List (List UInt8)), (woP s t).length = s.length → woP s t = s ∧ ∀ r ∈ t, woS s r = s
  | [], s, _ => ⟨rfl, fun r hr => by cases hr⟩
  | r :: t, s, h => by
    rw [woP_cons] at h ⊢
    have h2 := woP_len t (woS s r)
    rcases woS_or s r with e | ⟨_, e⟩
    · rw [e] at h h2 ⊢
      obtain ⟨a, b⟩ := woP_same t s h
      exact ⟨a, fun x hx => by rcases List.mem_cons.1 hx with rfl | hx; exact e; exact b x hx⟩
    · rw [e] at h h2; simp at h2; omega
/-- how many are not in -/
def woC (l : List Rcd) (s : List (List UInt8)) : Nat := (l.filter fun r => !s.contains r.id).length
theorem woC_le {l : List Rcd} {s s' : List (List UInt8)} (h : ∀ x, s.contains x = true → s'.contains x = true) : woC l s' ≤ woC l s := by
  unfold woC
  induction l with
  | nil => exact Nat.le_refl _
  | cons r t ih =>
    simp only [List.filter_cons]
    cases e : s.contains r.id with
    | true => rw [h _ e]; simpa using ih
    | false =>
      cases e' : s'.contains r.id
      · simp only [Bool.not_false, if_true, List.length_cons]; omega
      · simp only [Bool.not_false, Bool.not_true, if_true, List.length_cons, Bool.false_eq_true, if_false]; omega
theorem woC_lt {l : List Rcd} {s s' : List (List UInt8)} (h : ∀ x, s.contains x = true → s'.contains x = true) {r : Rcd} (hr : r ∈ l) (h1 : s.contains r.id = false) (h2 : s'.contains r.id = true) : woC l s' < woC l s := by
  obtain ⟨a, b, rfl⟩ := List.append_of_mem hr
  have ha := woC_le (l := a) h
  have hb := woC_le (l := b) h
  unfold woC at ha hb ⊢
  rw [List.filter_append, List.filter_append, List.length_append, List.length_append, List.filter_cons, List.filter_cons, h1, h2]
  simp only [Bool.not_true, Bool.not_false, if_true, List.length_cons]
  simp only [Bool.false_eq_true, if_false]
  omega
theorem woP_new : ∀ (t : List Rcd) (s : List (List UInt8)), (woP s t).length ≠ s.length → ∃ r ∈ t, s.contains r.id = false ∧ (woP s t).contains r.id = true
  | [], s, h => absurd rfl h
  | r :: t, s, h => by
    rw [woP_cons] at h ⊢
    rcases woS_or s r with e | ⟨e0, e⟩
    · rw [e] at h ⊢
      obtain ⟨x, hx, h1, h2⟩ := woP_new t s h
      exact ⟨x, List.mem_cons_of_mem _ hx, h1, h2⟩
    · exact ⟨r, by simp, e0, woP_sub t _ (by rw [e, List.contains_iff_mem]; simp)⟩
theorem woP_dec {l : List Rcd} {s : List (List UInt8)} (h : (woP s l).length ≠ s.length) : woC l (woP s l) < woC l s := by
  obtain ⟨r, hr, h1, h2⟩ := woP_new l s h
  exact woC_lt (fun x hx => woP_sub l s hx) hr h1 h2
theorem woN_fix {l : List Rcd} {s : List (List UInt8)} (h : woP s l = s) : ∀ n, woN l n s = s
  | 0 => rfl
  | n + 1 => by rw [woN, h]; exact woN_fix h n
theorem woN_end {l : List Rcd} : ∀ (n : Nat) (s : List (List UInt8)), woC l s ≤ n → woP (woN l n s) l = woN l n s
  | 0, s, h => by
    rw [woN]
    refine (woP_same l s ?_).1
    refine Classical.byContradiction fun hne => ?_
    have := woP_dec hne
    omega
  | n + 1, s, h => by
    rw [woN]
    by_cases e : (woP s l).length = s.length
    · rw [(woP_same l s e).1, woN_fix (woP_same l s e).1, (woP_same l s e).1]
    · exact woN_end n _ (by have := woP_dec e; omega)
theorem woN_comm (l : List Rcd) : ∀ (n : Nat) (s : List (List UInt8)), woN l (n + 1) s = woP (woN l n s) l
  | 0, s => rfl
  | n + 1, s => by rw [woN, woN_comm l n, ← woN]
theorem woC_len (l : List Rcd) (s : List (List UInt8)) : woC l s ≤ l.length := List.length_filter_le _ _
/-- all that is gone -/
def woA (l : List Rcd) (s : List (List UInt8)) : List (List UInt8) := woN l l.length s
theorem woA_step (l : List Rcd) (s : List (List UInt8)) : woA l (woP s l) = woA l s := by
  show woN l (l.length + 1) s = _
  rw [woN_comm]
  exact woN_end _ _ (woC_len l s)
theorem woA_fix (l : List Rcd) (s : List (List UInt8)) : woP (woA l s) l = woA l s := woN_end _ _ (woC_len l s)
theorem woN_sub {l : List Rcd} : ∀ (n : Nat) (s : List (List UInt8)) {x : List UInt8}, s.contains x = true → (woN l n s).contains x = true
  | 0, _, _, h => h
  | n + 1, s, _, h => woN_sub n _ (woP_sub l s h)
/-- the error of names, each of a record -/
def woE (l : List Rcd) : List (List UInt8) → Int
  | [] => 0
  | x :: t => if nameL x = true then (if 0 ≤ fndL l x then woE l t else 9) else 5
def woErr (l : List Rcd) (ids : List (List UInt8)) : Int := if checkFileL l = 0 then (if 1000 < ids.length then 2 else woE l ids) else checkFileL l
def woK (l : List Rcd) (s : List (List UInt8)) : List Rcd := l.filter fun r => !s.contains r.id
def woL (l : List Rcd) (ids : List (List UInt8)) : List Rcd := if woErr l ids = 0 then woK l (woA l ids) else []
theorem woE_ok : ∀ {l : List Rcd} {t : List (List UInt8)}, woE l t = 0 → ∀ x ∈ t, nameL x = true ∧ 0 ≤ fndL l x
  | l, [], _, x, hx => by cases hx
  | l, y :: t, h, x, hx => by
    rw [woE] at h
    split at h
    · split at h
      · rcases List.mem_cons.1 hx with rfl | hx
        · exact ⟨by assumption, by assumption⟩
        · exact woE_ok h x hx
      · cases h
    · cases h
/- marks by number -/
def WoR (l : List Rcd) (s : List (List UInt8)) (g : Nat → Bool) : Prop := (∀ i, i < l.length → g i = s.contains (l.getD i noRec).id) ∧ ∀ x ∈ s, 0 ≤ fndL l x
def setB (g : Nat → Bool) (i : Nat) : Nat → Bool := fun j => bif decide (j = i) then true else g j
theorem fndL_own {l : List Rcd} {i : Nat} (hi : i < l.length) : 0 ≤ fndL l (l.getD i noRec).id := by
  rw [fndL_in, List.contains_iff_mem, List.mem_map]
  exact ⟨l.getD i noRec, by rw [List.getD_eq_getElem?_getD, List.getElem?_eq_getElem hi]; exact List.getElem_mem hi, rfl⟩
theorem wor_put {l : List Rcd} (ha : ∀ i j, i < l.length → j < l.length → (l.getD i noRec).id = (l.getD j noRec).id → i = j) {s : List (List UInt8)} {g : Nat → Bool} (h : WoR l s g) {i : Nat} (hi : i < l.length) : WoR l (s ++ [(l.getD i noRec).id]) (setB g i) := by
  refine ⟨fun j hj => ?_, fun x hx => ?_⟩
  · unfold setB
    by_cases e : j = i
    · subst e
      rw [decide_eq_true rfl]
      exact (List.contains_iff_mem.2 (by simp)).symm
    · rw [decide_eq_false e, cond_false, h.1 j hj, Bool.eq_iff_iff, List.contains_iff_mem, List.contains_iff_mem, List.mem_append, List.mem_singleton]
      exact ⟨.inl, fun x => x.elim id fun q => absurd (ha j i hj hi q) e⟩
  · rcases List.mem_append.1 hx with hx | hx
    · exact h.2 x hx
    · rw [List.mem_singleton.1 hx]; exact fndL_own hi
theorem wor_same {l : List Rcd} {s : List (List UInt8)} {g : Nat → Bool} (h : WoR l s g) {i : Nat} (hi : i < l.length) (hc : s.contains (l.getD i noRec).id = true) : WoR l s (setB g i) := by
  refine ⟨fun j hj => ?_, h.2⟩
  unfold setB
  by_cases e : j = i
  · subst e; rw [decide_eq_true rfl, hc]; rfl
  · rw [decide_eq_false e]; exact h.1 j hj
theorem wor_ow {l : List Rcd} {s : List (List UInt8)} {g : Nat → Bool} (h : WoR l s g) (x : List UInt8) : s.contains x = true ↔ 0 ≤ fndL l x ∧ g (fndL l x).toNat = true := by
  constructor
  · intro hc
    have h0 := h.2 x (List.contains_iff_mem.1 hc)
    obtain ⟨a, b, _⟩ := fndL_ok h0
    exact ⟨h0, by rw [h.1 _ a, b]; exact hc⟩
  · rintro ⟨h0, hg⟩
    obtain ⟨a, b, _⟩ := fndL_ok h0
    rw [h.1 _ a, b] at hg
    exact hg
/-- the step of marks -/
theorem wor_step {l : List Rcd} (ha : ∀ i j, i < l.length → j < l.length → (l.getD i noRec).id = (l.getD j noRec).id → i = j) {s : List (List UInt8)} {g : Nat → Bool} (h : WoR l s g) {i : Nat} (hi : i < l.length) :
    (s.contains (l.getD i noRec).ow = true → WoR l (woS s (l.getD i noRec)) (setB g i)) ∧ (¬ s.contains (l.getD i noRec).ow = true → WoR l (woS s (l.getD i noRec)) g) := by
  refine ⟨fun hc => ?_, fun hc => ?_⟩
  · unfold woS
    by_cases e : s.contains (l.getD i noRec).id = true
    · rw [if_neg (by rw [e]; simp)]; exact wor_same h hi e
    · rw [if_pos ⟨by simpa using e, hc⟩]; exact wor_put ha h hi
  · unfold woS
    rw [if_neg (fun x => hc x.2)]; exact h
theorem woP_take {l : List Rcd} {s : List (List UInt8)} {i : Nat} (hi : i < l.length) : woP s (l.take (i + 1)) = woS (woP s (l.take i)) (l.getD i noRec) := by
  rw [takeG (d := noRec) hi]
  unfold woP
  rw [List.foldl_append]; rfl
/- what is kept, step by step -/
theorem woK_take {l : List Rcd} {s : List (List UInt8)} {i : Nat} (hi : i < l.length) : woK (l.take (i + 1)) s = if s.contains (l.getD i noRec).id = true then woK (l.take i) s else woK (l.take i) s ++ [l.getD i noRec] := by
  rw [takeG (d := noRec) hi]
  unfold woK
  rw [List.filter_append, List.filter_cons]
  cases s.contains (l.getD i noRec).id <;> simp
theorem woK_len (l : List Rcd) (s : List (List UInt8)) : (woK l s).length ≤ l.length := List.length_filter_le _ _
/- what the law says -/
theorem wo_none {l : List Rcd} {ids : List (List UInt8)} {x : Rcd} (hx : x ∈ woK l (woA l ids)) : ids.contains x.id = false := by
  unfold woK at hx
  rw [List.mem_filter] at hx
  cases e : ids.contains x.id with
  | false => rfl
  | true =>
    have := woN_sub (l := l) l.length ids e
    have h2 := hx.2
    unfold woA at h2
    rw [this] at h2; cases h2
theorem wo_of {l : List Rcd} {ids : List (List UInt8)} {x : Rcd} (hx : x ∈ woK l (woA l ids)) (h : 0 ≤ fndL l x.ow) : 0 ≤ fndL (woK l (woA l ids)) x.ow := by
  rw [fndL_in, List.contains_iff_mem, List.mem_map] at h ⊢
  obtain ⟨y, hy, e⟩ := h
  refine ⟨y, ?_, e⟩
  unfold woK at hx ⊢
  rw [List.mem_filter] at hx ⊢
  refine ⟨hy, ?_⟩
  cases hc : (woA l ids).contains y.id with
  | false => rfl
  | true =>
    have hf := (woP_same l (woA l ids) (by rw [woA_fix])).2 x hx.1
    have h1 : (woA l ids).contains x.id = false := by simpa using hx.2
    unfold woS at hf
    rw [if_pos ⟨h1, by rw [← e]; exact hc⟩] at hf
    have := congrArg List.length hf
    simp at this

theorem dig49 (v : List UInt8) : (digL v 4 = true → digL v 9 = true) ∧ (digL v 9 = true → digL v 4 = false → 10000 ≤ natOf v) := by
  unfold digL
  refine ⟨fun h => ?_, fun h h4 => ?_⟩
  · simp only [Bool.and_eq_true, decide_eq_true_eq] at h ⊢
    exact ⟨⟨⟨h.1.1.1, by omega⟩, h.1.2⟩, h.2⟩
  · simp only [Bool.and_eq_true, decide_eq_true_eq] at h
    obtain ⟨⟨⟨h1, h2⟩, h3⟩, h5⟩ := h
    rw [h3, h5, decide_eq_true h1] at h4
    simp only [Bool.true_and, Bool.and_true, decide_eq_false_iff_not] at h4
    apply Nat.le_of_not_lt
    intro hn
    have e := dec_natOf h3 h1 (by
      rw [Bool.or_eq_true, decide_eq_true_eq, beq_iff_eq] at h5
      rcases h5 with h5 | h5
      · exact .inl h5
      · rw [h5]; exact .inr rfl)
    have := dec_len 3 (natOf v) (by omega)
    rw [e] at this
    omega
def nb9 (v : List UInt8) : Int := if digL v 9 = true then natOf v else -1
theorem nb9_num (v : List UInt8) : ((2 ≤ nb9 v ∧ nb9 v ≤ 9999) ∧ nb9 v = numV v ∧ 2 ≤ numV v) ∨ (¬ (2 ≤ nb9 v ∧ nb9 v ≤ 9999) ∧ numV v < 2) := by
  obtain ⟨h1, h2⟩ := dig49 v
  have h3 := numV_le v
  unfold nb9
  unfold numV at *
  cases h4 : digL v 4 with
  | true =>
    rw [h1 h4]
    rw [h4] at h3
    simp only [if_true] at h3 ⊢
    by_cases hh : (2 : Int) ≤ natOf v
    · exact .inl ⟨⟨hh, by omega⟩, trivial, hh⟩
    · exact .inr ⟨fun x => hh x.1, by omega⟩
  | false =>
    simp only [Bool.false_eq_true, if_false]
    cases h9 : digL v 9 with
    | true =>
      have := h2 h9 h4
      simp only [if_true]
      exact .inr ⟨fun x => by omega, by omega⟩
    | false =>
      simp only [Bool.false_eq_true, if_false]
      exact .inr ⟨fun x => by omega, by omega⟩
theorem fst_cons (h : Hd) (t : List Hd) (w : List UInt8) : fstH (h :: t) w = if lowL h.name = w then 0 else if fstH t w < 0 then -1 else fstH t w + 1 := by
  unfold fstH
  rw [List.findIdx?_cons]
  by_cases e : lowL h.name = w
  · rw [if_pos e, if_pos (beq_iff_eq.2 e)]; rfl
  · rw [if_neg e, if_neg (fun x => e (beq_iff_eq.1 x))]
    cases t.findIdx? (fun h => lowL h.name == w) with
    | none => rfl
    | some k => simp only [Option.map_some]; rw [if_neg (by omega)]; rfl
/-- the values of a name, and its first head -/
theorem values_fst (w : List UInt8) : ∀ l : List Hd, (fstH l w < 0 ∧ valuesL l w = []) ∨ (0 ≤ fstH l w ∧ ∃ t, valuesL l w = (l.getD (fstH l w).toNat ⟨[], []⟩).value :: t)
  | [] => .inl ⟨show (-1 : Int) < 0 by decide, rfl⟩
  | h :: t => by
    rw [fst_cons]
    unfold valuesL
    rw [List.filter_cons]
    by_cases e : lowL h.name = w
    · rw [if_pos e, if_pos (beq_iff_eq.2 e)]
      exact .inr ⟨Int.le_refl _, _, rfl⟩
    · rw [if_neg e, if_neg (fun x => e (beq_iff_eq.1 x))]
      rcases values_fst w t with ⟨h1, h2⟩ | ⟨h1, t', h2⟩
      · rw [if_pos h1]; exact .inl ⟨by decide, h2⟩
      · rw [if_neg (by omega)]
        refine .inr ⟨by omega, t', ?_⟩
        rw [show (fstH t w + 1).toNat = (fstH t w).toNat + 1 by omega, List.getD_cons_succ]
        exact h2
theorem fst_at {l : List Hd} {w : List UInt8} {i : Nat} (h : i < l.length) (h0 : 0 ≤ fstH l w) : ((i : Int) < fstH l w → ¬ lowL (l.getD i ⟨[], []⟩).name = w) ∧ ((i : Int) = fstH l w → lowL (l.getD i ⟨[], []⟩).name = w) := by
  unfold fstH at *
  cases hk : l.findIdx? (fun h => lowL h.name == w) with
  | none => rw [hk] at h0; simp at h0
  | some k =>
    simp only
    obtain ⟨h1, h2, h3⟩ := List.findIdx?_eq_some_iff_getElem.1 hk
    rw [List.getD_eq_getElem?_getD, List.getElem?_eq_getElem h, Option.getD_some]
    refine ⟨fun hi => ?_, fun hi => ?_⟩
    · have := h3 i (by omega)
      simpa using this
    · have : i = k := by omega
      subst this
      simpa using h2
/-- all but one, up to a place -/
def eraT (l : List Hd) (k i : Nat) : List Hd := if i ≤ k then l.take i else (l.take i).eraseIdx k
theorem eraT_le {l : List Hd} {k i : Nat} (h : i < l.length) (hi : i < k) : eraT l k (i + 1) = eraT l k i ++ [l.getD i ⟨[], []⟩] := by
  unfold eraT
  rw [if_pos (by omega), if_pos (by omega), takeG (d := ⟨[], []⟩) h]
theorem eraT_eq {l : List Hd} {k : Nat} (h : k < l.length) : eraT l k (k + 1) = eraT l k k := by
  unfold eraT
  rw [if_neg (by omega), if_pos (Nat.le_refl _), takeG (d := ⟨[], []⟩) h]
  have e : (l.take k).length = k := by rw [List.length_take]; omega
  rw [List.eraseIdx_append_of_length_le (by omega), e, Nat.sub_self]
  simp
theorem eraT_gt {l : List Hd} {k i : Nat} (h : i < l.length) (hi : k < i) : eraT l k (i + 1) = eraT l k i ++ [l.getD i ⟨[], []⟩] := by
  unfold eraT
  rw [if_neg (by omega), if_neg (by omega), takeG (d := ⟨[], []⟩) h, List.eraseIdx_append_of_lt_length (by rw [List.length_take]; omega)]
theorem eraT_len (l : List Hd) (k i : Nat) : (eraT l k i).length ≤ i := by
  unfold eraT
  split
  · rw [List.length_take]; omega
  · have := List.length_eraseIdx_le (l := l.take i) k
    rw [List.length_take] at this; omega
theorem eraT_end {l : List Hd} {k i : Nat} (h : l.length ≤ i) (hk : k < l.length) : eraT l k i = l.eraseIdx k := by
  unfold eraT
  rw [if_neg (by omega), List.take_of_length_le h]
def flatB (l : List Rcd) : List UInt8 := (l.map Rcd.bd).flatten
theorem flatB_app (a : List Rcd) (x : Rcd) : flatB (a ++ [x]) = flatB a ++ x.bd := by unfold flatB; rw [List.map_append, List.flatten_append]; simp
/-- the number that the first head of a name is, or -1 -/
def nbG : List (List UInt8) → Int
  | [] => -1
  | v :: _ => if digL v 9 = true then natOf v else -1
theorem nb_iff {x : Rcd} {n : Int} (h2 : 2 ≤ n) (h9 : n ≤ 9999) : nbG (valuesL x.hd wNumber) = n ↔ 0 ≤ fstH x.hd wNumber ∧ nbV x = n := by
  rcases values_fst wNumber x.hd with ⟨v1, v2⟩ | ⟨v1, t, v2⟩
  · rw [v2]
    constructor
    · intro h; have h : (-1 : Int) = n := h; omega
    · intro h; omega
  · rw [v2]
    show nb9 (hdV x wNumber) = n ↔ _ ∧ numV (hdV x wNumber) = n
    rcases nb9_num (hdV x wNumber) with ⟨q1, q2, q3⟩ | ⟨q1, q2⟩
    · rw [q2]; exact ⟨fun h => ⟨v1, h⟩, fun h => h.2⟩
    · exact ⟨fun h => absurd ⟨by omega, by omega⟩ q1, fun h => by omega⟩
theorem pc_iff {r x : Rcd} {id : List UInt8} {n : Int} (h2 : 2 ≤ n) (h9 : n ≤ 9999) : (((((x.ki = 5 ∧ x.ow = id) ∧ x.ti = r.ti) ∧ x.ke = r.ke) ∧ nbG (valuesL x.hd wNumber) = n) ↔ (isPc r id x = true ∧ nbV x = n)) := by
  rw [nb_iff h2 h9, isPc_iff]
  constructor
  · rintro ⟨⟨⟨⟨a, b⟩, c⟩, d⟩, e, f⟩; exact ⟨⟨⟨⟨⟨a, b⟩, e⟩, c⟩, d⟩, f⟩
  · rintro ⟨⟨⟨⟨⟨a, b⟩, e⟩, c⟩, d⟩, f⟩; exact ⟨⟨⟨⟨a, b⟩, c⟩, d⟩, e, f⟩

/- what records show after some point to earlier ones -/
theorem revF_cases (l : List Rcd) (i : Nat) : revF l i = l.getD i noRec ∨ (candB l (l.getD i noRec) = true ∧ ∃ x, fstR l (l.take i) (l.getD i noRec) = some x ∧ revF l i = ⟨4, (l.getD i noRec).id, x.id, (l.getD i noRec).ti, (l.getD i noRec).ke, (l.getD i noRec).hd, []⟩) := by
  unfold revF revR
  by_cases hc : candB l (l.getD i noRec) = true
  · rw [if_pos hc]
    cases hf : fstR l (l.take i) (l.getD i noRec) with
    | none => exact .inl rfl
    | some x => exact .inr ⟨hc, x, rfl, rfl⟩
  · rw [if_neg hc]; exact .inl rfl
/-- the record that is pointed to -/
theorem fstR_at {l : List Rcd} {i : Nat} {r x : Rcd} (h : fstR l (l.take i) r = some x) (hi : i ≤ l.length) : ∃ e, e < i ∧ l.getD e noRec = x ∧ candB l x = true ∧ sameB x r = true ∧ revF l e = x := by
  unfold fstR at h
  obtain ⟨h1, pp, bs, h2, h3⟩ := List.find?_eq_some_iff_append.1 h
  simp only [Bool.and_eq_true] at h1
  have hlen : pp.length < i := by
    have := congrArg List.length h2
    rw [List.length_take, List.length_append, List.length_cons] at this
    omega
  have hx : l.getD pp.length noRec = x := by
    have e : (l.take i)[pp.length]? = some x := by rw [h2, List.getElem?_append_right (Nat.le_refl _), Nat.sub_self]; rfl
    rw [List.getElem?_take, if_pos hlen] at e
    rw [List.getD_eq_getElem?_getD, e]; rfl
  refine ⟨pp.length, hlen, hx, h1.1, h1.2, ?_⟩
  have ht : l.take pp.length = pp := by
    have : (l.take i).take pp.length = pp := by rw [h2, List.take_left]
    rw [List.take_take, Nat.min_eq_left (by omega)] at this
    exact this
  have hn : fstR l pp x = none := by
    unfold fstR
    rw [List.find?_eq_none]
    intro y hy
    have hy' := h3 y hy
    have hs := h1.2
    intro hc
    simp only [Bool.and_eq_true, Bool.not_eq_true'] at hc hy'
    unfold sameB at hs hc hy'
    simp only [Bool.and_eq_true, beq_iff_eq] at hs hc
    rw [hc.1, hc.2.1, hc.2.2, hs.1, hs.2] at hy'
    simp at hy'
  unfold revF revR
  rw [hx, if_pos h1.1, ht, hn]
theorem rev_ids (l : List Rcd) (i : Nat) : (revF l i).id = (l.getD i noRec).id ∧ (revF l i).ti = (l.getD i noRec).ti ∧ (revF l i).ke = (l.getD i noRec).ke ∧ (revF l i).hd = (l.getD i noRec).hd := by
  rcases revF_cases l i with h | ⟨-, x, -, h⟩
  · rw [h]; exact ⟨rfl, rfl, rfl, rfl⟩
  · rw [h]; exact ⟨rfl, rfl, rfl, rfl⟩
theorem rev_at {l : List Rcd} {i : Nat} (h : i < l.length) : (revL l).getD i noRec = revF l i := revL_at l h
theorem rev_fnd (l : List Rcd) (s : List UInt8) : fndL (revL l) s = fndL l s := by
  unfold fndL
  have : (revL l).findIdx? (fun r => r.id == s) = l.findIdx? (fun r => r.id == s) := by
    have e : ∀ L : List Rcd, L.findIdx? (fun r => r.id == s) = (L.map Rcd.id).findIdx? (fun x => x == s) := fun L => by
      rw [List.findIdx?_map]; rfl
    rw [e, e]
    congr 1
    apply List.ext_getElem
    · rw [List.length_map, List.length_map, revL_len]
    · intro n h1 h2
      rw [List.length_map] at h1 h2
      rw [List.getElem_map, List.getElem_map]
      have a := rev_at (l := l) h2
      rw [List.getD_eq_getElem?_getD, List.getElem?_eq_getElem h1] at a
      have a : (revL l)[n] = revF l n := a
      rw [a, (rev_ids l n).1, List.getD_eq_getElem?_getD, List.getElem?_eq_getElem h2]; rfl
  rw [this]
theorem fnd_at {l : List Rcd} (hf : checkFileL l = 0) {e : Nat} (he : e < l.length) : fndL l (l.getD e noRec).id = e := by
  refine fndL_at he rfl fun j hj h => ?_
  have := file_apart hf (by omega) he h
  omega
theorem filter_rel {p : Rcd → Bool} : ∀ {a b : List Rcd}, a.length = b.length → (∀ i, i < a.length → p (a.getD i noRec) = p (b.getD i noRec) ∧ (p (b.getD i noRec) = true → a.getD i noRec = b.getD i noRec)) → a.filter p = b.filter p
  | [], [], _, _ => rfl
  | [], _ :: _, h, _ => by simp at h
  | _ :: _, [], h, _ => by simp at h
  | x :: a, y :: b, h, hp => by
    have h0 := hp 0 (by simp)
    have ih := filter_rel (p := p) (a := a) (b := b) (by simpa using h) fun i hi => by
      have := hp (i + 1) (by simpa using hi)
      simpa using this
    simp only [List.getD_cons_zero] at h0
    rw [List.filter_cons, List.filter_cons, ih, h0.1]
    by_cases c : p y = true
    · rw [if_pos c, if_pos c, h0.2 c]
    · rw [if_neg c, if_neg c]
theorem rev_pcs (l : List Rcd) (r : Rcd) (id : List UInt8) (n : Int) : pcsL r id (revL l) n = pcsL r id l n := by
  unfold pcsL
  refine filter_rel (revL_len l) fun i hi => ?_
  rw [revL_len] at hi
  rw [rev_at hi]
  rcases revF_cases l i with h | ⟨hc, x, -, h⟩
  · rw [h]; exact ⟨rfl, fun _ => rfl⟩
  · have k3 : (l.getD i noRec).ki = 3 := by
      unfold candB at hc
      simp only [Bool.and_eq_true, decide_eq_true_eq] at hc
      exact hc.1.1.1.1
    have no : ∀ y : Rcd, y.ki ≠ 5 → (isPc r id y && decide (nbV y = n)) = false := fun y hy => by
      rw [Bool.and_eq_false_iff]
      left
      rw [← Bool.not_eq_true, isPc_iff]
      exact fun h => hy h.1.1.1.1
    rw [no _ (by rw [h]; show (4 : Int) ≠ 5; decide), no _ (by rw [k3]; decide)]
    exact ⟨rfl, fun h => by cases h⟩
theorem rev_join {l : List Rcd} {id : List UInt8} (h : fndR (revL l) id = fndR l id) : joinL (revL l) id = joinL l id := by
  have : pcsL (fndR l id) id (revL l) = pcsL (fndR l id) id l := funext fun n => rev_pcs l _ _ n
  unfold joinL jnR
  rw [rev_fnd, h, this]
theorem rev_fndR {l : List Rcd} {s : List UInt8} (h : 0 ≤ fndL l s) : fndR (revL l) s = revF l (fndL l s).toNat ∧ fndR l s = l.getD (fndL l s).toNat noRec := by
  unfold fndR
  rw [rev_fnd, if_pos h, if_pos h, rev_at (fndL_ok h).1]
  exact ⟨rfl, rfl⟩
/-- an answer by itself -/
theorem cand_join {l : List Rcd} {s : List UInt8} (h : 0 ≤ fndL l s) (hc : candB l (fndR l s) = true) : joinL l s = (fndR l s, 0) := by
  unfold candB at hc
  simp only [Bool.and_eq_true, decide_eq_true_eq, Bool.not_eq_true'] at hc
  have k3 := hc.1.1.1.1
  have hp : ¬ 0 ≤ fstH (fndR l s).hd wPieces := by
    rw [fstH_any]
    have : pieB (fndR l s) = false := hc.2
    unfold pieB at this
    rw [this]; simp
  unfold joinL
  rw [if_neg (fun x => x.elim (fun y => y h) (by rw [k3]; decide))]
  unfold jnR
  rw [if_pos (by omega)]
theorem rev_show {l : List Rcd} (hf : checkFileL l = 0) : ∀ (f : Nat) (seen : List (List UInt8)) (id : List UInt8), seen.Nodup → (∀ s ∈ seen, 0 ≤ fndL l s ∧ (fndR l s).ki = 4) → l.length + 1 ≤ f + seen.length → showG (revL l) f seen id = showG l f seen id
  | 0, seen, id, h1, h2, h3 => rfl
  | f + 1, seen, id, h1, h2, h3 => by
    unfold showG
    rw [rev_fnd]
    by_cases h0 : 0 ≤ fndL l id
    · rw [if_neg (show ¬ ¬ 0 ≤ fndL l id from fun x => x h0), if_neg (show ¬ ¬ 0 ≤ fndL l id from fun x => x h0)]
      by_cases hs : seen.contains id = true
      · rw [if_pos hs, if_pos hs]
      · rw [if_neg hs, if_neg hs]
        obtain ⟨e1, e2⟩ := rev_fndR h0
        obtain ⟨b1, b2, -⟩ := fndL_ok h0
        have hmem : ∀ s ∈ seen, s ∈ l.map Rcd.id := fun s h => fnd_mem (h2 s h).1
        have hnd : (seen ++ [id]).Nodup := by
          rw [List.nodup_append]
          refine ⟨h1, by simp, fun x hx y hy => ?_⟩
          simp only [List.mem_singleton] at hy
          subst hy
          exact fun e => hs (by rw [List.contains_iff_mem]; exact e ▸ hx)
        generalize hj : (fndL l id).toNat = j at *
        rcases revF_cases l j with h | ⟨hc, x, hx, h⟩
        · have eR : fndR (revL l) id = fndR l id := by rw [e1, e2, h]
          rw [rev_join eR, eR]
          by_cases k4 : (fndR l id).ki = 4
          · rw [if_neg (show ¬ ¬ (fndR l id).ki = 4 from fun x => x k4), if_neg (show ¬ ¬ (fndR l id).ki = 4 from fun x => x k4)]
            refine rev_show hf f (seen ++ [id]) _ hnd (fun s hs2 => ?_) (by rw [List.length_append, List.length_singleton]; omega)
            rcases List.mem_append.1 hs2 with h | h
            · exact h2 s h
            · simp only [List.mem_singleton] at h
              subst h; exact ⟨h0, k4⟩
          · rw [if_pos (show ¬ (fndR l id).ki = 4 from k4), if_pos (show ¬ (fndR l id).ki = 4 from k4)]
        · have k3 : (fndR l id).ki = 3 := by
            rw [e2]
            unfold candB at hc
            simp only [Bool.and_eq_true, decide_eq_true_eq] at hc
            exact hc.1.1.1.1
          have hJ : joinL l id = (fndR l id, 0) := cand_join h0 (by rw [e2]; exact hc)
          rw [if_pos (show ¬ (fndR l id).ki = 4 by rw [k3]; decide), hJ]
          have k4 : (fndR (revL l) id).ki = 4 := by rw [e1, h]
          have ow : (fndR (revL l) id).ow = x.id := by rw [e1, h]
          rw [if_neg (show ¬ ¬ (fndR (revL l) id).ki = 4 from fun x => x k4), ow]
          obtain ⟨e, he, hex, hxc, hxs, hxr⟩ := fstR_at hx (by omega)
          have hel : e < l.length := by omega
          have f0 : fndL l x.id = e := by rw [← hex]; exact fnd_at hf hel
          have f1 : 0 ≤ fndL l x.id := by omega
          obtain ⟨g1, g2⟩ := rev_fndR f1
          rw [f0, Int.toNat_natCast, hxr] at g1
          rw [f0, Int.toNat_natCast, hex] at g2
          have x3 : x.ki = 3 := by
            unfold candB at hxc
            simp only [Bool.and_eq_true, decide_eq_true_eq] at hxc
            exact hxc.1.1.1.1
          have hlen := nodup_len (seen ++ [id]) (l.map Rcd.id) hnd fun s hs2 => by
            rcases List.mem_append.1 hs2 with h | h
            · exact hmem s h
            · simp only [List.mem_singleton] at h
              subst h; exact fnd_mem h0
          rw [List.length_map, List.length_append, List.length_singleton] at hlen
          obtain ⟨f', rfl⟩ : ∃ f', f = f' + 1 := ⟨f - 1, by omega⟩
          unfold showG
          rw [rev_fnd, if_neg (fun y => y f1)]
          have hns : ¬ (seen ++ [id]).contains x.id = true := by
            rw [List.contains_iff_mem]
            intro hm
            rcases List.mem_append.1 hm with h | h
            · have := (h2 _ h).2
              rw [g2, x3] at this
              exact absurd this (by decide)
            · simp only [List.mem_singleton] at h
              rw [h] at f0
              omega
          rw [if_neg hns, if_pos (by rw [g1, x3]; decide), rev_join (by rw [g1, g2]), cand_join f1 (by rw [g2]; exact hxc), g2, e2]
          unfold sameB at hxs
          simp only [Bool.and_eq_true, beq_iff_eq] at hxs
          rw [hxs.2]
    · rw [if_pos (show ¬ 0 ≤ fndL l id from h0), if_pos (show ¬ 0 ≤ fndL l id from h0)]
theorem rev_shows {l : List Rcd} (hf : checkFileL l = 0) (hx : checkFileL (revL l) = 0) (id : List UInt8) : showL (revL l) id = showL l id := by
  unfold showL
  rw [if_neg (fun x => x hx), if_neg (fun x => x hf), revL_len]
  exact rev_show hf _ [] id List.nodup_nil (fun s h => by cases h) (by simp)
theorem rev_points {l : List Rcd} (hf : checkFileL l = 0) {i : Nat} (hi : i < l.length) (h : ¬ (revF l i).ki = (l.getD i noRec).ki) : (revF l i).ki = 4 ∧ ∃ e : Nat, fndL (revL l) (revF l i).ow = e ∧ e < i ∧ (revF l e).ki = 3 ∧ (revF l e).ke = (revF l i).ke := by
  rcases revF_cases l i with h1 | ⟨hc, x, hx, h1⟩
  · rw [h1] at h; exact absurd rfl h
  · obtain ⟨e, he, hex, hxc, hxs, hxr⟩ := fstR_at hx (by omega)
    rw [h1]
    refine ⟨rfl, e, ?_, he, ?_, ?_⟩
    · rw [rev_fnd]
      show fndL l x.id = e
      rw [← hex]; exact fnd_at hf (by omega)
    · rw [hxr]
      unfold candB at hxc
      simp only [Bool.and_eq_true, decide_eq_true_eq] at hxc
      exact hxc.1.1.1.1
    · rw [hxr]
      unfold sameB at hxs
      simp only [Bool.and_eq_true, beq_iff_eq] at hxs
      exact hxs.1
theorem rev_recOk {l : List Rcd} (h : recsOk l) {i : Nat} (hi : i < l.length) : recOk (revF l i) := by
  have ok := recsOk_at h hi
  rcases revF_cases l i with h1 | ⟨hc, x, hx, h1⟩
  · rw [h1]; exact ok
  · obtain ⟨e, he, hex, -⟩ := fstR_at hx (by omega)
    have okx := recsOk_at h (show e < l.length by omega)
    rw [hex] at okx
    rw [h1]
    exact ⟨ok.1, ok.2.1, okx.2.1, ok.2.2.2.1, ok.2.2.2.2.1, Nat.zero_le _, ok.2.2.2.2.2.2.1, ok.2.2.2.2.2.2.2.1, by show (-9223372036854775808 : Int) ≤ 4; omega, by show (4 : Int) ≤ _; omega⟩
theorem rev_recsOk {l : List Rcd} (h : recsOk l) : recsOk (revL l) := fun r hr => by
  unfold revL at hr
  obtain ⟨i, hi, rfl⟩ := List.mem_map.1 hr
  exact rev_recOk h (List.mem_range.1 hi)

end Go.Abs
