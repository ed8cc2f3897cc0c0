/- what functions of this program compute: contracts, each a function's own -/
import Derived.Test.YtcbkpkcmbijipaaGreatDoorAbsK3
import Derived.Test.YtcbkpkcmbijipaaGreatDoorAbsFacts
import Derived.Test.YtcbkpkcmbijipaaGreatDoorAbsF4
import Derived.Test.YtcbkpkcmbijipaaGreatDoorAbsShelf
import Derived.Lib.SlTrimSet
import Derived.Lib.Atoi
import Derived.Lib.Itoa
import Derived.Lib.ItoaNum
import Derived.Lib.AtoiErrMem
import Derived.Lib.Repeat
import Derived.Lib.ItoaLen
import Derived.Lib.Fold
namespace Go.Abs
open Go Go.Proofs
set_option maxHeartbeats 4000000
set_option maxRecDepth 100000
set_option linter.unusedVariables false
set_option linter.unusedSimpArgs false
def ckCloneHdN : List V → Option (Prop × V × Blk)
  | [.sl n f] => some (isLs cHd n f ∧ n ≤ 1000000000000, .vec 8999 n, .vec 2 n f)
  | _ => none
theorem conCloneHdN : NCon pg 33 ckCloneHdN := by
  have hct := ctN_ok pg
  intro args q r nb h hq
  unfold ckCloneHdN at h
  split at h
  · cases h
    rename_i n f
    by_cases hn : n = 0
    · subst hn
      refine ncall_nil1 fun a c => ?_
      cases a
      · refine nw33 (fun d => decide (d < 9999)) [.nv 2 8999 2 f] rfl hct rfl rfl ?_ ?_
        · simp [noIdB]
        push_cast (config := { maxSteps := 10000000 })
      · refine nw33 (fun d => decide (d < 9999)) [.ren 5 8999] rfl hct rfl rfl ?_ ?_
        · simp [noIdB]
        push_cast (config := { maxSteps := 10000000 })
    · obtain ⟨h1, h2⟩ := hq
      refine nw33 (fun d => decide (d < 9999)) [.ren 5 8999] rfl hct rfl rfl ?_ ?_
      · intro i hi; show V.noIdL (f i).flat = true; rw [h1.2 i hi]; rfl
      push_cast (config := { maxSteps := 10000000 })
      exact ⟨by omega, ⟨h1.flat (fun _ => rfl), by omega, by omega⟩, fun i hi => by rw [h1.2 i hi]; rfl⟩
  · cases h
attribute [push_cast] ckCloneHdN
theorem eraseH (l : List Hd) (a j : Nat) : (l.eraseIdx a).getD j ⟨[], []⟩ = if j < a then l.getD j ⟨[], []⟩ else l.getD (j + 1) ⟨[], []⟩ := by
  rw [List.getD_eq_getElem?_getD, List.getD_eq_getElem?_getD, List.getD_eq_getElem?_getD, List.getElem?_eraseIdx]
  split <;> rfl
theorem delFH {l : List Hd} {a : Nat} (ha : a < l.length) (Z : Nat → V) {q m : Nat} (hq : q = l.length - 1) (hm : m = 1) : (∀ i, i < l.length - 1 → insF (insF (lsF cHd l) a (l.length - (a + 1)) (shF (lsF cHd l) (a + 1))) q m Z i = lsF cHd (l.eraseIdx a) i) ∧ insF (insF (lsF cHd l) a (l.length - (a + 1)) (shF (lsF cHd l) (a + 1))) q m Z (l.length - 1) = Z 0 := by
  subst hq hm
  refine ⟨fun i hi => ?_, ?_⟩
  · rw [insF_out (.inl hi)]
    by_cases h : i < a
    · rw [insF_out (.inl h)]
      show cHd.enc _ = cHd.enc _
      rw [show cHd.d = (⟨[], []⟩ : Hd) from rfl, eraseH, if_pos h]
    · rw [insF_in (by omega) (by omega)]
      unfold shF
      show cHd.enc _ = cHd.enc _
      rw [show cHd.d = (⟨[], []⟩ : Hd) from rfl, eraseH, if_neg h, show i - a + (a + 1) = i + 1 by omega]
  · rw [insF_in (Nat.le_refl _) (by omega), Nat.sub_self]
def ckDelHK : List V → List Blk → Option (Prop × V × List Blk)
  | [.vec 32 n, .int .i64 a, .int .i64 c], [.vec 2 k f] => some (k = n ∧ isLs cHd n f ∧ 0 ≤ a ∧ a < n ∧ c = a + 1 ∧ n ≤ 1000000, .sl (n - 1) (lsF cHd ((lsOf cHd n f).eraseIdx a.toNat)), [])
  | _, _ => none
def ckDelH : Cf := ⟨fun | [.vec 32 _, _, _] => [32] | _ => [], ckDelHK⟩
theorem conDelH : FCon pg 60 ckDelH := by
  have hct := ctN_ok pg
  intro args bs q r bs' h hq
  replace h : ckDelHK args bs = some (q, r, bs') := h
  unfold ckDelHK at h
  split at h
  · cases h
    rename_i n a c k f
    refine ⟨rfl, Nat.zero_le _, ?_⟩
    obtain ⟨rfl, hf, ha0, han, rfl, hn⟩ := hq
    show FCall pg 60 [.vec (9032) k, .int .i64 a, .int .i64 (a + 1)] [(9032, .vec 2 k fun j => V.shift (f j))] (.sl (k - 1) (lsF cHd ((lsOf cHd k f).eraseIdx a.toNat))) []
    refine fcall_blk (hm := [(9032, .vec 2 (lsOf cHd k f).length (lsF cHd (lsOf cHd k f)))]) ⟨rfl, ⟨rfl, (lsOf_len k f).symm, fun j hj => by show V.shift (f j) = _; rw [hf.2 j hj]; rfl⟩, trivial⟩ ?_
    have hk := lsOf_len (c := cHd) k f
    generalize lsOf cHd k f = l at hk ⊢
    subst hk
    obtain ⟨a, rfl⟩ : ∃ m : Nat, a = m := ⟨a.toNat, by omega⟩
    rw [Int.toNat_natCast]
    have ha : a < l.length := by omega
    refine fw60 (fun d => decide (d < 9999)) [.frz 9032] rfl hct rfl (by simp) trivial rfl ?_
    push_cast (config := { maxSteps := 10000000 })
    have e1 : ((a : Int) + ((l.length - (a + 1) : Nat) : Int)).toNat = l.length - 1 := by omega
    have e2 : l.length - ((a : Int) + ((l.length - (a + 1) : Nat) : Int)).toNat = 1 := by omega
    refine ⟨⟨Nat.le_refl _, ⟨by omega, by omega⟩, by omega, by omega, by omega⟩, fun h => by omega, fun _ => ⟨by omega, ⟨⟨by omega, by omega⟩, by omega⟩, by omega, ⟨Nat.le_refl _, ⟨by omega, by omega⟩, by omega⟩, fun i hi => ?_, by omega, fun i hi => ?_⟩⟩
    · by_cases h : i < l.length - 1
      · exact (congrArg V.isPure ((delFH ha _ e1 e2).1 i h)).trans rfl
      · obtain rfl : i = l.length - 1 := by omega
        exact (congrArg V.isPure (delFH ha _ e1 e2).2).trans rfl
    · exact (delFH ha _ e1 e2).1 i (by omega)
  · cases h
@[push_cast] theorem delH_ids (n : Nat) (x y : V) : ckDelH.ids [.vec 32 n, x, y] = [32] := rfl
@[push_cast] theorem delH_k (n k : Nat) (a c : Int) (f : Nat → V) : ckDelH.k [.vec 32 n, .int .i64 a, .int .i64 c] [.vec 2 k f] = some (k = n ∧ isLs cHd n f ∧ 0 ≤ a ∧ a < n ∧ c = a + 1 ∧ n ≤ 1000000, .sl (n - 1) (lsF cHd ((lsOf cHd n f).eraseIdx a.toNat)), []) := rfl
/-- the number that a head says; 0: none that counts -/
def numV (s : List UInt8) : Int := if digL s 4 = true then natOf s else 0
def ckNumber : Ck
  | [.str s] => some (s.length ≤ 140737488355328, .int .i64 (numV s))
  | _ => none
theorem conNumber : Con pg 59 ckNumber := by
  have hct := (ctA_ok conDigits (ctA_ok conAtoi (ctN_ok _)))
  intro args q r h hq
  unfold ckNumber at h
  split at h
  · cases h
    rename_i s
    refine w59 (fun _ => false) [] rfl hct rfl rfl ?_
    push_cast (config := { maxSteps := 10000000 })
    refine ⟨by omega, fun h => by unfold numV; rw [if_neg (by rw [h]; exact Bool.false_ne_true)], fun h => ?_⟩
    have e : numV s = natOf s := by unfold numV; rw [if_pos h]
    unfold digL at h
    simp only [Bool.and_eq_true, decide_eq_true_eq] at h
    exact ⟨⟨h.1.1.1, by omega, h.1.2⟩, e.symm⟩
  · cases h
attribute [push_cast] ckNumber

/- pieces of a record -/
def wNumber : List UInt8 := [110, 117, 109, 98, 101, 114]
def hdV (x : Rcd) (w : List UInt8) : List UInt8 := (x.hd.getD (fstH x.hd w).toNat ⟨[], []⟩).value
def isPc (r : Rcd) (id : List UInt8) (x : Rcd) : Bool := (((decide (x.ki = 5) && decide (x.ow = id)) && decide (0 ≤ fstH x.hd wNumber)) && decide (x.ti = r.ti)) && decide (x.ke = r.ke)
def nbV (x : Rcd) : Int := numV (hdV x wNumber)
def pcsL (r : Rcd) (id : List UInt8) (l : List Rcd) (n : Int) : List Rcd := l.filter fun x => isPc r id x && decide (nbV x = n)
/-- the rows of a map of records -/
def rowsR (q : Int → List Rcd) : Rws := fun k => match k with
  | .int .i64 n => if q n = [] then none else some ((q n).length, lsF cRec (q n))
  | _ => none
theorem rowsR_no {q : Int → List Rcd} (h : ∀ n, q n = []) : rowsR q = fun _ => none := by
  funext k
  unfold rowsR
  split
  · rw [if_pos (h _)]
  · rfl
theorem rowsR_other {q q' : Int → List Rcd} {n : Int} (h : ∀ m, m ≠ n → q' m = q m) {k : MK} (hk : k ≠ .int .i64 n) : rowsR q' k = rowsR q k := by
  unfold rowsR
  split
  · rename_i m
    rw [h m (fun e => hk (by rw [e]))]
  · rfl
theorem fstH_lt (l : List Hd) (w : List UInt8) : 0 ≤ fstH l w → fstH l w < l.length := by
  unfold fstH
  split
  · rename_i k hk
    have := (List.findIdx?_eq_some_iff_getElem.1 hk).1
    intro _; omega
  · intro h; omega
theorem pcsL_s (r : Rcd) (id : List UInt8) (l : List Rcd) {i : Nat} (h : i < l.length) (n : Int) : pcsL r id (l.take (i + 1)) n = pcsL r id (l.take i) n ++ (if isPc r id (l.getD i noRec) = true ∧ nbV (l.getD i noRec) = n then [l.getD i noRec] else []) := by
  unfold pcsL
  rw [takeG (d := noRec) h, List.filter_append]
  congr 1
  by_cases c : isPc r id (l.getD i noRec) = true ∧ nbV (l.getD i noRec) = n
  · rw [if_pos c, List.filter_cons, if_pos (by rw [c.1, decide_eq_true c.2]; rfl)]; rfl
  · rw [if_neg c, List.filter_cons, if_neg (by simpa using c)]; rfl
theorem pcsL_in {r : Rcd} {id : List UInt8} {l : List Rcd} {i : Nat} (h : i < l.length) {x : Rcd} (hx : l.getD i noRec = x) (hp : isPc r id x = true) : pcsL r id (l.take (i + 1)) (nbV x) = pcsL r id (l.take i) (nbV x) ++ [x] ∧ ∀ m, m ≠ nbV x → pcsL r id (l.take (i + 1)) m = pcsL r id (l.take i) m := by
  refine ⟨?_, fun m hm => ?_⟩
  · rw [pcsL_s r id l h, hx, if_pos ⟨hp, rfl⟩]
  · rw [pcsL_s r id l h, hx, if_neg (fun e => hm e.2.symm), List.append_nil]
theorem pcsL_out {r : Rcd} {id : List UInt8} {l : List Rcd} {i : Nat} (h : i < l.length) {x : Rcd} (hx : l.getD i noRec = x) (hp : ¬ isPc r id x = true) : pcsL r id (l.take (i + 1)) = pcsL r id (l.take i) := by
  funext m
  rw [pcsL_s r id l h, hx, if_neg (fun e => hp e.1), List.append_nil]
theorem isPc_iff {r : Rcd} {id : List UInt8} {x : Rcd} : isPc r id x = true ↔ (((x.ki = 5 ∧ x.ow = id) ∧ 0 ≤ fstH x.hd wNumber) ∧ x.ti = r.ti) ∧ x.ke = r.ke := by
  unfold isPc
  simp only [Bool.and_eq_true, decide_eq_true_eq]
@[push_cast] theorem okL_sl (q : Int → List Rcd) (k : MK) : okL (slM (rowsR q) k) = True := by
  refine eq_true ?_
  unfold slM
  cases rowsR q k <;> exact trivial
@[push_cast] theorem asN_sl (q : Int → List Rcd) (n : Int) : asN (slM (rowsR q) (.int .i64 n)) = (q n).length := by
  unfold slM rowsR
  simp only
  by_cases h : q n = []
  · rw [if_pos h, h]; rfl
  · rw [if_neg h]; rfl
theorem asF_sl {q : Int → List Rcd} {n : Int} {x : Rcd} (h : q n = [x]) : asF (slM (rowsR q) (.int .i64 n)) = lsF cRec [x] := by
  unfold slM rowsR
  simp only [h]
  rw [if_neg (by simp)]; rfl
/-- the blocks of the pieces n .. many are put behind -/
def joinG (q : Int → List Rcd) : Nat → Int → List UInt8 → Option (List UInt8)
  | 0, _, b => some b
  | k + 1, n, b => if (q n).length = 1 then joinG q k (n + 1) (b ++ ((q n).getD 0 noRec).bd) else none
def jnX (r : Rcd) (b : List UInt8) : Rcd := ⟨r.ki, r.id, r.ow, r.ti, r.ke, r.hd.eraseIdx (fstH r.hd wPieces).toNat, b⟩
def jnE (r : Rcd) : Option (List UInt8) → Rcd × Int
  | none => (noRec, 9)
  | some b => if checkRecL (jnX r b) = 0 then (jnX r b, 0) else (noRec, checkRecL (jnX r b))
def jnR (l : List Rcd) (id : List UInt8) (r : Rcd) : Rcd × Int :=
  if fstH r.hd wPieces < 0 then (r, 0)
  else if numV (hdV r wPieces) < 2 then (noRec, 3)
  else jnE r (joinG (pcsL r id l) (numV (hdV r wPieces) - 1).toNat 2 r.bd)
def joinL (l : List Rcd) (id : List UInt8) : Rcd × Int := if ¬ 0 ≤ fndL l id ∨ (fndR l id).ki = 5 then (noRec, 9) else jnR l id (fndR l id)
theorem numV_le (s : List UInt8) : 0 ≤ numV s ∧ numV s ≤ 9999 := by
  unfold numV
  split
  · rename_i h
    unfold digL at h
    simp only [Bool.and_eq_true, decide_eq_true_eq] at h
    have h1 := natOf_lt s h.1.2
    have h2 : s.length ≤ 4 := by omega
    have h3 : (10 : Nat) ^ s.length ≤ 10 ^ 4 := Nat.pow_le_pow_right (by decide) h2
    have h4 : (10 : Nat) ^ 4 = 10000 := rfl
    omega
  · omega
theorem pcsL_mem {r : Rcd} {id : List UInt8} {l : List Rcd} {n : Int} {x : Rcd} (h : x ∈ pcsL r id l n) : x ∈ l := (List.mem_filter.1 h).1
theorem jnX_ok {r : Rcd} {b : List UInt8} (h : recOk r) (hb : b.length ≤ 140737488355328) : recOk (jnX r b) := by
  obtain ⟨h1, h2, h3, h4, h5, h6, h7⟩ := h
  refine ⟨fun x hx => h1 x (List.mem_of_mem_eraseIdx hx), h2, h3, h4, ?_, hb, h7⟩
  have := List.length_eraseIdx_le (l := r.hd) (fstH r.hd wPieces).toNat
  exact Nat.le_trans this h5
def ckJoined : Ck
  | [.sl n f, .str s] => some (isLs cRec n f ∧ recsOk (lsOf cRec n f) ∧ checkFileL (lsOf cRec n f) = 0, .tup [cRec.enc (joinL (lsOf cRec n f) s).1, .int .i64 (joinL (lsOf cRec n f) s).2])
  | _ => none
attribute [push_cast] ckJoined

theorem dig49 (v : List UInt8) : (digL v 4 = true → digL v 9 = true) ∧ (digL v 9 = true → digL v 4 = false → 10000 ≤ natOf v) := by
  unfold digL
  refine ⟨fun h => ?_, fun h h4 => ?_⟩
  · simp only [Bool.and_eq_true, decide_eq_true_eq] at h ⊢
    exact ⟨⟨⟨h.1.1.1, by omega⟩, h.1.2⟩, h.2⟩
  · simp only [Bool.and_eq_true, decide_eq_true_eq] at h
    obtain ⟨⟨⟨h1, h2⟩, h3⟩, h5⟩ := h
    rw [h3, h5, decide_eq_true h1] at h4
    simp only [Bool.true_and, Bool.and_true, decide_eq_false_iff_not] at h4
    apply Nat.le_of_not_lt
    intro hn
    have e := dec_natOf h3 h1 (by
      rw [Bool.or_eq_true, decide_eq_true_eq, beq_iff_eq] at h5
      rcases h5 with h5 | h5
      · exact .inl h5
      · rw [h5]; exact .inr rfl)
    have := dec_len 3 (natOf v) (by omega)
    rw [e] at this
    omega
def nb9 (v : List UInt8) : Int := if digL v 9 = true then natOf v else -1
theorem nb9_num (v : List UInt8) : ((2 ≤ nb9 v ∧ nb9 v ≤ 9999) ∧ nb9 v = numV v ∧ 2 ≤ numV v) ∨ (¬ (2 ≤ nb9 v ∧ nb9 v ≤ 9999) ∧ numV v < 2) := by
  obtain ⟨h1, h2⟩ := dig49 v
  have h3 := numV_le v
  unfold nb9
  unfold numV at *
  cases h4 : digL v 4 with
  | true =>
    rw [h1 h4]
    rw [h4] at h3
    simp only [if_true] at h3 ⊢
    by_cases hh : (2 : Int) ≤ natOf v
    · exact .inl ⟨⟨hh, by omega⟩, trivial, hh⟩
    · exact .inr ⟨fun x => hh x.1, by omega⟩
  | false =>
    simp only [Bool.false_eq_true, if_false]
    cases h9 : digL v 9 with
    | true =>
      have := h2 h9 h4
      simp only [if_true]
      exact .inr ⟨fun x => by omega, by omega⟩
    | false =>
      simp only [Bool.false_eq_true, if_false]
      exact .inr ⟨fun x => by omega, by omega⟩
theorem fst_cons (h : Hd) (t : List Hd) (w : List UInt8) : fstH (h :: t) w = if lowL h.name = w then 0 else if fstH t w < 0 then -1 else fstH t w + 1 := by
  unfold fstH
  rw [List.findIdx?_cons]
  by_cases e : lowL h.name = w
  · rw [if_pos e, if_pos (beq_iff_eq.2 e)]; rfl
  · rw [if_neg e, if_neg (fun x => e (beq_iff_eq.1 x))]
    cases t.findIdx? (fun h => lowL h.name == w) with
    | none => rfl
    | some k => simp only [Option.map_some]; rw [if_neg (by omega)]; rfl
/-- the values of a name, and its first head -/
theorem values_fst (w : List UInt8) : ∀ l : List Hd, (fstH l w < 0 ∧ valuesL l w = []) ∨ (0 ≤ fstH l w ∧ ∃ t, valuesL l w = (l.getD (fstH l w).toNat ⟨[], []⟩).value :: t)
  | [] => .inl ⟨show (-1 : Int) < 0 by decide, rfl⟩
  | h :: t => by
    rw [fst_cons]
    unfold valuesL
    rw [List.filter_cons]
    by_cases e : lowL h.name = w
    · rw [if_pos e, if_pos (beq_iff_eq.2 e)]
      exact .inr ⟨Int.le_refl _, _, rfl⟩
    · rw [if_neg e, if_neg (fun x => e (beq_iff_eq.1 x))]
      rcases values_fst w t with ⟨h1, h2⟩ | ⟨h1, t', h2⟩
      · rw [if_pos h1]; exact .inl ⟨by decide, h2⟩
      · rw [if_neg (by omega)]
        refine .inr ⟨by omega, t', ?_⟩
        rw [show (fstH t w + 1).toNat = (fstH t w).toNat + 1 by omega, List.getD_cons_succ]
        exact h2
theorem fst_at {l : List Hd} {w : List UInt8} {i : Nat} (h : i < l.length) (h0 : 0 ≤ fstH l w) : ((i : Int) < fstH l w → ¬ lowL (l.getD i ⟨[], []⟩).name = w) ∧ ((i : Int) = fstH l w → lowL (l.getD i ⟨[], []⟩).name = w) := by
  unfold fstH at *
  cases hk : l.findIdx? (fun h => lowL h.name == w) with
  | none => rw [hk] at h0; simp at h0
  | some k =>
    simp only
    obtain ⟨h1, h2, h3⟩ := List.findIdx?_eq_some_iff_getElem.1 hk
    rw [List.getD_eq_getElem?_getD, List.getElem?_eq_getElem h, Option.getD_some]
    refine ⟨fun hi => ?_, fun hi => ?_⟩
    · have := h3 i (by omega)
      simpa using this
    · have : i = k := by omega
      subst this
      simpa using h2
/-- all but one, up to a place -/
def eraT (l : List Hd) (k i : Nat) : List Hd := if i ≤ k then l.take i else (l.take i).eraseIdx k
theorem eraT_le {l : List Hd} {k i : Nat} (h : i < l.length) (hi : i < k) : eraT l k (i + 1) = eraT l k i ++ [l.getD i ⟨[], []⟩] := by
  unfold eraT
  rw [if_pos (by omega), if_pos (by omega), takeG (d := ⟨[], []⟩) h]
theorem eraT_eq {l : List Hd} {k : Nat} (h : k < l.length) : eraT l k (k + 1) = eraT l k k := by
  unfold eraT
  rw [if_neg (by omega), if_pos (Nat.le_refl _), takeG (d := ⟨[], []⟩) h]
  have e : (l.take k).length = k := by rw [List.length_take]; omega
  rw [List.eraseIdx_append_of_length_le (by omega), e, Nat.sub_self]
  simp
theorem eraT_gt {l : List Hd} {k i : Nat} (h : i < l.length) (hi : k < i) : eraT l k (i + 1) = eraT l k i ++ [l.getD i ⟨[], []⟩] := by
  unfold eraT
  rw [if_neg (by omega), if_neg (by omega), takeG (d := ⟨[], []⟩) h, List.eraseIdx_append_of_lt_length (by rw [List.length_take]; omega)]
theorem eraT_len (l : List Hd) (k i : Nat) : (eraT l k i).length ≤ i := by
  unfold eraT
  split
  · rw [List.length_take]; omega
  · have := List.length_eraseIdx_le (l := l.take i) k
    rw [List.length_take] at this; omega
theorem eraT_end {l : List Hd} {k i : Nat} (h : l.length ≤ i) (hk : k < l.length) : eraT l k i = l.eraseIdx k := by
  unfold eraT
  rw [if_neg (by omega), List.take_of_length_le h]
def flatB (l : List Rcd) : List UInt8 := (l.map Rcd.bd).flatten
theorem flatB_app (a : List Rcd) (x : Rcd) : flatB (a ++ [x]) = flatB a ++ x.bd := by unfold flatB; rw [List.map_append, List.flatten_append]; simp
/-- the number that the first head of a name is, or -1 -/
def nbG : List (List UInt8) → Int
  | [] => -1
  | v :: _ => if digL v 9 = true then natOf v else -1
theorem nb_iff {x : Rcd} {n : Int} (h2 : 2 ≤ n) (h9 : n ≤ 9999) : nbG (valuesL x.hd wNumber) = n ↔ 0 ≤ fstH x.hd wNumber ∧ nbV x = n := by
  rcases values_fst wNumber x.hd with ⟨v1, v2⟩ | ⟨v1, t, v2⟩
  · rw [v2]
    constructor
    · intro h; have h : (-1 : Int) = n := h; omega
    · intro h; omega
  · rw [v2]
    show nb9 (hdV x wNumber) = n ↔ _ ∧ numV (hdV x wNumber) = n
    rcases nb9_num (hdV x wNumber) with ⟨q1, q2, q3⟩ | ⟨q1, q2⟩
    · rw [q2]; exact ⟨fun h => ⟨v1, h⟩, fun h => h.2⟩
    · exact ⟨fun h => absurd ⟨by omega, by omega⟩ q1, fun h => by omega⟩
theorem pc_iff {r x : Rcd} {id : List UInt8} {n : Int} (h2 : 2 ≤ n) (h9 : n ≤ 9999) : (((((x.ki = 5 ∧ x.ow = id) ∧ x.ti = r.ti) ∧ x.ke = r.ke) ∧ nbG (valuesL x.hd wNumber) = n) ↔ (isPc r id x = true ∧ nbV x = n)) := by
  rw [nb_iff h2 h9, isPc_iff]
  constructor
  · rintro ⟨⟨⟨⟨a, b⟩, c⟩, d⟩, e, f⟩; exact ⟨⟨⟨⟨⟨a, b⟩, e⟩, c⟩, d⟩, f⟩
  · rintro ⟨⟨⟨⟨⟨a, b⟩, e⟩, c⟩, d⟩, f⟩; exact ⟨⟨⟨⟨a, b⟩, c⟩, d⟩, e, f⟩

/- a record's copy: without own rows; with its heads as an own row; with its block as an own row -/
def ckCut : Ck
  | [x, .int .i64 a, .int .i64 c] => some (isC cRec x ∧ recOk (cRec.dec x) ∧ (cRec.dec x).hd.length ≤ 1000000 ∧ 0 ≤ a ∧ a ≤ c ∧ c ≤ (cRec.dec x).bd.length, cRec.enc ⟨(cRec.dec x).ki, (cRec.dec x).id, (cRec.dec x).ow, (cRec.dec x).ti, (cRec.dec x).ke, (cRec.dec x).hd, ((cRec.dec x).bd.drop a.toNat).take (c.toNat - a.toNat)⟩)
  | _ => none
theorem conCut : Con pg 40 ckCut := by
  have hct := ctN_ok pg
  intro args q r h hq
  unfold ckCut at h
  split at h
  · cases h
    rename_i x a c
    refine pcall_args (args' := [cRec.enc (cRec.dec x), .int .i64 a, .int .i64 c]) ⟨hq.1, VLe.refl _, VLe.refl _, trivial⟩ ?_
    obtain ⟨-, ok, h1, h2, h3, h4⟩ := hq
    have hb := ok.2.2.2.2.2.1
    generalize cRec.dec x = r at *
    obtain ⟨a, rfl⟩ : ∃ k : Nat, a = k := ⟨a.toNat, by omega⟩
    obtain ⟨c, rfl⟩ : ∃ k : Nat, c = k := ⟨c.toNat, by omega⟩
    simp only [Int.toNat_natCast]
    refine w40 (fun _ => false) [.frz 24, .frz 15] rfl hct rfl rfl ?_
    push_cast (config := { maxSteps := 10000000 })
    have e24 : ∀ i, V.kill 24 (shF (byF r.bd) a i) = shF (byF r.bd) a i := fun i => rfl
    have eb := (ByI.sh (l := a) (k := c - a) (ByI.by r.bd) (by omega)).2
    have el : ((r.bd.drop a).take (c - a)).length = c - a := by rw [List.length_take, List.length_drop]; omega
    refine ⟨⟨by omega, by omega⟩, ⟨by omega, by omega, by omega⟩, ⟨by omega, by omega⟩, fun i hi => ?_, ?_, fun i hi => ?_⟩
    · rw [e24, eb i hi]; rfl
    · omega
    · rw [e24, eb i hi]
  · cases h
def ckCutH : List V → Option (Prop × V × Blk)
  | [x, .int .i64 a, .int .i64 c] => some (isC cRec x ∧ recOk (cRec.dec x) ∧ (cRec.dec x).hd.length ≤ 1000000 ∧ 0 ≤ a ∧ a ≤ c ∧ c ≤ (cRec.dec x).bd.length, .agg [.int .i64 (cRec.dec x).ki, .str (cRec.dec x).id, .str (cRec.dec x).ow, .int .i64 (cRec.dec x).ti, .str (cRec.dec x).ke, .vec 8999 (cRec.dec x).hd.length, .sl (((cRec.dec x).bd.drop a.toNat).take (c.toNat - a.toNat)).length (byF (((cRec.dec x).bd.drop a.toNat).take (c.toNat - a.toNat)))], .vec 2 (cRec.dec x).hd.length (lsF cHd (cRec.dec x).hd))
  | _ => none
def ckCutB : List V → Option (Prop × V × Blk)
  | [x, .int .i64 a, .int .i64 c] => some (isC cRec x ∧ recOk (cRec.dec x) ∧ (cRec.dec x).hd.length ≤ 1000000 ∧ 0 ≤ a ∧ a ≤ c ∧ c ≤ (cRec.dec x).bd.length, .agg [.int .i64 (cRec.dec x).ki, .str (cRec.dec x).id, .str (cRec.dec x).ow, .int .i64 (cRec.dec x).ti, .str (cRec.dec x).ke, .sl (cRec.dec x).hd.length (lsF cHd (cRec.dec x).hd), .vec 8999 (((cRec.dec x).bd.drop a.toNat).take (c.toNat - a.toNat)).length], .vec 1 (((cRec.dec x).bd.drop a.toNat).take (c.toNat - a.toNat)).length (byF (((cRec.dec x).bd.drop a.toNat).take (c.toNat - a.toNat))))
  | _ => none
theorem ncall_argsC {f : FuncId} {args args' : List V} {r : V} {nb : Blk} (hv : vleL args args') (h : NCall pg f args' r nb) : NCall pg f args r nb := by
  intro S vals hs hh hlen hr
  exact h S vals hs hh (hlen.trans (vleL_len hv)) fun i hi => vleL_at hv i _ _ _ _ (hr i (by rw [vleL_len hv]; exact hi))
theorem conCutH : NCon pg 40 ckCutH := by
  have hct := ctN_ok pg
  intro args q r nb h hq
  unfold ckCutH at h
  split at h
  · cases h
    rename_i x a c
    obtain ⟨h0, ok, h1, h2, h3, h4⟩ := hq
    have hb := ok.2.2.2.2.2.1
    refine ncall_argsC (args' := [cRec.enc (cRec.dec x), .int .i64 a, .int .i64 c]) ⟨h0, VLe.refl _, VLe.refl _, trivial⟩ ?_
    generalize cRec.dec x = r at *
    obtain ⟨a, rfl⟩ : ∃ k : Nat, a = k := ⟨a.toNat, by omega⟩
    obtain ⟨c, rfl⟩ : ∃ k : Nat, c = k := ⟨c.toNat, by omega⟩
    simp only [Int.toNat_natCast]
    refine nw40 (fun _ => false) [.frz 24, .ren 15 8999] rfl hct rfl rfl ?_ ?_
    · intro i hi; rfl
    push_cast (config := { maxSteps := 10000000 })
    have e24 : ∀ i, V.kill 24 (shF (byF r.bd) a i) = shF (byF r.bd) a i := fun i => rfl
    have eb := (ByI.sh (l := a) (k := c - a) (ByI.by r.bd) (by omega)).2
    have el : ((r.bd.drop a).take (c - a)).length = c - a := by rw [List.length_take, List.length_drop]; omega
    refine ⟨⟨by omega, by omega⟩, ⟨by omega, by omega, by omega⟩, ⟨by omega, by omega⟩, fun i hi => ?_, by omega, fun i hi => ?_⟩
    · rw [e24, eb i hi]; rfl
    · rw [e24, eb i hi]
  · cases h
attribute [push_cast] ckCutH
theorem conCutB : NCon pg 40 ckCutB := by
  have hct := ctN_ok pg
  intro args q r nb h hq
  unfold ckCutB at h
  split at h
  · cases h
    rename_i x a c
    obtain ⟨h0, ok, h1, h2, h3, h4⟩ := hq
    have hb := ok.2.2.2.2.2.1
    refine ncall_argsC (args' := [cRec.enc (cRec.dec x), .int .i64 a, .int .i64 c]) ⟨h0, VLe.refl _, VLe.refl _, trivial⟩ ?_
    generalize cRec.dec x = r at *
    obtain ⟨a, rfl⟩ : ∃ k : Nat, a = k := ⟨a.toNat, by omega⟩
    obtain ⟨c, rfl⟩ : ∃ k : Nat, c = k := ⟨c.toNat, by omega⟩
    simp only [Int.toNat_natCast]
    refine nw40 (fun _ => false) [.ren 24 8999, .frz 15] rfl hct rfl rfl ?_ ?_
    · intro i hi; rfl
    push_cast (config := { maxSteps := 10000000 })
    have e24 : ∀ i, V.kill 24 (shF (byF r.bd) a i) = shF (byF r.bd) a i := fun i => rfl
    have eb := (ByI.sh (l := a) (k := c - a) (ByI.by r.bd) (by omega)).2
    have el : ((r.bd.drop a).take (c - a)).length = c - a := by rw [List.length_take, List.length_drop]; omega
    refine ⟨⟨by omega, by omega⟩, ⟨by omega, by omega, by omega⟩, ⟨by omega, by omega⟩, by omega, by omega, fun i hi => ?_⟩
    rw [e24]
    show shF (byF r.bd) a i = _
    exact eb i hi
  · cases h
attribute [push_cast] ckCutB
attribute [push_cast] ckCut ckCutH ckCutB

/- the calendar, by ranges -/
theorem daysI_next (y : Int) : daysI (y + 1) 1 = daysI y 1 + yearLong y := by
  rw [daysI_1, daysI_1]
  unfold yearLong leapB
  split
  · rename_i h; simp only [decide_eq_true_eq] at h; omega
  · rename_i h; simp only [decide_eq_true_eq] at h; omega
theorem daysI_month {y : Int} {m : Int} (h : 1 ≤ m) : daysI y (m + 1) = daysI y m + monthLongI y m := by
  unfold daysI
  obtain ⟨k, rfl⟩ : ∃ k : Nat, m = k + 1 := ⟨(m - 1).toNat, by omega⟩
  rw [show ((k : Int) + 1 + 1 - 1).toNat = k + 1 by omega, show ((k : Int) + 1 - 1).toNat = k by omega]
  simp only [monthsSum]; omega
theorem monthsSum_12 (y : Int) : monthsSum y 12 = yearLong y := by
  simp only [monthsSum]
  unfold monthLongI yearLong leapB
  by_cases h : y % 4 = 0 ∧ (y % 100 ≠ 0 ∨ y % 400 = 0)
  · simp [h]
  · simp [h]
theorem daysI_13 (y : Int) : daysI y 13 = daysI (y + 1) 1 := by
  rw [daysI_next, daysI_1]
  unfold daysI
  rw [show ((13 : Int) - 1).toNat = 12 from rfl, monthsSum_12]; 
theorem daysI_mono {y z : Int} (h : y < z) : daysI (y + 1) 1 ≤ daysI z 1 := by
  rw [daysI_1, daysI_1]; omega
theorem yearF_up (d : Int) : ∀ (n : Nat) (y : Int), d < daysI (yearF d n y + 1) 1 ∨ yearF d n y = y + n
  | 0, y => .inr (by simp [yearF])
  | n + 1, y => by
    simp only [yearF]
    split
    · rcases yearF_up d n (y + 1) with h | h
      · exact .inl h
      · exact .inr (by omega)
    · exact .inl (by omega)
theorem monthF_up (y d : Int) : ∀ (n : Nat) (m : Int), (12 ≤ monthF y d n m ∨ d < daysI y (monthF y d n m + 1)) ∨ monthF y d n m = m + n
  | 0, m => .inr (by simp [monthF])
  | n + 1, m => by
    simp only [monthF]
    split
    · rcases monthF_up y d n (m + 1) with h | h
      · exact .inl h
      · exact .inr (by omega)
    · exact .inl (by omega)
theorem yearI_up {d : Int} (h0 : 0 ≤ d) (h1 : d ≤ 2932896) : d < daysI (yearI d + 1) 1 := by
  have b := date_b h0 h1
  rcases yearF_up d 1000 (1970 + d / 366) with h | h
  · exact h
  · have hb := yearF_b d 1000 _ (daysI_y0 d h0 h1)
    have := daysI_step hb.2 hb.1 h0 h1
    omega
theorem yearI_is {d y : Int} (h0 : 0 ≤ d) (h1 : d ≤ 2932896) (a : daysI y 1 ≤ d) (b : d < daysI (y + 1) 1) : yearI d = y := by
  have hb := yearF_b d 1000 _ (daysI_y0 d h0 h1)
  have hu := yearI_up h0 h1
  have hl : daysI (yearI d) 1 ≤ d := hb.2
  rcases Int.lt_trichotomy (yearI d) y with h | h | h
  · have := daysI_mono h; omega
  · exact h
  · have := daysI_mono h; omega
theorem monthsSum_mono (y : Int) {i j : Nat} (h : i ≤ j) : monthsSum y i ≤ monthsSum y j := by
  induction h with
  | refl => exact Int.le_refl _
  | step _ ih => have := monthLongI_b y ((‹Nat› : Nat) + 1 : Int); simp only [monthsSum]; have := monthLongI_b y; omega
theorem daysI_mmono {y m k : Int} (h1 : 1 ≤ m) (h : m ≤ k) : daysI y m ≤ daysI y k := by
  have := monthsSum_mono y (i := (m - 1).toNat) (j := (k - 1).toNat) (by omega)
  unfold daysI; omega
theorem monthI_is {d m : Int} (h0 : 0 ≤ d) (h1 : d ≤ 2932896) (m1 : 1 ≤ m) (m2 : m ≤ 12) (a : daysI (yearI d) m ≤ d) (b : d < daysI (yearI d) (m + 1)) : monthI d = m := by
  have hd : daysI (yearI d) 1 ≤ d := (yearF_b d 1000 _ (daysI_y0 d h0 h1)).2
  have hb := monthF_b (yearI d) d 12 1 (by omega) (by omega) hd
  have hu : 12 ≤ monthI d ∨ d < daysI (yearI d) (monthI d + 1) := by
    rcases monthF_up (yearI d) d 12 1 with h | h
    · exact h
    · exact .inl (by unfold monthI; omega)
  change 1 ≤ monthI d ∧ monthI d ≤ 12 ∧ daysI (yearI d) (monthI d) ≤ d at hb
  rcases Int.lt_trichotomy (monthI d) m with h | h | h
  · rcases hu with hu | hu
    · omega
    · have := daysI_mmono (y := yearI d) (m := monthI d + 1) (k := m) (by omega) (by omega); omega
  · exact h
  · have := daysI_mmono (y := yearI d) (m := m + 1) (k := monthI d) (by omega) (by omega); omega
theorem monthI_up {d : Int} (h0 : 0 ≤ d) (h1 : d ≤ 2932896) : d < daysI (yearI d) (monthI d + 1) := by
  have hd : daysI (yearI d) 1 ≤ d := (yearF_b d 1000 _ (daysI_y0 d h0 h1)).2
  have hb := monthF_b (yearI d) d 12 1 (by omega) (by omega) hd
  change 1 ≤ monthI d ∧ monthI d ≤ 12 ∧ daysI (yearI d) (monthI d) ≤ d at hb
  rcases monthF_up (yearI d) d 12 1 with h | h
  · change 12 ≤ monthI d ∨ d < daysI (yearI d) (monthI d + 1) at h
    rcases h with h | h
    · rw [show monthI d = 12 by omega, show (12 : Int) + 1 = 13 from rfl, daysI_13]; exact yearI_up h0 h1
    · exact h
  · change monthI d = 1 + ((12 : Nat) : Int) at h; omega
theorem yearI_9999 {d : Int} (h0 : 0 ≤ d) (h1 : d ≤ 2932896) : yearI d ≤ 9999 := by
  have hd : daysI (yearI d) 1 ≤ d := (yearF_b d 1000 _ (daysI_y0 d h0 h1)).2
  rw [daysI_1] at hd; omega

theorem u8n {a b : Int} (h : a = b) : UInt8.ofNat a.toNat = UInt8.ofNat b.toNat := by rw [h]
theorem padded2 {n : Int} (h0 : 0 ≤ n) (h1 : n ≤ 99) : paddedL n 2 = twoL n := by
  obtain ⟨k, rfl⟩ : ∃ k : Nat, n = k := ⟨n.toNat, by omega⟩
  unfold paddedL twoL
  rw [itoa_nat]
  by_cases h : k < 10
  · rw [dec_small h]
    rw [show (48 + (k : Int) / 10 % 10).toNat = 48 by omega, show (48 + (k : Int) % 10).toNat = 48 + k by omega]
    rfl
  · rw [dec_step (by omega), dec_small (by omega)]
    rw [show (48 + (k : Int) / 10 % 10).toNat = 48 + k / 10 by omega, show (48 + (k : Int) % 10).toNat = 48 + k % 10 by omega]
    rfl
theorem padded4 {n : Int} (h0 : 1000 ≤ n) (h1 : n ≤ 9999) : paddedL n 4 = twoL (n / 100) ++ twoL n := by
  obtain ⟨k, rfl⟩ : ∃ k : Nat, n = k := ⟨n.toNat, by omega⟩
  unfold paddedL twoL
  rw [itoa_nat, dec_step (by omega), dec_step (n := k / 10) (by omega), dec_step (n := k / 10 / 10) (by omega), dec_small (by omega)]
  rw [show (48 + (k : Int) / 100 / 10 % 10).toNat = 48 + k / 10 / 10 / 10 by omega, show (48 + (k : Int) / 100 % 10).toNat = 48 + k / 10 / 10 % 10 by omega, show (48 + (k : Int) / 10 % 10).toNat = 48 + k / 10 % 10 by omega, show (48 + (k : Int) % 10).toNat = 48 + k % 10 by omega]
  rfl
theorem dayName (d : Int) : List.take ((3 * ((d + 4) % 7) + 3).toNat - (3 * ((d + 4) % 7)).toNat) (List.drop (3 * ((d + 4) % 7)).toNat ([83, 117, 110, 77, 111, 110, 84, 117, 101, 87, 101, 100, 84, 104, 117, 70, 114, 105, 83, 97, 116] : List UInt8)) = wdN.getD ((d + 3) % 7).toNat [] := by
  rcases (by omega : d % 7 = 0 ∨ d % 7 = 1 ∨ d % 7 = 2 ∨ d % 7 = 3 ∨ d % 7 = 4 ∨ d % 7 = 5 ∨ d % 7 = 6) with h | h | h | h | h | h | h
  · rw [show (d + 4) % 7 = 4 by omega, show (d + 3) % 7 = 3 by omega]; rfl
  · rw [show (d + 4) % 7 = 5 by omega, show (d + 3) % 7 = 4 by omega]; rfl
  · rw [show (d + 4) % 7 = 6 by omega, show (d + 3) % 7 = 5 by omega]; rfl
  · rw [show (d + 4) % 7 = 0 by omega, show (d + 3) % 7 = 6 by omega]; rfl
  · rw [show (d + 4) % 7 = 1 by omega, show (d + 3) % 7 = 0 by omega]; rfl
  · rw [show (d + 4) % 7 = 2 by omega, show (d + 3) % 7 = 1 by omega]; rfl
  · rw [show (d + 4) % 7 = 3 by omega, show (d + 3) % 7 = 2 by omega]; rfl
theorem conDateOf2 : Con pg 79 ckDateText0 := by
  have hct := (ctA_ok conYearDays (ctA_ok conMonthDays (ctA_ok conTwo (ctA_ok conMonthName (ctN_ok _)))))
  intro args q r h hq
  unfold ckDateText0 at h
  split at h
  · cases h
    rename_i n
    refine w79 (fun _ => false) [] rfl hct rfl rfl ?_
    push_cast (config := { maxSteps := 10000000 })
    (repeat (refine ⟨by omega, ?_⟩))
    generalize hd : n / 86400 = d at *
    have h0 : 0 ≤ d ∧ d ≤ 2932896 := by omega
    refine LoopW.adj ⟨hct, fol⟩ (by kernel_rfl) [] (fun t : Nat => [(3, .int .i64 (d - daysI (1970 + t) 1)), (4, .int .i64 (n % 86400)), (5, .int .i64 ((d + 4) % 7)), (6, .int .i64 (1970 + t)), (7, .int .i64 1)]) (fun _ => []) (fun t => daysI (1970 + t) 1 ≤ d) (fun t => 9000 - t) 0 ?_ fun t ht => ?_
    · push_cast (config := { maxSteps := 10000000 })
      have e : daysI 1970 1 = 0 := by rw [daysI_1]; omega
      simp [e]; omega
    · push_cast (config := { maxSteps := 10000000 })
      have hlo : (t : Int) ≤ 8029 := by have := daysI_1 (1970 + t); omega
      have hnx := daysI_next (1970 + t)
      have hyl : yearLong (1970 + t) = 365 ∨ yearLong (1970 + t) = 366 := by unfold yearLong; split <;> simp
      have hge : 0 ≤ daysI (1970 + t) 1 := by have := daysI_1 (1970 + t); omega
      refine ⟨⟨by omega, by omega⟩, fun h => ⟨⟨by omega, by omega⟩, ⟨by omega, by omega⟩, ⟨by omega, by omega⟩, t + 1, ?_, by omega, ?_, by omega⟩, fun h => ?_⟩
      · rw [show 1970 + ((t + 1 : Nat) : Int) = 1970 + (t : Int) + 1 by omega]; omega
      · rw [show 1970 + ((t + 1 : Nat) : Int) = 1970 + (t : Int) + 1 by omega]; omega
      · have hY : yearI d = 1970 + t := yearI_is h0.1 h0.2 ht (by omega)
        generalize 1970 + (t : Int) = y at *
        have hy : 1970 ≤ y ∧ y ≤ 9999 := by have := yearI_9999 h0.1 h0.2; have := (date_b h0.1 h0.2).1; omega
        refine LoopW.adj ⟨hct, fol⟩ (by kernel_rfl) [] (fun t : Nat => [(3, .int .i64 (d - daysI y (1 + t))), (4, .int .i64 (n % 86400)), (5, .int .i64 ((d + 4) % 7)), (6, .int .i64 y), (7, .int .i64 (1 + t))]) (fun _ => []) (fun t => daysI y (1 + t) ≤ d ∧ t ≤ 11) (fun t => 12 - t) 0 ?_ fun t ht2 => ?_
        · push_cast (config := { maxSteps := 10000000 })
          simpa using ht
        · push_cast (config := { maxSteps := 10000000 })
          have hm := daysI_month (y := y) (m := 1 + t) (by omega)
          have hml := monthLongI_b y (1 + t)
          have hmm := daysI_mmono (y := y) (m := 1) (k := 1 + t) (by omega) (by omega)
          have h12 : (t : Int) + 1 = 12 → d < daysI y (1 + t + 1) := fun e => by
            rw [show 1 + (t : Int) + 1 = 13 by omega, daysI_13]; omega
          have hl2 : ∀ x, (twoL x).length = 2 := fun _ => rfl
          have hl3 := mnN_b (1 + (t : Int) - 1).toNat
          have q1 : (0 ≤ y ∧ y ≤ 1000000 ∧ 1 ≤ 1 + (t : Int) ∧ 1 + (t : Int) ≤ 12) := by omega
          refine ⟨q1, fun h => ⟨q1, ⟨by omega, by omega⟩, ⟨by omega, by omega⟩, t + 1, ⟨?_, ?_⟩, by omega, ?_, by omega⟩, fun h => ?_⟩
          · rw [show 1 + ((t + 1 : Nat) : Int) = 1 + (t : Int) + 1 by omega]; omega
          · by_cases e : (t : Int) + 1 = 12
            · have := h12 e; omega
            · omega
          · rw [show 1 + ((t + 1 : Nat) : Int) = 1 + (t : Int) + 1 by omega]; omega
          have hM : monthI d = 1 + t := monthI_is h0.1 h0.2 (by omega) (by omega) (by rw [hY]; exact ht2.1) (by rw [hY]; omega)
          simp only [hl2]
          have hd2 : d - daysI y (1 + t) ≤ 30 := by omega
          (repeat (refine ⟨by omega, ?_⟩))
          rw [dayName]
          unfold dateTextL
          simp only [hd, hY, hM]
          rw [padded2 (n := d - daysI y (1 + t) + 1) (by omega) (by omega), padded4 (n := y) (by omega) (by omega), padded2 (n := n % 86400 / 3600) (by omega) (by omega), padded2 (n := n % 86400 / 60 % 60) (by omega) (by omega), padded2 (n := n % 86400 % 60) (by omega) (by omega)]
          simp only [List.append_assoc]
  · cases h

def ckWritten : Ck
  | [x] => some (isC cRec x ∧ recOk (cRec.dec x) ∧ checkRecL (cRec.dec x) = 0, .sl (recB (cRec.dec x)).length (byF (recB (cRec.dec x))))
  | _ => none
theorem conWritten : Con pg 61 ckWritten := by
  have hct := (ctA_ok conKindW (ctA_ok conDateOf2 (ctA_ok conItoa (ctA_ok conDigest2 (ctN_ok _)))))
  intro args q r h hq
  unfold ckWritten at h
  split at h
  · cases h
    rename_i x
    refine pcall_args (args' := [cRec.enc (cRec.dec x)]) ⟨hq.1, trivial⟩ ?_
    obtain ⟨-, ha, hc⟩ := hq
    generalize cRec.dec x = r at ha hc ⊢
    refine w61 (fun _ => false) [.frz 73] rfl hct rfl rfl ?_
    push_cast (config := { maxSteps := 10000000 })
    obtain ⟨z1, z2, z3, z4, z5, z6, z7⟩ := rec_sz hc
    obtain ⟨y1, y2, y3, y4, y5, y6, y7, y8, y9, y10⟩ := rec_ok hc
    have zk := kindW_le (r.ki - 1).toNat
    have zp := recP_le hc
    refine ⟨by omega, by omega, fun how => ?_, fun how => ?_⟩
    · (repeat (refine ⟨by omega, ?_⟩))
      refine LoopW.adj ⟨hct, fol⟩ (by kernel_rfl) [] (fun t : Nat × List UInt8 => [(1, .ptr 1 0), (3, .str t.2), (4, .int .i64 t.1)]) (fun t => [(1, .cells [.int .i64 r.ki, .str r.id, .str r.ow, .int .i64 r.ti, .str r.ke, .sl r.hd.length (lsF cHd r.hd), .sl r.bd.length (byF r.bd)])]) (fun t => t.1 ≤ r.hd.length ∧ t.2 ++ headsB (r.hd.drop t.1) = recP r ++ headsB r.hd) (fun t => r.hd.length - t.1) (0, recP r) ?_ fun t ht => ?_
      · push_cast (config := { maxSteps := 10000000 })
        refine ⟨Nat.zero_le _, ?_⟩
        unfold recP; rw [if_neg how]; simp [lnB2, wKept]
      · obtain ⟨i, o⟩ := t
        obtain ⟨i1, i2⟩ : i ≤ r.hd.length ∧ o ++ headsB (r.hd.drop i) = recP r ++ headsB r.hd := ht
        have hl := congrArg List.length i2
        simp only [List.length_append] at hl
        push_cast (config := { maxSteps := 10000000 })
        refine ⟨fun h => ?_, fun h => ?_⟩
        · have e := dropG (d := ⟨[], []⟩) h
          rw [e, headsB] at i2 hl
          have hx : (headB (r.hd.getD i ⟨[], []⟩)).length = (r.hd.getD i ⟨[], []⟩).name.length + 2 + (r.hd.getD i ⟨[], []⟩).value.length + 2 := by simp [headB]; omega
          simp only [List.length_append] at hl
          generalize r.hd.getD i ⟨[], []⟩ = y at *
          (repeat (refine ⟨by omega, ?_⟩))
          exact ⟨((i + 1, o ++ (y.name ++ [58, 32] ++ y.value ++ [13, 10])) : Nat × List UInt8), ⟨by show i + 1 ≤ _; omega, by rw [← i2]; simp [headB]⟩, by show r.hd.length - (i + 1) < r.hd.length - i; omega, rfl, by show (i : Int) + 1 = ((i + 1 : Nat) : Int); omega⟩
        · rw [List.drop_eq_nil_of_le (by omega)] at i2 hl
          simp only [headsB, List.append_nil, List.length_nil, Nat.add_zero] at i2 hl
          have hi6 := itoa_len (n := r.bd.length) (by omega)
          have hdg : (digestL r.bd).length = 16 := hex16_len _
          (repeat (refine ⟨by omega, ?_⟩))
          have eq : (o ++ 108 :: 101 :: 110 :: 103 :: 116 :: 104 :: 58 :: 32 :: (Lib.itoa r.bd.length ++ [13, 10, 100, 105, 103, 101, 115, 116, 58, 32] ++ digestL r.bd ++ [13, 10, 13, 10])) ++ r.bd ++ [13, 10, 13, 10] = recB r := by
            rw [i2]; simp [recB, recQ, lnB2]
          have hQ : (o ++ 108 :: 101 :: 110 :: 103 :: 116 :: 104 :: 58 :: 32 :: (Lib.itoa r.bd.length ++ [13, 10, 100, 105, 103, 101, 115, 116, 58, 32] ++ digestL r.bd ++ [13, 10, 13, 10])).length = o.length + ((Lib.itoa r.bd.length).length + 10 + (digestL r.bd).length + 4 + 1 + 1 + 1 + 1 + 1 + 1 + 1 + 1) := by simp; omega
          have app := (ByI.app (ByI.app (ByI.by (o ++ 108 :: 101 :: 110 :: 103 :: 116 :: 104 :: 58 :: 32 :: (Lib.itoa r.bd.length ++ [13, 10, 100, 105, 103, 101, 115, 116, 58, 32] ++ digestL r.bd ++ [13, 10, 13, 10]))) (ByI.by r.bd) rfl) (ByI.by [13, 10, 13, 10]) rfl).eq eq
          rw [hQ] at app
          exact ⟨app.pure, app.1, app.2⟩
    · (repeat (refine ⟨by omega, ?_⟩))
      refine LoopW.adj ⟨hct, fol⟩ (by kernel_rfl) [] (fun t : Nat × List UInt8 => [(1, .ptr 1 0), (3, .str t.2), (4, .int .i64 t.1)]) (fun t => [(1, .cells [.int .i64 r.ki, .str r.id, .str r.ow, .int .i64 r.ti, .str r.ke, .sl r.hd.length (lsF cHd r.hd), .sl r.bd.length (byF r.bd)])]) (fun t => t.1 ≤ r.hd.length ∧ t.2 ++ headsB (r.hd.drop t.1) = recP r ++ headsB r.hd) (fun t => r.hd.length - t.1) (0, recP r) ?_ fun t ht => ?_
      · push_cast (config := { maxSteps := 10000000 })
        refine ⟨Nat.zero_le _, ?_⟩
        unfold recP; rw [if_pos how]; simp [lnB2, wKept]
      · obtain ⟨i, o⟩ := t
        obtain ⟨i1, i2⟩ : i ≤ r.hd.length ∧ o ++ headsB (r.hd.drop i) = recP r ++ headsB r.hd := ht
        have hl := congrArg List.length i2
        simp only [List.length_append] at hl
        push_cast (config := { maxSteps := 10000000 })
        refine ⟨fun h => ?_, fun h => ?_⟩
        · have e := dropG (d := ⟨[], []⟩) h
          rw [e, headsB] at i2 hl
          have hx : (headB (r.hd.getD i ⟨[], []⟩)).length = (r.hd.getD i ⟨[], []⟩).name.length + 2 + (r.hd.getD i ⟨[], []⟩).value.length + 2 := by simp [headB]; omega
          simp only [List.length_append] at hl
          generalize r.hd.getD i ⟨[], []⟩ = y at *
          (repeat (refine ⟨by omega, ?_⟩))
          exact ⟨((i + 1, o ++ (y.name ++ [58, 32] ++ y.value ++ [13, 10])) : Nat × List UInt8), ⟨by show i + 1 ≤ _; omega, by rw [← i2]; simp [headB]⟩, by show r.hd.length - (i + 1) < r.hd.length - i; omega, rfl, by show (i : Int) + 1 = ((i + 1 : Nat) : Int); omega⟩
        · rw [List.drop_eq_nil_of_le (by omega)] at i2 hl
          simp only [headsB, List.append_nil, List.length_nil, Nat.add_zero] at i2 hl
          have hi6 := itoa_len (n := r.bd.length) (by omega)
          have hdg : (digestL r.bd).length = 16 := hex16_len _
          (repeat (refine ⟨by omega, ?_⟩))
          have eq : (o ++ 108 :: 101 :: 110 :: 103 :: 116 :: 104 :: 58 :: 32 :: (Lib.itoa r.bd.length ++ [13, 10, 100, 105, 103, 101, 115, 116, 58, 32] ++ digestL r.bd ++ [13, 10, 13, 10])) ++ r.bd ++ [13, 10, 13, 10] = recB r := by
            rw [i2]; simp [recB, recQ, lnB2]
          have hQ : (o ++ 108 :: 101 :: 110 :: 103 :: 116 :: 104 :: 58 :: 32 :: (Lib.itoa r.bd.length ++ [13, 10, 100, 105, 103, 101, 115, 116, 58, 32] ++ digestL r.bd ++ [13, 10, 13, 10])).length = o.length + ((Lib.itoa r.bd.length).length + 10 + (digestL r.bd).length + 4 + 1 + 1 + 1 + 1 + 1 + 1 + 1 + 1) := by simp; omega
          have app := (ByI.app (ByI.app (ByI.by (o ++ 108 :: 101 :: 110 :: 103 :: 116 :: 104 :: 58 :: 32 :: (Lib.itoa r.bd.length ++ [13, 10, 100, 105, 103, 101, 115, 116, 58, 32] ++ digestL r.bd ++ [13, 10, 13, 10]))) (ByI.by r.bd) rfl) (ByI.by [13, 10, 13, 10]) rfl).eq eq
          rw [hQ] at app
          exact ⟨app.pure, app.1, app.2⟩
  · cases h
attribute [push_cast] ckWritten

theorem conCheckFile2 : Con pg 30 ckCheckFile := by
  have hct := (ctA_ok conCheckRec2 (ctA_ok conWritten (ctA_ok conFind (ctN_ok _))))
  intro args q r h hq
  unfold ckCheckFile at h
  split at h
  · cases h
    rename_i n f
    refine pcall_args (args' := [.sl (lsOf cRec n f).length (lsF cRec (lsOf cRec n f))]) ⟨isLs.vle hq.1, trivial⟩ ?_
    obtain ⟨-, hl⟩ := hq
    generalize lsOf cRec n f = l at hl ⊢
    refine w30 (fun _ => false) [] rfl hct rfl rfl ?_
    push_cast (config := { maxSteps := 10000000 })
    refine ⟨fun h => by unfold checkFileL; rw [if_pos (by omega)], fun h => ?_⟩
    have e0 : checkFileL l = cfGo [] 0 l := by unfold checkFileL; rw [if_neg (by omega)]
    rw [e0]
    refine LoopW.adj ⟨hct, fol⟩ (by kernel_rfl) [] (fun t : Nat × Int => [(0, .sl l.length (lsF cRec l)), (3, .int .i64 t.2), (4, .int .i64 t.1)]) (fun t => []) (fun t => t.1 ≤ l.length ∧ 0 ≤ t.2 ∧ t.2 ≤ t.1 * 400000 ∧ cfGo ((l.take t.1).map Rcd.id) t.2 (l.drop t.1) = cfGo [] 0 l) (fun t => l.length - t.1) (0, 0) ?_ fun t ht => ?_
    · push_cast (config := { maxSteps := 10000000 })
      exact Nat.zero_le _
    · obtain ⟨i, m⟩ := t
      obtain ⟨h1, h2, h3, h4⟩ : i ≤ l.length ∧ 0 ≤ m ∧ m ≤ i * 400000 ∧ cfGo ((l.take i).map Rcd.id) m (l.drop i) = cfGo [] 0 l := ht
      push_cast (config := { maxSteps := 10000000 })
      refine ⟨fun hi => ?_, fun hi => ?_⟩
      · rw [dropG (d := noRec) hi, cfGo] at h4
        have ea := cf_app hi
        have ok := recsOk_at hl hi
        have hk := LsI.sh (LsI.ls (c := cRec) l) (l := 0) (k := i) (by omega)
        rw [List.drop_zero] at hk
        have hf := fndL_in (l.take i) (l.getD i noRec).id
        rw [hk.of]
        generalize l.getD i noRec = r at *
        refine ⟨hi, ok, fun g => ?_, fun g => ⟨by omega, hi, ⟨hk.is, by omega⟩, fun g2 => ?_, fun g2 => ⟨hi, ⟨ok, g⟩, ?_⟩⟩⟩
        · rw [if_pos g] at h4; exact h4
        · rw [if_neg (fun x => x g), if_pos (hf.1 g2)] at h4; exact h4
        · rw [if_neg (fun x => x g), if_neg (fun x => g2 (hf.2 x))] at h4
          have hb := recB_le g
          exact ⟨⟨by omega, by omega⟩, ⟨by omega, by omega⟩, ((i + 1, m + (recB r).length) : Nat × Int), ⟨by show i + 1 ≤ _; omega, by show 0 ≤ m + _; omega, by show m + _ ≤ ((i + 1 : Nat) : Int) * 400000; omega, by rw [ea]; exact h4⟩, by show l.length - (i + 1) < l.length - i; omega, rfl, by show (i : Int) + 1 = ((i + 1 : Nat) : Int); omega⟩
      · rw [List.drop_eq_nil_of_le (by omega), cfGo] at h4
        exact ⟨fun g => by rw [if_pos g] at h4; exact h4, fun g => by rw [if_neg g] at h4; exact h4⟩
  · cases h
attribute [push_cast] ckCheckFile
attribute [push_cast] ckFileBytes
theorem pie_values (r : Rcd) : pieB r = false ↔ ((valuesL r.hd wPieces).length : Int) = 0 := by
  unfold pieB
  rw [List.any_eq_false]
  unfold valuesL
  rw [List.length_map]
  constructor
  · intro h
    have : (r.hd.filter fun x => lowL x.name == wPieces) = [] := List.filter_eq_nil_iff.2 h
    rw [this]; rfl
  · intro h
    have : (r.hd.filter fun x => lowL x.name == wPieces) = [] := List.length_eq_zero_iff.1 (by omega)
    exact List.filter_eq_nil_iff.1 this
def ckAlone : Ck
  | [.sl n f, .int .i64 i] => some (isLs cRec n f ∧ recsOk (lsOf cRec n f) ∧ checkFileL (lsOf cRec n f) = 0 ∧ 0 ≤ i ∧ i < n, .bool (candB (lsOf cRec n f) ((lsOf cRec n f).getD i.toNat noRec)))
  | _ => none
theorem conAlone : Con pg 62 ckAlone := by
  have hct := (ctA_ok conValues2 (ctN_ok _))
  intro args q r h hq
  unfold ckAlone at h
  split at h
  · cases h
    rename_i n f i
    have hn := lsOf_len (c := cRec) n f
    refine pcall_args (args' := [.sl (lsOf cRec n f).length (lsF cRec (lsOf cRec n f)), .int .i64 i]) ⟨isLs.vle hq.1, VLe.refl _, trivial⟩ ?_
    obtain ⟨-, hl, hck, h0, h1⟩ := hq
    rw [← hn] at h1
    generalize lsOf cRec n f = l at hl hck h1 ⊢
    obtain ⟨i, rfl⟩ : ∃ k : Nat, i = k := ⟨i.toNat, by omega⟩
    rw [Int.toNat_natCast]
    have hi : i < l.length := by omega
    obtain ⟨hcl, hfl, hlen⟩ := file_ok hck
    have hr : l.getD i noRec ∈ l := getD_memH (d := noRec) hi
    refine w62 (fun _ => false) [] rfl hct rfl rfl ?_
    push_cast (config := { maxSteps := 10000000 })
    generalize l.getD i noRec = r at hr ⊢
    have ok := hl r hr
    obtain ⟨z1, z2, z3, z4, z5, z6, z7⟩ := rec_sz (hcl r hr)
    rw [show ([112, 105, 101, 99, 101, 115] : List UInt8) = wPieces from rfl]
    have hp := pie_values r
    have ho : ∀ k, k < l.length → (l.getD k noRec).ow = r.id → candB l r = false := fun k hk e => by
      have : ofB l r = true := by
        unfold ofB
        rw [List.contains_iff_mem, ← e]
        exact List.mem_map.2 ⟨_, getD_memH hk, rfl⟩
      unfold candB
      rw [this]; simp
    refine ⟨hi, fun g => ⟨g, ok.1, by omega⟩, fun g => ?_, fun g => ?_⟩
    · cases e : candB l r with
      | false => rfl
      | true =>
        unfold candB at e
        simp only [Bool.and_eq_true, Bool.not_eq_true', decide_eq_true_eq] at e
        obtain ⟨⟨⟨⟨x1, x2⟩, x3⟩, x4⟩, x5⟩ := e
        have x5 := hp.1 x5
        rcases g with ((g | g) | g) | g
        · exact absurd x1 g
        · exact absurd (List.length_eq_zero_iff.1 (by omega)) x2
        · exact absurd x3 g
        · omega
    refine LoopW.adj ⟨hct, fol⟩ (by kernel_rfl) [] (fun k : Nat => [(0, .sl l.length (lsF cRec l)), (5, .ptr 5 0), (6, .int .i64 k)]) (fun _ => [(5, .cells (cRec.enc r).flat)]) (fun k => k ≤ l.length ∧ ∀ j, j < k → (l.getD j noRec).ow ≠ r.id) (fun k => l.length - k) 0 ?_ fun k hk => ?_
    · push_cast (config := { maxSteps := 10000000 })
      exact Nat.zero_le _
    · push_cast (config := { maxSteps := 10000000 })
      obtain ⟨h1, h2⟩ := hk
      refine ⟨fun hlt => ⟨hlt, fun e => (ho k hlt e).symm, fun hne => ⟨⟨by omega, by omega⟩, k + 1, ⟨by omega, fun j hj => ?_⟩, by omega, by omega⟩⟩, fun hge => ?_⟩
      · by_cases e : j = k
        · rw [e]; exact hne
        · exact h2 j (by omega)
      · have hk : k = l.length := by omega
        have hof : ofB l r = false := by
          unfold ofB
          cases e : (l.map Rcd.ow).contains r.id with
          | false => rfl
          | true =>
            rw [List.contains_iff_mem] at e
            obtain ⟨x, hx, ex⟩ := List.mem_map.1 e
            obtain ⟨j, hj, rfl⟩ := List.getElem_of_mem hx
            refine absurd ?_ (h2 j (by omega))
            rw [List.getD_eq_getElem?_getD, List.getElem?_eq_getElem hj]; exact ex
        obtain ⟨⟨⟨g1, g2⟩, g3⟩, g4⟩ := g
        have x5 := hp.2 (by omega)
        have x2 : r.bd ≠ [] := fun e => g2 (by rw [e]; rfl)
        unfold candB
        rw [decide_eq_true g1, decide_eq_true x2, decide_eq_true g3, hof, x5]; rfl
  · cases h
attribute [push_cast] ckAlone
def bdV (r : Rcd) (b : Bool) : V := bif b then .nilsl else .sl r.bd.length (byF r.bd)
@[push_cast] theorem kill_bdV (d : Nat) (r : Rcd) (b : Bool) : V.kill d (bdV r b) = bdV r b := by cases b <;> rfl
def revH (l : List Rcd) (i : Nat) : V := .agg [.int .i64 (revF l i).ki, .str (revF l i).id, .str (revF l i).ow, .int .i64 (revF l i).ti, .str (revF l i).ke, .sl (revF l i).hd.length (lsF cHd (revF l i).hd), bdV (revF l i) (isRev l i)]
def recV (r : Rcd) (b : Bool) : List V := [.int .i64 r.ki, .str r.id, .str r.ow, .int .i64 r.ti, .str r.ke, .sl r.hd.length (lsF cHd r.hd), bdV r b]
@[push_cast] theorem kill_revH (d : Nat) (l : List Rcd) (i : Nat) : V.kill d (revH l i) = revH l i := by
  show V.agg [_, _, _, _, _, _, V.kill d (bdV (revF l i) (isRev l i))] = _
  rw [kill_bdV]; rfl
@[push_cast] theorem revH_flat (l : List Rcd) (i : Nat) : (revH l i).flat = [.int .i64 (revF l i).ki, .str (revF l i).id, .str (revF l i).ow, .int .i64 (revF l i).ti, .str (revF l i).ke, .sl (revF l i).hd.length (lsF cHd (revF l i).hd), bdV (revF l i) (isRev l i)] := rfl
theorem revH_pure (l : List Rcd) (i : Nat) : (revH l i).isPure = true := by
  unfold revH bdV
  cases isRev l i <;> rfl
theorem revH_app (l : List Rcd) {i : Nat} {v : V} (h : v = revH l i) : ∀ j, j < i + 1 → appF i (revH l) (litF [v]) j = revH l j := fun j hj => by
  unfold appF
  by_cases e : j < i
  · rw [decide_eq_true e, cond_true]
  · rw [decide_eq_false e, cond_false, show j = i by omega, Nat.sub_self, h]; rfl
theorem revF_none {l : List Rcd} {i : Nat} (h : isRev l i = false) : revF l i = l.getD i noRec := by
  unfold isRev at h
  unfold revF revR
  by_cases hc : candB l (l.getD i noRec) = true
  · rw [if_pos hc]
    rw [hc, Bool.true_and] at h
    cases hf : fstR l (l.take i) (l.getD i noRec) with
    | none => rfl
    | some x => rw [hf] at h; cases h
  · rw [if_neg hc]
theorem revH_none {l : List Rcd} {i : Nat} (h : isRev l i = false) : cRec.enc (l.getD i noRec) = revH l i := by
  unfold revH
  rw [revF_none h, h]; rfl
theorem revH_some {l : List Rcd} {i : Nat} {x : Rcd} (hc : candB l (l.getD i noRec) = true) (hf : fstR l (l.take i) (l.getD i noRec) = some x) : V.agg [.int .i64 4, .str (l.getD i noRec).id, .str x.id, .int .i64 (l.getD i noRec).ti, .str (l.getD i noRec).ke, .sl (l.getD i noRec).hd.length (lsF cHd (l.getD i noRec).hd), .nilsl] = revH l i := by
  have h1 : isRev l i = true := by unfold isRev; rw [hc, hf]; rfl
  have h2 : revF l i = ⟨4, (l.getD i noRec).id, x.id, (l.getD i noRec).ti, (l.getD i noRec).ke, (l.getD i noRec).hd, []⟩ := by
    unfold revF revR; rw [if_pos hc, hf]
  unfold revH
  rw [h1, h2]; rfl
theorem fstR_s {l p : List Rcd} {x r : Rcd} (h : fstR l p r = none) : fstR l (p ++ [x]) r = if candB l x = true ∧ sameB x r = true then some x else none := by
  unfold fstR at *
  rw [List.find?_append, h, Option.none_or]
  by_cases e : candB l x = true ∧ sameB x r = true
  · rw [if_pos e]; simp [List.find?, e.1, e.2]
  · rw [if_neg e]
    have : (candB l x && sameB x r) = false := by
      rw [Bool.and_eq_false_iff]
      by_cases e1 : candB l x = true
      · exact .inr (by rw [← Bool.not_eq_true]; exact fun e2 => e ⟨e1, e2⟩)
      · exact .inl (by rw [← Bool.not_eq_true]; exact e1)
    simp only [List.find?, this]
theorem fstR_p {l p : List Rcd} {x r : Rcd} (q : List Rcd) (h : fstR l p r = some x) : fstR l (p ++ q) r = some x := by
  unfold fstR at *
  rw [List.find?_append, h]; rfl
theorem fstR_tr {l p : List Rcd} {x r : Rcd} (h : fstR l p r = none) (hs : sameB x r = true) : fstR l p x = none := by
  unfold fstR at *
  rw [List.find?_eq_none] at *
  intro y hy
  have := h y hy
  unfold sameB at *
  simp only [Bool.and_eq_true, beq_iff_eq] at *
  rw [hs.1, hs.2]; exact this
theorem revF_first {l : List Rcd} {k : Nat} {r : Rcd} (h : fstR l (l.take k) r = none) (hs : sameB (l.getD k noRec) r = true) : revF l k = l.getD k noRec := by
  unfold revF revR
  rw [fstR_tr h hs]
  by_cases e : candB l (l.getD k noRec) = true
  · rw [if_pos e]
  · rw [if_neg e]
def ckRevOf : Ck
  | [.sl n f] => some (isLs cRec n f ∧ recsOk (lsOf cRec n f) ∧ checkFileL (lsOf cRec n f) = 0, .sl (lsOf cRec n f).length (revH (lsOf cRec n f)))
  | _ => none
theorem conRevOf : Con pg 31 ckRevOf := by
  have hct := (ctA_ok conCut (ctA_ok conAlone (ctA_ok conBEqual (ctN_ok _))))
  intro args q r h hq
  unfold ckRevOf at h
  split at h
  · cases h
    rename_i n f
    refine pcall_args (args' := [.sl (lsOf cRec n f).length (lsF cRec (lsOf cRec n f))]) ⟨isLs.vle hq.1, trivial⟩ ?_
    obtain ⟨-, hl, hck⟩ := hq
    generalize lsOf cRec n f = l at hl hck ⊢
    refine w31 (fun _ => false) [.frz 8000] rfl hct rfl rfl ?_
    push_cast (config := { maxSteps := 10000000 })
    obtain ⟨hcl, hfl, hlen⟩ := file_ok hck
    refine LoopW.adj ⟨hct, fol⟩ (by kernel_rfl) [.nv 3 8000 7 (revH l)] (fun i : Nat => [(0, .sl l.length (lsF cRec l)), (3, .vec 8000 i), (4, .int .i64 i)]) (fun i => [(8000, .vec 7 i (revH l))]) (fun i => i ≤ l.length) (fun i => l.length - i) 0 ?_ fun i hi => ?_
    · push_cast (config := { maxSteps := 10000000 })
      exact Nat.zero_le _
    · push_cast (config := { maxSteps := 10000000 })
      refine ⟨fun h => ?_, fun h => ⟨fun j _ => revH_pure l j, by omega⟩⟩
      have ok := recsOk_at hl h
      have z7 : (l.getD i noRec).hd.length ≤ 1000000 := by
        obtain ⟨-, -, -, -, -, -, z⟩ := rec_sz (hcl _ (getD_memH (d := noRec) h))
        omega
      refine ⟨h, h, ⟨ok, z7, Nat.le_refl _⟩, ⟨hl, hck, h⟩, fun hc => ?_, fun hc => ⟨⟨by omega, by omega⟩, ⟨by omega, by omega⟩, i + 1, by omega, by omega, ⟨rfl, by omega⟩, rfl, revH_app l (revH_none (by unfold isRev; rw [hc]; rfl))⟩⟩
      refine LoopW.adj ⟨hct, fol⟩ (by kernel_rfl) [] (fun k : Nat => [(0, .sl l.length (lsF cRec l)), (3, .vec 8000 i), (4, .int .i64 i), (5, .ptr 5 0), (6, .int .i64 k)]) (fun _ => [(8000, .vec 7 i (revH l)), (5, .cells (cRec.enc (l.getD i noRec)).flat)]) (fun k => k ≤ i ∧ fstR l (l.take k) (l.getD i noRec) = none) (fun k => i - k) 0 ?_ fun k hk => ?_
      · push_cast (config := { maxSteps := 10000000 })
        exact ⟨Nat.zero_le _, rfl⟩
      · push_cast (config := { maxSteps := 10000000 })
        obtain ⟨hki, hf⟩ := hk
        have e1 : l.take (k + 1) = l.take k ++ [l.getD k noRec] := by
          rw [List.getD_eq_getElem?_getD, List.getElem?_eq_getElem (by omega), List.take_succ_eq_append_getElem (by omega)]; rfl
        refine ⟨fun hlt => ?_, fun hge => ?_⟩
        · have hkl : k < l.length := by omega
          refine ⟨hlt, hlt, fun g => ⟨g, hl, hck, hkl⟩, fun g => ⟨g, hkl⟩, fun g => ⟨g, hkl⟩, fun g => ?_, fun g => ⟨⟨by omega, by omega⟩, k + 1, ⟨by omega, ?_⟩, by omega, by omega⟩⟩
          · obtain ⟨⟨⟨g1, g2⟩, g3⟩, g4⟩ := g
            have hs : sameB (l.getD k noRec) (l.getD i noRec) = true := by unfold sameB; rw [g3, g4, beq_self_eq_true, beq_self_eq_true]; rfl
            have hi1 : fstR l (l.take i) (l.getD i noRec) = some (l.getD k noRec) := by
              have e2 : l.take i = l.take (k + 1) ++ (l.take i).drop (k + 1) := by
                rw [show l.take (k + 1) = (l.take i).take (k + 1) by rw [List.take_take, Nat.min_eq_left (by omega)], List.take_append_drop]
              rw [e2]
              refine fstR_p _ ?_
              rw [e1, fstR_s hf, if_pos ⟨g2, hs⟩]
            exact ⟨hkl, ⟨by omega, by omega⟩, ⟨by omega, by omega⟩, i + 1, by omega, by omega, ⟨rfl, by omega⟩, rfl, revH_app l (revH_some hc hi1)⟩
          · rw [e1, fstR_s hf, if_neg]
            intro ⟨g2, hs⟩
            have g1 : (revF l k).ki = 3 := by
              rw [revF_first hf hs]
              unfold candB at g2
              simp only [Bool.and_eq_true, decide_eq_true_eq] at g2
              exact g2.1.1.1.1
            unfold sameB at hs
            simp only [Bool.and_eq_true, beq_iff_eq] at hs
            exact g ⟨⟨g1, g2⟩, hs.1⟩ hs.2
        · have hki : k = i := by omega
          subst hki
          exact ⟨⟨by omega, by omega⟩, ⟨by omega, by omega⟩, k + 1, by omega, by omega, ⟨rfl, by omega⟩, rfl, revH_app l (revH_none (by unfold isRev; rw [hc, hf]; rfl))⟩
  · cases h
attribute [push_cast] ckRevOf
def ckRevV6 : Ck
  | [.sl n f] => some (isLs cRec n f ∧ recsOk (lsOf cRec n f), .tup [.sl (if checkFileL (lsOf cRec n f) = 0 then (lsOf cRec n f).length else 0) (revH (lsOf cRec n f)), .int .i64 (checkFileL (lsOf cRec n f))])
  | _ => none
theorem conRevV6 : Con pg 13 ckRevV6 := by
  have hct := (ctA_ok conCheckFile2 (ctA_ok conRevOf (ctN_ok _)))
  intro args q r h hq
  unfold ckRevV6 at h
  split at h
  · cases h
    rename_i n f
    refine pcall_args (args' := [.sl (lsOf cRec n f).length (lsF cRec (lsOf cRec n f))]) ⟨isLs.vle hq.1, trivial⟩ ?_
    obtain ⟨-, hl⟩ := hq
    generalize lsOf cRec n f = l at hl ⊢
    refine w13 (fun _ => false) [] rfl hct rfl rfl ?_
    push_cast (config := { maxSteps := 10000000 })
    exact ⟨hl, fun h => if_neg h, fun h => ⟨⟨hl, h⟩, (if_pos h).symm, h.symm⟩⟩
  · cases h
attribute [push_cast] ckRevV6
theorem conRev6 : Con pg 13 ckRev := by
  intro args q r h hq
  unfold ckRev at h
  split at h
  · cases h
    rename_i n f
    refine pcall_res (VLe.tup2 ?_) (conRevV6 _ _ _ rfl hq)
    generalize lsOf cRec n f = l
    unfold revR0
    by_cases he : checkFileL l = 0
    · rw [if_pos he, if_pos he]
      refine VLe.slP (revL_len l).symm fun i hi => ?_
      have e : lsF cRec (revL l) i = cRec.enc (revF l i) := by
        show cRec.enc ((revL l).getD i noRec) = _
        rw [revL_at l hi]
      rw [e]
      exact enc_ple _ (rev_bd l)
    · rw [if_neg he, if_neg he]
      exact VLe.slP rfl fun i hi => absurd hi (Nat.not_lt_zero i)
  · cases h

end Go.Abs
