/- what functions of this program compute: contracts, each a function's own -/
import Derived.Test.YtcbkpkcmbijipaaGreatDoorAbsK3
import Derived.Test.YtcbkpkcmbijipaaGreatDoorAbsFacts
import Derived.Test.YtcbkpkcmbijipaaGreatDoorAbsF3
import Derived.Test.YtcbkpkcmbijipaaGreatDoorAbsShelf
import Derived.Lib.SlTrimSet
import Derived.Lib.Atoi
import Derived.Lib.Itoa
import Derived.Lib.ItoaNum
import Derived.Lib.AtoiErrMem
import Derived.Lib.Repeat
import Derived.Lib.ItoaLen
import Derived.Lib.Walk
import Derived.WalkKit
import Derived.OwnWalkIn
import Derived.TacticsInMore
import Derived.RegionIn
import Derived.LoopNIn
import Derived.LoopIn
import Derived.Shelf.Abstract
namespace Go.Abs
open Go Go.Proofs
set_option maxHeartbeats 4000000
set_option maxRecDepth 100000
set_option linter.unusedVariables false
set_option linter.unusedSimpArgs false
def ckCloneHd : Ck
  | [.sl n f] => some (isLs cHd n f ∧ n ≤ 1000000000000, .sl n f)
  | _ => none
theorem conCloneHd : Con pg 33 ckCloneHd := by
  have hct := ctN_ok pg
  intro args q r h hq
  unfold ckCloneHd at h
  split at h
  · cases h
    rename_i n f
    by_cases hn : n = 0
    · subst hn
      refine pcall_nil1 fun a c => ?_
      refine w33 (fun d => decide (d < 9999)) [.frz 5] rfl hct rfl rfl ?_
      push_cast (config := { maxSteps := 10000000 })
      cases a
      · push_cast (config := { maxSteps := 10000000 })
      · push_cast (config := { maxSteps := 10000000 })
    · refine w33 (fun d => decide (d < 9999)) [.frz 5] rfl hct rfl rfl ?_
      push_cast (config := { maxSteps := 10000000 })
      obtain ⟨h1, h2⟩ := hq
      exact ⟨by omega, ⟨h1.flat (fun _ => rfl), by omega, by omega⟩, h1.pure (fun _ => rfl)⟩
  · cases h
attribute [push_cast] ckCloneHd
theorem ncall_nil1 {f : FuncId} {g : Nat → V} {r : V} {nb : Blk} (h : ∀ a c, NCall pg f [.con (.slice a 0 c)] r nb) : NCall pg f [.sl 0 g] r nb := by
  intro S vals hs hh hl hr
  match vals, hl with
  | [v], _ =>
    have h0 := hr 0 (by simp)
    simp only [List.getD_cons_zero] at h0
    obtain ⟨a, c, rfl⟩ : ∃ a c, v = .slice a 0 c := by
      cases inv_sl h0 with
      | sl0 _ a c => exact ⟨a, c, rfl⟩
      | sl _ _ b off c sz u => exact ⟨_, _, rfl⟩
    exact h a c S [.slice a 0 c] hs hh rfl fun i hi => by
      have : i = 0 := by simp at hi; omega
      subst this
      exact .pure (.con _)
def ckCloneRec : List V → Option (Prop × V × Blk)
  | [.sl n f] => some (isLs cRec n f ∧ n ≤ 1000000, .vec 8999 n, .vec 7 n f)
  | _ => none
theorem conCloneRec : NCon pg 43 ckCloneRec := by
  have hct := ctN_ok pg
  intro args q r nb h hq
  unfold ckCloneRec at h
  split at h
  · cases h
    rename_i n f
    by_cases hn : n = 0
    · subst hn
      refine ncall_nil1 fun a c => ?_
      cases a
      · refine nw43 (fun d => decide (d < 9999)) [.nv 2 8999 7 f] rfl hct rfl rfl ?_ ?_
        · simp [noIdB]
        push_cast (config := { maxSteps := 10000000 })
      · refine nw43 (fun d => decide (d < 9999)) [.ren 5 8999] rfl hct rfl rfl ?_ ?_
        · simp [noIdB]
        push_cast (config := { maxSteps := 10000000 })
    · obtain ⟨h1, h2⟩ := hq
      refine nw43 (fun d => decide (d < 9999)) [.ren 5 8999] rfl hct rfl rfl ?_ ?_
      · intro i hi; show V.noIdL (f i).flat = true; rw [h1.2 i hi]; rfl
      push_cast (config := { maxSteps := 10000000 })
      exact ⟨by omega, ⟨h1.flat (fun _ => rfl), by omega, by omega⟩, fun i hi => by rw [h1.2 i hi]; rfl⟩
  · cases h
attribute [push_cast] ckCloneRec
theorem setF_self (f : Nat → V) (i : Nat) : setF f i (f i) = f := by
  funext j
  unfold setF
  by_cases e : j = i
  · subst e; rw [decide_eq_true rfl]; rfl
  · rw [decide_eq_false e]; rfl
def ckCopies : Ck
  | [.sl n f] => some (isLs cRec n f ∧ recsOk (lsOf cRec n f) ∧ (∀ r ∈ lsOf cRec n f, r.hd.length ≤ 1000000) ∧ n ≤ 1000000, .sl (lsOf cRec n f).length (lsF cRec (lsOf cRec n f)))
  | _ => none
theorem conCopies : Con pg 22 ckCopies := by
  have hct := (ctA_ok conCloneHd (ctA_ok conCloneBy (ctW_ok conCloneRec (ctN_ok _))))
  intro args q r h hq
  unfold ckCopies at h
  split at h
  · cases h
    rename_i n f
    refine pcall_args (args' := [.sl (lsOf cRec n f).length (lsF cRec (lsOf cRec n f))]) ⟨isLs.vle hq.1, trivial⟩ ?_
    obtain ⟨-, hl, hh, hn⟩ := hq
    have hn : (lsOf cRec n f).length ≤ 1000000 := by rw [lsOf_len]; exact hn
    generalize lsOf cRec n f = l at hl hh hn ⊢
    refine w22 (fun _ => false) [.frz 6] rfl hct rfl rfl ?_
    push_cast (config := { maxSteps := 10000000 })
    refine ⟨hn, ?_⟩
    refine LoopW.adj ⟨hct, fol⟩ (by kernel_rfl) [] (fun i : Nat => [(3, .vec 6 l.length), (8, .int .i64 l.length), (9, .int .i64 i)]) (fun _ => [(6, .vec 7 l.length (lsF cRec l))]) (fun i => i ≤ l.length) (fun i => l.length - i) 0 ?_ fun i hi => ?_
    · push_cast (config := { maxSteps := 10000000 })
      exact Nat.zero_le _
    · push_cast (config := { maxSteps := 10000000 })
      intro h
      have ok := recsOk_at hl h
      have h30 : (l.getD i noRec).hd.length ≤ 1000000 := hh _ (by rw [List.getD_eq_getElem?_getD, List.getElem?_eq_getElem h]; exact List.getElem_mem h)
      refine ⟨h, h, by omega, h, h, ok.2.2.2.2.2.1, h, h, h, h, ⟨by omega, by omega⟩, i + 1, by omega, by omega, by omega, fun k hk => ?_⟩
      have e := setF_self (lsF cRec l) i
      show setF (setF (lsF cRec l) i (lsF cRec l i)) i (reV (setF (lsF cRec l) i (lsF cRec l i) i) (setR (setF (lsF cRec l) i (lsF cRec l i) i).flat 6 [V.sl (l.getD i noRec).bd.length (byF (l.getD i noRec).bd)])) k = lsF cRec l k
      rw [e]
      exact congrFun e k
  · cases h
attribute [push_cast] ckCopies

def ckCloneByN : List V → Option (Prop × V × Blk)
  | [.sl n f] => some (isBy n f ∧ n ≤ 140737488355328, .vec 8999 n, .vec 1 n f)
  | _ => none
theorem conCloneByN : NCon pg 34 ckCloneByN := by
  have hct := ctN_ok pg
  intro args q r nb h hq
  unfold ckCloneByN at h
  split at h
  · cases h
    rename_i n f
    by_cases hn : n = 0
    · subst hn
      refine ncall_nil1 fun a c => ?_
      cases a
      · refine nw34 (fun d => decide (d < 9999)) [.nv 2 8999 1 f] rfl hct rfl rfl ?_ ?_
        · simp [noIdB]
        push_cast (config := { maxSteps := 10000000 })
      · refine nw34 (fun d => decide (d < 9999)) [.ren 5 8999] rfl hct rfl rfl ?_ ?_
        · simp [noIdB]
        push_cast (config := { maxSteps := 10000000 })
    · obtain ⟨h1, h2⟩ := hq
      refine nw34 (fun d => decide (d < 9999)) [.ren 5 8999] rfl hct rfl rfl ?_ ?_
      · intro i hi; show V.noIdL (f i).flat = true; rw [h1.2 i hi]; rfl
      push_cast (config := { maxSteps := 10000000 })
      exact ⟨by omega, ⟨h1.flat, by omega, by omega⟩, fun i hi => by rw [h1.2 i hi]; rfl⟩
  · cases h
attribute [push_cast] ckCloneByN
theorem insF_in {f g : Nat → V} {o m i : Nat} (h : o ≤ i) (h2 : i < o + m) : insF f o m g i = g (i - o) := by
  unfold insF
  rw [decide_eq_true (show o ≤ i ∧ i < o + m from ⟨h, h2⟩)]; rfl
theorem insF_out {f g : Nat → V} {o m i : Nat} (h : i < o ∨ o + m ≤ i) : insF f o m g i = f i := by
  unfold insF
  rw [decide_eq_false (show ¬ (o ≤ i ∧ i < o + m) by omega)]; rfl

def ckCloneHdN : List V → Option (Prop × V × Blk)
  | [.sl n f] => some (isLs cHd n f ∧ n ≤ 1000000000000, .vec 8999 n, .vec 2 n f)
  | _ => none
theorem conCloneHdN : NCon pg 33 ckCloneHdN := by
  have hct := ctN_ok pg
  intro args q r nb h hq
  unfold ckCloneHdN at h
  split at h
  · cases h
    rename_i n f
    by_cases hn : n = 0
    · subst hn
      refine ncall_nil1 fun a c => ?_
      cases a
      · refine nw33 (fun d => decide (d < 9999)) [.nv 2 8999 2 f] rfl hct rfl rfl ?_ ?_
        · simp [noIdB]
        push_cast (config := { maxSteps := 10000000 })
      · refine nw33 (fun d => decide (d < 9999)) [.ren 5 8999] rfl hct rfl rfl ?_ ?_
        · simp [noIdB]
        push_cast (config := { maxSteps := 10000000 })
    · obtain ⟨h1, h2⟩ := hq
      refine nw33 (fun d => decide (d < 9999)) [.ren 5 8999] rfl hct rfl rfl ?_ ?_
      · intro i hi; show V.noIdL (f i).flat = true; rw [h1.2 i hi]; rfl
      push_cast (config := { maxSteps := 10000000 })
      exact ⟨by omega, ⟨h1.flat (fun _ => rfl), by omega, by omega⟩, fun i hi => by rw [h1.2 i hi]; rfl⟩
  · cases h
attribute [push_cast] ckCloneHdN
theorem eraseH (l : List Hd) (a j : Nat) : (l.eraseIdx a).getD j ⟨[], []⟩ = if j < a then l.getD j ⟨[], []⟩ else l.getD (j + 1) ⟨[], []⟩ := by
  rw [List.getD_eq_getElem?_getD, List.getD_eq_getElem?_getD, List.getD_eq_getElem?_getD, List.getElem?_eraseIdx]
  split <;> rfl
theorem delFH {l : List Hd} {a : Nat} (ha : a < l.length) (Z : Nat → V) {q m : Nat} (hq : q = l.length - 1) (hm : m = 1) : (∀ i, i < l.length - 1 → insF (insF (lsF cHd l) a (l.length - (a + 1)) (shF (lsF cHd l) (a + 1))) q m Z i = lsF cHd (l.eraseIdx a) i) ∧ insF (insF (lsF cHd l) a (l.length - (a + 1)) (shF (lsF cHd l) (a + 1))) q m Z (l.length - 1) = Z 0 := by
  subst hq hm
  refine ⟨fun i hi => ?_, ?_⟩
  · rw [insF_out (.inl hi)]
    by_cases h : i < a
    · rw [insF_out (.inl h)]
      show cHd.enc _ = cHd.enc _
      rw [show cHd.d = (⟨[], []⟩ : Hd) from rfl, eraseH, if_pos h]
    · rw [insF_in (by omega) (by omega)]
      unfold shF
      show cHd.enc _ = cHd.enc _
      rw [show cHd.d = (⟨[], []⟩ : Hd) from rfl, eraseH, if_neg h, show i - a + (a + 1) = i + 1 by omega]
  · rw [insF_in (Nat.le_refl _) (by omega), Nat.sub_self]
def ckDelHK : List V → List Blk → Option (Prop × V × List Blk)
  | [.vec 32 n, .int .i64 a, .int .i64 c], [.vec 2 k f] => some (k = n ∧ isLs cHd n f ∧ 0 ≤ a ∧ a < n ∧ c = a + 1 ∧ n ≤ 1000000, .sl (n - 1) (lsF cHd ((lsOf cHd n f).eraseIdx a.toNat)), [])
  | _, _ => none
def ckDelH : Cf := ⟨fun | [.vec 32 _, _, _] => [32] | _ => [], ckDelHK⟩
theorem conDelH : FCon pg 60 ckDelH := by
  have hct := ctN_ok pg
  intro args bs q r bs' h hq
  replace h : ckDelHK args bs = some (q, r, bs') := h
  unfold ckDelHK at h
  split at h
  · cases h
    rename_i n a c k f
    refine ⟨rfl, Nat.zero_le _, ?_⟩
    obtain ⟨rfl, hf, ha0, han, rfl, hn⟩ := hq
    show FCall pg 60 [.vec (9032) k, .int .i64 a, .int .i64 (a + 1)] [(9032, .vec 2 k fun j => V.shift (f j))] (.sl (k - 1) (lsF cHd ((lsOf cHd k f).eraseIdx a.toNat))) []
    refine fcall_blk (hm := [(9032, .vec 2 (lsOf cHd k f).length (lsF cHd (lsOf cHd k f)))]) ⟨rfl, ⟨rfl, (lsOf_len k f).symm, fun j hj => by show V.shift (f j) = _; rw [hf.2 j hj]; rfl⟩, trivial⟩ ?_
    have hk := lsOf_len (c := cHd) k f
    generalize lsOf cHd k f = l at hk ⊢
    subst hk
    obtain ⟨a, rfl⟩ : ∃ m : Nat, a = m := ⟨a.toNat, by omega⟩
    rw [Int.toNat_natCast]
    have ha : a < l.length := by omega
    refine fw60 (fun d => decide (d < 9999)) [.frz 9032] rfl hct rfl (by simp) trivial rfl ?_
    push_cast (config := { maxSteps := 10000000 })
    have e1 : ((a : Int) + ((l.length - (a + 1) : Nat) : Int)).toNat = l.length - 1 := by omega
    have e2 : l.length - ((a : Int) + ((l.length - (a + 1) : Nat) : Int)).toNat = 1 := by omega
    refine ⟨⟨Nat.le_refl _, ⟨by omega, by omega⟩, by omega, by omega, by omega⟩, fun h => by omega, fun _ => ⟨by omega, ⟨⟨by omega, by omega⟩, by omega⟩, by omega, ⟨Nat.le_refl _, ⟨by omega, by omega⟩, by omega⟩, fun i hi => ?_, by omega, fun i hi => ?_⟩⟩
    · by_cases h : i < l.length - 1
      · exact (congrArg V.isPure ((delFH ha _ e1 e2).1 i h)).trans rfl
      · obtain rfl : i = l.length - 1 := by omega
        exact (congrArg V.isPure (delFH ha _ e1 e2).2).trans rfl
    · exact (delFH ha _ e1 e2).1 i (by omega)
  · cases h
@[push_cast] theorem delH_ids (n : Nat) (x y : V) : ckDelH.ids [.vec 32 n, x, y] = [32] := rfl
@[push_cast] theorem delH_k (n k : Nat) (a c : Int) (f : Nat → V) : ckDelH.k [.vec 32 n, .int .i64 a, .int .i64 c] [.vec 2 k f] = some (k = n ∧ isLs cHd n f ∧ 0 ≤ a ∧ a < n ∧ c = a + 1 ∧ n ≤ 1000000, .sl (n - 1) (lsF cHd ((lsOf cHd n f).eraseIdx a.toNat)), []) := rfl
/-- the number that a head says; 0: none that counts -/
def numV (s : List UInt8) : Int := if digL s 4 = true then natOf s else 0
def ckNumber : Ck
  | [.str s] => some (s.length ≤ 140737488355328, .int .i64 (numV s))
  | _ => none
theorem conNumber : Con pg 59 ckNumber := by
  have hct := (ctA_ok conDigits (ctA_ok conAtoi (ctN_ok _)))
  intro args q r h hq
  unfold ckNumber at h
  split at h
  · cases h
    rename_i s
    refine w59 (fun _ => false) [] rfl hct rfl rfl ?_
    push_cast (config := { maxSteps := 10000000 })
    refine ⟨by omega, fun h => by unfold numV; rw [if_neg (by rw [h]; exact Bool.false_ne_true)], fun h => ?_⟩
    have e : numV s = natOf s := by unfold numV; rw [if_pos h]
    unfold digL at h
    simp only [Bool.and_eq_true, decide_eq_true_eq] at h
    exact ⟨⟨h.1.1.1, by omega, h.1.2⟩, e.symm⟩
  · cases h
attribute [push_cast] ckNumber

/- pieces of a record -/
def wNumber : List UInt8 := [110, 117, 109, 98, 101, 114]
def hdV (x : Rcd) (w : List UInt8) : List UInt8 := (x.hd.getD (fstH x.hd w).toNat ⟨[], []⟩).value
def isPc (r : Rcd) (id : List UInt8) (x : Rcd) : Bool := (((decide (x.ki = 5) && decide (x.ow = id)) && decide (0 ≤ fstH x.hd wNumber)) && decide (x.ti = r.ti)) && decide (x.ke = r.ke)
def nbV (x : Rcd) : Int := numV (hdV x wNumber)
def pcsL (r : Rcd) (id : List UInt8) (l : List Rcd) (n : Int) : List Rcd := l.filter fun x => isPc r id x && decide (nbV x = n)
/-- the rows of a map of records -/
def rowsR (q : Int → List Rcd) : Rws := fun k => match k with
  | .int .i64 n => if q n = [] then none else some ((q n).length, lsF cRec (q n))
  | _ => none
theorem rowsR_no {q : Int → List Rcd} (h : ∀ n, q n = []) : rowsR q = fun _ => none := by
  funext k
  unfold rowsR
  split
  · rw [if_pos (h _)]
  · rfl
theorem rowsR_other {q q' : Int → List Rcd} {n : Int} (h : ∀ m, m ≠ n → q' m = q m) {k : MK} (hk : k ≠ .int .i64 n) : rowsR q' k = rowsR q k := by
  unfold rowsR
  split
  · rename_i m
    rw [h m (fun e => hk (by rw [e]))]
  · rfl
theorem fstH_lt (l : List Hd) (w : List UInt8) : 0 ≤ fstH l w → fstH l w < l.length := by
  unfold fstH
  split
  · rename_i k hk
    have := (List.findIdx?_eq_some_iff_getElem.1 hk).1
    intro _; omega
  · intro h; omega
theorem pcsL_s (r : Rcd) (id : List UInt8) (l : List Rcd) {i : Nat} (h : i < l.length) (n : Int) : pcsL r id (l.take (i + 1)) n = pcsL r id (l.take i) n ++ (if isPc r id (l.getD i noRec) = true ∧ nbV (l.getD i noRec) = n then [l.getD i noRec] else []) := by
  unfold pcsL
  rw [takeG (d := noRec) h, List.filter_append]
  congr 1
  by_cases c : isPc r id (l.getD i noRec) = true ∧ nbV (l.getD i noRec) = n
  · rw [if_pos c, List.filter_cons, if_pos (by rw [c.1, decide_eq_true c.2]; rfl)]; rfl
  · rw [if_neg c, List.filter_cons, if_neg (by simpa using c)]; rfl
theorem pcsL_in {r : Rcd} {id : List UInt8} {l : List Rcd} {i : Nat} (h : i < l.length) {x : Rcd} (hx : l.getD i noRec = x) (hp : isPc r id x = true) : pcsL r id (l.take (i + 1)) (nbV x) = pcsL r id (l.take i) (nbV x) ++ [x] ∧ ∀ m, m ≠ nbV x → pcsL r id (l.take (i + 1)) m = pcsL r id (l.take i) m := by
  refine ⟨?_, fun m hm => ?_⟩
  · rw [pcsL_s r id l h, hx, if_pos ⟨hp, rfl⟩]
  · rw [pcsL_s r id l h, hx, if_neg (fun e => hm e.2.symm), List.append_nil]
theorem pcsL_out {r : Rcd} {id : List UInt8} {l : List Rcd} {i : Nat} (h : i < l.length) {x : Rcd} (hx : l.getD i noRec = x) (hp : ¬ isPc r id x = true) : pcsL r id (l.take (i + 1)) = pcsL r id (l.take i) := by
  funext m
  rw [pcsL_s r id l h, hx, if_neg (fun e => hp e.1), List.append_nil]
theorem isPc_iff {r : Rcd} {id : List UInt8} {x : Rcd} : isPc r id x = true ↔ (((x.ki = 5 ∧ x.ow = id) ∧ 0 ≤ fstH x.hd wNumber) ∧ x.ti = r.ti) ∧ x.ke = r.ke := by
  unfold isPc
  simp only [Bool.and_eq_true, decide_eq_true_eq]
@[push_cast] theorem okL_sl (q : Int → List Rcd) (k : MK) : okL (slM (rowsR q) k) = True := by
  refine eq_true ?_
  unfold slM
  cases rowsR q k <;> exact trivial
@[push_cast] theorem asN_sl (q : Int → List Rcd) (n : Int) : asN (slM (rowsR q) (.int .i64 n)) = (q n).length := by
  unfold slM rowsR
  simp only
  by_cases h : q n = []
  · rw [if_pos h, h]; rfl
  · rw [if_neg h]; rfl
theorem asF_sl {q : Int → List Rcd} {n : Int} {x : Rcd} (h : q n = [x]) : asF (slM (rowsR q) (.int .i64 n)) = lsF cRec [x] := by
  unfold slM rowsR
  simp only [h]
  rw [if_neg (by simp)]; rfl
/-- the blocks of the pieces n .. many are put behind -/
def joinG (q : Int → List Rcd) : Nat → Int → List UInt8 → Option (List UInt8)
  | 0, _, b => some b
  | k + 1, n, b => if (q n).length = 1 then joinG q k (n + 1) (b ++ ((q n).getD 0 noRec).bd) else none
def jnX (r : Rcd) (b : List UInt8) : Rcd := ⟨r.ki, r.id, r.ow, r.ti, r.ke, r.hd.eraseIdx (fstH r.hd wPieces).toNat, b⟩
def jnE (r : Rcd) : Option (List UInt8) → Rcd × Int
  | none => (noRec, 9)
  | some b => if checkRecL (jnX r b) = 0 then (jnX r b, 0) else (noRec, checkRecL (jnX r b))
def jnR (l : List Rcd) (id : List UInt8) (r : Rcd) : Rcd × Int :=
  if fstH r.hd wPieces < 0 then (r, 0)
  else if numV (hdV r wPieces) < 2 then (noRec, 3)
  else jnE r (joinG (pcsL r id l) (numV (hdV r wPieces) - 1).toNat 2 r.bd)
def joinL (l : List Rcd) (id : List UInt8) : Rcd × Int := if ¬ 0 ≤ fndL l id ∨ (fndR l id).ki = 5 then (noRec, 9) else jnR l id (fndR l id)
theorem numV_le (s : List UInt8) : 0 ≤ numV s ∧ numV s ≤ 9999 := by
  unfold numV
  split
  · rename_i h
    unfold digL at h
    simp only [Bool.and_eq_true, decide_eq_true_eq] at h
    have h1 := natOf_lt s h.1.2
    have h2 : s.length ≤ 4 := by omega
    have h3 : (10 : Nat) ^ s.length ≤ 10 ^ 4 := Nat.pow_le_pow_right (by decide) h2
    have h4 : (10 : Nat) ^ 4 = 10000 := rfl
    omega
  · omega
theorem pcsL_mem {r : Rcd} {id : List UInt8} {l : List Rcd} {n : Int} {x : Rcd} (h : x ∈ pcsL r id l n) : x ∈ l := (List.mem_filter.1 h).1
theorem jnX_ok {r : Rcd} {b : List UInt8} (h : recOk r) (hb : b.length ≤ 140737488355328) : recOk (jnX r b) := by
  obtain ⟨h1, h2, h3, h4, h5, h6, h7⟩ := h
  refine ⟨fun x hx => h1 x (List.mem_of_mem_eraseIdx hx), h2, h3, h4, ?_, hb, h7⟩
  have := List.length_eraseIdx_le (l := r.hd) (fstH r.hd wPieces).toNat
  exact Nat.le_trans this h5
def ckJoined : Ck
  | [.sl n f, .str s] => some (isLs cRec n f ∧ recsOk (lsOf cRec n f) ∧ checkFileL (lsOf cRec n f) = 0, .tup [cRec.enc (joinL (lsOf cRec n f) s).1, .int .i64 (joinL (lsOf cRec n f) s).2])
  | _ => none
attribute [push_cast] ckJoined

/- a record in pieces -/
def pcN (r : Rcd) (k : Nat) : Nat := max 1 ((r.bd.length + k - 1) / k)
def pcX (r : Rcd) (k m i : Nat) : Rcd := if i = 0 then ⟨r.ki, r.id, r.ow, r.ti, r.ke, r.hd ++ [⟨wPieces, Lib.itoa m⟩], (r.bd.drop (i * k)).take k⟩ else ⟨5, r.id ++ [45] ++ Lib.itoa ((i : Int) + 1), r.id, r.ti, r.ke, [⟨wNumber, Lib.itoa ((i : Int) + 1)⟩], (r.bd.drop (i * k)).take k⟩
def pcL (r : Rcd) (k m : Nat) : List Rcd := (List.range m).map (pcX r k m)
def bad1 : List Rcd → Int
  | [] => 0
  | x :: t => if checkRecL x = 0 then bad1 t else checkRecL x
def pcE (r : Rcd) (most : Int) : Int :=
  if ¬ checkRecL r = 0 then checkRecL r
  else if ¬ (1 ≤ most ∧ most ≤ 100000) then 1
  else if 1000 < pcN r most.toNat then 2
  else if r.ki = 5 ∨ 0 ≤ fstH r.hd wPieces then 12
  else if pcN r most.toNat = 1 then 0
  else bad1 (pcL r most.toNat (pcN r most.toNat))
def pcP (r : Rcd) (most : Int) : List Rcd := if ¬ pcE r most = 0 then [] else if pcN r most.toNat = 1 then [r] else pcL r most.toNat (pcN r most.toNat)
theorem pcL_len (r : Rcd) (k m : Nat) : (pcL r k m).length = m := by unfold pcL; rw [List.length_map, List.length_range]
theorem pcL_at (r : Rcd) (k : Nat) {m i : Nat} (h : i < m) : (pcL r k m).getD i noRec = pcX r k m i := by
  unfold pcL
  rw [List.getD_eq_getElem?_getD, List.getElem?_map, List.getElem?_range h]; rfl
theorem bad1_app : ∀ (a b : List Rcd), bad1 (a ++ b) = if bad1 a = 0 then bad1 b else bad1 a
  | [], b => by simp [bad1]
  | x :: t, b => by
    rw [List.cons_append, bad1, bad1, bad1_app t b]
    by_cases h : checkRecL x = 0
    · rw [if_pos h, if_pos h]
    · rw [if_neg h, if_neg h, if_neg h]
theorem bad1_take {l : List Rcd} {i : Nat} (h : i < l.length) (h0 : bad1 (l.take i) = 0) : bad1 (l.take (i + 1)) = checkRecL (l.getD i noRec) := by
  have e : l.take (i + 1) = l.take i ++ [l.getD i noRec] := by
    rw [List.getD_eq_getElem?_getD, List.getElem?_eq_getElem h, List.take_succ_eq_append_getElem h]; rfl
  rw [e, bad1_app, if_pos h0]
  unfold bad1 bad1
  by_cases hc : checkRecL (l.getD i noRec) = 0
  · rw [if_pos hc, hc]
  · rw [if_neg hc]
theorem bad1_stop {l : List Rcd} {i : Nat} (h : ¬ bad1 (l.take i) = 0) : bad1 l = bad1 (l.take i) := by
  conv => lhs; rw [← List.take_append_drop i l]
  rw [bad1_app, if_neg h]
theorem pcX_0 (r : Rcd) (k m : Nat) : pcX r k m 0 = ⟨r.ki, r.id, r.ow, r.ti, r.ke, r.hd ++ [⟨wPieces, Lib.itoa m⟩], r.bd.take k⟩ := by
  unfold pcX; rw [if_pos rfl, Nat.zero_mul, List.drop_zero]
theorem pcX_s (r : Rcd) (k m : Nat) {i : Nat} (h : i ≠ 0) : pcX r k m i = ⟨5, r.id ++ [45] ++ Lib.itoa ((i : Int) + 1), r.id, r.ti, r.ke, [⟨wNumber, Lib.itoa ((i : Int) + 1)⟩], (r.bd.drop (i * k)).take k⟩ := by
  unfold pcX; rw [if_neg h]
theorem pcN_iff {r : Rcd} {k i : Nat} (hk : 1 ≤ k) (hm : 1 < pcN r k) : i < pcN r k ↔ i * k < r.bd.length := by
  unfold pcN at *
  have : i < (r.bd.length + k - 1) / k ↔ i * k < r.bd.length := by
    rw [show (i < (r.bd.length + k - 1) / k) = (i + 1 ≤ (r.bd.length + k - 1) / k) from rfl, Nat.le_div_iff_mul_le (by omega), Nat.succ_mul]; omega
  rw [← this]; omega
theorem itoa_len6 {i : Int} (h0 : -9223372036854775808 ≤ i) (h1 : i ≤ 9223372036854775807) : (Lib.itoa i).length ≤ 21 := Lib.itoa_length_le _ h0 h1
theorem pcX_ok {r : Rcd} {k m i : Nat} (ok : recOk r) (hc : checkRecL r = 0) (hm : m ≤ 100000) (hi : i < m) : recOk (pcX r k m i) := by
  obtain ⟨z1, z2, z3, z4, z5, z6, z7⟩ := rec_sz hc
  obtain ⟨h1, h2, h3, h4, h5, h6, h7, h8, h9, h10⟩ := ok
  have hb : ((r.bd.drop (i * k)).take k).length ≤ 140737488355328 := by rw [List.length_take, List.length_drop]; omega
  by_cases e : i = 0
  · subst e
    have l1 := itoa_len6 (i := (m : Int)) (by omega) (by omega)
    unfold pcX
    rw [if_pos rfl]
    refine ⟨fun x hx => ?_, h2, h3, h4, ?_, hb, h7, h8, h9, h10⟩
    · rcases List.mem_append.1 hx with hx | hx
      · exact h1 x hx
      · simp only [List.mem_singleton] at hx
        subst hx
        exact ⟨(by decide : (6 : Nat) ≤ 140737488355328), by show (Lib.itoa (m : Int)).length ≤ _; omega⟩
    · show (r.hd ++ [_]).length ≤ _
      rw [List.length_append, List.length_singleton]; omega
  · have l1 := itoa_len6 (i := (i : Int) + 1) (by omega) (by omega)
    rw [pcX_s r k m e]
    refine ⟨fun x hx => ?_, ?_, h2, h4, by show 1 ≤ _; omega, hb, h7, h8, by show (-9223372036854775808 : Int) ≤ 5; omega, by show (5 : Int) ≤ _; omega⟩
    · have hx : x ∈ [_] := hx
      simp only [List.mem_singleton] at hx
      subst hx
      exact ⟨(by decide : (6 : Nat) ≤ 140737488355328), by show (Lib.itoa ((i : Int) + 1)).length ≤ _; omega⟩
    · show (r.id ++ [45] ++ Lib.itoa ((i : Int) + 1)).length ≤ _
      rw [List.length_append, List.length_append, List.length_singleton]; omega
theorem fstH_val (hd : List Hd) : (0 ≤ fstH hd wPieces) ↔ ¬ ((valuesL hd wPieces).length : Int) = 0 := by
  rw [fstH_any]
  unfold valuesL
  rw [List.length_map]
  constructor
  · intro h e
    have e : (hd.filter fun x => lowL x.name == wPieces) = [] := List.length_eq_zero_iff.1 (by omega)
    obtain ⟨x, hx, h2⟩ := List.any_eq_true.1 h
    exact List.filter_eq_nil_iff.1 e x hx h2
  · intro h
    cases e : hd.any fun x => lowL x.name == wPieces with
    | true => rfl
    | false =>
      rw [List.any_eq_false] at e
      exact absurd (by rw [List.filter_eq_nil_iff.2 e]; rfl) h
def ckPieces : Ck
  | [x, .int .i64 k] => some (isC cRec x ∧ recOk (cRec.dec x), .tup [.sl (pcP (cRec.dec x) k).length (lsF cRec (pcP (cRec.dec x) k)), .int .i64 (pcE (cRec.dec x) k)])
  | _ => none
attribute [push_cast] ckPieces

abbrev clR (r : Rcd) : Prop := r.ow = r.id ∨ (r.ow = [] ∧ (r.ki = 4 ∨ r.ki = 5)) ∨ (r.ow ≠ [] ∧ r.ki = 1)
abbrev nmR (r : Rcd) : Prop := nameL r.id = true ∧ (r.ow = [] ∨ nameL r.ow = true)
section
variable {r : Rcd}
theorem cr4 (h : r.ki < 1 ∨ 5 < r.ki) : 4 = checkRecL r := by unfold checkRecL; rw [if_pos h]
theorem cr5 (a1 : ¬ (r.ki < 1 ∨ 5 < r.ki)) (h : ¬ nmR r) : 5 = checkRecL r := by unfold checkRecL; rw [if_neg a1, if_pos h]
theorem cr12 (a1 : ¬ (r.ki < 1 ∨ 5 < r.ki)) (a2 : nmR r) (h : clR r) : 12 = checkRecL r := by unfold checkRecL; rw [if_neg a1, if_neg (fun x => x a2), if_pos h]
theorem cr1 (a1 : ¬ (r.ki < 1 ∨ 5 < r.ki)) (a2 : nmR r) (a3 : ¬ clR r) (h : ¬ (0 ≤ r.ti ∧ r.ti ≤ 253402300799)) : 1 = checkRecL r := by unfold checkRecL; rw [if_neg a1, if_neg (fun x => x a2), if_neg a3, if_pos h]
theorem cr3 (a1 : ¬ (r.ki < 1 ∨ 5 < r.ki)) (a2 : nmR r) (a3 : ¬ clR r) (a4 : 0 ≤ r.ti ∧ r.ti ≤ 253402300799) (h : ¬ targetL r.ke = true) : 3 = checkRecL r := by unfold checkRecL; rw [if_neg a1, if_neg (fun x => x a2), if_neg a3, if_neg (fun x => x a4), if_pos h]
theorem cr2 (a1 : ¬ (r.ki < 1 ∨ 5 < r.ki)) (a2 : nmR r) (a3 : ¬ clR r) (a4 : 0 ≤ r.ti ∧ r.ti ≤ 253402300799) (a5 : targetL r.ke = true) (h : 30 < r.hd.length) : 2 = checkRecL r := by unfold checkRecL; rw [if_neg a1, if_neg (fun x => x a2), if_neg a3, if_neg (fun x => x a4), if_neg (fun x => x a5), if_pos h]
theorem crh (a1 : ¬ (r.ki < 1 ∨ 5 < r.ki)) (a2 : nmR r) (a3 : ¬ clR r) (a4 : 0 ≤ r.ti ∧ r.ti ≤ 253402300799) (a5 : targetL r.ke = true) (a6 : ¬ 30 < r.hd.length) (h : ¬ checkHeadsL r.hd = 0) : checkHeadsL r.hd = checkRecL r := by unfold checkRecL; rw [if_neg a1, if_neg (fun x => x a2), if_neg a3, if_neg (fun x => x a4), if_neg (fun x => x a5), if_neg a6, if_pos h]
theorem crR (a1 : ¬ (r.ki < 1 ∨ 5 < r.ki)) (a2 : nmR r) (a3 : ¬ clR r) (a4 : 0 ≤ r.ti ∧ r.ti ≤ 253402300799) (a5 : targetL r.ke = true) (a6 : ¬ 30 < r.hd.length) (a7 : checkHeadsL r.hd = 0) : checkRecL r = if ownL r.hd = true then 12 else if 200000 < r.bd.length then 2 else if 0 < r.bd.length ∧ r.ki = 4 then 3 else 0 := by unfold checkRecL; rw [if_neg a1, if_neg (fun x => x a2), if_neg a3, if_neg (fun x => x a4), if_neg (fun x => x a5), if_neg a6, if_neg (fun x => x a7)]
end
def ckCheckRec : Ck
  | [x] => some (isC cRec x ∧ recOk (cRec.dec x), .int .i64 (checkRecL (cRec.dec x)))
  | _ => none
theorem conCheckRec : Con pg 25 ckCheckRec := by
  have hct := (ctA_ok conIsName (ctA_ok conIsMoment (ctA_ok conIsKey (ctA_ok conCheckHeads (ctA_ok conOwn (ctA_ok conSmallA (ctA_ok conHasStr (ctN_ok _))))))))
  intro args q r h hq
  unfold ckCheckRec at h
  split at h
  · cases h
    rename_i x
    refine pcall_args (args' := [cRec.enc (cRec.dec x)]) ⟨hq.1, trivial⟩ ?_
    obtain ⟨-, ha⟩ := hq
    generalize cRec.dec x = r at ha ⊢
    refine w25 (fun _ => false) [] rfl hct rfl rfl ?_
    push_cast (config := { maxSteps := 10000000 })
    have q1 := ha.2.1
    have q2 := ha.2.2.1
    have q3 := ha.2.2.2.1
    refine ⟨fun h => cr4 h, fun g => ⟨by omega, fun h => ⟨h, by omega⟩, fun h => ⟨h, fun h' => ⟨h, h'⟩⟩, fun h => ?_, fun h => ?_⟩⟩
    · refine cr5 (by omega) fun x => ?_
      rcases h with h | h
      · rw [x.1] at h; cases h
      · rcases x.2 with y | y
        · exact h.1 y
        · rw [y] at h; cases h.2
    have a1 : ¬ (r.ki < 1 ∨ 5 < r.ki) := by omega
    have a2 : nmR r := ⟨h.1, by
      by_cases e : r.ow = []
      · exact .inl e
      · exact .inr (h.2 e)⟩
    refine ⟨fun e1 => ⟨fun _ => cr12 a1 a2 (.inl e1), fun x => absurd e1 x⟩, fun e1 => ⟨fun e => ⟨e, fun e' => ⟨e, e'⟩⟩, fun e2 => ⟨fun _ => cr12 a1 a2 (.inr (.inl e2)), fun x => by rcases e2.2 with y | y; exact absurd y (x e2.1).1; exact absurd y (x e2.1).2⟩, fun e2 => ⟨fun e3 => cr12 a1 a2 (.inr (.inr e3)), fun e3 => ?_⟩⟩⟩
    have a3 : ¬ clR r := fun x => by
      rcases x with x | x | x
      · exact e1 x
      · rcases x.2 with y | y
        · exact (e2 x.1).1 y
        · exact (e2 x.1).2 y
      · exact e3 x.1 x.2
    refine ⟨fun h => cr1 a1 a2 a3 (fun x => h x.1 x.2), fun a4 => ⟨by omega, fun h => cr3 a1 a2 a3 a4 (by rw [h]; simp), fun a5 => ⟨fun h => cr2 a1 a2 a3 a4 a5 (by omega), fun h6 => ⟨ha.1, fun h => crh a1 a2 a3 a4 a5 (by omega) h, fun a7 => ?_⟩⟩⟩⟩
    have hR := crR a1 a2 a3 a4 a5 (by omega) a7
    rw [hR]
    refine LoopW.adj ⟨hct, fol⟩ (by kernel_rfl) [] (fun i : Nat => [(1, .ptr 1 0), (80, .sl r.hd.length (lsF cHd r.hd)), (81, .int .i64 r.hd.length), (82, .int .i64 i)]) (fun _ => [(1, .cells [.int .i64 r.ki, .str r.id, .str r.ow, .int .i64 r.ti, .str r.ke, .sl r.hd.length (lsF cHd r.hd), .sl r.bd.length (byF r.bd)])]) (fun i => i ≤ r.hd.length ∧ ∀ j, j < i → ownW.contains (lowL (r.hd.getD j ⟨[], []⟩).name) = false) (fun i => r.hd.length - i) 0 ?_ fun i hi => ?_
    · push_cast (config := { maxSteps := 10000000 })
      exact Nat.zero_le _
    · push_cast (config := { maxSteps := 10000000 })
      obtain ⟨i1, i2⟩ := hi
      rw [show lsOf cStr 7 (lsF cStr ownW) = ownW from lsOf_ls ownW]
      refine ⟨fun h => ⟨h, (hdsOk_at ha.1 h).1, isLs_ls ownW, fun h5 => ?_, fun h5 => ⟨⟨by omega, by omega⟩, i + 1, ⟨by omega, fun j hj => ?_⟩, by omega, by omega⟩⟩, fun h => ?_⟩
      · have : ownL r.hd = true := by
          unfold ownL
          rw [List.any_eq_true]
          refine ⟨r.hd.getD i ⟨[], []⟩, ?_, h5⟩
          rw [List.getD_eq_getElem?_getD, List.getElem?_eq_getElem h]; exact List.getElem_mem h
        rw [if_pos this]
      · by_cases e : j = i
        · subst e; exact h5
        · exact i2 j (by omega)
      · have : ownL r.hd = false := by
          unfold ownL
          rw [List.any_eq_false]
          intro x hx
          obtain ⟨j, hj, rfl⟩ := List.getElem_of_mem hx
          have h5 := i2 j (by omega)
          rw [List.getD_eq_getElem?_getD, List.getElem?_eq_getElem hj] at h5
          simp only [Option.getD_some] at h5
          rw [h5]; simp
        rw [if_neg (by rw [this]; simp)]
        exact ⟨fun g => by rw [if_pos (by omega)], fun g => ⟨fun g2 => by rw [if_neg (by omega), if_pos ⟨by omega, g2.1⟩], fun g2 => by rw [if_neg (by omega), if_neg (fun x => g2 x.2 (by omega))]⟩⟩
  · cases h
attribute [push_cast] ckCheckRec
theorem conCheckRec2 : Con pg 37 ckCheckRec := by
  have hct := (ctA_ok conWithin6 (ctA_ok conIsName2 (ctA_ok conIsKey2 (ctA_ok conCheckHeads2 (ctA_ok conValues2 (ctN_ok _))))))
  intro args q r h hq
  unfold ckCheckRec at h
  split at h
  · cases h
    rename_i x
    refine pcall_args (args' := [cRec.enc (cRec.dec x)]) ⟨hq.1, trivial⟩ ?_
    obtain ⟨-, ha⟩ := hq
    generalize cRec.dec x = r at ha ⊢
    refine w37 (fun _ => false) [] rfl hct rfl rfl ?_
    push_cast (config := { maxSteps := 10000000 })
    have q1 := ha.2.1
    have q2 := ha.2.2.1
    have q3 := ha.2.2.2.1
    refine ⟨fun h => cr4 (Classical.byContradiction fun x => h (by omega) (by omega)), fun g => ⟨by omega, fun h => ⟨h, by omega⟩, fun h => ⟨h, fun h' => ⟨h, h'⟩⟩, fun h => ?_, fun h => ?_⟩⟩
    · refine cr5 (by omega) fun x => ?_
      rcases h with h | h
      · rw [x.1] at h; cases h
      · rcases x.2 with y | y
        · exact h.1 y
        · rw [y] at h; cases h.2
    have a1 : ¬ (r.ki < 1 ∨ 5 < r.ki) := by omega
    have a2 : nmR r := ⟨h.1, by
      by_cases e : r.ow = []
      · exact .inl e
      · exact .inr (h.2 e)⟩
    refine ⟨fun e => ⟨e, fun e' => ⟨e, e'⟩⟩, fun e => ⟨e, fun e' => ⟨e, e'⟩⟩, fun e => cr12 a1 a2 (by rcases e with (e | e) | e; exact .inl e; exact .inr (.inl e); exact .inr (.inr e)), fun e => ?_⟩
    have a3 : ¬ clR r := fun x => by
      rcases x with x | x | x
      · exact e.1.1 x
      · rcases x.2 with y | y
        · exact (e.1.2 x.1).1 y
        · exact (e.1.2 x.1).2 y
      · exact e.2 x.1 x.2
    refine ⟨fun h => cr1 a1 a2 a3 (fun x => h x.1 x.2), fun a4 => ⟨by omega, fun h => cr3 a1 a2 a3 a4 (by rw [h]; simp), fun a5 => ⟨fun h => cr2 a1 a2 a3 a4 a5 (by omega), fun h6 => ⟨ha.1, fun h => crh a1 a2 a3 a4 a5 (by omega) h, fun a7 => ?_⟩⟩⟩⟩
    have hR := crR a1 a2 a3 a4 a5 (by omega) a7
    rw [hR]
    refine LoopW.adj ⟨hct, fol⟩ (by kernel_rfl) [] (fun i : Nat => [(1, .ptr 1 0), (75, .sl 7 (lsF cStr ownW)), (76, .int .i64 7), (77, .int .i64 i)]) (fun _ => [(1, .cells [.int .i64 r.ki, .str r.id, .str r.ow, .int .i64 r.ti, .str r.ke, .sl r.hd.length (lsF cHd r.hd), .sl r.bd.length (byF r.bd)])]) (fun i => i ≤ 7 ∧ ∀ j, j < i → ¬ 0 < ((valuesL r.hd (ownW.getD j [])).length : Int)) (fun i => 7 - i) 0 ?_ fun i hi => ?_
    · push_cast (config := { maxSteps := 10000000 })
      intro i hi
      rcases (by omega : i = 0 ∨ i = 1 ∨ i = 2 ∨ i = 3 ∨ i = 4 ∨ i = 5 ∨ i = 6) with rfl | rfl | rfl | rfl | rfl | rfl | rfl <;> rfl
    · push_cast (config := { maxSteps := 10000000 })
      obtain ⟨i1, i2⟩ := hi
      refine ⟨fun h => ⟨h, ⟨ha.1, by omega⟩, fun h5 => ?_, fun h5 => ⟨⟨by omega, by omega⟩, i + 1, ⟨by omega, fun j hj => ?_⟩, by omega, by omega⟩⟩, fun h => ?_⟩
      · have : ownL r.hd = true := own_iff.2 ⟨ownW.getD i [], by
          rw [List.getD_eq_getElem?_getD, List.getElem?_eq_getElem (show i < ownW.length by show i < 7; omega)]; exact List.getElem_mem _, h5⟩
        rw [if_pos this]
      · by_cases e : j = i
        · subst e; exact h5
        · exact i2 j (by omega)
      · have : ¬ ownL r.hd = true := fun x => by
          obtain ⟨w, hw, h5⟩ := own_iff.1 x
          obtain ⟨j, hj, rfl⟩ := List.getElem_of_mem hw
          have h6 := i2 j (by have : ownW.length = 7 := rfl; omega)
          rw [List.getD_eq_getElem?_getD, List.getElem?_eq_getElem hj] at h6
          exact h6 h5
        rw [if_neg this]
        exact ⟨fun g => by rw [if_pos (by omega)], fun g => ⟨fun g2 => by rw [if_neg (by omega), if_pos ⟨by omega, g2.2⟩], fun g2 => by rw [if_neg (by omega), if_neg (fun x => g2 (by omega) x.2)]⟩⟩
  · cases h

@[push_cast] theorem shAl_nilP : shAl [] = [] := rfl
@[push_cast] theorem shAl_consP (k : Nat) (v : V) (r : List (Nat × V)) : shAl ((k, v) :: r) = (k, V.shift v) :: shAl r := rfl
@[push_cast] theorem shift_ptrP (i o : Nat) : V.shift (.ptr i o) = .ptr (i + 9000) o := rfl
@[push_cast] theorem shift_fn0P (f : Fn) (n : Nat) (g : Nat → V) (k : Int) : V.shift (.fn f [] [.iptr [.sl n g], .iptr [.int .i64 k]]) = .fn f [] [.iptr [.sl n g], .iptr [.int .i64 k]] := rfl
/-- the record's heads are its own until the first piece takes them -/
def plL (r : Rcd) (m k : Nat) : Nat → HL
  | 0 => [(2, .cells [.int .i64 r.ki, .str r.id, .str r.ow, .int .i64 r.ti, .str r.ke, .vec 47 r.hd.length, .sl r.bd.length (byF r.bd)]), (7, .cells [.int .i64 m]), (8, .cells [.vec 8000 0]), (9, .cells [.int .i64 0]), (8000, .vec 7 0 (lsF cRec (pcL r k m))), (47, .vec 2 r.hd.length (lsF cHd r.hd))]
  | t + 1 => [(2, .cells [.int .i64 r.ki, .str r.id, .str r.ow, .int .i64 r.ti, .str r.ke, .any, .sl r.bd.length (byF r.bd)]), (7, .cells [.int .i64 m]), (8, .cells [.vec 8000 (t + 1)]), (9, .cells [.int .i64 ((t : Int) + 1)]), (8000, .vec 7 (t + 1) (lsF cRec (pcL r k m)))]
def plR (r : Rcd) (m k : Nat) : Nat → HL
  | 0 => [(9002, .cells [.int .i64 r.ki, .str r.id, .str r.ow, .int .i64 r.ti, .str r.ke, .vec 9047 r.hd.length, .sl r.bd.length (byF r.bd)]), (9007, .cells [.int .i64 m]), (9008, .cells [.vec 17000 0]), (9009, .cells [.int .i64 0]), (17000, .vec 7 0 (lsF cRec (pcL r k m))), (9047, .vec 2 r.hd.length (lsF cHd r.hd))]
  | t + 1 => [(9002, .cells [.int .i64 r.ki, .str r.id, .str r.ow, .int .i64 r.ti, .str r.ke, .any, .sl r.bd.length (byF r.bd)]), (9007, .cells [.int .i64 m]), (9008, .cells [.vec 17000 (t + 1)]), (9009, .cells [.int .i64 ((t : Int) + 1)]), (17000, .vec 7 (t + 1) (lsF cRec (pcL r k m)))]
theorem plL_sh (r : Rcd) (m k t : Nat) : HL.shift (plL r m k t) = plR r m k t := by cases t <;> rfl
theorem plL_0 (r : Rcd) (m k : Nat) : plL r m k 0 = [(2, .cells [.int .i64 r.ki, .str r.id, .str r.ow, .int .i64 r.ti, .str r.ke, .vec 47 r.hd.length, .sl r.bd.length (byF r.bd)]), (7, .cells [.int .i64 m]), (8, .cells [.vec 8000 0]), (9, .cells [.int .i64 0]), (8000, .vec 7 0 (lsF cRec (pcL r k m))), (47, .vec 2 r.hd.length (lsF cHd r.hd))] := rfl
theorem plL_s (r : Rcd) (m k t : Nat) : plL r m k (t + 1) = [(2, .cells [.int .i64 r.ki, .str r.id, .str r.ow, .int .i64 r.ti, .str r.ke, .any, .sl r.bd.length (byF r.bd)]), (7, .cells [.int .i64 m]), (8, .cells [.vec 8000 (t + 1)]), (9, .cells [.int .i64 ((t : Int) + 1)]), (8000, .vec 7 (t + 1) (lsF cRec (pcL r k m)))] := rfl
theorem plR_0 (r : Rcd) (m k : Nat) : plR r m k 0 = [(9002, .cells [.int .i64 r.ki, .str r.id, .str r.ow, .int .i64 r.ti, .str r.ke, .vec 9047 r.hd.length, .sl r.bd.length (byF r.bd)]), (9007, .cells [.int .i64 m]), (9008, .cells [.vec 17000 0]), (9009, .cells [.int .i64 0]), (17000, .vec 7 0 (lsF cRec (pcL r k m))), (9047, .vec 2 r.hd.length (lsF cHd r.hd))] := rfl
theorem plR_s (r : Rcd) (m k t : Nat) : plR r m k (t + 1) = [(9002, .cells [.int .i64 r.ki, .str r.id, .str r.ow, .int .i64 r.ti, .str r.ke, .any, .sl r.bd.length (byF r.bd)]), (9007, .cells [.int .i64 m]), (9008, .cells [.vec 17000 (t + 1)]), (9009, .cells [.int .i64 ((t : Int) + 1)]), (17000, .vec 7 (t + 1) (lsF cRec (pcL r k m)))] := rfl
theorem cutBl (b : List UInt8) (k w : Nat) : ByI (min k (b.length - w)) (shF (byF b) w) ((b.drop w).take k) := by
  have h : (b.drop w).take k = (b.drop w).take (min k (b.length - w)) := by
    by_cases e : k ≤ b.length - w
    · rw [Nat.min_eq_left e]
    · rw [Nat.min_eq_right (by omega), List.take_of_length_le (by rw [List.length_drop]; omega), List.take_of_length_le (by rw [List.length_drop]; omega)]
  rw [h]
  by_cases e : w ≤ b.length
  · exact ByI.sh (ByI.by b) (by omega)
  · rw [show b.length - w = 0 by omega, Nat.min_zero]
    exact ⟨rfl, fun i hi => absurd hi (Nat.not_lt_zero i)⟩
theorem conPieces : Con pg 16 ckPieces := by
  have hct := (ctA_ok conCheckRec (ctA_ok conRhead (ctW_ok conCloneHdN (ctA_ok conCloneBy (ctA_ok conBChunk (ctA_ok conItoa (ctN_ok _)))))))
  intro args q r h hq
  unfold ckPieces at h
  split at h
  · cases h
    rename_i x k
    refine pcall_args (args' := [cRec.enc (cRec.dec x), .int .i64 k]) ⟨hq.1, VLe.refl _, trivial⟩ ?_
    obtain ⟨-, ok⟩ := hq
    generalize cRec.dec x = r at *
    refine w16 (fun d => decide (d = 56 ∨ d = 20024)) [.frz 47, .frz 56, .frz 8000] rfl hct rfl rfl ?_
    push_cast (config := { maxSteps := 10000000 })
    have hw : wPieces = [112, 105, 101, 99, 101, 115] := rfl
    refine ⟨ok, fun h => ?_, fun hc => ⟨fun h => ?_, fun h => ?_⟩⟩
    · have e : pcE r k = checkRecL r := by unfold pcE; rw [if_pos h]
      have e2 : pcP r k = [] := by unfold pcP; rw [e, if_pos h]
      rw [e, e2]; exact ⟨rfl, rfl⟩
    · have e : pcE r k = 1 := by unfold pcE; rw [if_neg (fun x => x hc), if_pos (by omega)]
      have e2 : pcP r k = [] := by unfold pcP; rw [e]; rfl
      rw [e, e2]; exact ⟨rfl, rfl⟩
    obtain ⟨h1, h2⟩ : 1 ≤ k ∧ k ≤ 100000 := by omega
    obtain ⟨k, rfl⟩ : ∃ j : Nat, k = j := ⟨k.toNat, by omega⟩
    obtain ⟨z1, z2, z3, z4, z5, z6, z7⟩ := rec_sz hc
    have e0 : ((r.bd.length : Int) + k - 1) / k = (((r.bd.length + k - 1) / k : Nat) : Int) := by
      rw [Int.natCast_ediv, show ((r.bd.length + k - 1 : Nat) : Int) = (r.bd.length : Int) + k - 1 by omega]
    have hN : max 1 (((r.bd.length : Int) + k - 1) / k) = ((pcN r k : Nat) : Int) := by
      rw [e0]
      unfold pcN
      generalize (r.bd.length + k - 1) / k = q
      omega
    have hcn : (r.bd.length + k - 1) / k ≤ pcN r k ∧ (pcN r k ≠ 1 → (r.bd.length + k - 1) / k = pcN r k) := by
      unfold pcN
      generalize (r.bd.length + k - 1) / k = q
      omega
    rw [hN]
    have hlt := fun i => @pcN_iff r k i (by omega)
    have eE : pcE r k = if 1000 < pcN r k then 2 else if r.ki = 5 ∨ 0 ≤ fstH r.hd wPieces then 12 else if pcN r k = 1 then 0 else bad1 (pcL r k (pcN r k)) := by
      unfold pcE
      rw [if_neg (fun x => x hc), if_neg (fun x => x ⟨h1, h2⟩), Int.toNat_natCast]
    have eP : pcP r k = if ¬ pcE r k = 0 then [] else if pcN r k = 1 then [r] else pcL r k (pcN r k) := by
      unfold pcP
      rw [Int.toNat_natCast]
    have hm1 : 1 ≤ pcN r k := by unfold pcN; omega
    generalize pcN r k = m at *
    refine ⟨⟨by omega, by omega⟩, ⟨by omega, by omega⟩, ⟨by omega, by omega, by omega, by omega⟩, fun h => ?_, fun h3 => ⟨fun h => ⟨h, fun x hx => (ok.1 x hx).1, by omega⟩, fun h => ?_, fun h => ⟨by omega, by omega, fun h4 => ?_, fun h4 => ⟨h1, ?_⟩⟩⟩⟩
    · rw [if_pos (by omega)] at eE
      rw [eE, if_pos (by decide)] at eP
      rw [eE, eP]; exact ⟨rfl, rfl⟩
    · rw [if_neg (by omega), if_pos (show r.ki = 5 ∨ 0 ≤ fstH r.hd wPieces from h)] at eE
      rw [eE, if_pos (by decide)] at eP
      rw [eE, eP]; exact ⟨rfl, rfl⟩
    · have h5 : ¬ (r.ki = 5 ∨ 0 ≤ fstH r.hd wPieces) := fun x => x.elim h.1 h.2
      rw [if_neg (by omega), if_neg h5, if_pos (by omega)] at eE
      rw [eE, if_neg (by simp), if_pos (by omega)] at eP
      rw [eE, eP]
      refine ⟨fun i hi => ?_, ⟨rfl, fun i hi => ?_⟩, rfl⟩
      · obtain rfl : i = 0 := by omega
        show V.isPure (frzV 47 2 r.hd.length _ (.agg [_, _, _, _, _, _, _])) = true
        push_cast (config := { maxSteps := 10000000 })
        done
      · obtain rfl : i = 0 := by omega
        show frzV 47 2 r.hd.length _ (.agg [_, _, _, _, _, _, _]) = _
        push_cast (config := { maxSteps := 10000000 })
        rfl
    have h5 : ¬ (r.ki = 5 ∨ 0 ≤ fstH r.hd wPieces) := fun x => x.elim h.1 h.2
    rw [if_neg (by omega), if_neg h5, if_neg (by omega)] at eE
    rw [eE, if_neg (show ¬ m = 1 by omega)] at eP
    have hb := fun i (h : i < (pcL r k m).length) h0 => @bad1_take (pcL r k m) i h h0
    have hbs := fun i h => @bad1_stop (pcL r k m) i h
    have hL := pcL_len r k m
    have hA := fun i (h : i < m) => pcL_at r k h
    have hX := fun i (h : i < m) => pcX_ok (k := k) (m := m) (i := i) ok hc (by omega) h
    have hcm := hcn.2 (by omega)
    refine RngW.adj ⟨hct, fol⟩ (by kernel_rfl) [.nvc 8 0 8000 7 (lsF cRec (pcL r k m))] [] [(2, .ptr 2 0), (7, .ptr 7 0), (8, .ptr 8 0), (9, .ptr 9 0), (60, .fn (.func 63) [] [.iptr [.sl r.bd.length (byF r.bd)], .iptr [.int .i64 (k : Int)]])] (plL r m k) (plR r m k) (plL_sh r m k) (fun j t => t = j) 0 ⟨rfl, ?_⟩ (bchunksV r.bd.length (byF r.bd) k) rfl (bchunkIter (fun i hi => rfl) (by omega) (by omega) (by omega)) (fun j t L hj hlt => ?_) (fun t ht => ?_)
    · rw [plL_0]
      push_cast (config := { maxSteps := 10000000 })
      done
    · subst hj
      rw [bchunksV_at _ _ _ _ hlt]
      rw [bchunksV_len, hcm] at hlt
      cases t with
      | zero =>
        have hit := itoa_len6 (i := 1) (by omega) (by omega)
        rw [plR_0]
        push_cast (config := { maxSteps := 10000000 })
        refine ⟨by omega, by omega, ⟨by omega, by omega⟩, ⟨by omega, by omega⟩, ?_⟩
        refine SeqW.cut ⟨hct, fol⟩ (by kernel_rfl) (by kernel_rfl) [.frz 9047] (fun _ : Unit => [(8, .ptr 9008 0), (11, .ptr 11 0)]) (fun _ => [(9002, .cells [.int .i64 r.ki, .str r.id, .str r.ow, .int .i64 r.ti, .str r.ke, .any, .sl r.bd.length (byF r.bd)]), (9007, .cells [.int .i64 m]), (9008, .cells [.vec 17000 0]), (9009, .cells [.int .i64 1]), (17000, .vec 7 0 (lsF cRec (pcL r k m))), (11, .cells (cRec.enc (pcX r k m 0)).flat)]) (fun _ => True) ?_ fun t _ => ?_
        · push_cast (config := { maxSteps := 10000000 })
          have hH : LsI cHd (r.hd.length + 1) (appF r.hd.length (fun i => V.agg [V.str (r.hd.getD i ⟨[], []⟩).name, V.str (r.hd.getD i ⟨[], []⟩).value]) (litF [V.agg [V.str [112, 105, 101, 99, 101, 115], V.str (Lib.itoa (m : Int))]])) (r.hd ++ [⟨wPieces, Lib.itoa m⟩]) := LsI.app (LsI.ls r.hd) (LsI.one rfl) rfl
          have hB := cutBl r.bd k (0 * k)
          have e0 : pcX r k m 0 = ⟨r.ki, r.id, r.ow, r.ti, r.ke, r.hd ++ [⟨wPieces, Lib.itoa m⟩], (r.bd.drop (0 * k)).take k⟩ := if_pos rfl
          rw [e0]
          exact ⟨⟨hB.is, by omega⟩, (), fun j hj => hH.pure (fun _ => rfl) j hj, rfl, rfl, rfl, rfl, rfl, ⟨hH.1, fun j hj => hH.2 j hj⟩, hB.1, fun j hj => hB.2 j hj⟩
        · push_cast (config := { maxSteps := 10000000 })
          refine ⟨1, rfl, ?_⟩
          rw [plR_s]
          push_cast (config := { maxSteps := 10000000 })
          intro j hj
          obtain rfl : j = 0 := by omega
          rw [hA 0 hlt]; rfl
      | succ t =>
        have hit := itoa_len6 (i := (t : Int) + 1 + 1) (by omega) (by omega)
        rw [plR_s]
        push_cast (config := { maxSteps := 10000000 })
        refine ⟨⟨by omega, by omega⟩, by omega, ⟨by omega, by omega⟩, by omega, ⟨by omega, by omega⟩, fun x => by omega, fun _ => ?_⟩
        refine SeqW.cut ⟨hct, fol⟩ (by kernel_rfl) (by kernel_rfl) [.frz 9047] (fun _ : Unit => [(8, .ptr 9008 0), (11, .ptr 11 0)]) (fun _ => [(9002, .cells [.int .i64 r.ki, .str r.id, .str r.ow, .int .i64 r.ti, .str r.ke, .any, .sl r.bd.length (byF r.bd)]), (9007, .cells [.int .i64 m]), (9008, .cells [.vec 17000 (t + 1)]), (9009, .cells [.int .i64 ((t : Int) + 1 + 1)]), (17000, .vec 7 (t + 1) (lsF cRec (pcL r k m))), (11, .cells (cRec.enc (pcX r k m (t + 1))).flat)]) (fun _ => True) ?_ fun t' _ => ?_
        · push_cast (config := { maxSteps := 10000000 })
          have hB := cutBl r.bd k ((t + 1) * k)
          rw [pcX_s r k m (Nat.succ_ne_zero t)]
          refine ⟨⟨hB.is, by omega⟩, (), rfl, rfl, rfl, rfl, rfl, ⟨rfl, fun j hj => ?_⟩, hB.1, fun j hj => hB.2 j hj⟩
          obtain rfl : j = 0 := by omega
          rfl
        · push_cast (config := { maxSteps := 10000000 })
          refine ⟨⟨by omega, by omega⟩, t + 1 + 1, rfl, ?_⟩
          rw [plR_s]
          push_cast (config := { maxSteps := 10000000 })
          intro j hj
          unfold appF
          by_cases e : j < t + 1
          · rw [decide_eq_true e, cond_true]; rfl
          · obtain rfl : j = t + 1 := by omega
            rw [decide_eq_false e, cond_false, Nat.sub_self, hA (t + 1) hlt]; rfl
    · rw [bchunksV_len, hcm] at ht
      subst ht
      obtain ⟨j, rfl⟩ : ∃ j, t = j + 1 := ⟨t - 1, by omega⟩
      rw [plL_s]
      push_cast (config := { maxSteps := 10000000 })
      refine LoopW.adj ⟨hct, fol⟩ (by kernel_rfl) [] (fun i : Nat => [(8, .ptr 8 0), (99, .vec 8000 (j + 1)), (100, .int .i64 ((j : Int) + 1)), (101, .int .i64 i)]) (fun _ => [(8, .cells [.vec 8000 (j + 1)]), (8000, .vec 7 (j + 1) (lsF cRec (pcL r k (j + 1))))]) (fun i => i ≤ j + 1 ∧ bad1 ((pcL r k (j + 1)).take i) = 0) (fun i => j + 1 - i) 0 ?_ fun i hi => ?_
      · push_cast (config := { maxSteps := 10000000 })
        rfl
      · obtain ⟨i1, i2⟩ := hi
        have hbi := hb i
        have hXi : i < j + 1 → recOk ((pcL r k (j + 1)).getD i noRec) := fun h => by rw [hA i h]; exact hX i h
        push_cast (config := { maxSteps := 10000000 })
        refine ⟨fun hi => ?_, fun hi => ?_⟩
        · have hi' : i < j + 1 := by omega
          have hbi := hbi (by omega) i2
          refine ⟨hi, hi', hXi hi', fun hne => ?_, fun he => ⟨⟨by omega, by omega⟩, i + 1, ⟨by omega, by rw [hbi]; exact he⟩, by omega, by omega⟩⟩
          have e : bad1 (pcL r k (j + 1)) = checkRecL ((pcL r k (j + 1)).getD i noRec) := by rw [hbs (i + 1) (by rw [hbi]; exact hne), hbi]
          rw [eP, eE, e, if_pos hne]; exact ⟨rfl, rfl⟩
        · obtain rfl : i = j + 1 := by omega
          rw [List.take_of_length_le (by omega)] at i2
          rw [eE, eP, i2, if_neg (by simp)]
          exact ⟨⟨hL.symm, fun j hj => rfl⟩, rfl⟩
  · cases h
attribute [push_cast] ckPieces

/- a record's copy: without own rows; with its heads as an own row; with its block as an own row -/
def ckCut : Ck
  | [x, .int .i64 a, .int .i64 c] => some (isC cRec x ∧ recOk (cRec.dec x) ∧ (cRec.dec x).hd.length ≤ 1000000 ∧ 0 ≤ a ∧ a ≤ c ∧ c ≤ (cRec.dec x).bd.length, cRec.enc ⟨(cRec.dec x).ki, (cRec.dec x).id, (cRec.dec x).ow, (cRec.dec x).ti, (cRec.dec x).ke, (cRec.dec x).hd, ((cRec.dec x).bd.drop a.toNat).take (c.toNat - a.toNat)⟩)
  | _ => none
theorem conCut : Con pg 40 ckCut := by
  have hct := ctN_ok pg
  intro args q r h hq
  unfold ckCut at h
  split at h
  · cases h
    rename_i x a c
    refine pcall_args (args' := [cRec.enc (cRec.dec x), .int .i64 a, .int .i64 c]) ⟨hq.1, VLe.refl _, VLe.refl _, trivial⟩ ?_
    obtain ⟨-, ok, h1, h2, h3, h4⟩ := hq
    have hb := ok.2.2.2.2.2.1
    generalize cRec.dec x = r at *
    obtain ⟨a, rfl⟩ : ∃ k : Nat, a = k := ⟨a.toNat, by omega⟩
    obtain ⟨c, rfl⟩ : ∃ k : Nat, c = k := ⟨c.toNat, by omega⟩
    simp only [Int.toNat_natCast]
    refine w40 (fun _ => false) [.frz 24, .frz 15] rfl hct rfl rfl ?_
    push_cast (config := { maxSteps := 10000000 })
    have e24 : ∀ i, V.kill 24 (shF (byF r.bd) a i) = shF (byF r.bd) a i := fun i => rfl
    have eb := (ByI.sh (l := a) (k := c - a) (ByI.by r.bd) (by omega)).2
    have el : ((r.bd.drop a).take (c - a)).length = c - a := by rw [List.length_take, List.length_drop]; omega
    refine ⟨⟨by omega, by omega⟩, ⟨by omega, by omega, by omega⟩, ⟨by omega, by omega⟩, fun i hi => ?_, ?_, fun i hi => ?_⟩
    · rw [e24, eb i hi]; rfl
    · omega
    · rw [e24, eb i hi]
  · cases h
def ckCutH : List V → Option (Prop × V × Blk)
  | [x, .int .i64 a, .int .i64 c] => some (isC cRec x ∧ recOk (cRec.dec x) ∧ (cRec.dec x).hd.length ≤ 1000000 ∧ 0 ≤ a ∧ a ≤ c ∧ c ≤ (cRec.dec x).bd.length, .agg [.int .i64 (cRec.dec x).ki, .str (cRec.dec x).id, .str (cRec.dec x).ow, .int .i64 (cRec.dec x).ti, .str (cRec.dec x).ke, .vec 8999 (cRec.dec x).hd.length, .sl (((cRec.dec x).bd.drop a.toNat).take (c.toNat - a.toNat)).length (byF (((cRec.dec x).bd.drop a.toNat).take (c.toNat - a.toNat)))], .vec 2 (cRec.dec x).hd.length (lsF cHd (cRec.dec x).hd))
  | _ => none
def ckCutB : List V → Option (Prop × V × Blk)
  | [x, .int .i64 a, .int .i64 c] => some (isC cRec x ∧ recOk (cRec.dec x) ∧ (cRec.dec x).hd.length ≤ 1000000 ∧ 0 ≤ a ∧ a ≤ c ∧ c ≤ (cRec.dec x).bd.length, .agg [.int .i64 (cRec.dec x).ki, .str (cRec.dec x).id, .str (cRec.dec x).ow, .int .i64 (cRec.dec x).ti, .str (cRec.dec x).ke, .sl (cRec.dec x).hd.length (lsF cHd (cRec.dec x).hd), .vec 8999 (((cRec.dec x).bd.drop a.toNat).take (c.toNat - a.toNat)).length], .vec 1 (((cRec.dec x).bd.drop a.toNat).take (c.toNat - a.toNat)).length (byF (((cRec.dec x).bd.drop a.toNat).take (c.toNat - a.toNat))))
  | _ => none
theorem ncall_argsC {f : FuncId} {args args' : List V} {r : V} {nb : Blk} (hv : vleL args args') (h : NCall pg f args' r nb) : NCall pg f args r nb := by
  intro S vals hs hh hlen hr
  exact h S vals hs hh (hlen.trans (vleL_len hv)) fun i hi => vleL_at hv i _ _ _ _ (hr i (by rw [vleL_len hv]; exact hi))
theorem conCutH : NCon pg 40 ckCutH := by
  have hct := ctN_ok pg
  intro args q r nb h hq
  unfold ckCutH at h
  split at h
  · cases h
    rename_i x a c
    obtain ⟨h0, ok, h1, h2, h3, h4⟩ := hq
    have hb := ok.2.2.2.2.2.1
    refine ncall_argsC (args' := [cRec.enc (cRec.dec x), .int .i64 a, .int .i64 c]) ⟨h0, VLe.refl _, VLe.refl _, trivial⟩ ?_
    generalize cRec.dec x = r at *
    obtain ⟨a, rfl⟩ : ∃ k : Nat, a = k := ⟨a.toNat, by omega⟩
    obtain ⟨c, rfl⟩ : ∃ k : Nat, c = k := ⟨c.toNat, by omega⟩
    simp only [Int.toNat_natCast]
    refine nw40 (fun _ => false) [.frz 24, .ren 15 8999] rfl hct rfl rfl ?_ ?_
    · intro i hi; rfl
    push_cast (config := { maxSteps := 10000000 })
    have e24 : ∀ i, V.kill 24 (shF (byF r.bd) a i) = shF (byF r.bd) a i := fun i => rfl
    have eb := (ByI.sh (l := a) (k := c - a) (ByI.by r.bd) (by omega)).2
    have el : ((r.bd.drop a).take (c - a)).length = c - a := by rw [List.length_take, List.length_drop]; omega
    refine ⟨⟨by omega, by omega⟩, ⟨by omega, by omega, by omega⟩, ⟨by omega, by omega⟩, fun i hi => ?_, by omega, fun i hi => ?_⟩
    · rw [e24, eb i hi]; rfl
    · rw [e24, eb i hi]
  · cases h
attribute [push_cast] ckCutH
theorem conCutB : NCon pg 40 ckCutB := by
  have hct := ctN_ok pg
  intro args q r nb h hq
  unfold ckCutB at h
  split at h
  · cases h
    rename_i x a c
    obtain ⟨h0, ok, h1, h2, h3, h4⟩ := hq
    have hb := ok.2.2.2.2.2.1
    refine ncall_argsC (args' := [cRec.enc (cRec.dec x), .int .i64 a, .int .i64 c]) ⟨h0, VLe.refl _, VLe.refl _, trivial⟩ ?_
    generalize cRec.dec x = r at *
    obtain ⟨a, rfl⟩ : ∃ k : Nat, a = k := ⟨a.toNat, by omega⟩
    obtain ⟨c, rfl⟩ : ∃ k : Nat, c = k := ⟨c.toNat, by omega⟩
    simp only [Int.toNat_natCast]
    refine nw40 (fun _ => false) [.ren 24 8999, .frz 15] rfl hct rfl rfl ?_ ?_
    · intro i hi; rfl
    push_cast (config := { maxSteps := 10000000 })
    have e24 : ∀ i, V.kill 24 (shF (byF r.bd) a i) = shF (byF r.bd) a i := fun i => rfl
    have eb := (ByI.sh (l := a) (k := c - a) (ByI.by r.bd) (by omega)).2
    have el : ((r.bd.drop a).take (c - a)).length = c - a := by rw [List.length_take, List.length_drop]; omega
    refine ⟨⟨by omega, by omega⟩, ⟨by omega, by omega, by omega⟩, ⟨by omega, by omega⟩, by omega, by omega, fun i hi => ?_⟩
    rw [e24]
    show shF (byF r.bd) a i = _
    exact eb i hi
  · cases h
attribute [push_cast] ckCutB
attribute [push_cast] ckCut ckCutH ckCutB

end Go.Abs
