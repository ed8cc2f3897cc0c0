/- what functions of this program compute: contracts, each a function's own -/
import Derived.Test.YtejiajdjgnnpdaaGreatDoorAbsK3
import Derived.Test.YtejiajdjgnnpdaaGreatDoorAbsFacts
import Derived.Test.YtejiajdjgnnpdaaGreatDoorAbsF8
import Derived.Test.YtejiajdjgnnpdaaGreatDoorAbsShelf
import Derived.Lib.SplitLaws
import Derived.Lib.SlTrimSet
import Derived.Lib.Atoi
import Derived.Lib.Itoa
import Derived.Lib.ItoaNum
import Derived.Lib.AtoiErrMem
import Derived.Lib.Join
import Derived.Lib.Repeat
import Derived.Lib.IndexMore
import Derived.Lib.AsciiSet
import Derived.Lib.IndexAny
import Derived.Sort.Walk0
import Derived.Lib.ItoaLen
import Derived.Shelf.Spec.SlicesInsert
import Derived.Shelf.Spec.SlicesInsertGrow
import Derived.Lib.Overlaps
import Derived.Lib.AppendZerosOnto
import Derived.Laws.NewBlocks
import Derived.WalkKit
import Derived.Lib.Walk
namespace Go.Abs
open Go Go.Proofs
set_option maxHeartbeats 4000000
set_option maxRecDepth 100000
set_option linter.unusedVariables false
set_option linter.unusedSimpArgs false
def ckMixed : Ck
  | [.sl n f] => some (isBy n f ∧ n ≤ 4611686018427387900, .int .u64 (mixL (bytesOf n f)))
  | _ => none
attribute [push_cast] ckMixed
def hxF (n : Int) (i : Nat) : Nat → V := fun j => bif decide (16 ≤ j + i) then .int .u8 (hexD (n / 16 ^ (15 - j))).toNat else .int .u8 0
theorem div16 {n : Int} (h0 : 0 ≤ n) (h1 : n < 18446744073709551616) (i : Nat) : 0 ≤ n / 16 ^ i ∧ n / 16 ^ i < 18446744073709551616 := by
  have hp : (0 : Int) < 16 ^ i := Int.pow_pos (by omega)
  refine ⟨Int.ediv_nonneg h0 (by omega), ?_⟩
  have := Int.ediv_le_self (16 ^ i) h0
  omega
theorem div16s (n : Int) (i : Nat) : n / 16 ^ i / 16 = n / 16 ^ (i + 1) := by
  have hp : (0 : Int) < 16 ^ i := Int.pow_pos (by omega)
  rw [Int.pow_succ, Int.ediv_ediv_of_nonneg (by omega)]
theorem hx_set {n : Int} {i : Nat} (hi : i < 16) (j : Nat) : setF (hxF n i) (15 - i) (.int .u8 (hexD (n / 16 ^ i)).toNat) j = hxF n (i + 1) j := by
  unfold setF hxF
  by_cases e : j = 15 - i
  · rw [decide_eq_true e, cond_true, decide_eq_true (show 16 ≤ j + (i + 1) by omega), cond_true, show 15 - j = i by omega]
  · rw [decide_eq_false e, cond_false]
    by_cases h : 16 ≤ j + i
    · rw [decide_eq_true h, decide_eq_true (show 16 ≤ j + (i + 1) by omega)]
    · rw [decide_eq_false h, decide_eq_false (show ¬ 16 ≤ j + (i + 1) by omega)]
theorem hx_end {n : Int} {i : Nat} (hi : i = 16) : (∀ j, j < 16 → ∃ m, hxF n i j = .int .u8 m) ∧ bytesOf 16 (hxF n i) = hex16 n := by
  subst hi
  have e : ∀ j, hxF n 16 j = .int .u8 (hexD (n / 16 ^ (15 - j))).toNat := fun j => by unfold hxF; rw [decide_eq_true (by omega)]; rfl
  refine ⟨fun j _ => ⟨_, e j⟩, ?_⟩
  unfold bytesOf hex16
  refine List.map_congr_left fun j _ => ?_
  rw [e]
  simp [V.toByte, hexD]
def ckHex : Ck
  | [.int .u64 n] => some (0 ≤ n ∧ n < 18446744073709551616, .str (hex16 n))
  | _ => none
attribute [push_cast] ckHex
def ckDigest : Ck
  | [.sl n f] => some (isBy n f ∧ n ≤ 4611686018427387900, .str (digestL (bytesOf n f)))
  | _ => none
attribute [push_cast] ckDigest
/- the closure of record.write: a line behind the bytes; the bytes' cell is block 2, the row of bytes block 12 -/
def catL (L a v : List UInt8) : List UInt8 := L ++ lnB2 a v
theorem catL_len (L a v : List UInt8) : (catL L a v).length = L.length + a.length + v.length + 4 := by simp [catL, lnB2]; omega
def ckLineK : List V → List Blk → Option (Prop × V × List Blk)
  | [.str a, .str v, .ptr 2 0], [.cells [.vec 12 n], .vec 1 k g] => some (k = n ∧ isBy n g ∧ n ≤ 100000000 ∧ a.length ≤ 100000000 ∧ v.length ≤ 100000000, .tup [], [.cells [.vec 12 (catL (bytesOf n g) a v).length], .vec 1 (catL (bytesOf n g) a v).length (byF (catL (bytesOf n g) a v))])
  | _, _ => none
def ckLine6 : Cf := ⟨fun | [_, _, .ptr 2 _] => [2, 12] | _ => [], ckLineK⟩
@[push_cast] theorem line6_ids (x y : V) (o : Nat) : ckLine6.ids [x, y, .ptr 2 o] = [2, 12] := rfl
@[push_cast] theorem line6_k (a v : List UInt8) (n k : Nat) (g : Nat → V) : ckLine6.k [.str a, .str v, .ptr 2 0] [.cells [.vec 12 n], .vec 1 k g] = some (k = n ∧ isBy n g ∧ n ≤ 100000000 ∧ a.length ≤ 100000000 ∧ v.length ≤ 100000000, .tup [], [.cells [.vec 12 (catL (bytesOf n g) a v).length], .vec 1 (catL (bytesOf n g) a v).length (byF (catL (bytesOf n g) a v))]) := rfl
@[push_cast] theorem vle_fn6 (f : Fn) (a b : List V) : vle (.fn f a b) (.fn f a b) = True := eq_true rfl
@[push_cast] theorem kept_by : bytesOf 8 (byF [75, 69, 80, 84, 47, 49, 13, 10]) = [75, 69, 80, 84, 47, 49, 13, 10] := rfl
@[push_cast] theorem kept_is : isBy 8 (byF [75, 69, 80, 84, 47, 49, 13, 10]) = True := eq_true (isBy_by [75, 69, 80, 84, 47, 49, 13, 10])
theorem date_le {n : Int} (h0 : 0 ≤ n) (h1 : n ≤ 253402300799) : (dateTextL n).length ≤ 6000 := by
  have h0 : 0 ≤ n / 86400 ∧ n / 86400 ≤ 2932896 := by omega
  have b := date_b h0.1 h0.2
  have l1 := wdN_b ((n / 86400 + 3) % 7).toNat
  have l2 := mnN_b (monthI (n / 86400) - 1).toNat
  have l3 := paddedL_len (n := n / 86400 - daysI (yearI (n / 86400)) (monthI (n / 86400)) + 1) (k := 2) (by omega) (by omega) (by omega) (by omega)
  have l4 := paddedL_len (n := yearI (n / 86400)) (k := 4) (by omega) (by omega) (by omega) (by omega)
  have l5 := paddedL_len (n := n % 86400 / 3600) (k := 2) (by omega) (by omega) (by omega) (by omega)
  have l6 := paddedL_len (n := n % 86400 / 60 % 60) (k := 2) (by omega) (by omega) (by omega) (by omega)
  have l7 := paddedL_len (n := n % 86400 % 60) (k := 2) (by omega) (by omega) (by omega) (by omega)
  unfold dateTextL
  simp only [List.length_append, List.length_cons, List.length_nil]
  omega
theorem kindW_le (k : Nat) : (kindW.getD k []).length ≤ 7 := by
  match k with
  | 0 | 1 | 2 | 3 | 4 => decide
  | k + 5 => simp [kindW]
theorem name_le {s : List UInt8} (h : nameL s = true) : s.length ≤ 40 := by
  simp only [nameL, Bool.and_eq_true, decide_eq_true_eq] at h; exact h.1.1.2
theorem target_le {s : List UInt8} (h : targetL s = true) : s.length ≤ 2000 := by
  simp only [targetL, Bool.and_eq_true, decide_eq_true_eq] at h; exact h.1.2
theorem rec_sz {r : Rcd} (h : checkRecL r = 0) : r.id.length ≤ 40 ∧ r.ow.length ≤ 40 ∧ r.ke.length ≤ 2000 ∧ (dateTextL r.ti).length ≤ 6000 ∧ (headsB r.hd).length ≤ 104400 ∧ r.bd.length ≤ 200000 ∧ r.hd.length ≤ 30 := by
  obtain ⟨h1, h2, h3, h4, h5, h6, h7, h8, h9, h10⟩ := rec_ok h
  refine ⟨name_le h3, ?_, target_le h7, date_le h5 h6, heads_le h9, h10, h8⟩
  rcases h4 with h4 | h4
  · rw [h4]; simp
  · exact name_le h4
theorem recP_ow {r : Rcd} (h : ¬ r.ow = []) : catL (catL (catL (catL (catL [75, 69, 80, 84, 47, 49, 13, 10] [105, 100] r.id) [111, 102] r.ow) [107, 105, 110, 100] (kindW.getD (r.ki - 1).toNat [])) [100, 97, 116, 101] (dateTextL r.ti)) [107, 101, 121] r.ke = recP r := by
  unfold recP; rw [if_neg h]; rfl
theorem recP_no {r : Rcd} (h : r.ow = []) : catL (catL (catL (catL [75, 69, 80, 84, 47, 49, 13, 10] [105, 100] r.id) [107, 105, 110, 100] (kindW.getD (r.ki - 1).toNat [])) [100, 97, 116, 101] (dateTextL r.ti)) [107, 101, 121] r.ke = recP r := by
  unfold recP; rw [if_pos h, List.append_nil]; rfl
theorem recP_le {r : Rcd} (h : checkRecL r = 0) : (recP r).length ≤ 10000 := by
  obtain ⟨z1, z2, z3, z4, z5, z6, z7⟩ := rec_sz h
  have zk := kindW_le (r.ki - 1).toNat
  by_cases e : r.ow = []
  · rw [← recP_no e]; simp only [catL_len, List.length_cons, List.length_nil]; omega
  · rw [← recP_ow e]; simp only [catL_len, List.length_cons, List.length_nil]; omega
def ckWrite : Ck
  | [.nilsl, x] => some (isC cRec x ∧ recOk (cRec.dec x) ∧ checkRecL (cRec.dec x) = 0, .sl (recB (cRec.dec x)).length (byF (recB (cRec.dec x))))
  | _ => none
attribute [push_cast] ckWrite
@[push_cast] theorem vle_map (i : Nat) : vle (.map i) (.map i) = True := eq_true rfl
/- names that were seen, in a map -/
def seenM (s : List (List UInt8)) : MK → Option V
  | .str x => if s.contains x = true then some (.bool true) else none
  | _ => none
@[push_cast] theorem asB_seen (s : List (List UInt8)) (x : List UInt8) : asB false (seenM s (.str x)) = s.contains x := by
  simp only [seenM]
  by_cases h : s.contains x = true
  · rw [if_pos h]; exact h.symm
  · rw [if_neg h]; show false = _; simpa using h
@[push_cast] theorem okB_seen (s : List (List UInt8)) (k : MK) : okB (seenM s k) = True := by
  refine eq_true ?_
  unfold seenM
  split
  · split <;> exact trivial
  · exact trivial
theorem putM_seen (s : List (List UInt8)) (x : List UInt8) (l : MK) : putM (seenM s) (.str x) (.bool true) l = seenM (s ++ [x]) l := by
  unfold putM
  by_cases h : l = .str x
  · subst h
    rw [decide_eq_true rfl]
    simp only [cond_true, seenM]
    rw [if_pos (by simp)]
  · rw [decide_eq_false h]
    simp only [cond_false]
    cases l with
    | int k n => rfl
    | ss a b => rfl
    | str y =>
      have hy : y ≠ x := fun e => h (by rw [e])
      simp only [seenM]
      have : (s ++ [x]).contains y = s.contains y := by
        rw [Bool.eq_iff_iff]; simp [hy]
      rw [this]
theorem seen_nil : ∀ l, (none : Option V) = seenM [] l := fun l => by cases l <;> rfl
/-- the error of records -/
def cfGo : List (List UInt8) → Int → List Rcd → Int
  | _, m, [] => if 500000 < m then 2 else 0
  | s, m, r :: t => if ¬ checkRecL r = 0 then checkRecL r else if s.contains r.id = true then 7 else cfGo (s ++ [r.id]) (m + (recB r).length) t
def checkFileL (l : List Rcd) : Int := if 1000 < l.length then 2 else cfGo [] 0 l
def recsOk (l : List Rcd) : Prop := ∀ a ∈ l, recOk a
theorem recsOk_at {l : List Rcd} (h : recsOk l) {i : Nat} (hi : i < l.length) : recOk (l.getD i noRec) := by
  rw [List.getD_eq_getElem?_getD, List.getElem?_eq_getElem hi]; exact h _ (List.getElem_mem hi)
theorem recB_le {r : Rcd} (h : checkRecL r = 0) : (recB r).length ≤ 400000 := by
  obtain ⟨z1, z2, z3, z4, z5, z6, z7⟩ := rec_sz h
  have zp := recP_le h
  have hi6 := itoa_len (n := r.bd.length) (by omega)
  have hdg : (digestL r.bd).length = 16 := hex16_len _
  simp only [recB, recQ, lnB2, List.length_append, List.length_cons, List.length_nil]
  omega
/-- the bytes of records -/
def fileB : List Rcd → List UInt8
  | [] => []
  | r :: t => recB r ++ fileB t
theorem fileB_app (a b : List Rcd) : fileB (a ++ b) = fileB a ++ fileB b := by
  induction a with
  | nil => rfl
  | cons r t ih => simp only [List.cons_append, fileB, ih, List.append_assoc]
theorem cfGo_ok : ∀ {l : List Rcd} {s : List (List UInt8)} {m : Int}, cfGo s m l = 0 → (∀ r ∈ l, checkRecL r = 0) ∧ m + (fileB l).length ≤ 500000
  | [], s, m, h => by
    rw [cfGo] at h
    split at h
    · omega
    · exact ⟨fun r hr => (by cases hr), by simp only [fileB, List.length_nil]; omega⟩
  | r :: t, s, m, h => by
    rw [cfGo] at h
    by_cases h1 : checkRecL r = 0
    · rw [if_neg (fun x => x h1)] at h
      by_cases h2 : s.contains r.id = true
      · rw [if_pos h2] at h; omega
      · rw [if_neg h2] at h
        obtain ⟨a, b⟩ := cfGo_ok h
        refine ⟨fun x hx => ?_, by simp only [fileB, List.length_append]; omega⟩
        rcases List.mem_cons.1 hx with rfl | hx
        · exact h1
        · exact a x hx
    · rw [if_pos h1] at h; exact absurd h h1
theorem file_ok {l : List Rcd} (h : checkFileL l = 0) : (∀ r ∈ l, checkRecL r = 0) ∧ (fileB l).length ≤ 500000 ∧ l.length ≤ 1000 := by
  unfold checkFileL at h
  split at h
  · omega
  · obtain ⟨a, b⟩ := cfGo_ok h
    exact ⟨a, by omega, by omega⟩
@[push_cast] theorem lsF_rec (l : List Rcd) (i : Nat) : lsF cRec l i = .agg [.int .i64 (l.getD i noRec).ki, .str (l.getD i noRec).id, .str (l.getD i noRec).ow, .int .i64 (l.getD i noRec).ti, .str (l.getD i noRec).ke, .sl (l.getD i noRec).hd.length (lsF cHd (l.getD i noRec).hd), .sl (l.getD i noRec).bd.length (byF (l.getD i noRec).bd)] := rfl
theorem cf_app {l : List Rcd} {i : Nat} (h : i < l.length) : (l.take (i + 1)).map Rcd.id = (l.take i).map Rcd.id ++ [(l.getD i noRec).id] := by
  rw [takeG (d := noRec) h, List.map_append]; rfl

def ckCloneBy : Ck
  | [.sl n f] => some (isBy n f ∧ n ≤ 140737488355328, .sl n f)
  | _ => none
attribute [push_cast] ckCloneBy

def ckCloneHd : Ck
  | [.sl n f] => some (isLs cHd n f ∧ n ≤ 1000000000000, .sl n f)
  | _ => none
attribute [push_cast] ckCloneHd
theorem ncall_nil1 {f : FuncId} {g : Nat → V} {r : V} {nb : Blk} (h : ∀ a c, NCall pg f [.con (.slice a 0 c)] r nb) : NCall pg f [.sl 0 g] r nb := by
  intro S vals hs hh hl hr
  match vals, hl with
  | [v], _ =>
    have h0 := hr 0 (by simp)
    simp only [List.getD_cons_zero] at h0
    obtain ⟨a, c, rfl⟩ : ∃ a c, v = .slice a 0 c := by
      cases inv_sl h0 with
      | sl0 _ a c => exact ⟨a, c, rfl⟩
      | sl _ _ b off c sz u => exact ⟨_, _, rfl⟩
    exact h a c S [.slice a 0 c] hs hh rfl fun i hi => by
      have : i = 0 := by simp at hi; omega
      subst this
      exact .pure (.con _)
def ckCloneRec : List V → Option (Prop × V × Blk)
  | [.sl n f] => some (isLs cRec n f ∧ n ≤ 1000000, .vec 8999 n, .vec 7 n f)
  | _ => none
attribute [push_cast] ckCloneRec
theorem setF_self (f : Nat → V) (i : Nat) : setF f i (f i) = f := by
  funext j
  unfold setF
  by_cases e : j = i
  · subst e; rw [decide_eq_true rfl]; rfl
  · rw [decide_eq_false e]; rfl
def ckCopies : Ck
  | [.sl n f] => some (isLs cRec n f ∧ recsOk (lsOf cRec n f) ∧ (∀ r ∈ lsOf cRec n f, r.hd.length ≤ 1000000) ∧ n ≤ 1000000, .sl (lsOf cRec n f).length (lsF cRec (lsOf cRec n f)))
  | _ => none
attribute [push_cast] ckCopies
/-- cells laid into a row -/
def layA (arr : Array Value) (o : Nat) (l : List Value) : Array Value := (l.zipIdx 0).foldl (fun cs (p : Value × Nat) => cs.setIfInBounds (o + p.2) p.1) arr
theorem layA_ok (l : List Value) (o : Nat) (arr : Array Value) (h : o + l.length ≤ arr.size) : (layA arr o l).size = arr.size ∧ ∀ k, (layA arr o l).getD k undef = if o ≤ k ∧ k < o + l.length then l.getD (k - o) undef else arr.getD k undef := by
  have := lay_cells l o 0 arr (by omega)
  exact this
theorem szEnt : (Tryz.prog.info? 59).map (·.size) = some 3 := by kernel_rfl
theorem copy3 (w : World) {b o dl dc : Nat} {arr : Array Value} {t : TypeId} {lo : Nat} (ty : TypeId) (hb : w.heap[b]? = some (.cells arr t (lo, lo))) (a : Addr) (sl sc k : Nat) (cs : List Value) (hk : k = min sl dl) (hl : cs.length = k * 3)
    (hsrc : ∀ j v, cs[j]? = some v → w.cell? (a.add j) = some v) (hle : o + cs.length ≤ arr.size) (h1 : ∀ v ∈ cs, one v) :
    (Builtin.copy_ #[22, 22] ty #[.slice (some ⟨b, o, none⟩) dl dc, .slice (some a) sl sc]).run Tryz.prog w = .ok (goInt k) (w.setRow b (layA arr o cs)) := by
  have hl' := run_loadCells_list (P := Tryz.prog) w a cs hsrc
  have hst := store_run (P := Tryz.prog) b o t lo lo cs 0 arr w hb (.inl rfl) (by omega) h1
  have hu := run_underlying Tryz.underlying22
  cases hq : (Tryz.prog.info? 59) with
  | none => have := szEnt; rw [hq] at this; cases this
  | some i =>
    have hi : i.size = 3 := by have := szEnt; rw [hq] at this; simpa using this
    have hm : Nat.min sl dl = k := hk.symm
    simp [Builtin.copy_, hu, Builtin.lenOf, Builtin.firstCells, sizeOf, typeInfo, hq, hi, hm, ← hl, hl', hst, layA]
theorem frozen_no {w : World} {b : Nat} {arr : Array Value} {t : TypeId} {lo : Nat} (hb : w.heap[b]? = some (.cells arr t (lo, lo))) (q : Nat) : w.frozen? ⟨b, q, none⟩ = false := by
  simp only [World.frozen?, hb, Bool.and_eq_false_iff, decide_eq_false_iff_not]; omega
open Go.RowKit Go.Shelf in
set_option maxRecDepth 100000 in
theorem infoEnt : ∃ i z, Tryz.prog.info? 59 = some i ∧ i.zero = some z ∧ i.size = 3 ∧ i.bytes = 32 ∧ z.cells.size = 3 := by
  have h1 : (Tryz.prog.info? 59).map (fun i => (i.size, i.bytes)) = some (3, 32) := by kernel_rfl
  have h2 : ((Tryz.prog.info? 59).bind (fun i => i.zero)).map (fun z => z.cells.size) = some 3 := by kernel_rfl
  cases hq : (Tryz.prog.info? 59) with
  | none => rw [hq] at h1; cases h1
  | some i =>
    rw [hq] at h1 h2
    cases hz : i.zero with
    | none => rw [Option.bind_some, hz] at h2; cases h2
    | some z =>
      rw [Option.bind_some, hz] at h2
      simp only [Option.map_some, Option.some.injEq, Prod.mk.injEq] at h1 h2
      exact ⟨i, z, rfl, hz, h1.1, h1.2, h2⟩
open Go.RowKit Go.Shelf in
set_option maxRecDepth 100000 in
/-- what an entry's cells in the new row are -/
theorem ins_cell {D : List Ent} {x : Ent} {a e : Nat} (ha : a < D.length) (he : e < D.length + 1) : (stK D x a).getD e noEnt = if e < a then D.getD e noEnt else if e = a then x else D.getD (e - 1) noEnt := by
  unfold stK
  rw [List.getD_eq_getElem?_getD, List.getElem?_append, List.length_take, Nat.min_eq_left (by omega)]
  by_cases h1 : e < a
  · rw [if_pos h1, if_pos h1, List.getElem?_take_of_lt h1, List.getD_eq_getElem?_getD]
  · rw [if_neg h1, if_neg h1]
    by_cases h2 : e = a
    · subst h2; rw [if_pos rfl, Nat.sub_self]; rfl
    · rw [if_neg h2, show e - a = (e - 1 - a) + 1 by omega, List.getElem?_cons_succ, List.getElem?_drop, List.getD_eq_getElem?_getD]
      congr 2; omega
theorem ins_rep {γ γ' : Gh} {imm : Nat → Prop} {w w' : World} {D : List Ent} {x : Ent} {a : Nat} {arr varr A2 : Array Value} (ha : a < D.length)
    (hc : ∀ q, q < (D.length + 1) * 3 → A2.getD q undef = if q < a * 3 then arr.getD q undef else if q < (a + 1) * 3 then varr.getD (q - a * 3) undef else arr.getD (q - 3) undef)
    (h8 : ∀ e q, e < D.length → q < 3 → RepC γ imm w ((lsF cEnt D e).flat.getD q .any) (arr.getD (e * 3 + q) undef)) (hx : ∀ q, q < 3 → RepC γ imm w ((cEnt.enc x).flat.getD q .any) (varr.getD q undef))
    (him : ∀ b, imm b → w'.heap[b]? = w.heap[b]?) {e q : Nat} (he : e < D.length + 1) (hq : q < 3) : RepC γ' imm w' ((lsF cEnt (stK D x a) e).flat.getD q .any) (A2.getD (e * 3 + q) undef) := by
  have nm : ∀ (y : Ent) (id : Nat), V.men id ((cEnt.enc y).flat.getD q .any) = false := fun y id => by
    match q, hq with
    | 0, _ => rfl
    | 1, _ => rfl
    | 2, _ => rfl
  have up : ∀ {y : Ent} {v : Value}, RepC γ imm w ((cEnt.enc y).flat.getD q .any) v → RepC γ' imm w' ((cEnt.enc y).flat.getD q .any) v := fun {y v} h =>
    ⟨RepV.mono (fun _ h => h) him h.1 (fun id hid => by rw [nm] at hid; cases hid), h.2⟩
  have e1 : lsF cEnt (stK D x a) e = cEnt.enc ((stK D x a).getD e noEnt) := rfl
  rw [e1, ins_cell ha he, hc _ (by omega)]
  by_cases h1 : e < a
  · rw [if_pos h1, if_pos (show e * 3 + q < a * 3 by omega)]
    exact up (h8 e q (by omega) hq)
  · rw [if_neg h1, if_neg (show ¬ e * 3 + q < a * 3 by omega)]
    by_cases h2 : e = a
    · rw [if_pos h2, if_pos (show e * 3 + q < (a + 1) * 3 by omega), show e * 3 + q - a * 3 = q by omega]
      exact up (hx q hq)
    · rw [if_neg h2, if_neg (show ¬ e * 3 + q < (a + 1) * 3 by omega), show e * 3 + q - 3 = (e - 1) * 3 + q by omega]
      exact up (h8 (e - 1) q (by omega) hq)
theorem getD_tl {arr : Array Value} {o m j : Nat} (h : j < m) (ho : o + m ≤ arr.size) : ((arr.toList.drop o).take m).getD j undef = arr.getD (o + j) undef := by
  rw [List.getD_eq_getElem?_getD, List.getElem?_take_of_lt h, List.getElem?_drop, Array.getElem?_toList, Array.getD_eq_getD_getElem?]
theorem at_tl {arr : Array Value} {o m j : Nat} {v : Value} (h : ((arr.toList.drop o).take m)[j]? = some v) : arr[o + j]? = some v ∧ j < m := by
  rw [List.getElem?_take] at h
  split at h
  · rename_i hj
    rw [List.getElem?_drop, Array.getElem?_toList] at h
    exact ⟨h, hj⟩
  · cases h
def ckInsertK : List V → List Blk → Option (Prop × V × List Blk)
  | [.vec i n, .int .i64 a, .vec j 1], [.vec 3 k f, .vec 3 1 g] => some (i ≠ j ∧ k = n ∧ isLs cEnt n f ∧ isLs cEnt 1 g ∧ n ≤ 1000000 ∧ 0 ≤ a ∧ a ≤ n, .vec i (n + 1), [.vec 3 (n + 1) (lsF cEnt (stK (lsOf cEnt n f) (cEnt.dec (g 0)) a.toNat)), .vec 3 1 (lsF cEnt [cEnt.dec (g 0)])])
  | _, _ => none
def ckInsert : Cf := ⟨fun | [.vec i _, _, .vec j _] => [i, j] | _ => [], ckInsertK⟩

@[push_cast] theorem insert_ids (i n j m : Nat) (a : V) : ckInsert.ids [.vec i n, a, .vec j m] = [i, j] := rfl
@[push_cast] theorem insert_k {i n j k : Nat} {a : Int} {f g : Nat → V} : ckInsert.k [.vec i n, .int .i64 a, .vec j 1] [.vec 3 k f, .vec 3 1 g] = some (i ≠ j ∧ k = n ∧ isLs cEnt n f ∧ isLs cEnt 1 g ∧ n ≤ 1000000 ∧ 0 ≤ a ∧ a ≤ n, .vec i (n + 1), [.vec 3 (n + 1) (lsF cEnt (stK (lsOf cEnt n f) (cEnt.dec (g 0)) a.toNat)), .vec 3 1 (lsF cEnt [cEnt.dec (g 0)])]) := rfl

/- what of a key is read again, and frontiers of which all are alike -/
def okPl (s : List UInt8) : List UInt8 := (Lib.cut s [41]).1
def okRe (s : List UInt8) : List UInt8 := (Lib.cut s [41]).2.1
def okR2 (s : List UInt8) : List UInt8 := if hasPre (okRe s) [115] = true then (okRe s).drop 1 else okRe s
def okA (s : List UInt8) : Adr :=
  ⟨if hasPre (okRe s) [115] = true then [104, 116, 116, 112, 115] else [104, 116, 116, 112], Lib.join (splitL (Lib.cut (okPl s) [58]).1 44).reverse [46], (Lib.cut (okPl s) [58]).2.1, (Lib.cut (okR2 s) [63]).1, (Lib.cut (okR2 s) [63]).2.1, (Lib.cut (okR2 s) [63]).2.2, [], false⟩
def okE (s : List UInt8) : Int := if 2000 < s.length then 2 else if ((Lib.cut (okPl s) [58]).2.2 = true ∧ (Lib.cut (okPl s) [58]).2.1 = []) ∨ ¬ checkAdrL (okA s) = 0 ∨ ¬ keyL [] (okA s) = s then 10 else 0
theorem okE_0 {s : List UInt8} (h : okE s = 0) : s.length ≤ 2000 ∧ 41 ∈ s := by
  unfold okE at h
  split at h
  · cases h
  · rename_i h1
    split at h
    · cases h
    · rename_i h2
      have : keyL [] (okA s) = s := Classical.byContradiction fun x => h2 (.inr (.inr x))
      exact ⟨by omega, by rw [← this]; exact key_has _ _⟩
theorem bless : ∀ (x y : List UInt8), Op.bytesLess x y = decide (x < y)
  | [], [] => by simp [Op.bytesLess]
  | _ :: _, [] => by simp [Op.bytesLess]
  | [], _ :: _ => by simp [Op.bytesLess]
  | a :: x, b :: y => by
    rw [Op.bytesLess, bless x y, Bool.eq_iff_iff]
    simp only [Bool.or_eq_true, Bool.and_eq_true, decide_eq_true_eq, beq_iff_eq, List.cons_lt_cons_iff]
/-- what is wanted by a key -/
def wK (k : List UInt8) : Ent := ⟨k, 1, 0⟩
structure FrOk (K : List (List UInt8)) : Prop where
  len : K.length ≤ 1000
  ok : ∀ k ∈ K, okE k = 0
  srt : K.Pairwise fun a b => a < b
/-- where a key stands, or would -/
def posW (K : List (List UInt8)) (k : List UInt8) : Nat := K.findIdx fun x => !decide (x < k)
theorem posW_le (K : List (List UInt8)) (k : List UInt8) : posW K k ≤ K.length := List.findIdx_le_length
theorem posW_lt {K : List (List UInt8)} {k : List UInt8} {h : Nat} (hh : h < posW K k) : K.getD h [] < k := by
  have h1 : h < K.length := Nat.lt_of_lt_of_le hh (posW_le K k)
  have := List.not_of_lt_findIdx hh
  rw [List.getD_eq_getElem?_getD, List.getElem?_eq_getElem h1]
  simpa using this
theorem srtW0 {K : List (List UInt8)} (hs : K.Pairwise fun a b => a < b) {i j : Nat} (h : i < j) (hj : j < K.length) : K.getD i [] < K.getD j [] := by
  rw [List.getD_eq_getElem?_getD, List.getElem?_eq_getElem (by omega), List.getD_eq_getElem?_getD, List.getElem?_eq_getElem hj]
  exact List.pairwise_iff_getElem.1 hs i j (by omega) hj h
theorem posW_at {K : List (List UInt8)} {k : List UInt8} (h : posW K k < K.length) : ¬ K.getD (posW K k) [] < k := by
  have := List.findIdx_getElem (p := fun x => !decide (x < k)) (xs := K) (w := h)
  rw [List.getD_eq_getElem?_getD, List.getElem?_eq_getElem h]
  simp only [Bool.not_eq_true', decide_eq_false_iff_not] at this
  exact this
theorem posW_ge {K : List (List UInt8)} {k : List UInt8} (hs : K.Pairwise fun a b => a < b) {h : Nat} (hh : posW K k ≤ h) (hl : h < K.length) : ¬ K.getD h [] < k := by
  have h1 := posW_at (K := K) (k := k) (by omega)
  by_cases e : posW K k = h
  · rw [← e]; exact h1
  · intro h2
    exact h1 (List.lt_trans (srtW0 hs (i := posW K k) (j := h) (by omega) hl) h2)
theorem posW_iff {K : List (List UInt8)} {k : List UInt8} (hs : K.Pairwise fun a b => a < b) {h : Nat} (hl : h < K.length) : K.getD h [] < k ↔ h < posW K k := by
  constructor
  · intro h1
    exact Nat.lt_of_not_le fun h2 => posW_ge hs h2 hl h1
  · exact posW_lt
theorem memW_at {K : List (List UInt8)} {k : List UInt8} (hs : K.Pairwise fun a b => a < b) : (posW K k < K.length ∧ K.getD (posW K k) [] = k) ↔ k ∈ K := by
  constructor
  · rintro ⟨h1, h2⟩
    rw [← h2, List.getD_eq_getElem?_getD, List.getElem?_eq_getElem h1]
    exact List.getElem_mem h1
  · intro h
    obtain ⟨j, hj, hjk⟩ := List.getElem_of_mem h
    have e : K.getD j [] = k := by rw [List.getD_eq_getElem?_getD, List.getElem?_eq_getElem hj]; exact hjk
    have h1 : ¬ j < posW K k := fun x => by
      have := posW_lt x
      rw [e] at this
      exact List.lt_irrefl _ this
    by_cases e2 : j = posW K k
    · subst e2; exact ⟨hj, e⟩
    · exfalso
      have h3 := srtW0 hs (i := posW K k) (j := j) (by omega) hj
      rw [e] at h3
      exact posW_at (K := K) (k := k) (by omega) h3
/-- a key put in -/
def putW (K : List (List UInt8)) (k : List UInt8) : List (List UInt8) := if k ∈ K then K else K.take (posW K k) ++ k :: K.drop (posW K k)
theorem putW_ok {K : List (List UInt8)} {k : List UInt8} (h : FrOk K) (hk : okE k = 0) (hl : K.length < 1000) : FrOk (putW K k) := by
  unfold putW
  split
  · exact h
  · rename_i hn
    obtain ⟨h1, h2, h3⟩ := h
    have hp := posW_le K k
    refine ⟨?_, fun x hx => ?_, ?_⟩
    · rw [List.length_append, List.length_take, List.length_cons, List.length_drop]; omega
    · rcases List.mem_append.1 hx with hx | hx
      · exact h2 x (List.mem_of_mem_take hx)
      · rcases List.mem_cons.1 hx with rfl | hx
        · exact hk
        · exact h2 x (List.mem_of_mem_drop hx)
    · have hlo : ∀ x ∈ K.take (posW K k), x < k := fun x hx => by
        obtain ⟨j, hj, rfl⟩ := List.getElem_of_mem hx
        rw [List.length_take] at hj
        have := posW_lt (K := K) (k := k) (h := j) (by omega)
        rw [List.getD_eq_getElem?_getD, List.getElem?_eq_getElem (by omega)] at this
        rw [List.getElem_take]
        exact this
      have hhi : ∀ x ∈ K.drop (posW K k), k < x := fun x hx => by
        obtain ⟨j, hj, rfl⟩ := List.getElem_of_mem hx
        rw [List.length_drop] at hj
        have := posW_ge (k := k) h3 (h := posW K k + j) (by omega) (by omega)
        rw [List.getD_eq_getElem?_getD, List.getElem?_eq_getElem (by omega)] at this
        rw [List.getElem_drop]
        refine Classical.byContradiction fun hc => hn ?_
        have e : K[posW K k + j] = k := List.le_antisymm (List.not_lt.1 hc) (List.not_lt.1 this)
        rw [← e]
        exact List.getElem_mem _
      refine List.pairwise_append.2 ⟨h3.sublist (List.take_sublist _ _), List.pairwise_cons.2 ⟨hhi, h3.sublist (List.drop_sublist _ _)⟩, fun a ha b hb => ?_⟩
      rcases List.mem_cons.1 hb with rfl | hb
      · exact hlo a ha
      · exact List.lt_trans (hlo a ha) (hhi b hb)
theorem putW_perm {K Q : List (List UInt8)} {k : List UInt8} (h : K.Perm Q) : (putW K k).Perm (if k ∈ Q then Q else Q ++ [k]) := by
  unfold putW
  by_cases hk : k ∈ K
  · rw [if_pos hk, if_pos (h.mem_iff.1 hk)]; exact h
  · rw [if_neg hk, if_neg (fun x => hk (h.mem_iff.2 x))]
    refine List.perm_middle.trans ?_
    rw [List.take_append_drop]
    exact (List.Perm.cons k h).trans (List.perm_append_singleton k Q).symm
theorem srtW_uniq {K Q : List (List UInt8)} (hs : K.Pairwise fun a b => a < b) (h : K.Perm Q) : Q.mergeSort (fun x y => decide (x ≤ y)) = K := by
  have h1 : (Q.mergeSort (fun x y => decide (x ≤ y))).Pairwise fun a b => a ≤ b := by
    have := List.pairwise_mergeSort (le := fun x y : List UInt8 => decide (x ≤ y)) (fun a b c h1 h2 => by
      simp only [decide_eq_true_eq] at h1 h2 ⊢
      exact List.le_trans h1 h2) (fun a b => by
      simp only [Bool.or_eq_true, decide_eq_true_eq]
      exact List.le_total a b) Q
    exact this.imp fun h => by simpa using h
  have h2 : K.Pairwise fun a b => a ≤ b := hs.imp fun h => List.le_of_lt h
  exact List.Perm.eq_of_pairwise (fun a b _ _ h1 h2 => List.le_antisymm h1 h2) h1 h2 ((List.mergeSort_perm _ _).trans h.symm)
theorem wK_put {K : List (List UInt8)} {k : List UInt8} (h : ¬ k ∈ K) : (putW K k).map wK = stK (K.map wK) (wK k) (posW K k) := by
  unfold putW stK
  rw [if_neg h, List.map_append, List.map_cons, List.map_take, List.map_drop]
theorem wK_at (K : List (List UInt8)) {i : Nat} (h : i < K.length) : (K.map wK).getD i noEnt = wK (K.getD i []) := by
  rw [List.getD_eq_getElem?_getD, List.getElem?_map, List.getElem?_eq_getElem h, List.getD_eq_getElem?_getD, List.getElem?_eq_getElem h]; rfl

def ckCloneW : List V → Option (Prop × V × Blk)
  | [.sl n f] => some (isLs cEnt n f ∧ n ≤ 1000000, .vec 8999 n, .vec 3 n f)
  | _ => none
theorem conCloneW : NCon pg 71 ckCloneW := by
  have hct := ctN_ok pg
  intro args q r nb h hq
  unfold ckCloneW at h
  split at h
  · cases h
    rename_i n f
    by_cases hn : n = 0
    · subst hn
      refine ncall_nil1 fun a c => ?_
      cases a
      · refine nw71 (fun d => decide (d < 9999)) [.nv 2 8999 3 f] rfl hct rfl rfl ?_ ?_
        · simp [noIdB]
        push_cast (config := { maxSteps := 10000000 })
      · refine nw71 (fun d => decide (d < 9999)) [.ren 5 8999] rfl hct rfl rfl ?_ ?_
        · simp [noIdB]
        push_cast (config := { maxSteps := 10000000 })
    · obtain ⟨h1, h2⟩ := hq
      refine nw71 (fun d => decide (d < 9999)) [.ren 5 8999] rfl hct rfl rfl ?_ ?_
      · intro i hi; show V.noIdL (f i).flat = true; rw [h1.2 i hi]; rfl
      push_cast (config := { maxSteps := 10000000 })
      exact ⟨by omega, ⟨h1.flat (fun _ => rfl), by omega, by omega⟩, fun i hi => by rw [h1.2 i hi]; rfl⟩
  · cases h
attribute [push_cast] ckCloneW
def ckCloneH0 : Ck
  | [.sl m g] => some (m = 0, .sl 0 g)
  | _ => none
theorem conCloneH0 : Con pg 72 ckCloneH0 := by
  have hct := ctN_ok pg
  intro args q r h hq
  unfold ckCloneH0 at h
  split at h
  · cases h
    subst hq
    refine pcall_nil1 fun a c => ?_
    refine w72 (fun d => decide (d < 9999)) [.frz 5] rfl hct rfl rfl ?_
    push_cast (config := { maxSteps := 10000000 })
    cases a
    · push_cast (config := { maxSteps := 10000000 })
    · push_cast (config := { maxSteps := 10000000 })
  · cases h
attribute [push_cast] ckCloneH0

theorem ncall_argsF {f : FuncId} {args args' : List V} {r : V} {nb : Blk} (hv : vleL args args') (h : NCall pg f args' r nb) : NCall pg f args r nb := by
  intro S vals hs hh hlen hr
  exact h S vals hs hh (hlen.trans (vleL_len hv)) fun i hi => vleL_at hv i _ _ _ _ (hr i (by rw [vleL_len hv]; exact hi))
def ckOwnF : List V → Option (Prop × V × Blk)
  | [.agg [.sl n f, .sl m g, .int .i64 b, .int .i64 w]] => some (isLs cEnt n f ∧ n ≤ 1000000 ∧ m = 0, .agg [.vec 8999 n, .sl 0 g, .int .i64 b, .int .i64 w], .vec 3 n (lsF cEnt (lsOf cEnt n f)))
  | _ => none
theorem conOwnF : NCon pg 31 ckOwnF := by
  have hct := (ctW_ok conCloneW (ctA_ok conCloneH0 (ctN_ok _)))
  intro args q r nb h hq
  unfold ckOwnF at h
  split at h
  · cases h
    rename_i n f m g b w
    obtain ⟨hi, hn, rfl⟩ := hq
    refine ncall_argsF (args' := [.agg [.sl (lsOf cEnt n f).length (lsF cEnt (lsOf cEnt n f)), .sl 0 g, .int .i64 b, .int .i64 w]]) ⟨VLe.agg ⟨isLs.vle hi, VLe.refl _, VLe.refl _, VLe.refl _, trivial⟩, trivial⟩ ?_
    have hk := lsOf_len (c := cEnt) n f
    generalize lsOf cEnt n f = l at hk ⊢
    subst hk
    refine nw31 (fun _ => false) [.ren 6 8999] rfl hct rfl rfl ?_ ?_
    · intro i hi; rfl
    push_cast (config := { maxSteps := 10000000 })
    refine ⟨hn, ?_⟩
    refine LoopW.adj ⟨hct, fol⟩ (by kernel_rfl) [] (fun _ : Unit => [(1, .ptr 1 0), (2, .ptr 2 0), (14, .int .i64 0), (15, .int .i64 0)]) (fun _ => [(1, .cells [.vec 6 l.length, .sl 0 g, .int .i64 b, .int .i64 w]), (2, .cells [.nilsl, .nilsl, .int .i64 0, .int .i64 0]), (6, .vec 3 l.length (lsF cEnt l))]) (fun _ => True) (fun _ => 0) () ?_ fun _ _ => ?_
    · push_cast (config := { maxSteps := 10000000 })
    · push_cast (config := { maxSteps := 10000000 })
  · cases h
attribute [push_cast] ckOwnF

theorem cut_sz' (s c : List UInt8) : (Lib.cut s c).1.length ≤ s.length ∧ (Lib.cut s c).2.1.length ≤ s.length := by
  unfold Lib.cut
  split
  · exact ⟨by show (s.take _).length ≤ _; rw [List.length_take]; omega, by show (s.drop _).length ≤ _; rw [List.length_drop]; omega⟩
  · exact ⟨Nat.le_refl _, by simp⟩
/-- a key by no rules -/
def ckKeyN0 : Ck
  | [.agg [.str sc, .str ho, .str po, .str pa, .str qu, .bool hq, .str fr, .bool hf], .nilsl] => some (checkAdrL ⟨sc, ho, po, pa, qu, hq, fr, hf⟩ = 0, .str (keyL [] ⟨sc, ho, po, pa, qu, hq, fr, hf⟩))
  | _ => none
theorem conKeyN0 : Con pg 24 ckKeyN0 := by
  intro args q r h hq
  unfold ckKeyN0 at h
  split at h
  · cases h
    refine pcall_args (args' := [.agg [.str _, .str _, .str _, .str _, .str _, .bool _, .str _, .bool _], .sl 0 (lsF cSam [])]) ⟨VLe.refl _, VLe.nilsl _, trivial⟩ ?_
    exact conKeyG _ _ _ rfl ⟨hq, (LsI.ls (c := cSam) []).is, by omega⟩
  · cases h
attribute [push_cast] ckKeyN0
def ckOfKey : Ck
  | [.str s] => some (True, .tup [cAdr.enc (if okE s = 0 then okA s else noAdr), .int .i64 (okE s)])
  | _ => none
theorem conOfKey1 : Con pg 25 ckOfKey := by
  have hct := (ctA_ok conCut (ctA_ok conTurned (ctA_ok conCutPre (ctA_ok conCheckAdr (ctA_ok conKeyN0 (ctN_ok _))))))
  intro args q r h hq
  unfold ckOfKey at h
  split at h
  · cases h
    rename_i s
    refine w25 (fun d => decide (d = 20009)) [] rfl hct rfl rfl ?_
    push_cast (config := { maxSteps := 10000000 })
    have hE : okE s = if 2000 < s.length then 2 else if ((Lib.cut (okPl s) [58]).2.2 = true ∧ (Lib.cut (okPl s) [58]).2.1 = []) ∨ ¬ checkAdrL (okA s) = 0 ∨ ¬ keyL [] (okA s) = s then 10 else 0 := rfl
    have hA : okA s = ⟨if hasPre (okRe s) [115] = true then [104, 116, 116, 112, 115] else [104, 116, 116, 112], Lib.join (splitL (Lib.cut (okPl s) [58]).1 44).reverse [46], (Lib.cut (okPl s) [58]).2.1, (Lib.cut (okR2 s) [63]).1, (Lib.cut (okR2 s) [63]).2.1, (Lib.cut (okR2 s) [63]).2.2, [], false⟩ := rfl
    have h2 : okR2 s = if hasPre (okRe s) [115] = true then (okRe s).drop 1 else okRe s := rfl
    have z1 := cut_sz' s [41]
    have z2 := cut_sz' (okPl s) [58]
    have z3 := cut_sz' (okR2 s) [63]
    have eP : (Lib.cut s [41]).1 = okPl s := rfl
    have eR : (Lib.cut s [41]).2.1 = okRe s := rfl
    simp only [eP, eR] at z1 ⊢
    generalize okPl s = pl at *
    generalize okRe s = re at *
    generalize okR2 s = r2 at *
    generalize okA s = a at *
    generalize okE s = e at *
    generalize Lib.cut pl [58] = c58 at *
    obtain ⟨ho0, po, hs⟩ := c58
    simp only at hE hA z2 ⊢
    have hb : (bif hasPre re [115] then re.drop 1 else re) = r2 := by
      rw [h2]
      cases hasPre re [115] <;> rfl
    refine ⟨fun h => ?_, fun h => ?_⟩
    · have e2 : e = 2 := by rw [hE, if_pos (by omega)]
      subst e2
      exact ⟨⟨rfl, rfl, rfl, rfl, rfl, rfl, rfl, rfl⟩, rfl⟩
    · rw [if_neg (by omega)] at hE
      have ht := turn_len (s := ho0) (c := 44) (d := [46]) (by omega) (Nat.le_refl 1)
      refine ⟨by omega, by omega, ⟨by omega, by omega⟩, ?_⟩
      have hJl : (Lib.join (splitL ho0 44).reverse [46]).length ≤ 140737488355328 := by omega
      generalize Lib.join (splitL ho0 44).reverse [46] = J at *
      refine SeqW.cut ⟨hct, fol⟩ (by kernel_rfl) (by kernel_rfl) [] (fun r : List UInt8 => [(0, .str s), (2, .ptr 2 0), (5, .str r), (8, .str po), (9, .bool hs), (10, .ptr 10 0)]) (fun _ => [(2, .cells [.str [], .str [], .str [], .str [], .str [], .bool false, .str [], .bool false]), (10, .cells [.str (if hasPre re [115] = true then [104, 116, 116, 112, 115] else [104, 116, 116, 112]), .str J, .str po, .str [], .str [], .bool false, .str [], .bool false])]) (fun r => r = r2) ?_ fun r hr => ?_
      · push_cast (config := { maxSteps := 10000000 })
        refine ⟨by omega, fun h => ⟨r2, rfl, hb, by rw [if_pos h]⟩, fun h => ⟨r2, rfl, by rw [h] at hb; exact hb, by rw [if_neg (by rw [h]; simp)]⟩⟩
      subst hr
      have hrl : r.length ≤ 2000 := by
        rw [h2]
        split
        · rw [List.length_drop]; omega
        · omega
      have hok : adrOk a := by
        rw [hA]
        refine ⟨?_, hJl, by show po.length ≤ _; omega, by show (Lib.cut r [63]).1.length ≤ _; omega, by show (Lib.cut r [63]).2.1.length ≤ _; omega, Nat.zero_le _⟩
        show List.length (if _ then _ else _) ≤ _
        split <;> decide
      push_cast (config := { maxSteps := 10000000 })
      rw [← hA]
      refine ⟨by omega, fun h => ⟨h, hok⟩, fun h => ⟨h, h.2⟩, fun h => ?_, fun h => ?_⟩
      · rw [if_pos (or_assoc.1 h)] at hE
        subst hE
        exact ⟨⟨rfl, rfl, rfl, rfl, rfl, rfl, rfl, rfl⟩, rfl⟩
      · rw [if_neg (fun x => x.elim (fun z => h.1.1 z.1 z.2) fun z => z.elim (fun y => y h.1.2) fun y => y h.2)] at hE
        subst hE
        rw [if_pos rfl, hA]
        exact ⟨⟨rfl, rfl, rfl, rfl, rfl, rfl, rfl, rfl⟩, rfl⟩
  · cases h
attribute [push_cast] ckOfKey
theorem conOfKey : Con pg 8 ckOfKey := by
  have hct := (ctA_ok conOfKey1 (ctN_ok _))
  intro args q r h hq
  unfold ckOfKey at h
  split at h
  · cases h
    rename_i s
    refine w8 (fun _ => false) [] rfl hct rfl rfl ?_
    push_cast (config := { maxSteps := 10000000 })
  · cases h
attribute [push_cast] ckOfKey

def ckFWith : Ck
  | [.int .i64 n, .int .i64 a, .int .i64 b] => some (True, .bool (decide (a ≤ n ∧ n ≤ b)))
  | _ => none
theorem conFWith : Con pg 67 ckFWith := by
  have hct := ctN_ok pg
  intro args q r h hq
  unfold ckFWith at h
  split at h
  · cases h
    rename_i n a b
    refine w67 (fun _ => false) [] rfl hct rfl rfl ?_
    push_cast (config := { maxSteps := 10000000 })
    rw [Bool.eq_iff_iff]; simp
  · cases h
attribute [push_cast] ckFWith
def ckFMom : Ck
  | [.int .i64 n] => some (True, .bool (decide (0 ≤ n ∧ n ≤ 253402300799)))
  | _ => none
theorem conFMom : Con pg 70 ckFMom := by
  have hct := (ctA_ok conFWith (ctN_ok _))
  intro args q r h hq
  unfold ckFMom at h
  split at h
  · cases h
    rename_i n
    refine w70 (fun _ => false) [] rfl hct rfl rfl ?_
    push_cast (config := { maxSteps := 10000000 })
    done
  · cases h
attribute [push_cast] ckFMom

def ckFHost : Ck
  | [.str s] => some (0 ≤ Lib.indexByte s 41 ∧ Lib.indexByte s 41 ≤ s.length, .str (s.take (Lib.indexByte s 41).toNat))
  | _ => none
theorem conFHost : Con pg 89 ckFHost := by
  have hct := (ctA_ok conIndexByte (ctN_ok _))
  intro args q r h hq
  unfold ckFHost at h
  split at h
  · cases h
    rename_i s
    refine w89 (fun _ => false) [] rfl hct rfl rfl ?_
    push_cast (config := { maxSteps := 10000000 })
    exact ⟨hq, hq.1⟩
  · cases h
attribute [push_cast] ckFHost

def ckAdd1 : Ck
  | [.agg [.str k, .int .i64 r, .int .i64 d], .str s] => some (True, .int .i64 (if k < s then -1 else if k = s then 0 else 1))
  | _ => none
theorem conAdd1 : Con pg 33 ckAdd1 := by
  have hct := (ctA_ok conCmpS (ctN_ok _))
  intro args q r h hq
  unfold ckAdd1 at h
  split at h
  · cases h
    rename_i k r d s
    refine w33 (fun _ => false) [] rfl hct rfl rfl ?_
    push_cast (config := { maxSteps := 10000000 })
    exact cmpB_eq k s
  · cases h
attribute [push_cast] ckAdd1
def ckBSW : Ck
  | [.sl n f, .str s, .fn (.func 33) [] []] => some (isLs cEnt n f ∧ n ≤ 1000 ∧ ((lsOf cEnt n f).map (·.loc)).Pairwise (fun a b => a < b), .tup [.int .i64 (posW ((lsOf cEnt n f).map (·.loc)) s), .bool (decide (s ∈ (lsOf cEnt n f).map (·.loc)))])
  | _ => none
theorem conBSW : Con pg 32 ckBSW := by
  have hct := (ctA_ok conAdd1 (ctN_ok _))
  intro args q r h hq
  unfold ckBSW at h
  split at h
  · cases h
    rename_i n f s
    refine pcall_args (args' := [.sl (lsOf cEnt n f).length (lsF cEnt (lsOf cEnt n f)), .str s, .fn (.func 33) [] []]) ⟨isLs.vle hq.1, VLe.refl _, VLe.refl _, trivial⟩ ?_
    obtain ⟨-, hn, hs⟩ := hq
    rw [← lsOf_len (c := cEnt) n f] at hn
    generalize lsOf cEnt n f = l at hn hs ⊢
    refine w32 (fun _ => false) [] rfl hct rfl rfl ?_
    push_cast (config := { maxSteps := 10000000 })
    have hP := posW_le (l.map (·.loc)) s
    have hi := fun h => posW_iff (k := s) hs (h := h)
    have hm := memW_at (k := s) hs
    rw [List.length_map] at hP hi hm
    have hk : ∀ h, h < l.length → (l.map (·.loc)).getD h [] = (l.getD h noEnt).loc := fun h hl => by
      rw [List.getD_eq_getElem?_getD, List.getElem?_map, List.getElem?_eq_getElem hl, List.getD_eq_getElem?_getD, List.getElem?_eq_getElem hl]; rfl
    generalize posW (l.map (·.loc)) s = P at hP hi hm ⊢
    refine LoopW.adj ⟨hct, fol⟩ (by kernel_rfl) [] (fun t : Nat × Nat => [(0, .sl l.length (lsF cEnt l)), (1, .str s), (2, .fn (.func 33) [] []), (8, .int .i64 l.length), (9, .int .i64 t.1), (10, .int .i64 t.2)]) (fun _ => []) (fun t => t.1 ≤ P ∧ P ≤ t.2 ∧ t.2 ≤ l.length) (fun t => t.2 - t.1) (0, l.length) ?_ fun t ht => ?_
    · push_cast (config := { maxSteps := 10000000 })
      exact ⟨Nat.zero_le _, hP, Nat.le_refl _⟩
    · obtain ⟨i, j⟩ := t
      obtain ⟨i1, i2, i3⟩ : i ≤ P ∧ P ≤ j ∧ j ≤ l.length := ht
      have eH : (((i : Int) + j) % 18446744073709551616).fdiv (2 ^ min 1 IntKind.u64.bits) = (((i + j) / 2 : Nat) : Int) := by
        show (((i : Int) + j) % 18446744073709551616).fdiv 2 = _
        rw [Int.emod_eq_of_lt (by omega) (by omega), Int.fdiv_eq_ediv_of_nonneg _ (by decide)]
        omega
      push_cast (config := { maxSteps := 10000000 })
      rw [eH, Int.toNat_natCast]
      have hlt : ∀ h : Nat, (if (l.getD h noEnt).loc < s then (-1 : Int) else if (l.getD h noEnt).loc = s then 0 else 1) < 0 ↔ (l.getD h noEnt).loc < s := fun h => by
        constructor
        · intro x
          refine Classical.byContradiction fun hc => ?_
          rw [if_neg hc] at x
          split at x <;> omega
        · intro x; rw [if_pos x]; decide
      rw [hlt]
      refine ⟨fun hij => ?_, fun hij => ?_⟩
      · have hm2 : (i + j) / 2 < l.length := by omega
        have hq := hi ((i + j) / 2) hm2
        rw [hk _ hm2] at hq
        refine ⟨by omega, by omega, by omega, fun h => ⟨by omega, ((i + j) / 2 + 1, j), ⟨hq.1 h, i2, i3⟩, by show j - ((i + j) / 2 + 1) < _; omega, rfl, rfl⟩, fun h => ⟨(i, (i + j) / 2), ⟨i1, ?_, by show (i + j) / 2 ≤ _; omega⟩, by show (i + j) / 2 - i < _; omega, rfl, rfl⟩⟩
        show P ≤ (i + j) / 2
        have : ¬ (i + j) / 2 < P := fun x => h (hq.2 x)
        omega
      · obtain rfl : i = P := by omega
        refine ⟨rfl, ?_⟩
        rw [Bool.eq_iff_iff, Bool.and_eq_true, decide_eq_true_eq, decide_eq_true_eq, beq_iff_eq]
        rw [← hm]
        refine and_congr_right fun hl2 => ?_
        rw [hk _ hl2]
        have hn2 : ¬ (l.getD i noEnt).loc < s := fun x => by
          have := (hi i hl2).1 (by rw [hk _ hl2]; exact x)
          omega
        rw [if_neg hn2]
        split
        · rename_i h; exact ⟨fun _ => h, fun _ => rfl⟩
        · rename_i h; exact ⟨fun x => (by cases x), fun x => absurd x h⟩
  · cases h
attribute [push_cast] ckBSW
def ckBSH : Ck
  | [.sl m g, .str s, .fn (.func 151) [] []] => some (m = 0, .tup [.int .i64 0, .bool false])
  | _ => none
theorem conBSH : Con pg 150 ckBSH := by
  have hct := ctN_ok pg
  intro args q r h hq
  unfold ckBSH at h
  split at h
  · cases h
    rename_i m g s
    refine w150 (fun _ => false) [] rfl hct rfl rfl ?_
    push_cast (config := { maxSteps := 10000000 })
    subst hq
    refine LoopW.adj ⟨hct, fol⟩ (by kernel_rfl) [] (fun _ : Unit => [(0, .sl 0 g), (1, .str s), (2, .fn (.func 151) [] []), (8, .int .i64 0), (9, .int .i64 0), (10, .int .i64 0)]) (fun _ => []) (fun _ => True) (fun _ => 0) () ?_ fun _ _ => ?_
    · push_cast (config := { maxSteps := 10000000 })
    · push_cast (config := { maxSteps := 10000000 })
  · cases h
attribute [push_cast] ckBSH
def ckFind : Ck
  | [.agg [.sl n f, .sl m g, .int .i64 b, .int .i64 w], .str s] => some (m = 0, .tup [.int .i64 0, .bool false])
  | _ => none
theorem conFind : Con pg 123 ckFind := by
  have hct := (ctA_ok conBSH (ctN_ok _))
  intro args q r h hq
  unfold ckFind at h
  split at h
  · cases h
    rename_i n f m g b w s
    refine w123 (fun _ => false) [] rfl hct rfl rfl ?_
    push_cast (config := { maxSteps := 10000000 })
    exact hq
  · cases h
attribute [push_cast] ckFind
def ckOpens : Ck
  | [.agg [.sl n f, .sl m g, .int .i64 b, .int .i64 w], .str s] => some (m = 0, .tup [.int .i64 0, .bool true])
  | _ => none
theorem conOpens : Con pg 88 ckOpens := by
  have hct := (ctA_ok conFind (ctN_ok _))
  intro args q r h hq
  unfold ckOpens at h
  split at h
  · cases h
    rename_i n f m g b w s
    refine w88 (fun _ => false) [] rfl hct rfl rfl ?_
    push_cast (config := { maxSteps := 10000000 })
    exact hq
  · cases h
attribute [push_cast] ckOpens

theorem okE_idx {k : List UInt8} (h : okE k = 0) : 0 ≤ Lib.indexByte k 41 ∧ Lib.indexByte k 41 ≤ k.length := by
  have h0 : 0 ≤ Lib.indexByte k 41 := Int.not_lt.1 fun x => idx_no_mem x (okE_0 h).2
  refine ⟨h0, ?_⟩
  obtain ⟨n, hn⟩ := Int.eq_ofNat_of_zero_le h0
  have := (idx_at hn).1
  omega
/-- a list of what is wanted, by keys -/
def isFr (n : Nat) (f : Nat → V) : Prop := isLs cEnt n f ∧ ∃ K, FrOk K ∧ lsOf cEnt n f = K.map wK
def ckCWan : Ck
  | [.agg [.str k, .int .i64 r, .int .i64 d]] => some (okE k = 0 ∧ r = 1 ∧ d = 0, .int .i64 0)
  | _ => none
theorem conCWan : Con pg 30 ckCWan := by
  have hct := (ctA_ok conOfKey (ctA_ok conFWith (ctA_ok conFMom (ctN_ok _))))
  intro args q r h hq
  unfold ckCWan at h
  split at h
  · cases h
    rename_i k r d
    refine w30 (fun _ => false) [] rfl hct rfl rfl ?_
    push_cast (config := { maxSteps := 10000000 })
    obtain ⟨h1, rfl, rfl⟩ := hq
    exact ⟨fun h => h1, fun _ h => by omega⟩
  · cases h
attribute [push_cast] ckCWan
def ckCFr : Ck
  | [.agg [.sl n f, .sl m g, .int .i64 b, .int .i64 w]] => some (isFr n f ∧ m = 0 ∧ b = 1 ∧ w = 1, .int .i64 0)
  | _ => none
theorem conCFr : Con pg 29 ckCFr := by
  have hct := (ctA_ok conFWith (ctA_ok conCWan (ctN_ok _)))
  intro args q r h hq
  unfold ckCFr at h
  split at h
  · cases h
    rename_i n f m g b w
    obtain ⟨⟨hi, K, hK, hE⟩, rfl, rfl, rfl⟩ := hq
    refine pcall_args (args' := [.agg [.sl (lsOf cEnt n f).length (lsF cEnt (lsOf cEnt n f)), .sl 0 g, .int .i64 1, .int .i64 1]]) ⟨VLe.agg ⟨hi.vle, VLe.refl _, VLe.refl _, VLe.refl _, trivial⟩, trivial⟩ ?_
    rw [hE]
    have hKl : (K.map wK).length = K.length := List.length_map _
    obtain ⟨hk1, hk2, hk3⟩ := hK
    have hat : ∀ i, i < K.length → (K.map wK).getD i noEnt = wK (K.getD i []) := fun i hi => wK_at K hi
    have hk : ∀ i, i < K.length → okE (K.getD i []) = 0 := fun i hi => hk2 _ (by rw [List.getD_eq_getElem?_getD, List.getElem?_eq_getElem hi]; exact List.getElem_mem hi)
    generalize K.map wK = L at hKl hat ⊢
    refine w29 (fun _ => false) [] rfl hct rfl rfl ?_
    push_cast (config := { maxSteps := 10000000 })
    refine ⟨fun h => by omega, fun _ => ?_⟩
    refine LoopW.adj ⟨hct, fol⟩ (by kernel_rfl) [] (fun i : Nat => [(1, .ptr 1 0), (24, .sl L.length (lsF cEnt L)), (25, .int .i64 L.length), (26, .int .i64 i)]) (fun _ => [(1, .cells [.sl L.length (lsF cEnt L), .sl 0 g, .int .i64 1, .int .i64 1])]) (fun i => i ≤ L.length) (fun i => L.length - i) 0 ?_ fun i hi => ?_
    · push_cast (config := { maxSteps := 10000000 })
      exact Nat.zero_le _
    · have hi : i ≤ L.length := hi
      push_cast (config := { maxSteps := 10000000 })
      rw [show ((i : Int) - 1).toNat = i - 1 by omega]
      refine ⟨fun h => ⟨h, ?_, fun _ => ⟨by omega, by omega, by omega⟩, fun _ => ⟨by omega, by omega, by omega⟩, fun ⟨h0, hc⟩ => ?_, fun _ => ⟨by omega, i + 1, h, by omega, by omega⟩⟩, fun h => ?_⟩
      · rw [hat i (by omega)]
        exact ⟨hk i (by omega), rfl, rfl⟩
      · rw [hat i (by omega), hat (i - 1) (by omega), bless, decide_eq_true_eq] at hc
        have hc : K.getD i [] < K.getD (i - 1) [] ∨ K.getD i [] = K.getD (i - 1) [] := hc
        have hs := srtW0 hk3 (i := i - 1) (j := i) (by omega) (by omega)
        rcases hc with hc | hc
        · exact List.lt_asymm hs hc
        · rw [hc] at hs; exact List.lt_irrefl _ hs
      · refine LoopW.adj ⟨hct, fol⟩ (by kernel_rfl) [] (fun _ : Unit => [(1, .ptr 1 0), (56, .sl 0 g), (57, .int .i64 0), (58, .int .i64 0)]) (fun _ => [(1, .cells [.sl L.length (lsF cEnt L), .sl 0 g, .int .i64 1, .int .i64 1])]) (fun _ => True) (fun _ => 0) () ?_ fun _ _ => ?_
        · push_cast (config := { maxSteps := 10000000 })
          done
        · push_cast (config := { maxSteps := 10000000 })
          done
  · cases h
attribute [push_cast] ckCFr
def ckCAt : Ck
  | [.agg [.sl n f, .sl m g, .int .i64 b, .int .i64 w], .int .i64 t] => some (isFr n f ∧ m = 0 ∧ b = 1 ∧ w = 1 ∧ t = 0, .int .i64 0)
  | _ => none
theorem conCAt : Con pg 39 ckCAt := by
  have hct := (ctA_ok conCFr (ctA_ok conFMom (ctN_ok _)))
  intro args q r h hq
  unfold ckCAt at h
  split at h
  · cases h
    rename_i n f m g b w t
    refine w39 (fun _ => false) [] rfl hct rfl rfl ?_
    push_cast (config := { maxSteps := 10000000 })
    obtain ⟨h1, rfl, rfl, rfl, rfl⟩ := hq
    exact ⟨⟨h1, rfl, rfl, rfl⟩, fun h => by omega⟩
  · cases h
attribute [push_cast] ckCAt
def ckNext0 : Ck
  | [.agg [.sl n f, .sl m g, .int .i64 b, .int .i64 w], .int .i64 t] => some (isFr n f ∧ m = 0 ∧ b = 1 ∧ w = 1 ∧ t = 0, .int .i64 (if n = 0 then -1 else 0))
  | _ => none
theorem conNext0 : Con pg 40 ckNext0 := by
  have hct := (ctA_ok conFHost (ctA_ok conOpens (ctA_ok conCmpI (ctA_ok conOrI (ctN_ok _)))))
  intro args q r h hq
  unfold ckNext0 at h
  split at h
  · cases h
    rename_i n f m g b w t
    obtain ⟨⟨hi, K, hK, hE⟩, rfl, rfl, rfl, rfl⟩ := hq
    refine pcall_args (args' := [.agg [.sl (lsOf cEnt n f).length (lsF cEnt (lsOf cEnt n f)), .sl 0 g, .int .i64 1, .int .i64 1], .int .i64 0]) ⟨VLe.agg ⟨hi.vle, VLe.refl _, VLe.refl _, VLe.refl _, trivial⟩, VLe.refl _, trivial⟩ ?_
    have hn : n = K.length := by
      have := congrArg List.length hE
      rw [lsOf_len, List.length_map] at this; exact this
    rw [hE, hn]
    have hKl : (K.map wK).length = K.length := List.length_map _
    obtain ⟨hk1, hk2, hk3⟩ := hK
    have hat : ∀ i, i < K.length → (K.map wK).getD i noEnt = wK (K.getD i []) := fun i hi => wK_at K hi
    have hk : ∀ i, i < K.length → okE (K.getD i []) = 0 := fun i hi => hk2 _ (by rw [List.getD_eq_getElem?_getD, List.getElem?_eq_getElem hi]; exact List.getElem_mem hi)
    generalize K.map wK = L at hKl hat ⊢
    rw [← hKl]
    refine w40 (fun _ => false) [] rfl hct rfl rfl ?_
    push_cast (config := { maxSteps := 10000000 })
    refine LoopW.adj ⟨hct, fol⟩ (by kernel_rfl) [] (fun t : Nat × Int => [(1, .int .i64 0), (2, .ptr 2 0), (5, .int .i64 t.2), (11, .sl L.length (lsF cEnt L)), (12, .int .i64 L.length), (13, .int .i64 t.1)]) (fun _ => [(2, .cells [.sl L.length (lsF cEnt L), .sl 0 g, .int .i64 1, .int .i64 1])]) (fun t => t.1 ≤ L.length ∧ t.2 = if t.1 = 0 then -1 else 0) (fun t => L.length - t.1) (0, -1) ?_ fun t ht => ?_
    · push_cast (config := { maxSteps := 10000000 })
      exact Nat.zero_le _
    · obtain ⟨i, o⟩ := t
      obtain ⟨i1, i2⟩ : i ≤ L.length ∧ o = if i = 0 then -1 else 0 := ht
      push_cast (config := { maxSteps := 10000000 })
      have eC : ∀ a b : Int, LsI cInt 2 (litF [V.int IntKind.i64 a, V.int IntKind.i64 b]) [a, b] := fun a b => ⟨rfl, fun j hj => by
        match j, hj with
        | 0, _ => rfl
        | 1, _ => rfl⟩
      rw [(eC _ _).of]
      have e0 : ∀ j : Nat, j + 1 = 0 ↔ False := fun j => by simp
      refine ⟨fun h => ?_, fun h => ?_⟩
      · have hd : ∀ j, j < L.length → (L.getD j noEnt).day = 1 ∧ (L.getD j noEnt).wt = 0 := fun j hj => by rw [hat j (by omega)]; exact ⟨rfl, rfl⟩
        rw [(hd i h).1, (hd i h).2]
        have hz : 0 < i → o = 0 := fun h0 => by rw [i2, if_neg (by omega)]
        have hm : i = 0 → o = -1 := fun h0 => by rw [i2, if_pos h0]
        have hcm : 0 < i → orI [cmpI 1 (L.getD o.toNat noEnt).day, cmpI 0 (L.getD o.toNat noEnt).wt] = 0 := fun h0 => by
          rw [hz h0, (hd _ (by show (0 : Int).toNat < _; omega)).1, (hd _ (by show (0 : Int).toNat < _; omega)).2]; rfl
        refine ⟨h, ?_, fun x => by omega, fun _ => ⟨fun x => ⟨x, by omega⟩, fun x => ⟨x, by omega⟩, fun x => ⟨x, (eC _ _).is⟩, fun x => ⟨by omega, (i + 1, 0), ⟨h, rfl⟩, by show L.length - (i + 1) < _; omega, ?_, rfl⟩, fun x => ⟨by omega, (i + 1, 0), ⟨h, rfl⟩, by show L.length - (i + 1) < _; omega, ?_, rfl⟩⟩⟩
        · rw [hat i (by omega)]
          exact okE_idx (hk i (by omega))
        · show (i : Int) = 0
          refine Classical.byContradiction fun hc => ?_
          have := hcm (by omega)
          have := hz (by omega)
          omega
        · show o = 0
          exact hz (Nat.pos_of_ne_zero fun e => x.1 (by rw [hm e]; decide))
      · rw [i2, show i = L.length by omega]
  · cases h
attribute [push_cast] ckNext0
def ckNextF : Ck
  | [.agg [.sl n f, .sl m g, .int .i64 b, .int .i64 w], .int .i64 t] => some (isFr n f ∧ m = 0 ∧ b = 1 ∧ w = 1 ∧ t = 0, .tup [.int .i64 0, .bool (decide (0 < n)), .int .i64 0])
  | _ => none
theorem conNextF : Con pg 13 ckNextF := by
  have hct := (ctA_ok conCAt (ctA_ok conNext0 (ctN_ok _)))
  intro args q r h hq
  unfold ckNextF at h
  split at h
  · cases h
    rename_i n f m g b w t
    refine w13 (fun _ => false) [] rfl hct rfl rfl ?_
    push_cast (config := { maxSteps := 10000000 })
    refine ⟨hq, hq, ?_, ?_⟩
    · split <;> rfl
    · by_cases h : n = 0
      · rw [if_pos h, h]; rfl
      · rw [if_neg h, decide_eq_true (show 0 < n by omega)]; rfl
  · cases h
attribute [push_cast] ckNextF

end Go.Abs
