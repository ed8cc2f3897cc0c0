/- what functions of this program compute: contracts, each a function's own -/
import Derived.Test.YtjehocmnedconaaGreatDoorAbsK3
import Derived.Test.YtjehocmnedconaaGreatDoorAbsFacts
import Derived.Test.YtjehocmnedconaaGreatDoorAbsF5
import Derived.Test.YtjehocmnedconaaGreatDoorAbsShelf
import Derived.Lib.SlTrimSet
import Derived.Lib.Atoi
import Derived.Lib.Itoa
import Derived.Lib.ItoaNum
import Derived.Lib.AtoiErrMem
import Derived.Lib.Repeat
import Derived.Lib.ItoaLen
import Derived.Lib.SplitLaws
import Derived.Lib.Join
import Derived.Lib.Index
import Derived.Lib.IndexBytes
import Derived.Lib.Fold
import Derived.Lib.Walk
import Derived.WalkKit
import Derived.ScopeJumps
import Derived.Deep.LoopGhost
import Derived.Laws.RangeAny
import Derived.Lib.BitFns
import Derived.Lib.TrailingZeros
import Derived.Sort.Walk0
namespace Go.Abs
open Go Go.Proofs
set_option maxHeartbeats 4000000
set_option maxRecDepth 100000
set_option linter.unusedVariables false
set_option linter.unusedSimpArgs false
def spl (c : UInt8) : List UInt8 → List (List UInt8)
  | [] => [[]]
  | x :: t => if x = c then [] :: spl c t else (x :: (spl c t).headD []) :: (spl c t).tail
theorem spl_ne (c : UInt8) (s : List UInt8) : spl c s ≠ [] := by
  cases s with
  | nil => simp [spl]
  | cons x t => rw [spl]; split <;> simp
theorem splitK_spl (c : UInt8) : ∀ s : List UInt8, Lib.splitK [c] 0 (s.count c) s = spl c s
  | [] => rfl
  | x :: t => by
    have ih := splitK_spl c t
    by_cases h : x = c
    · subst h
      have hix : Lib.index (x :: t) [x] = 0 := by rw [Lib.index]; simp [List.isPrefixOf]
      rw [show (x :: t).count x = t.count x + 1 by simp, Lib.splitK, hix]
      rw [spl, if_pos rfl, ← ih]
      rfl
    · have hp : ([c] : List UInt8).isPrefixOf (x :: t) = false := by simp [List.isPrefixOf, Ne.symm h]
      have hix : Lib.index (x :: t) [c] = if Lib.index t [c] == -1 then -1 else Lib.index t [c] + 1 := by rw [Lib.index, hp]; simp
      rw [show (x :: t).count c = t.count c by rw [List.count_cons_of_ne (by simpa using h)]]
      rw [spl, if_neg h]
      cases hk : t.count c with
      | zero =>
        rw [hk] at ih
        rw [← ih]; rfl
      | succ k =>
        rw [hk] at ih
        rw [← ih]
        simp only [Lib.splitK]
        rw [hix]
        by_cases hm : (Lib.index t [c] == -1) = true
        · simp only [hm, if_true]; rfl
        · have hge := Lib.index_ge t [c]
          have hn : Lib.index t [c] ≠ -1 := fun e => hm (beq_iff_eq.2 e)
          have hm2 : (Lib.index t [c] + 1 == -1) = false := by rw [beq_eq_false_iff_ne]; omega
          simp only [hm, if_false, Bool.false_eq_true, hm2]
          rw [show (Lib.index t [c] + 1).toNat = (Lib.index t [c]).toNat + 1 by omega]
          simp
theorem splitL_eq (s : List UInt8) (c : UInt8) : splitL s c = spl c s := by
  unfold splitL
  rw [Lib.splitB_data]
  have e : Lib.countB ⟨s.toArray⟩ ⟨#[c]⟩ = s.count c := by
    unfold Lib.countB
    rw [show (⟨s.toArray⟩ : ByteArray).data.toList = s by simp]
    exact Lib.count_one c s
  rw [e]
  simpa using splitK_spl c s
theorem spl_len (c : UInt8) : ∀ s : List UInt8, ∀ p ∈ spl c s, p.length ≤ s.length
  | [], p, h => by simp [spl] at h; simp [h]
  | x :: t, p, h => by
    have ih := spl_len c t
    rw [spl] at h
    split at h
    · rcases List.mem_cons.1 h with rfl | h
      · simp
      · have := ih p h; simp only [List.length_cons]; omega
    · rcases List.mem_cons.1 h with rfl | h
      · cases hs : spl c t with
        | nil => exact absurd hs (spl_ne c t)
        | cons a r =>
          have := ih a (by rw [hs]; simp)
          simp only [List.headD_cons, List.length_cons]; omega
      · have := ih p (List.mem_of_mem_tail h); simp only [List.length_cons]; omega
def noInq : Inq := ⟨[], [], [], []⟩
@[push_cast] theorem noInq_me : noInq.me = [] := rfl
@[push_cast] theorem noInq_tg : noInq.tg = [] := rfl
@[push_cast] theorem noInq_hd : noInq.hd = [] := rfl
@[push_cast] theorem noInq_bd : noInq.bd = [] := rfl
def rqH (b : List UInt8) : List Hd × Nat × Bool := rhL b (b.length + 1) (lnN b 0) []
def hdsLe (n : Nat) (l : List Hd) : Prop := ∀ h ∈ l, h.name.length ≤ n ∧ h.value.length ≤ n
theorem hdV_le (s : List UInt8) : (hdV s).name.length ≤ s.length ∧ (hdV s).value.length ≤ s.length := by
  unfold hdV
  split
  · unfold hdCut Lib.cut
    split <;> simp <;> omega
  · simp
theorem lnS_le (b : List UInt8) {a : Nat} (ha : a ≤ b.length) : (lnS b a).length ≤ b.length := by
  cases h : lnB b a with
  | true => have := ln_fit ha h; omega
  | false =>
    unfold lnB at h
    unfold lnS
    cases hs : lineS (b.drop a) with
    | none => simp
    | some s => rw [hs] at h; cases h
theorem rh_fit {b : List UInt8} : ∀ (k a : Nat) (out : List Hd), a ≤ b.length → hdsLe b.length out → (rhL b k a out).2.1 ≤ b.length ∧ hdsLe b.length (rhL b k a out).1 ∧ (rhL b k a out).1.length ≤ out.length + k
  | 0, a, out, ha, ho => by simp [rhL, hdsLe]
  | k + 1, a, out, ha, ho => by
    rw [rhL]
    split
    · simp [hdsLe]
    split
    · simp [hdsLe]; omega
    rename_i h1 h2
    have hB : lnB b a = true := by simpa using h2
    have hf := ln_fit ha hB
    split
    · refine ⟨hf.2.1, ho, by simp⟩
    split
    · simp [hdsLe]; omega
    · have := rh_fit k (lnN b a) (out ++ [hdV (lnS b a)]) hf.2.1 (fun h hh => by
        rcases List.mem_append.1 hh with hh | hh
        · exact ho h hh
        · rw [List.mem_singleton] at hh; subst hh
          have h3 := hdV_le (lnS b a)
          have h4 := lnS_le b ha
          omega)
      refine ⟨this.1, this.2.1, ?_⟩
      have h5 := this.2.2
      simp only [List.length_append, List.length_singleton] at h5; omega
theorem drop_by {b : List UInt8} {p : Nat} (hp : p ≤ b.length) : ByI (b.length - p) (fun i => shF (byF b) p i) (b.drop p) := by
  have h := ByI.sh (ByI.by b) (l := p) (k := b.length - p) (by omega)
  rw [List.take_of_length_le (by simp)] at h
  exact h
@[push_cast] theorem kill_shby (d p : Nat) (s : List UInt8) (i : Nat) : V.kill d (shF (byF s) p i) = shF (byF s) p i := rfl
@[push_cast] theorem men_shby (d p : Nat) (s : List UInt8) (i : Nat) : V.men d (shF (byF s) p i) = false := rfl
theorem kindI_b (v : List UInt8) : 0 ≤ kindI v ∧ kindI v ≤ 5 := by
  have := idxL_b kindW v
  have hk : kindW.length = 5 := rfl
  unfold kindI; omega
theorem rdV_b (v : List UInt8) : 0 ≤ rdV v ∧ rdV v ≤ 253402300799 := by
  unfold rdV
  split
  · rename_i h
    have := of_decide_eq_true h
    exact ⟨this.1, this.2.1⟩
  · omega
structure RpOk (n : Nat) (x : Rp) : Prop where
  pl : x.pl ≤ n
  ki : 0 ≤ x.ki ∧ x.ki ≤ 5
  id : x.id.length ≤ n
  ow : x.ow.length ≤ n
  ti : 0 ≤ x.ti ∧ x.ti ≤ 253402300799
  ke : x.ke.length ≤ n
  ln : 0 ≤ x.ln ∧ x.ln ≤ 999999999
theorem lnA_le {B : List UInt8} {a : Nat} (w : List UInt8) (acc : List UInt8 → Bool) (h : a ≤ B.length) : lnA B a w acc ≤ B.length := by
  unfold lnA lnR lineOk
  split
  · rename_i g
    simp only [Bool.and_eq_true] at g
    exact (ln_fit h g.1.1).2.1
  · exact h
theorem wholeA_le {B : List UInt8} {a : Nat} (w : List UInt8) (h : a ≤ B.length) : wholeA B a w ≤ B.length := by
  unfold wholeA wholeB
  split
  · rename_i g
    simp only [Bool.and_eq_true] at g
    exact (ln_fit h g.1).2.1
  · exact h
theorem lineV_le {B : List UInt8} {a : Nat} (w : List UInt8) (h : a ≤ B.length) : (lineV B a w).length ≤ B.length := by
  unfold lineV
  rw [List.length_drop]
  have := lnS_le B h
  omega
theorem lnF_str {B : List UInt8} {a : Nat} (w : List UInt8) {old : List UInt8} (h : a ≤ B.length) (ho : old.length ≤ B.length) : (lnF B a w (fun v => v) old).length ≤ B.length := by
  unfold lnF
  split
  · exact lineV_le w h
  · exact ho
theorem digL9 {v : List UInt8} (h : digL v 9 = true) : natOf v ≤ 999999999 := by
  have := digL_all h
  have := natOf_le this.2.2.1 (k := 9) (by omega)
  omega
theorem hds_le {B : List UInt8} : ∀ (k : Nat) (a : Nat) (l : List Hd), a ≤ B.length → hdsLe B.length l → l.length ≤ a → (hdsR B k a l).2.1 ≤ B.length ∧ hdsLe B.length (hdsR B k a l).2.2 ∧ (hdsR B k a l).2.2.length ≤ (hdsR B k a l).2.1
  | 0, a, l, h, hl, hn => ⟨h, hl, hn⟩
  | k + 1, a, l, h, hl, hn => by
    rw [hdsR]
    split
    · exact ⟨h, hl, hn⟩
    · split
      · rename_i g
        simp only [Bool.and_eq_true] at g
        have hf := ln_fit h g.1
        refine hds_le k _ _ hf.2.1 (fun x hx => ?_) (by simp only [List.length_append, List.length_singleton]; omega)
        rcases List.mem_append.1 hx with hx | hx
        · exact hl x hx
        · rw [List.mem_singleton] at hx; subst hx
          have h3 := hdV_le (lnS B a)
          have h4 := lnS_le B h
          omega
      · exact ⟨h, hl, hn⟩
theorem linesD_ok {B : List UInt8} {x : Rp} {h : List Hd} (hx : RpOk B.length x) : RpOk B.length (linesD B x h).2.1 ∧ (linesD B x h).2.2 = h := by
  obtain ⟨a1, a2, a3, a4, a5, a6, a7⟩ := hx
  have b1 := lnA_le wLng (fun v => digL v 9) a1
  have b2 := lnA_le wDig dgB b1
  have b3 := wholeA_le [] b2
  have b4 : 0 ≤ lnF B x.pl wLng (fun v => if digL v 9 = true then (natOf v : Int) else x.ln) x.ln ∧ lnF B x.pl wLng (fun v => if digL v 9 = true then (natOf v : Int) else x.ln) x.ln ≤ 999999999 := by
    unfold lnF
    split
    · dsimp only
      split
      · rename_i g
        have := digL9 g
        omega
      · exact a7
    · exact a7
  unfold linesD
  split
  · exact ⟨⟨b1, a2, a3, a4, a5, a6, b4⟩, rfl⟩
  split
  · exact ⟨⟨b2, a2, a3, a4, a5, a6, b4⟩, rfl⟩
  · exact ⟨⟨b3, a2, a3, a4, a5, a6, b4⟩, rfl⟩
theorem lnF_b {B : List UInt8} {a : Nat} (w : List UInt8) (g : List UInt8 → Int) {old p q : Int} (hg : ∀ v, p ≤ g v ∧ g v ≤ q) (ho : p ≤ old ∧ old ≤ q) : p ≤ lnF B a w g old ∧ lnF B a w g old ≤ q := by
  unfold lnF
  split
  · exact hg _
  · exact ho
theorem nohds (n : Nat) : hdsLe n [] := fun _ h => (by cases h)
theorem linesC_ok {B : List UInt8} {x : Rp} (hx : RpOk B.length x) : RpOk B.length (linesC B B.length x).2.1 ∧ hdsLe B.length (linesC B B.length x).2.2 ∧ (linesC B B.length x).2.2.length ≤ B.length := by
  obtain ⟨a1, a2, a3, a4, a5, a6, a7⟩ := hx
  have b1 := lnA_le wKind kindB a1
  have c1 := lnF_b (B := B) (a := x.pl) wKind kindI kindI_b a2
  unfold linesC
  dsimp only
  split
  · exact ⟨⟨b1, c1, a3, a4, a5, a6, a7⟩, nohds _, Nat.zero_le _⟩
  have b2 := lnA_le wDate rdB b1
  have c2 := lnF_b (B := B) (a := lnA B x.pl wKind kindB) wDate rdV rdV_b a5
  split
  · exact ⟨⟨b2, c1, a3, a4, c2, a6, a7⟩, nohds _, Nat.zero_le _⟩
  have b3 := lnA_le wKey (fun _ => true) b2
  have c3 := lnF_str wKey b2 a6
  split
  · exact ⟨⟨b3, c1, a3, a4, c2, c3, a7⟩, nohds _, Nat.zero_le _⟩
  obtain ⟨d1, d2, d3⟩ := hds_le (B := B) (B.length + 1) _ [] b3 (nohds _) (Nat.zero_le _)
  have d4 := Nat.le_trans d3 d1
  split
  · exact ⟨⟨d1, c1, a3, a4, c2, c3, a7⟩, d2, d4⟩
  · generalize hdsR B (B.length + 1) (lnA B (lnA B (lnA B x.pl wKind kindB) wDate rdB) wKey (fun _ => true)) [] = H at *
    generalize lnF B (lnA B (lnA B x.pl wKind kindB) wDate rdB) wKey (fun v => v) x.ke = F3 at *
    generalize lnF B (lnA B x.pl wKind kindB) wDate rdV x.ti = F2 at *
    generalize lnF B x.pl wKind kindI x.ki = F1 at *
    obtain ⟨e1, e2⟩ := linesD_ok (B := B) (x := ⟨H.2.1, F1, x.id, x.ow, F2, F3, x.ln, x.dg⟩) (h := H.2.2) ⟨d1, c1, a3, a4, c2, c3, a7⟩
    refine ⟨e1, ?_, ?_⟩
    · rw [e2]; exact d2
    · rw [e2]; exact d4
theorem linesL_ok {B : List UInt8} {x : Rp} (hx : RpOk B.length x) : RpOk B.length (linesL B B.length x).2.1 ∧ hdsLe B.length (linesL B B.length x).2.2 ∧ (linesL B B.length x).2.2.length ≤ B.length := by
  obtain ⟨a1, a2, a3, a4, a5, a6, a7⟩ := hx
  have b1 := wholeA_le wKept0 a1
  unfold linesL
  dsimp only
  split
  · exact ⟨⟨b1, a2, a3, a4, a5, a6, a7⟩, nohds _, Nat.zero_le _⟩
  have b2 := lnA_le wId (fun _ => true) b1
  have c2 := lnF_str wId b1 a3
  split
  · exact ⟨⟨b2, a2, c2, a4, a5, a6, a7⟩, nohds _, Nat.zero_le _⟩
  split
  · have b3 := lnA_le wOf ofB b2
    have c3 := lnF_str wOf b2 a4
    split
    · exact ⟨⟨b3, a2, c2, c3, a5, a6, a7⟩, nohds _, Nat.zero_le _⟩
    · exact linesC_ok ⟨b3, a2, c2, c3, a5, a6, a7⟩
  · exact linesC_ok ⟨b2, a2, c2, a4, a5, a6, a7⟩
theorem lnF_ok {α : Type} {B : List UInt8} {a : Nat} {w : List UInt8} {g : List UInt8 → α} {old : α} (h : lineOk B a w = true) : lnF B a w g old = g (lineV B a w) := by unfold lnF; rw [if_pos h]
def rp0 (a : Nat) : Rp := ⟨a, 0, [], [], 0, [], 0, []⟩
theorem rp0_ok {n a : Nat} (h : a ≤ n) : RpOk n (rp0 a) := ⟨h, ⟨Int.le_refl 0, by show (0 : Int) ≤ 5; decide⟩, Nat.zero_le _, Nat.zero_le _, ⟨Int.le_refl 0, by show (0 : Int) ≤ 253402300799; decide⟩, Nat.zero_le _, ⟨Int.le_refl 0, by show (0 : Int) ≤ 999999999; decide⟩⟩
def crlf2 : List UInt8 := [13, 10, 13, 10]
def rdOne (B : List UInt8) (a : Nat) : Rcd × Int × Int :=
  let L := linesL B B.length (rp0 a)
  let e : Int := L.2.1.pl + L.2.1.ln
  let blk := (B.drop L.2.1.pl).take L.2.1.ln.toNat
  let r : Rcd := ⟨L.2.1.ki, L.2.1.id, L.2.1.ow, L.2.1.ti, L.2.1.ke, L.2.2, blk⟩
  if L.1 = false then (noRec, L.2.1.pl, 10) else
  if (B.length : Int) < e + 4 then (noRec, B.length, 10) else
  if (B.drop e.toNat).take 4 ≠ crlf2 then (noRec, e, 10) else
  if digestL blk ≠ L.2.1.dg then (noRec, L.2.1.pl, 15) else
  if checkRecL r ≠ 0 then (noRec, a, checkRecL r) else (r, e + 4, 0)
def ckReadOne0 : Ck
  | [.sl n f, .int .i64 a] => some (isBy n f ∧ n ≤ 500000 ∧ 0 ≤ a ∧ a ≤ n, .tup [cRec.enc (rdOne (bytesOf n f) a.toNat).1, .int .i64 (rdOne (bytesOf n f) a.toNat).2.1, .int .i64 (rdOne (bytesOf n f) a.toNat).2.2])
  | _ => none
attribute [push_cast] ckReadOne0
structure Mk where
  id : List UInt8
  fr : Int
  en : Int
deriving DecidableEq
def noMk : Mk := ⟨[], 0, 0⟩
def decMk : V → Mk
  | .agg [.str id, .int _ fr, .int _ en] => ⟨id, fr, en⟩
  | _ => noMk
def cMk : Cod Mk := ⟨fun a => .agg [.str a.id, .int .i64 a.fr, .int .i64 a.en], decMk, noMk, fun a => rfl⟩
@[push_cast] theorem enc_mk (a : Mk) : cMk.enc a = .agg [.str a.id, .int .i64 a.fr, .int .i64 a.en] := rfl
@[push_cast] theorem dec_mk (k k' : IntKind) (fr en : Int) (id : List UInt8) : cMk.dec (.agg [.str id, .int k fr, .int k' en]) = ⟨id, fr, en⟩ := rfl
@[push_cast] theorem lsF_mk (l : List Mk) (i : Nat) : lsF cMk l i = .agg [.str (l.getD i noMk).id, .int .i64 (l.getD i noMk).fr, .int .i64 (l.getD i noMk).en] := rfl
theorem lnA_ge {B : List UInt8} {a : Nat} (w : List UInt8) (acc : List UInt8 → Bool) (h : a ≤ B.length) : a ≤ lnA B a w acc := by
  unfold lnA lnR lineOk
  split
  · rename_i g
    simp only [Bool.and_eq_true] at g
    have := ln_fit h g.1.1; omega
  · exact Nat.le_refl _
theorem wholeA_ge {B : List UInt8} {a : Nat} (w : List UInt8) (h : a ≤ B.length) : a ≤ wholeA B a w := by
  unfold wholeA wholeB
  split
  · rename_i g
    simp only [Bool.and_eq_true] at g
    have := ln_fit h g.1; omega
  · exact Nat.le_refl _
theorem hds_ge {B : List UInt8} : ∀ (k : Nat) (a : Nat) (l : List Hd), a ≤ B.length → a ≤ (hdsR B k a l).2.1
  | 0, a, l, h => Nat.le_refl _
  | k + 1, a, l, h => by
    rw [hdsR]
    split
    · exact Nat.le_refl _
    · split
      · rename_i g
        simp only [Bool.and_eq_true] at g
        have hf := ln_fit h g.1
        have := hds_ge k (lnN B a) (l ++ [hdV (lnS B a)]) hf.2.1
        omega
      · exact Nat.le_refl _
theorem linesD_ge {B : List UInt8} {x : Rp} {h : List Hd} (hx : x.pl ≤ B.length) : x.pl ≤ (linesD B x h).2.1.pl := by
  have b1 := lnA_ge wLng (fun v => digL v 9) hx
  have c1 := lnA_le wLng (fun v => digL v 9) hx
  have b2 := lnA_ge wDig dgB c1
  have c2 := lnA_le wDig dgB c1
  have b3 := wholeA_ge [] c2
  unfold linesD
  split
  · exact b1
  split
  · exact Nat.le_trans b1 b2
  · exact Nat.le_trans b1 (Nat.le_trans b2 b3)
theorem linesC_ge {B : List UInt8} {x : Rp} (hx : x.pl ≤ B.length) : x.pl ≤ (linesC B B.length x).2.1.pl := by
  have b1 := lnA_ge wKind kindB hx
  have c1 := lnA_le wKind kindB hx
  have b2 := lnA_ge wDate rdB c1
  have c2 := lnA_le wDate rdB c1
  have b3 := lnA_ge wKey (fun _ => true) c2
  have c3 := lnA_le wKey (fun _ => true) c2
  have b4 := hds_ge (B.length + 1) _ [] c3
  have c4 := (hds_le (B := B) (B.length + 1) _ [] c3 (nohds _) (Nat.zero_le _)).1
  unfold linesC
  dsimp only
  split
  · exact b1
  split
  · exact Nat.le_trans b1 b2
  split
  · exact Nat.le_trans b1 (Nat.le_trans b2 b3)
  split
  · exact Nat.le_trans b1 (Nat.le_trans b2 (Nat.le_trans b3 b4))
  · exact Nat.le_trans b1 (Nat.le_trans b2 (Nat.le_trans b3 (Nat.le_trans b4 (linesD_ge (x := ⟨_, _, _, _, _, _, _, _⟩) c4))))
theorem linesL_ge {B : List UInt8} {x : Rp} (hx : x.pl ≤ B.length) : x.pl ≤ (linesL B B.length x).2.1.pl := by
  have b1 := wholeA_ge wKept0 hx
  have c1 := wholeA_le wKept0 hx
  have b2 := lnA_ge wId (fun _ => true) c1
  have c2 := lnA_le wId (fun _ => true) c1
  have b3 := lnA_ge wOf ofB c2
  have c3 := lnA_le wOf ofB c2
  unfold linesL
  dsimp only
  split
  · exact b1
  split
  · exact Nat.le_trans b1 b2
  split
  · split
    · exact Nat.le_trans b1 (Nat.le_trans b2 b3)
    · exact Nat.le_trans b1 (Nat.le_trans b2 (Nat.le_trans b3 (linesC_ge (x := ⟨_, _, _, _, _, _, _, _⟩) c3)))
  · exact Nat.le_trans b1 (Nat.le_trans b2 (linesC_ge (x := ⟨_, _, _, _, _, _, _, _⟩) c2))
theorem rdOne_fit {B : List UInt8} {a : Nat} (hB : B.length ≤ 500000) (ha : a ≤ B.length) : recOk (rdOne B a).1 ∧ ((rdOne B a).2.2 = 0 → (a : Int) + 4 ≤ (rdOne B a).2.1 ∧ (rdOne B a).2.1 ≤ B.length ∧ checkRecL (rdOne B a).1 = 0) := by
  have lk := linesL_ok (B := B) (rp0_ok (n := B.length) (a := a) ha)
  have lg : a ≤ (linesL B B.length (rp0 a)).2.1.pl := linesL_ge (x := rp0 a) ha
  unfold rdOne
  generalize linesL B B.length (rp0 a) = L at lk lg
  obtain ⟨ok, ⟨pl, ki, id, ow, ti, ke, ln, dg⟩, hs⟩ := L
  obtain ⟨⟨p1, ⟨p2, p2'⟩, p3, p4, ⟨p5, p5'⟩, p6, ⟨p7, p7'⟩⟩, p8, p9⟩ := lk
  simp only at lg p1 p2 p2' p3 p4 p5 p5' p6 p7 p7' p8 p9
  have no : recOk noRec := ⟨fun x hx => (by cases hx), by decide, by decide, by decide, by decide, by decide, by decide, by decide, by decide, by decide⟩
  dsimp only
  split
  · exact ⟨no, fun h => (by simp at h)⟩
  split
  · exact ⟨no, fun h => (by simp at h)⟩
  split
  · exact ⟨no, fun h => (by simp at h)⟩
  split
  · exact ⟨no, fun h => (by simp at h)⟩
  split
  · rename_i h
    exact ⟨no, fun h' => absurd h' h⟩
  · rename_i h1 h2 h3 h4 h5
    refine ⟨⟨fun x hx => ?_, ?_, ?_, ?_, ?_, ?_, ?_, ?_, ?_, ?_⟩, fun _ => ⟨?_, ?_, Classical.not_not.1 h5⟩⟩
    · have := p8 x hx
      omega
    all_goals simp only
    all_goals (try (rw [List.length_take, List.length_drop]))
    all_goals omega
def rfGo (B : List UInt8) : Nat → Nat → List Rcd → List Mk → List Rcd × List Mk × Int × Int
  | 0, _, _, _ => ([], [], 0, 0)
  | k + 1, a, l, m => if a < B.length then (if (rdOne B a).2.2 = 0 then rfGo B k (rdOne B a).2.1.toNat (l ++ [(rdOne B a).1]) (m ++ [⟨(rdOne B a).1.id, a, (rdOne B a).2.1⟩]) else ([], [], (rdOne B a).2.1, (rdOne B a).2.2)) else if checkFileL l = 0 then (l, m, 0, 0) else ([], [], 0, checkFileL l)
def readFileL (B : List UInt8) : List Rcd × List Mk × Int × Int := if 500000 < B.length then ([], [], 0, 2) else rfGo B (B.length + 1) 0 [] []
def ckReadFile0 : Ck
  | [.sl n f] => some (isBy n f ∧ n ≤ 140737488355328, .tup [.sl (readFileL (bytesOf n f)).1.length (lsF cRec (readFileL (bytesOf n f)).1), .sl (readFileL (bytesOf n f)).2.1.length (lsF cMk (readFileL (bytesOf n f)).2.1), .int .i64 (readFileL (bytesOf n f)).2.2.1, .int .i64 (readFileL (bytesOf n f)).2.2.2])
  | _ => none
def ckReadFile : Ck
  | [.sl n f] => some (isBy n f ∧ n ≤ 140737488355328, .tup [.sl (readFileL (bytesOf n f)).1.length (lsF cRec (readFileL (bytesOf n f)).1), .int .i64 (readFileL (bytesOf n f)).2.2.1, .int .i64 (readFileL (bytesOf n f)).2.2.2])
  | _ => none
def ckMarks : Ck
  | [.sl n f] => some (isBy n f ∧ n ≤ 140737488355328, .tup [.sl (readFileL (bytesOf n f)).2.1.length (lsF cMk (readFileL (bytesOf n f)).2.1), .int .i64 (readFileL (bytesOf n f)).2.2.2])
  | _ => none
attribute [push_cast] ckReadFile0 ckReadFile ckMarks
def wPieces : List UInt8 := [112, 105, 101, 99, 101, 115]
theorem getD_memH {α : Type} {l : List α} {d : α} {i : Nat} (h : i < l.length) : l.getD i d ∈ l := by
  rw [List.getD_eq_getElem?_getD, List.getElem?_eq_getElem h]; exact List.getElem_mem h
def ckRhcK : List V → List Blk → Option (Prop × V × List Blk)
  | [.agg [.str a, .str _], .ptr _ 0], [.cells [.str n]] => some (a.length ≤ 140737488355328, .bool (lowL a == n), [.cells [.str n]])
  | _, _ => none
def ckRhc : Cf := ⟨fun | [_, .ptr i _] => [i] | _ => [], ckRhcK⟩
theorem conRhc : FCon pg 143 ckRhc := by
  have hct := (ctA_ok conSmallA (ctN_ok _))
  intro args bs q r bs' h hq
  replace h : ckRhcK args bs = some (q, r, bs') := h
  unfold ckRhcK at h
  split at h
  · cases h
    rename_i a b i n
    refine ⟨rfl, by first | exact Nat.le_refl _ | exact Nat.zero_le _, ?_⟩
    show FCall pg 143 [.agg [.str a, .str b], .ptr (i + 9000) 0] [(i + 9000, .cells [.str n])] (.bool (lowL a == n)) [(i + 9000, .cells [.str n])]
    refine fw143 (fun _ => false) [] rfl hct rfl (by simp) (by simp [hlIn, idsIn, Blk.menIn, V.menInL, V.menIn, V.flat, byF, lsF]) (by simp [V.menIn, V.menInL, idsIn]) ?_
    push_cast (config := { maxSteps := 10000000 })
    exact hq
  · cases h
attribute [push_cast] ckRhcK
@[push_cast] theorem rhc_ids (x : V) (i o : Nat) : ckRhc.ids [x, .ptr i o] = [i] := rfl
@[push_cast] theorem rhc_k {a b n : List UInt8} (i : Nat) : ckRhc.k [.agg [.str a, .str b], .ptr i 0] [.cells [.str n]] = some (a.length ≤ 140737488355328, .bool (lowL a == n), [.cells [.str n]]) := rfl
def fstH (l : List Hd) (n : List UInt8) : Int := match l.findIdx? (fun h => lowL h.name == n) with
  | some k => k
  | none => -1
theorem fstH_at {l : List Hd} {n : List UInt8} {i : Nat} (hi : i < l.length) (h : lowL (l.getD i ⟨[], []⟩).name = n) (hn : ∀ j, j < i → ¬ lowL (l.getD j ⟨[], []⟩).name = n) : fstH l n = i := by
  unfold fstH
  have : l.findIdx? (fun h => lowL h.name == n) = some i := by
    rw [List.findIdx?_eq_some_iff_getElem]
    refine ⟨hi, ?_, fun j hj => ?_⟩
    · rw [List.getD_eq_getElem?_getD, List.getElem?_eq_getElem hi] at h; exact beq_iff_eq.2 h
    · have h1 := hn j hj
      rw [List.getD_eq_getElem?_getD, List.getElem?_eq_getElem (by omega)] at h1
      simpa using h1
  rw [this]
theorem fstH_no {l : List Hd} {n : List UInt8} (hn : ∀ j, j < l.length → ¬ lowL (l.getD j ⟨[], []⟩).name = n) : fstH l n = -1 := by
  unfold fstH
  have : l.findIdx? (fun h => lowL h.name == n) = none := by
    rw [List.findIdx?_eq_none_iff]
    intro x hx
    obtain ⟨j, hj, rfl⟩ := List.getElem_of_mem hx
    have h1 := hn j hj
    rw [List.getD_eq_getElem?_getD, List.getElem?_eq_getElem hj] at h1
    simpa using h1
  rw [this]
theorem fstH_any (l : List Hd) (n : List UInt8) : 0 ≤ fstH l n ↔ (l.any fun h => lowL h.name == n) = true := by
  unfold fstH
  cases h : l.findIdx? (fun h => lowL h.name == n) with
  | none =>
    rw [List.findIdx?_eq_none_iff] at h
    have : (l.any fun h => lowL h.name == n) = false := by rw [List.any_eq_false]; intro x hx; rw [h x hx]; simp
    rw [this]; simp
  | some k =>
    rw [List.findIdx?_eq_some_iff_getElem] at h
    obtain ⟨hk, h1, _⟩ := h
    have : (l.any fun h => lowL h.name == n) = true := List.any_eq_true.2 ⟨_, List.getElem_mem hk, h1⟩
    rw [this]
    exact ⟨fun _ => rfl, fun _ => Int.natCast_nonneg k⟩
def hdsN (l : List Hd) : Prop := ∀ h ∈ l, h.name.length ≤ 140737488355328
def ckIdxHK : List V → List Blk → Option (Prop × V × List Blk)
  | [.sl n f, .fn (.func 143) [] [.ptr _ 0]], [.cells [.str w]] => some (isLs cHd n f ∧ hdsN (lsOf cHd n f) ∧ n ≤ 1000000, .int .i64 (fstH (lsOf cHd n f) w), [.cells [.str w]])
  | _, _ => none
def ckIdxH : Cf := ⟨fun | [_, .fn _ _ [.ptr i _]] => [i] | _ => [], ckIdxHK⟩
theorem conIdxH : FCon pg 142 ckIdxH := by
  have hct := (ctF_ok conRhc (ctN_ok _))
  intro args bs q r bs' h hq
  replace h : ckIdxHK args bs = some (q, r, bs') := h
  unfold ckIdxHK at h
  split at h
  · cases h
    rename_i n f i w
    refine ⟨rfl, by first | exact Nat.le_refl _ | exact Nat.zero_le _, ?_⟩
    obtain ⟨h0, hh, hn⟩ := hq
    refine fcall_args (args' := [.sl (lsOf cHd n f).length (lsF cHd (lsOf cHd n f)), .fn (.func 143) [] [.ptr (i + 9000) 0]]) ⟨isLs.vle h0, VLe.refl _, trivial⟩ ?_
    rw [← lsOf_len (c := cHd) n f] at hn
    generalize lsOf cHd n f = l at hh hn ⊢
    show FCall pg 142 [.sl l.length (lsF cHd l), .fn (.func 143) [] [.ptr (i + 9000) 0]] [(i + 9000, .cells [.str w])] (.int .i64 (fstH l w)) [(i + 9000, .cells [.str w])]
    refine fw142 (fun _ => false) [] rfl hct rfl (by simp) (by simp [hlIn, idsIn, Blk.menIn, V.menInL, V.menIn, V.flat, byF, lsF]) (by simp [V.menIn, V.menInL, idsIn]) ?_
    push_cast (config := { maxSteps := 10000000 })
    refine LoopW.adj ⟨hct, fol⟩ (by kernel_rfl) [] (fun k : Nat => [(0, .sl l.length (lsF cHd l)), (1, .fn (.func 143) [] [.ptr (i + 9000) 0]), (7, .int .i64 l.length), (8, .int .i64 k)]) (fun _ => [(i + 9000, .cells [.str w])]) (fun k => k ≤ l.length ∧ ∀ j, j < k → ¬ lowL (l.getD j ⟨[], []⟩).name = w) (fun k => l.length - k) 0 ?_ fun k hk => ?_
    · push_cast (config := { maxSteps := 10000000 })
      exact Nat.zero_le _
    · obtain ⟨h1, h2⟩ := hk
      push_cast (config := { maxSteps := 10000000 })
      refine ⟨fun h3 => ⟨h3, hh _ (getD_memH (d := ⟨[], []⟩) h3), fun h4 => (fstH_at h3 h4 h2).symm, fun h4 => ⟨by omega, k + 1, ⟨by omega, fun j hj => ?_⟩, by omega, by omega⟩⟩, fun h3 => (fstH_no fun j hj => h2 j (by omega)).symm⟩
      by_cases e : j = k
      · subst e; exact h4
      · exact h2 j (by omega)
  · cases h
attribute [push_cast] ckIdxHK
@[push_cast] theorem idxH_ids (x : V) (f : Fn) (i o : Nat) : ckIdxH.ids [x, .fn f [] [.ptr i o]] = [i] := rfl
@[push_cast] theorem idxH_k {n : Nat} {f : Nat → V} {w : List UInt8} (i : Nat) : ckIdxH.k [.sl n f, .fn (.func 143) [] [.ptr i 0]] [.cells [.str w]] = some (isLs cHd n f ∧ hdsN (lsOf cHd n f) ∧ n ≤ 1000000, .int .i64 (fstH (lsOf cHd n f) w), [.cells [.str w]]) := rfl
def ckRhead : Ck
  | [.agg [.int .i64 ki, .str id, .str ow, .int .i64 ti, .str ke, .sl n f, .sl m g], .str w] => some (isLs cHd n f ∧ hdsN (lsOf cHd n f) ∧ n ≤ 1000000, .int .i64 (fstH (lsOf cHd n f) w))
  | _ => none
theorem conRhead : Con pg 100 ckRhead := by
  have hct := (ctF_ok conIdxH (ctN_ok _))
  intro args q r h hq
  unfold ckRhead at h
  split at h
  · cases h
    rename_i ki id ow ti ke n f m g w
    refine w100 (fun _ => false) [] rfl hct rfl rfl ?_
    push_cast (config := { maxSteps := 10000000 })
    exact hq
  · cases h
attribute [push_cast] ckRhead
def fndL (l : List Rcd) (s : List UInt8) : Int := match l.findIdx? (fun r => r.id == s) with
  | some k => k
  | none => -1
theorem fndL_at {l : List Rcd} {s : List UInt8} {i : Nat} (hi : i < l.length) (h : (l.getD i noRec).id = s) (hn : ∀ j, j < i → (l.getD j noRec).id ≠ s) : fndL l s = i := by
  unfold fndL
  have : l.findIdx? (fun r => r.id == s) = some i := by
    rw [List.findIdx?_eq_some_iff_getElem]
    refine ⟨hi, ?_, fun j hj => ?_⟩
    · rw [List.getD_eq_getElem?_getD, List.getElem?_eq_getElem hi] at h; exact beq_iff_eq.2 h
    · have h1 := hn j hj
      rw [List.getD_eq_getElem?_getD, List.getElem?_eq_getElem (by omega)] at h1
      simpa using h1
  rw [this]
theorem fndL_no {l : List Rcd} {s : List UInt8} (hn : ∀ j, j < l.length → (l.getD j noRec).id ≠ s) : fndL l s = -1 := by
  unfold fndL
  have : l.findIdx? (fun r => r.id == s) = none := by
    rw [List.findIdx?_eq_none_iff]
    intro x hx
    obtain ⟨j, hj, rfl⟩ := List.getElem_of_mem hx
    have h1 := hn j hj
    rw [List.getD_eq_getElem?_getD, List.getElem?_eq_getElem hj] at h1
    simpa using h1
  rw [this]
theorem fndL_in (l : List Rcd) (s : List UInt8) : 0 ≤ fndL l s ↔ (l.map Rcd.id).contains s = true := by
  unfold fndL
  cases h : l.findIdx? (fun r => r.id == s) with
  | none =>
    rw [List.findIdx?_eq_none_iff] at h
    constructor
    · intro h'; have h' : (0 : Int) ≤ -1 := h'; omega
    · intro h'
      rw [List.contains_iff_mem, List.mem_map] at h'
      obtain ⟨r, hr, e⟩ := h'
      have := h r hr
      rw [e] at this; simp at this
  | some k =>
    rw [List.findIdx?_eq_some_iff_getElem] at h
    obtain ⟨hk, h1, _⟩ := h
    constructor
    · intro _
      rw [List.contains_iff_mem, List.mem_map]
      exact ⟨l[k], List.getElem_mem hk, beq_iff_eq.1 h1⟩
    · intro _; exact Int.natCast_nonneg k
theorem fndL_ok {l : List Rcd} {s : List UInt8} (h : 0 ≤ fndL l s) : (fndL l s).toNat < l.length ∧ (l.getD (fndL l s).toNat noRec).id = s ∧ ∀ j, j < (fndL l s).toNat → (l.getD j noRec).id ≠ s := by
  unfold fndL at h ⊢
  cases e : l.findIdx? (fun r => r.id == s) with
  | none => rw [e] at h; have h : (0 : Int) ≤ -1 := h; omega
  | some k =>
    rw [List.findIdx?_eq_some_iff_getElem] at e
    obtain ⟨hk, h1, h2⟩ := e
    refine ⟨hk, ?_, fun j hj => ?_⟩
    · show (l.getD k noRec).id = s
      rw [List.getD_eq_getElem?_getD, List.getElem?_eq_getElem hk]; exact beq_iff_eq.1 h1
    · have hj : j < k := hj
      have := h2 j hj
      rw [List.getD_eq_getElem?_getD, List.getElem?_eq_getElem (by omega)]
      simpa using this
theorem fndL_b (l : List Rcd) (s : List UInt8) : -1 ≤ fndL l s ∧ fndL l s < l.length := by
  by_cases h : 0 ≤ fndL l s
  · have := (fndL_ok h).1; omega
  · refine ⟨?_, by omega⟩
    unfold fndL
    split <;> omega
def ckFClK : List V → List Blk → Option (Prop × V × List Blk)
  | [.agg [.int .i64 ki, .str id, .str ow, .int .i64 ti, .str ke, x, y], .ptr i 0], [.cells [.str s]] => some (True, .bool (id == s), [.cells [.str s]])
  | _, _ => none
def ckFCl : Cf := ⟨fun | [_, .ptr i _] => [i] | _ => [], ckFClK⟩
theorem conFCl : FCon pg 96 ckFCl := by
  have hct := ctN_ok pg
  intro args bs q r bs' h hq
  replace h : ckFClK args bs = some (q, r, bs') := h
  unfold ckFClK at h
  split at h
  · cases h
    rename_i ki id ow ti ke x y i s
    refine ⟨rfl, by first | exact Nat.le_refl _ | exact Nat.zero_le _, ?_⟩
    show FCall pg 96 [.agg [.int .i64 ki, .str id, .str ow, .int .i64 ti, .str ke, x.shift, y.shift], .ptr (i + 9000) 0] [(i + 9000, .cells [.str s])] (.bool (id == s)) [(i + 9000, .cells [.str s])]
    refine fw96 (fun _ => false) [] rfl hct rfl (by simp) (by simp [hlIn, idsIn, Blk.menIn, V.menInL, V.menIn, V.flat, byF, lsF]) (by simp [V.menIn, V.menInL, idsIn]) ?_
    push_cast (config := { maxSteps := 10000000 })
  · cases h
attribute [push_cast] ckFClK
@[push_cast] theorem fcl_ids (x : V) (i o : Nat) : ckFCl.ids [x, .ptr i o] = [i] := rfl
@[push_cast] theorem fcl_k {id ow ke s : List UInt8} {ki ti : Int} {x y : V} (i : Nat) : ckFCl.k [.agg [.int .i64 ki, .str id, .str ow, .int .i64 ti, .str ke, x, y], .ptr i 0] [.cells [.str s]] = some (True, .bool (id == s), [.cells [.str s]]) := rfl
def ckIxRK : List V → List Blk → Option (Prop × V × List Blk)
  | [.sl n f, .fn (.func 96) [] [.ptr i 0]], [.cells [.str s]] => some (isLs cRec n f ∧ n ≤ 4611686018427387900, .int .i64 (fndL (lsOf cRec n f) s), [.cells [.str s]])
  | _, _ => none
def ckIxR : Cf := ⟨fun | [_, .fn _ _ [.ptr i _]] => [i] | _ => [], ckIxRK⟩
theorem conIxR : FCon pg 95 ckIxR := by
  have hct := (ctF_ok conFCl (ctN_ok _))
  intro args bs q r bs' h hq
  replace h : ckIxRK args bs = some (q, r, bs') := h
  unfold ckIxRK at h
  split at h
  · cases h
    rename_i n f i s
    refine ⟨rfl, by first | exact Nat.le_refl _ | exact Nat.zero_le _, ?_⟩
    refine fcall_args (args' := [.sl (lsOf cRec n f).length (lsF cRec (lsOf cRec n f)), .fn (.func 96) [] [.ptr (i + 9000) 0]]) ⟨isLs.vle hq.1, VLe.refl _, trivial⟩ ?_
    have hn : (lsOf cRec n f).length ≤ 4611686018427387900 := by rw [lsOf_len]; exact hq.2
    generalize lsOf cRec n f = l at hn ⊢
    show FCall pg 95 [.sl l.length (lsF cRec l), .fn (.func 96) [] [.ptr (i + 9000) 0]] [(i + 9000, .cells [.str s])] (.int .i64 (fndL l s)) [(i + 9000, .cells [.str s])]
    refine fw95 (fun _ => false) [] rfl hct rfl (by simp) (by simp [hlIn, idsIn, Blk.menIn, V.menInL, V.menIn, V.flat, byF, lsF]) (by simp [V.menIn, V.menInL, idsIn]) ?_
    push_cast (config := { maxSteps := 10000000 })
    refine LoopW.adj ⟨hct, fol⟩ (by kernel_rfl) [] (fun k : Nat => [(0, .sl l.length (lsF cRec l)), (1, .fn (.func 96) [] [.ptr (i + 9000) 0]), (7, .int .i64 l.length), (8, .int .i64 k)]) (fun _ => [(i + 9000, .cells [.str s])]) (fun k => k ≤ l.length ∧ ∀ j, j < k → (l.getD j noRec).id ≠ s) (fun k => l.length - k) 0 ?_ fun k hk => ?_
    · push_cast (config := { maxSteps := 10000000 })
      exact Nat.zero_le _
    · push_cast (config := { maxSteps := 10000000 })
      obtain ⟨h1, h2⟩ := hk
      refine ⟨fun h => ⟨h, fun h3 => (fndL_at h h3 h2).symm, fun h3 => ⟨⟨by omega, by omega⟩, k + 1, ⟨by omega, fun j hj => ?_⟩, by omega, by omega⟩⟩, fun h => (fndL_no fun j hj => h2 j (by omega)).symm⟩
      by_cases e : j = k
      · subst e; exact h3
      · exact h2 j (by omega)
  · cases h
attribute [push_cast] ckIxRK
@[push_cast] theorem ixR_ids (x : V) (f : Fn) (i o : Nat) : ckIxR.ids [x, .fn f [] [.ptr i o]] = [i] := rfl
@[push_cast] theorem ixR_k {n : Nat} {f : Nat → V} {s : List UInt8} (i : Nat) : ckIxR.k [.sl n f, .fn (.func 96) [] [.ptr i 0]] [.cells [.str s]] = some (isLs cRec n f ∧ n ≤ 4611686018427387900, .int .i64 (fndL (lsOf cRec n f) s), [.cells [.str s]]) := rfl
def fndR (l : List Rcd) (s : List UInt8) : Rcd := if 0 ≤ fndL l s then l.getD (fndL l s).toNat noRec else noRec
def ckFind6 : Ck
  | [.sl n f, .str s] => some (isLs cRec n f ∧ n ≤ 4611686018427387900, .tup [cRec.enc (fndR (lsOf cRec n f) s), .bool (decide (0 ≤ fndL (lsOf cRec n f) s))])
  | _ => none
theorem conFind6 : Con pg 53 ckFind6 := by
  have hct := (ctF_ok conIxR (ctN_ok _))
  intro args q r h hq
  unfold ckFind6 at h
  split at h
  · cases h
    rename_i n f s
    refine pcall_args (args' := [.sl (lsOf cRec n f).length (lsF cRec (lsOf cRec n f)), .str s]) ⟨isLs.vle hq.1, VLe.refl _, trivial⟩ ?_
    have hn : (lsOf cRec n f).length ≤ 4611686018427387900 := by rw [lsOf_len]; exact hq.2
    generalize lsOf cRec n f = l at hn ⊢
    refine w53 (fun _ => false) [] rfl hct rfl rfl ?_
    push_cast (config := { maxSteps := 10000000 })
    refine ⟨hn, fun h => ?_, fun h => ?_⟩
    · have e : fndR l s = noRec := by unfold fndR; rw [if_neg (by omega)]
      rw [e]
      exact ⟨⟨rfl, rfl, rfl, rfl, rfl, rfl, rfl⟩, (decide_eq_false (by omega)).symm⟩
    · have e : fndR l s = l.getD (fndL l s).toNat noRec := by unfold fndR; rw [if_pos (by omega)]
      rw [e]
      exact ⟨⟨by omega, (fndL_b l s).2⟩, ⟨rfl, rfl, rfl, rfl, rfl, ⟨rfl, fun _ _ => rfl⟩, rfl, fun _ _ => rfl⟩, (decide_eq_true (by omega)).symm⟩
  · cases h
attribute [push_cast] ckFind6
structure Sto where
  nm : List UInt8
  by' : List UInt8
deriving DecidableEq
def noSto : Sto := ⟨[], []⟩
def decSto : V → Sto
  | .agg [.str nm, .sl n g] => ⟨nm, bytesOf n g⟩
  | _ => noSto
def cSto : Cod Sto := ⟨fun a => .agg [.str a.nm, .sl a.by'.length (byF a.by')], decSto, noSto, fun a => by show Sto.mk a.nm (bytesOf a.by'.length (byF a.by')) = a; rw [bytesOf_by]⟩
@[push_cast] theorem enc_sto (a : Sto) : cSto.enc a = .agg [.str a.nm, .sl a.by'.length (byF a.by')] := rfl
@[push_cast] theorem lsF_sto (l : List Sto) (i : Nat) : lsF cSto l i = .agg [.str (l.getD i noSto).nm, .sl (l.getD i noSto).by'.length (byF (l.getD i noSto).by')] := rfl
def idsM (id : List UInt8) (n : Int) : MK → Option V
  | .ii a b => if a = 0 ∧ b = n then some (.str id) else none
  | _ => none
def filM (nm : List UInt8) (v : V) : MK → Option V
  | .str s => if s = nm then some v else none
  | _ => none
@[push_cast] theorem idsM_at (id : List UInt8) (n : Int) : idsM id n (.ii 0 n) = some (.str id) := by
  show (if (0 : Int) = 0 ∧ n = n then some (V.str id) else none) = _
  rw [if_pos ⟨rfl, rfl⟩]
@[push_cast] theorem filM_at (nm : List UInt8) (v : V) : filM nm v (.str nm) = some v := by
  show (if nm = nm then some v else none) = _
  rw [if_pos rfl]
theorem putM_ids (id : List UInt8) (n : Int) (k : MK) : putM (fun _ => none) (.ii 0 n) (.str id) k = idsM id n k := by
  unfold putM
  by_cases h : k = .ii 0 n
  · subst h; rw [decide_eq_true rfl, idsM_at]; rfl
  · rw [decide_eq_false h]
    show none = _
    unfold idsM
    split
    · rename_i a b
      rw [if_neg]
      rintro ⟨rfl, rfl⟩; exact h rfl
    · rfl
theorem putM_fil (nm : List UInt8) (v : V) (k : MK) : putM (fun _ => none) (.str nm) v k = filM nm v k := by
  unfold putM
  by_cases h : k = .str nm
  · subst h; rw [decide_eq_true rfl, filM_at]; rfl
  · rw [decide_eq_false h]
    show none = _
    unfold filM
    split
    · rw [if_neg]
      rintro rfl; exact h rfl
    · rfl
def rOne (B : List UInt8) : Rcd := (readFileL B).1.getD 0 noRec
def filV (r : Rcd) (n : Int) : V := .agg [.sl 1 (lsF cRec [r]), .fmp .ii (fun l => (idsM r.id n l).isSome) (fun l => (idsM r.id n l).getD .any)]
def stoV (e : Ind) (s : Sto) : V := .iptr [.sl 1 (lsF cInd [e]), .sl 1 (lsF cSto [s]), .nilsl, .fmp .str (fun l => (filM s.nm (filV (rOne s.by') s.by'.length) l).isSome) (fun l => (filM s.nm (filV (rOne s.by') s.by'.length) l).getD .any)]
theorem fnd1 (r : Rcd) : fndL [r] r.id = 0 ∧ fndR [r] r.id = r := by
  have h : fndL [r] r.id = 0 := by
    unfold fndL
    simp [List.findIdx?_cons]
  refine ⟨h, ?_⟩
  unfold fndR
  rw [h]; rfl
def oneRc (r : Rcd) : Prop := recOk r ∧ checkFileL [r] = 0 ∧ r.ki = 3 ∧ fstH r.hd wPieces < 0
def oneB (B : List UInt8) : Prop := readFileL B = ([rOne B], [⟨(rOne B).id, 0, B.length⟩], 0, 0) ∧ oneRc (rOne B) ∧ B.length ≤ 500000
def stoOk (e : Ind) (s : Sto) : Prop := oneB s.by' ∧ nameL s.nm = true ∧ indOk e ∧ indE e = 0 ∧ e.ky = (rOne s.by').ke ∧ e.ti = (rOne s.by').ti ∧ e.fi = s.nm ∧ e.fr = 0 ∧ e.to' = s.by'.length
def ckCloneBy : Ck
  | [.sl n f] => some (isBy n f ∧ n ≤ 140737488355328, .sl n f)
  | _ => none
theorem conCloneBy : Con pg 99 ckCloneBy := by
  have hct := ctN_ok pg
  intro args q r h hq
  unfold ckCloneBy at h
  split at h
  · cases h
    rename_i n f
    by_cases hn : n = 0
    · subst hn
      refine pcall_nil1 fun a c => ?_
      refine w99 (fun d => decide (d < 9999)) [.frz 5] rfl hct rfl rfl ?_
      push_cast (config := { maxSteps := 10000000 })
      cases a
      · push_cast (config := { maxSteps := 10000000 })
      · push_cast (config := { maxSteps := 10000000 })
    · refine w99 (fun d => decide (d < 9999)) [.frz 5] rfl hct rfl rfl ?_
      push_cast (config := { maxSteps := 10000000 })
      obtain ⟨h1, h2⟩ := hq
      exact ⟨by omega, ⟨h1.flat, by omega, by omega⟩, h1.pure⟩
  · cases h
attribute [push_cast] ckCloneBy
@[push_cast] theorem linesR_ids (o : Nat) : ckLinesR.ids [.ptr 13 o] = [13] := rfl
@[push_cast] theorem linesR_k (n : Nat) (f : Nat → V) (a ki ti ln : Int) (id ow ke dg : List UInt8) : ckLinesR.k [.ptr 13 0] [.cells [.sl n f, .int .i64 a, .int .i64 ki, .str id, .str ow, .int .i64 ti, .str ke, .nilsl, .nilsl, .int .i64 ln, .str dg]] = some (isBy n f ∧ n ≤ 1000000000 ∧ 0 ≤ a ∧ a ≤ n, .bool (linesL (bytesOf n f) n ⟨a.toNat, ki, id, ow, ti, ke, ln, dg⟩).1, [.cells [.sl n f, .int .i64 (linesL (bytesOf n f) n ⟨a.toNat, ki, id, ow, ti, ke, ln, dg⟩).2.1.pl, .int .i64 (linesL (bytesOf n f) n ⟨a.toNat, ki, id, ow, ti, ke, ln, dg⟩).2.1.ki, .str (linesL (bytesOf n f) n ⟨a.toNat, ki, id, ow, ti, ke, ln, dg⟩).2.1.id, .str (linesL (bytesOf n f) n ⟨a.toNat, ki, id, ow, ti, ke, ln, dg⟩).2.1.ow, .int .i64 (linesL (bytesOf n f) n ⟨a.toNat, ki, id, ow, ti, ke, ln, dg⟩).2.1.ti, .str (linesL (bytesOf n f) n ⟨a.toNat, ki, id, ow, ti, ke, ln, dg⟩).2.1.ke, .sl (linesL (bytesOf n f) n ⟨a.toNat, ki, id, ow, ti, ke, ln, dg⟩).2.2.length (lsF cHd (linesL (bytesOf n f) n ⟨a.toNat, ki, id, ow, ti, ke, ln, dg⟩).2.2), .nilsl, .int .i64 (linesL (bytesOf n f) n ⟨a.toNat, ki, id, ow, ti, ke, ln, dg⟩).2.1.ln, .str (linesL (bytesOf n f) n ⟨a.toNat, ki, id, ow, ti, ke, ln, dg⟩).2.1.dg]]) := rfl
theorem conReadOne0 : Con pg 94 ckReadOne0 := by
  have hct := (ctF_ok conLinesR (ctA_ok conCloneBy (ctA_ok conDigest (ctA_ok conCheckRec (ctN_ok _)))))
  intro args q r h hq
  unfold ckReadOne0 at h
  split at h
  · cases h
    rename_i n f a
    refine pcall_args (args' := [.sl (bytesOf n f).length (byF (bytesOf n f)), .int .i64 a]) ⟨isBy.vle hq.1, VLe.refl _, trivial⟩ ?_
    obtain ⟨-, hn, h0, h1⟩ := hq
    have hl := bytesOf_len n f
    rw [← hl] at hn h1
    generalize bytesOf n f = B at hn h1 ⊢
    clear hl
    obtain ⟨a, rfl⟩ : ∃ k : Nat, a = k := ⟨a.toNat, by omega⟩
    rw [Int.toNat_natCast]
    refine w94 (fun _ => false) [] rfl hct rfl rfl ?_
    push_cast (config := { maxSteps := 10000000 })
    have h1 : a ≤ B.length := by omega
    have lk := linesL_ok (B := B) (rp0_ok (n := B.length) (a := a) h1)
    generalize hR : rdOne B a = R
    unfold rdOne at hR
    generalize hL : linesL B B.length (rp0 a) = L at lk hR
    have hL' : linesL B B.length ⟨a, 0, [], [], 0, [], 0, []⟩ = L := hL
    simp only [hL']
    clear hL hL'
    obtain ⟨ok, ⟨pl, ki, id, ow, ti, ke, ln, dg⟩, hs⟩ := L
    obtain ⟨⟨p1, ⟨p2, p2'⟩, p3, p4, ⟨p5, p5'⟩, p6, ⟨p7, p7'⟩⟩, p8, p9⟩ := lk
    simp only at hR p1 p2 p2' p3 p4 p5 p5' p6 p7 p7' p8 p9 ⊢
    obtain ⟨ln, rfl⟩ : ∃ k : Nat, ln = k := ⟨ln.toNat, by omega⟩
    refine ⟨⟨by omega, h1⟩, fun h => ?_, fun h => ⟨⟨by omega, by omega⟩, ⟨by omega, by omega⟩, fun h2 => ?_, fun h2 => ⟨⟨by omega, by omega⟩, ⟨⟨by omega, by omega⟩, ⟨by omega, by omega⟩, by omega⟩, ?_⟩⟩⟩
    · rw [if_pos h] at hR
      rw [← hR]
      exact ⟨⟨rfl, rfl, rfl, rfl, rfl, rfl, rfl⟩, rfl, rfl⟩
    · rw [if_neg (by rw [h]; simp), if_pos (by omega)] at hR
      rw [← hR]
      exact ⟨⟨rfl, rfl, rfl, rfl, rfl, rfl, rfl⟩, rfl, rfl⟩
    rw [if_neg (by rw [h]; simp), if_neg (by omega)] at hR
    have e1 : ((pl : Int) + ln).toNat = pl + ln := by omega
    have e2 : ((pl : Int) + ln + 4).toNat = pl + ln + 4 := by omega
    simp only [e1, e2, Int.toNat_natCast, Nat.add_sub_cancel_left] at hR ⊢
    have b4 := ByI.sh (ByI.by B) (l := pl + ln) (k := 4) (by omega)
    have bb := ByI.sh (ByI.by B) (l := pl) (k := ln) (by omega)
    have b4' : bytesOf 4 (shF (byF B) (pl + ln)) = (B.drop (pl + ln)).take 4 := b4.bytes
    have bb' : bytesOf ln (shF (byF B) pl) = (B.drop pl).take ln := bb.bytes
    simp only [b4', bb']
    refine ⟨b4.bytesP, fun h3 => ?_, fun h3 => ⟨⟨⟨by omega, by omega⟩, p1, by omega⟩, ⟨bb.is, by omega⟩, ⟨bb.is, by omega⟩, fun h4 => ?_, fun h4 => ⟨⟨isC_rec (isLs_ls hs) bb.is, ?_⟩, fun h5 => ?_, fun h5 => ⟨⟨by omega, by omega⟩, ?_⟩⟩⟩⟩
    · rw [if_pos (show _ ≠ crlf2 from h3)] at hR
      rw [← hR]
      exact ⟨⟨rfl, rfl, rfl, rfl, rfl, rfl, rfl⟩, rfl, rfl⟩
    · rw [if_neg (show ¬ (List.take 4 (List.drop (pl + ln) B) ≠ crlf2) from fun x => x h3), if_pos h4] at hR
      rw [← hR]
      exact ⟨⟨rfl, rfl, rfl, rfl, rfl, rfl, rfl⟩, rfl, rfl⟩
    · have := bb.1
      refine ⟨fun x hx => ?_, ?_, ?_, ?_, ?_, ?_, ?_, ?_, ?_, ?_⟩
      · have := p8 x hx
        omega
      all_goals simp only
      all_goals omega
    · rw [if_neg (show ¬ (List.take 4 (List.drop (pl + ln) B) ≠ crlf2) from fun x => x h3), if_neg (fun x => x h4), if_pos h5] at hR
      rw [← hR]
      exact ⟨⟨rfl, rfl, rfl, rfl, rfl, rfl, rfl⟩, rfl, rfl⟩
    · rw [if_neg (show ¬ (List.take 4 (List.drop (pl + ln) B) ≠ crlf2) from fun x => x h3), if_neg (fun x => x h4), if_neg (fun x => x h5)] at hR
      rw [← hR]
      exact ⟨⟨rfl, rfl, rfl, rfl, rfl, ⟨rfl, fun _ _ => rfl⟩, bb.1, bb.2⟩, rfl, rfl⟩
  · cases h
end Go.Abs
