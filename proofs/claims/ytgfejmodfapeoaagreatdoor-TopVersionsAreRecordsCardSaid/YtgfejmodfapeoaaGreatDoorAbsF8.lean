/- what functions of this program compute: contracts, each a function's own -/
import Derived.Test.YtgfejmodfapeoaaGreatDoorAbsK2
import Derived.Test.YtgfejmodfapeoaaGreatDoorAbsFacts
import Derived.Test.YtgfejmodfapeoaaGreatDoorAbsF7
import Derived.Test.YtgfejmodfapeoaaGreatDoorAbsShelf
import Derived.Lib.SplitLaws
import Derived.Lib.SlTrimSet
import Derived.Lib.Atoi
import Derived.Lib.Itoa
import Derived.Lib.ItoaNum
import Derived.Lib.AtoiErrMem
import Derived.Lib.Join
import Derived.Lib.IndexMore
import Derived.Lib.Repeat
import Derived.Lib.ItoaLen
import Derived.Lib.Index
import Derived.Lib.IndexBytes
namespace Go.Abs
open Go Go.Proofs
set_option maxHeartbeats 4000000
set_option maxRecDepth 100000
set_option linter.unusedVariables false
set_option linter.unusedSimpArgs false
def noInq : Inq := ⟨[], [], [], []⟩
@[push_cast] theorem noInq_me : noInq.me = [] := rfl
@[push_cast] theorem noInq_tg : noInq.tg = [] := rfl
@[push_cast] theorem noInq_hd : noInq.hd = [] := rfl
@[push_cast] theorem noInq_bd : noInq.bd = [] := rfl
def wWeb : List UInt8 := [87, 69, 66, 47, 49]
/-- the three words of a request's first line -/
def rqW (b : List UInt8) : List (List UInt8) := splitL (lnS b 0) 32
def rqOk (b : List UInt8) : Bool := lnB b 0 && decide ((rqW b).length = 3) && ((rqW b).getD 0 [] != []) && ((rqW b).getD 1 [] != []) && ((rqW b).getD 2 [] == wWeb)
def rqH (b : List UInt8) : List Hd × Nat × Bool := rhL b (b.length + 1) (lnN b 0) []
def rqI (b : List UInt8) : Inq := ⟨(rqW b).getD 0 [], (rqW b).getD 1 [], (rqH b).1, b.drop (rqH b).2.1⟩
/-- a request, read: it, the place of an error, the error -/
def rqL (b : List UInt8) : Inq × Nat × Int := if 400000 < b.length then (noInq, 0, 2) else if rqOk b = true then (if (rqH b).2.2 = true then (if checkInqL (rqI b) = 0 then (rqI b, 0, 0) else (noInq, 0, checkInqL (rqI b))) else (noInq, (rqH b).2.1, 10)) else (noInq, 0, 10)
def hdsLe (n : Nat) (l : List Hd) : Prop := ∀ h ∈ l, h.name.length ≤ n ∧ h.value.length ≤ n
theorem hdV_le (s : List UInt8) : (hdV s).name.length ≤ s.length ∧ (hdV s).value.length ≤ s.length := by
  unfold hdV
  split
  · unfold hdCut Lib.cut
    split <;> simp <;> omega
  · simp
theorem lnS_le (b : List UInt8) {a : Nat} (ha : a ≤ b.length) : (lnS b a).length ≤ b.length := by
  cases h : lnB b a with
  | true => have := ln_fit ha h; omega
  | false =>
    unfold lnB at h
    unfold lnS
    cases hs : lineS (b.drop a) with
    | none => simp
    | some s => rw [hs] at h; cases h
theorem rh_fit {b : List UInt8} : ∀ (k a : Nat) (out : List Hd), a ≤ b.length → hdsLe b.length out → (rhL b k a out).2.1 ≤ b.length ∧ hdsLe b.length (rhL b k a out).1 ∧ (rhL b k a out).1.length ≤ out.length + k
  | 0, a, out, ha, ho => by simp [rhL, hdsLe]
  | k + 1, a, out, ha, ho => by
    rw [rhL]
    split
    · simp [hdsLe]
    split
    · simp [hdsLe]; omega
    rename_i h1 h2
    have hB : lnB b a = true := by simpa using h2
    have hf := ln_fit ha hB
    split
    · refine ⟨hf.2.1, ho, by simp⟩
    split
    · simp [hdsLe]; omega
    · have := rh_fit k (lnN b a) (out ++ [hdV (lnS b a)]) hf.2.1 (fun h hh => by
        rcases List.mem_append.1 hh with hh | hh
        · exact ho h hh
        · rw [List.mem_singleton] at hh; subst hh
          have h3 := hdV_le (lnS b a)
          have h4 := lnS_le b ha
          omega)
      refine ⟨this.1, this.2.1, ?_⟩
      have h5 := this.2.2
      simp only [List.length_append, List.length_singleton] at h5; omega
theorem drop_by {b : List UInt8} {p : Nat} (hp : p ≤ b.length) : ByI (b.length - p) (fun i => shF (byF b) p i) (b.drop p) := by
  have h := ByI.sh (ByI.by b) (l := p) (k := b.length - p) (by omega)
  rw [List.take_of_length_le (by simp)] at h
  exact h
@[push_cast] theorem kill_shby (d p : Nat) (s : List UInt8) (i : Nat) : V.kill d (shF (byF s) p i) = shF (byF s) p i := rfl
@[push_cast] theorem men_shby (d p : Nat) (s : List UInt8) (i : Nat) : V.men d (shF (byF s) p i) = false := rfl
def ckReadReq : Ck
  | [.sl n f] => some (isBy n f ∧ n ≤ 4611686018427387900, .tup [cInq.enc (rqL (bytesOf n f)).1, .int .i64 (rqL (bytesOf n f)).2.1, .int .i64 (rqL (bytesOf n f)).2.2])
  | _ => none
attribute [push_cast] ckReadReq
theorem kindI_b (v : List UInt8) : 0 ≤ kindI v ∧ kindI v ≤ 5 := by
  have := idxL_b kindW v
  have hk : kindW.length = 5 := rfl
  unfold kindI; omega
theorem rdV_b (v : List UInt8) : 0 ≤ rdV v ∧ rdV v ≤ 253402300799 := by
  unfold rdV
  split
  · rename_i h
    have := of_decide_eq_true h
    exact ⟨this.1, this.2.1⟩
  · omega
/-- a state of the reader whose parts are small -/
structure RpOk (n : Nat) (x : Rp) : Prop where
  pl : x.pl ≤ n
  ki : 0 ≤ x.ki ∧ x.ki ≤ 5
  id : x.id.length ≤ n
  ow : x.ow.length ≤ n
  ti : 0 ≤ x.ti ∧ x.ti ≤ 253402300799
  ke : x.ke.length ≤ n
  ln : 0 ≤ x.ln ∧ x.ln ≤ 999999999
theorem lnA_le {B : List UInt8} {a : Nat} (w : List UInt8) (acc : List UInt8 → Bool) (h : a ≤ B.length) : lnA B a w acc ≤ B.length := by
  unfold lnA lnR lineOk
  split
  · rename_i g
    simp only [Bool.and_eq_true] at g
    exact (ln_fit h g.1.1).2.1
  · exact h
theorem wholeA_le {B : List UInt8} {a : Nat} (w : List UInt8) (h : a ≤ B.length) : wholeA B a w ≤ B.length := by
  unfold wholeA wholeB
  split
  · rename_i g
    simp only [Bool.and_eq_true] at g
    exact (ln_fit h g.1).2.1
  · exact h
theorem lineV_le {B : List UInt8} {a : Nat} (w : List UInt8) (h : a ≤ B.length) : (lineV B a w).length ≤ B.length := by
  unfold lineV
  rw [List.length_drop]
  have := lnS_le B h
  omega
theorem lnF_str {B : List UInt8} {a : Nat} (w : List UInt8) {old : List UInt8} (h : a ≤ B.length) (ho : old.length ≤ B.length) : (lnF B a w (fun v => v) old).length ≤ B.length := by
  unfold lnF
  split
  · exact lineV_le w h
  · exact ho
theorem digL9 {v : List UInt8} (h : digL v 9 = true) : natOf v ≤ 999999999 := by
  have := digL_all h
  have := natOf_le this.2.2.1 (k := 9) (by omega)
  omega
theorem hds_le {B : List UInt8} : ∀ (k : Nat) (a : Nat) (l : List Hd), a ≤ B.length → hdsLe B.length l → l.length ≤ a → (hdsR B k a l).2.1 ≤ B.length ∧ hdsLe B.length (hdsR B k a l).2.2 ∧ (hdsR B k a l).2.2.length ≤ (hdsR B k a l).2.1
  | 0, a, l, h, hl, hn => ⟨h, hl, hn⟩
  | k + 1, a, l, h, hl, hn => by
    rw [hdsR]
    split
    · exact ⟨h, hl, hn⟩
    · split
      · rename_i g
        simp only [Bool.and_eq_true] at g
        have hf := ln_fit h g.1
        refine hds_le k _ _ hf.2.1 (fun x hx => ?_) (by simp only [List.length_append, List.length_singleton]; omega)
        rcases List.mem_append.1 hx with hx | hx
        · exact hl x hx
        · rw [List.mem_singleton] at hx; subst hx
          have h3 := hdV_le (lnS B a)
          have h4 := lnS_le B h
          omega
      · exact ⟨h, hl, hn⟩
theorem linesD_ok {B : List UInt8} {x : Rp} {h : List Hd} (hx : RpOk B.length x) : RpOk B.length (linesD B x h).2.1 ∧ (linesD B x h).2.2 = h := by
  obtain ⟨a1, a2, a3, a4, a5, a6, a7⟩ := hx
  have b1 := lnA_le wLng (fun v => digL v 9) a1
  have b2 := lnA_le wDig dgB b1
  have b3 := wholeA_le [] b2
  have b4 : 0 ≤ lnF B x.pl wLng (fun v => if digL v 9 = true then (natOf v : Int) else x.ln) x.ln ∧ lnF B x.pl wLng (fun v => if digL v 9 = true then (natOf v : Int) else x.ln) x.ln ≤ 999999999 := by
    unfold lnF
    split
    · dsimp only
      split
      · rename_i g
        have := digL9 g
        omega
      · exact a7
    · exact a7
  unfold linesD
  split
  · exact ⟨⟨b1, a2, a3, a4, a5, a6, b4⟩, rfl⟩
  split
  · exact ⟨⟨b2, a2, a3, a4, a5, a6, b4⟩, rfl⟩
  · exact ⟨⟨b3, a2, a3, a4, a5, a6, b4⟩, rfl⟩
theorem lnF_b {B : List UInt8} {a : Nat} (w : List UInt8) (g : List UInt8 → Int) {old p q : Int} (hg : ∀ v, p ≤ g v ∧ g v ≤ q) (ho : p ≤ old ∧ old ≤ q) : p ≤ lnF B a w g old ∧ lnF B a w g old ≤ q := by
  unfold lnF
  split
  · exact hg _
  · exact ho
theorem nohds (n : Nat) : hdsLe n [] := fun _ h => (by cases h)
theorem linesC_ok {B : List UInt8} {x : Rp} (hx : RpOk B.length x) : RpOk B.length (linesC B B.length x).2.1 ∧ hdsLe B.length (linesC B B.length x).2.2 ∧ (linesC B B.length x).2.2.length ≤ B.length := by
  obtain ⟨a1, a2, a3, a4, a5, a6, a7⟩ := hx
  have b1 := lnA_le wKind kindB a1
  have c1 := lnF_b (B := B) (a := x.pl) wKind kindI kindI_b a2
  unfold linesC
  dsimp only
  split
  · exact ⟨⟨b1, c1, a3, a4, a5, a6, a7⟩, nohds _, Nat.zero_le _⟩
  have b2 := lnA_le wDate rdB b1
  have c2 := lnF_b (B := B) (a := lnA B x.pl wKind kindB) wDate rdV rdV_b a5
  split
  · exact ⟨⟨b2, c1, a3, a4, c2, a6, a7⟩, nohds _, Nat.zero_le _⟩
  have b3 := lnA_le wKey (fun _ => true) b2
  have c3 := lnF_str wKey b2 a6
  split
  · exact ⟨⟨b3, c1, a3, a4, c2, c3, a7⟩, nohds _, Nat.zero_le _⟩
  obtain ⟨d1, d2, d3⟩ := hds_le (B := B) (B.length + 1) _ [] b3 (nohds _) (Nat.zero_le _)
  have d4 := Nat.le_trans d3 d1
  split
  · exact ⟨⟨d1, c1, a3, a4, c2, c3, a7⟩, d2, d4⟩
  · generalize hdsR B (B.length + 1) (lnA B (lnA B (lnA B x.pl wKind kindB) wDate rdB) wKey (fun _ => true)) [] = H at *
    generalize lnF B (lnA B (lnA B x.pl wKind kindB) wDate rdB) wKey (fun v => v) x.ke = F3 at *
    generalize lnF B (lnA B x.pl wKind kindB) wDate rdV x.ti = F2 at *
    generalize lnF B x.pl wKind kindI x.ki = F1 at *
    obtain ⟨e1, e2⟩ := linesD_ok (B := B) (x := ⟨H.2.1, F1, x.id, x.ow, F2, F3, x.ln, x.dg⟩) (h := H.2.2) ⟨d1, c1, a3, a4, c2, c3, a7⟩
    refine ⟨e1, ?_, ?_⟩
    · rw [e2]; exact d2
    · rw [e2]; exact d4
theorem linesL_ok {B : List UInt8} {x : Rp} (hx : RpOk B.length x) : RpOk B.length (linesL B B.length x).2.1 ∧ hdsLe B.length (linesL B B.length x).2.2 ∧ (linesL B B.length x).2.2.length ≤ B.length := by
  obtain ⟨a1, a2, a3, a4, a5, a6, a7⟩ := hx
  have b1 := wholeA_le wKept0 a1
  unfold linesL
  dsimp only
  split
  · exact ⟨⟨b1, a2, a3, a4, a5, a6, a7⟩, nohds _, Nat.zero_le _⟩
  have b2 := lnA_le wId (fun _ => true) b1
  have c2 := lnF_str wId b1 a3
  split
  · exact ⟨⟨b2, a2, c2, a4, a5, a6, a7⟩, nohds _, Nat.zero_le _⟩
  split
  · have b3 := lnA_le wOf ofB b2
    have c3 := lnF_str wOf b2 a4
    split
    · exact ⟨⟨b3, a2, c2, c3, a5, a6, a7⟩, nohds _, Nat.zero_le _⟩
    · exact linesC_ok ⟨b3, a2, c2, c3, a5, a6, a7⟩
  · exact linesC_ok ⟨b2, a2, c2, a4, a5, a6, a7⟩
theorem lnR_ok {B : List UInt8} {a : Nat} {w : List UInt8} {acc : List UInt8 → Bool} (h : lnR B a w acc = true) : lineOk B a w = true ∧ acc (lineV B a w) = true ∧ lnA B a w acc = lnN B a := by
  unfold lnA
  rw [if_pos h]
  unfold lnR at h
  simp only [Bool.and_eq_true] at h
  exact ⟨h.1, h.2, rfl⟩
theorem lnR_no {B : List UInt8} {a : Nat} {w : List UInt8} {acc : List UInt8 → Bool} (h : lnR B a w acc = false) : lnA B a w acc = a ∧ (lineOk B a w = false ∨ (lineOk B a w = true ∧ acc (lineV B a w) = false)) := by
  unfold lnA
  rw [if_neg (by rw [h]; simp)]
  unfold lnR at h
  refine ⟨rfl, ?_⟩
  cases e : lineOk B a w with
  | false => exact .inl rfl
  | true => rw [e] at h; exact .inr ⟨rfl, h⟩
theorem lnF_ok {α : Type} {B : List UInt8} {a : Nat} {w : List UInt8} {g : List UInt8 → α} {old : α} (h : lineOk B a w = true) : lnF B a w g old = g (lineV B a w) := by unfold lnF; rw [if_pos h]
def rp0 (a : Nat) : Rp := ⟨a, 0, [], [], 0, [], 0, []⟩
theorem rp0_ok {n a : Nat} (h : a ≤ n) : RpOk n (rp0 a) := ⟨h, ⟨Int.le_refl 0, by show (0 : Int) ≤ 5; decide⟩, Nat.zero_le _, Nat.zero_le _, ⟨Int.le_refl 0, by show (0 : Int) ≤ 253402300799; decide⟩, Nat.zero_le _, ⟨Int.le_refl 0, by show (0 : Int) ≤ 999999999; decide⟩⟩
def crlf2 : List UInt8 := [13, 10, 13, 10]
/-- the record at a place, the place that is told, the error -/
def rdOne (B : List UInt8) (a : Nat) : Rcd × Int × Int :=
  let L := linesL B B.length (rp0 a)
  let e : Int := L.2.1.pl + L.2.1.ln
  let blk := (B.drop L.2.1.pl).take L.2.1.ln.toNat
  let r : Rcd := ⟨L.2.1.ki, L.2.1.id, L.2.1.ow, L.2.1.ti, L.2.1.ke, L.2.2, blk⟩
  if L.1 = false then (noRec, L.2.1.pl, 10) else
  if (B.length : Int) < e + 4 then (noRec, B.length, 10) else
  if (B.drop e.toNat).take 4 ≠ crlf2 then (noRec, e, 10) else
  if digestL blk ≠ L.2.1.dg then (noRec, L.2.1.pl, 15) else
  if checkRecL r ≠ 0 then (noRec, a, checkRecL r) else (r, e + 4, 0)
def ckReadOne0 : Ck
  | [.sl n f, .int .i64 a] => some (isBy n f ∧ n ≤ 500000 ∧ 0 ≤ a ∧ a ≤ n, .tup [cRec.enc (rdOne (bytesOf n f) a.toNat).1, .int .i64 (rdOne (bytesOf n f) a.toNat).2.1, .int .i64 (rdOne (bytesOf n f) a.toNat).2.2])
  | _ => none
def rdOneR (B : List UInt8) (a : Int) : Rcd × Int × Int := if (500000 < B.length ∨ a < 0) ∨ (B.length : Int) < a then (noRec, 0, 1) else rdOne B a.toNat
def ckReadOne : Ck
  | [.sl n f, .int .i64 a] => some (isBy n f ∧ n ≤ 140737488355328, .tup [cRec.enc (rdOneR (bytesOf n f) a).1, .int .i64 (rdOneR (bytesOf n f) a).2.1, .int .i64 (rdOneR (bytesOf n f) a).2.2])
  | _ => none
attribute [push_cast] ckReadOne0 ckReadOne

@[push_cast] theorem linesR_ids (o : Nat) : ckLinesR.ids [.ptr 13 o] = [13] := rfl
@[push_cast] theorem linesR_k (n : Nat) (f : Nat → V) (a ki ti ln : Int) (id ow ke dg : List UInt8) : ckLinesR.k [.ptr 13 0] [.cells [.sl n f, .int .i64 a, .int .i64 ki, .str id, .str ow, .int .i64 ti, .str ke, .nilsl, .nilsl, .int .i64 ln, .str dg]] = some (isBy n f ∧ n ≤ 1000000000 ∧ 0 ≤ a ∧ a ≤ n, .bool (linesL (bytesOf n f) n ⟨a.toNat, ki, id, ow, ti, ke, ln, dg⟩).1, [.cells [.sl n f, .int .i64 (linesL (bytesOf n f) n ⟨a.toNat, ki, id, ow, ti, ke, ln, dg⟩).2.1.pl, .int .i64 (linesL (bytesOf n f) n ⟨a.toNat, ki, id, ow, ti, ke, ln, dg⟩).2.1.ki, .str (linesL (bytesOf n f) n ⟨a.toNat, ki, id, ow, ti, ke, ln, dg⟩).2.1.id, .str (linesL (bytesOf n f) n ⟨a.toNat, ki, id, ow, ti, ke, ln, dg⟩).2.1.ow, .int .i64 (linesL (bytesOf n f) n ⟨a.toNat, ki, id, ow, ti, ke, ln, dg⟩).2.1.ti, .str (linesL (bytesOf n f) n ⟨a.toNat, ki, id, ow, ti, ke, ln, dg⟩).2.1.ke, .sl (linesL (bytesOf n f) n ⟨a.toNat, ki, id, ow, ti, ke, ln, dg⟩).2.2.length (lsF cHd (linesL (bytesOf n f) n ⟨a.toNat, ki, id, ow, ti, ke, ln, dg⟩).2.2), .nilsl, .int .i64 (linesL (bytesOf n f) n ⟨a.toNat, ki, id, ow, ti, ke, ln, dg⟩).2.1.ln, .str (linesL (bytesOf n f) n ⟨a.toNat, ki, id, ow, ti, ke, ln, dg⟩).2.1.dg]]) := rfl
theorem conReadOne0 : Con pg 18 ckReadOne0 := by
  have hct := (ctF_ok conLinesR (ctA_ok conCloneBy (ctA_ok conDigest (ctA_ok conCheckRec (ctN_ok _)))))
  intro args q r h hq
  unfold ckReadOne0 at h
  split at h
  · cases h
    rename_i n f a
    refine pcall_args (args' := [.sl (bytesOf n f).length (byF (bytesOf n f)), .int .i64 a]) ⟨isBy.vle hq.1, VLe.refl _, trivial⟩ ?_
    obtain ⟨-, hn, h0, h1⟩ := hq
    have hl := bytesOf_len n f
    rw [← hl] at hn h1
    generalize bytesOf n f = B at hn h1 ⊢
    clear hl
    obtain ⟨a, rfl⟩ : ∃ k : Nat, a = k := ⟨a.toNat, by omega⟩
    rw [Int.toNat_natCast]
    refine w18 (fun _ => false) [] rfl hct rfl rfl ?_
    push_cast (config := { maxSteps := 10000000 })
    have h1 : a ≤ B.length := by omega
    have lk := linesL_ok (B := B) (rp0_ok (n := B.length) (a := a) h1)
    generalize hR : rdOne B a = R
    unfold rdOne at hR
    generalize hL : linesL B B.length (rp0 a) = L at lk hR
    have hL' : linesL B B.length ⟨a, 0, [], [], 0, [], 0, []⟩ = L := hL
    simp only [hL']
    clear hL hL'
    obtain ⟨ok, ⟨pl, ki, id, ow, ti, ke, ln, dg⟩, hs⟩ := L
    obtain ⟨⟨p1, ⟨p2, p2'⟩, p3, p4, ⟨p5, p5'⟩, p6, ⟨p7, p7'⟩⟩, p8, p9⟩ := lk
    simp only at hR p1 p2 p2' p3 p4 p5 p5' p6 p7 p7' p8 p9 ⊢
    obtain ⟨ln, rfl⟩ : ∃ k : Nat, ln = k := ⟨ln.toNat, by omega⟩
    refine ⟨⟨by omega, h1⟩, fun h => ?_, fun h => ⟨⟨by omega, by omega⟩, ⟨by omega, by omega⟩, fun h2 => ?_, fun h2 => ⟨⟨by omega, by omega⟩, ⟨⟨by omega, by omega⟩, ⟨by omega, by omega⟩, by omega⟩, ?_⟩⟩⟩
    · rw [if_pos h] at hR
      rw [← hR]
      exact ⟨⟨rfl, rfl, rfl, rfl, rfl, rfl, rfl⟩, rfl, rfl⟩
    · rw [if_neg (by rw [h]; simp), if_pos (by omega)] at hR
      rw [← hR]
      exact ⟨⟨rfl, rfl, rfl, rfl, rfl, rfl, rfl⟩, rfl, rfl⟩
    rw [if_neg (by rw [h]; simp), if_neg (by omega)] at hR
    have e1 : ((pl : Int) + ln).toNat = pl + ln := by omega
    have e2 : ((pl : Int) + ln + 4).toNat = pl + ln + 4 := by omega
    simp only [e1, e2, Int.toNat_natCast, Nat.add_sub_cancel_left] at hR ⊢
    have b4 := ByI.sh (ByI.by B) (l := pl + ln) (k := 4) (by omega)
    have bb := ByI.sh (ByI.by B) (l := pl) (k := ln) (by omega)
    have b4' : bytesOf 4 (shF (byF B) (pl + ln)) = (B.drop (pl + ln)).take 4 := b4.bytes
    have bb' : bytesOf ln (shF (byF B) pl) = (B.drop pl).take ln := bb.bytes
    simp only [b4', bb']
    refine ⟨b4.bytesP, fun h3 => ?_, fun h3 => ⟨⟨⟨by omega, by omega⟩, p1, by omega⟩, ⟨bb.is, by omega⟩, ⟨bb.is, by omega⟩, fun h4 => ?_, fun h4 => ⟨⟨isC_rec (isLs_ls hs) bb.is, ?_⟩, fun h5 => ?_, fun h5 => ⟨⟨by omega, by omega⟩, ?_⟩⟩⟩⟩
    · rw [if_pos (show _ ≠ crlf2 from h3)] at hR
      rw [← hR]
      exact ⟨⟨rfl, rfl, rfl, rfl, rfl, rfl, rfl⟩, rfl, rfl⟩
    · rw [if_neg (show ¬ (List.take 4 (List.drop (pl + ln) B) ≠ crlf2) from fun x => x h3), if_pos h4] at hR
      rw [← hR]
      exact ⟨⟨rfl, rfl, rfl, rfl, rfl, rfl, rfl⟩, rfl, rfl⟩
    · have := bb.1
      refine ⟨fun x hx => ?_, ?_, ?_, ?_, ?_, ?_, ?_, ?_, ?_, ?_⟩
      · have := p8 x hx
        omega
      all_goals simp only
      all_goals omega
    · rw [if_neg (show ¬ (List.take 4 (List.drop (pl + ln) B) ≠ crlf2) from fun x => x h3), if_neg (fun x => x h4), if_pos h5] at hR
      rw [← hR]
      exact ⟨⟨rfl, rfl, rfl, rfl, rfl, rfl, rfl⟩, rfl, rfl⟩
    · rw [if_neg (show ¬ (List.take 4 (List.drop (pl + ln) B) ≠ crlf2) from fun x => x h3), if_neg (fun x => x h4), if_neg (fun x => x h5)] at hR
      rw [← hR]
      exact ⟨⟨rfl, rfl, rfl, rfl, rfl, ⟨rfl, fun _ _ => rfl⟩, bb.1, bb.2⟩, rfl, rfl⟩
  · cases h
theorem conReadOne : Con pg 9 ckReadOne := by
  have hct := (ctA_ok conReadOne0 (ctN_ok _))
  intro args q r h hq
  unfold ckReadOne at h
  split at h
  · cases h
    rename_i n f a
    refine pcall_args (args' := [.sl (bytesOf n f).length (byF (bytesOf n f)), .int .i64 a]) ⟨isBy.vle hq.1, VLe.refl _, trivial⟩ ?_
    obtain ⟨-, hn⟩ := hq
    have hl := bytesOf_len n f
    rw [← hl] at hn
    generalize bytesOf n f = B at hn ⊢
    clear hl
    refine w9 (fun _ => false) [] rfl hct rfl rfl ?_
    push_cast (config := { maxSteps := 10000000 })
    generalize hR : rdOneR B a = R
    unfold rdOneR at hR
    refine ⟨fun h => ?_, fun h => ⟨⟨by omega, by omega, by omega⟩, ?_⟩⟩
    · rw [if_pos (by omega)] at hR
      rw [← hR]
      exact ⟨⟨rfl, rfl, rfl, rfl, rfl, rfl, rfl⟩, rfl, rfl⟩
    · rw [if_neg (by omega)] at hR
      rw [← hR]
      exact ⟨⟨rfl, rfl, rfl, rfl, rfl, ⟨rfl, fun _ _ => rfl⟩, rfl, fun _ _ => rfl⟩, rfl, rfl⟩
  · cases h

theorem eq_take {α : Type} [DecidableEq α] {d : α} {a b : List α} (h : a.length = b.length) (hh : ∀ j, j < a.length → a.getD j d = b.getD j d) : a = b := by
  apply List.ext_getElem h
  intro i h1 h2
  have := hh i h1
  rwa [List.getD_eq_getElem?_getD, List.getD_eq_getElem?_getD, List.getElem?_eq_getElem h1, List.getElem?_eq_getElem h2] at this
theorem ne_at {α : Type} {d : α} {a b : List α} {i : Nat} (h : a.getD i d ≠ b.getD i d) : a ≠ b := fun e => h (by rw [e])
def ckEqHd : Ck
  | [.sl n f, .sl m g] => some (isLs cHd n f ∧ isLs cHd m g ∧ n ≤ 4611686018427387904, .bool (decide (lsOf cHd n f = lsOf cHd m g)))
  | _ => none
theorem conEqHd : Con pg 19 ckEqHd := by
  have hct := ctN_ok pg
  intro args q r h hq
  unfold ckEqHd at h
  split at h
  · cases h
    rename_i n f m g
    refine pcall_args (args' := [.sl (lsOf cHd n f).length (lsF cHd (lsOf cHd n f)), .sl (lsOf cHd m g).length (lsF cHd (lsOf cHd m g))]) ⟨isLs.vle hq.1, isLs.vle hq.2.1, trivial⟩ ?_
    have hn : (lsOf cHd n f).length ≤ 4611686018427387904 := by rw [lsOf_len]; exact hq.2.2
    generalize lsOf cHd n f = a at hn ⊢
    generalize lsOf cHd m g = b
    refine w19 (fun _ => false) [] rfl hct rfl rfl ?_
    push_cast (config := { maxSteps := 10000000 })
    refine ⟨fun h => ?_, fun h => ?_⟩
    · exact (decide_eq_false fun e => h (by rw [e])).symm
    refine LoopW.adj ⟨hct, fol⟩ (by kernel_rfl) [] (fun i : Nat => [(0, .sl a.length (lsF cHd a)), (1, .sl b.length (lsF cHd b)), (12, .int .i64 a.length), (13, .int .i64 i)]) (fun _ => []) (fun i => i ≤ a.length ∧ ∀ j, j < i → a.getD j ⟨[], []⟩ = b.getD j ⟨[], []⟩) (fun i => a.length - i) 0 ?_ fun i hi => ?_
    · push_cast (config := { maxSteps := 10000000 })
      exact Nat.zero_le _
    · push_cast (config := { maxSteps := 10000000 })
      obtain ⟨h1, h2⟩ := hi
      refine ⟨fun hlt => ⟨hlt, by omega, fun hne => ?_, fun he => ⟨by omega, i + 1, ⟨by omega, fun j hj => ?_⟩, by omega, by omega⟩⟩, fun hge => ?_⟩
      · exact (decide_eq_false (ne_at (d := ⟨[], []⟩) (i := i) fun e => hne (by rw [e]) (by rw [e]))).symm
      · by_cases e : j = i
        · subst e
          have e1 : ∀ x y : Hd, x.name = y.name → x.value = y.value → x = y := fun x y h h' => by cases x; cases y; simp_all
          exact e1 _ _ he.1 he.2
        · exact h2 j (by omega)
      · exact (decide_eq_true (eq_take (d := ⟨[], []⟩) (by omega) fun j hj => h2 j (by omega))).symm
  · cases h
attribute [push_cast] ckEqHd

def ckSame6 : Ck
  | [.agg [.int .i64 k1, .str i1, .str o1, .int .i64 t1, .str e1, .sl n f, .sl m g], .agg [.int .i64 k2, .str i2, .str o2, .int .i64 t2, .str e2, .sl n' f', .sl m' g']] => some (isLs cHd n f ∧ isLs cHd n' f' ∧ n ≤ 4611686018427387904 ∧ isBy m g ∧ isBy m' g', .bool (decide ((⟨k1, i1, o1, t1, e1, lsOf cHd n f, bytesOf m g⟩ : Rcd) = ⟨k2, i2, o2, t2, e2, lsOf cHd n' f', bytesOf m' g'⟩)))
  | _ => none
theorem conSame6 : Con pg 10 ckSame6 := by
  have hct := (ctA_ok conEqHd (ctA_ok conBEqual (ctN_ok _)))
  intro args q r h hq
  unfold ckSame6 at h
  split at h
  · cases h
    rename_i k1 i1 o1 t1 e1 n f m g k2 i2 o2 t2 e2 n' f' m' g'
    refine w10 (fun _ => false) [] rfl hct rfl rfl ?_
    push_cast (config := { maxSteps := 10000000 })
    obtain ⟨h1, h2, h3, h4, h5⟩ := hq
    refine ⟨fun h => ⟨h, h1, h2, h3⟩, fun h => ⟨h, h4, h5⟩, ?_⟩
    rw [Bool.eq_iff_iff]
    simp only [Bool.and_eq_true, beq_iff_eq, decide_eq_true_eq, Rcd.mk.injEq, and_assoc]
  · cases h
attribute [push_cast] ckSame6
def ckSameAll : Ck
  | [.sl n f, .sl m g] => some (isLs cRec n f ∧ isLs cRec m g ∧ n ≤ 1000000 ∧ (∀ r ∈ lsOf cRec n f, r.hd.length ≤ 4611686018427387904), .bool (decide (lsOf cRec n f = lsOf cRec m g)))
  | _ => none
attribute [push_cast] ckSameAll
def ckWritten : Ck
  | [x] => some (isC cRec x ∧ recOk (cRec.dec x) ∧ checkRecL (cRec.dec x) = 0, .sl (recB (cRec.dec x)).length (byF (recB (cRec.dec x))))
  | _ => none
attribute [push_cast] ckWritten
def recR (r : Rcd) : List UInt8 := if checkRecL r = 0 then recB r else []
def digR (r : Rcd) : List UInt8 := if checkRecL r = 0 then digestL r.bd else []
def ckRecBytes : Ck
  | [x] => some (isC cRec x ∧ recOk (cRec.dec x), .tup [.sl (recR (cRec.dec x)).length (byF (recR (cRec.dec x))), .int .i64 (checkRecL (cRec.dec x))])
  | _ => none
theorem conRecBytes : Con pg 4 ckRecBytes := by
  have hct := (ctA_ok conCheckRec (ctA_ok conWrite (ctN_ok _)))
  intro args q r h hq
  unfold ckRecBytes at h
  split at h
  · cases h
    rename_i x
    refine pcall_args (args' := [cRec.enc (cRec.dec x)]) ⟨hq.1, trivial⟩ ?_
    obtain ⟨-, ha⟩ := hq
    generalize cRec.dec x = r at ha ⊢
    refine w4 (fun _ => false) [] rfl hct rfl rfl ?_
    push_cast (config := { maxSteps := 10000000 })
    have e : checkRecL r = 0 → recR r = recB r := fun h => by unfold recR; rw [if_pos h]
    refine ⟨ha, fun h => by unfold recR; rw [if_neg h]; rfl, fun h => ⟨⟨ha, h⟩, ?_, h.symm⟩⟩
    rw [e h]
    exact ⟨rfl, fun _ _ => rfl⟩
  · cases h
attribute [push_cast] ckRecBytes
def ckDigestOf : Ck
  | [x] => some (isC cRec x ∧ recOk (cRec.dec x), .tup [.str (digR (cRec.dec x)), .int .i64 (checkRecL (cRec.dec x))])
  | _ => none
attribute [push_cast] ckDigestOf
def recA : Rcd := ⟨1, [97], [], 0, [107], [], []⟩
def ckDigNil : Ck
  | [.agg [.int .i64 1, .str [97], .str [], .int .i64 0, .str [107], .nilsl, .nilsl]] => some (True, .tup [.str (digR recA), .int .i64 (checkRecL recA)])
  | _ => none
attribute [push_cast] ckDigNil
def ckAwake6 : Ck
  | [] => some (True, .bool true)
  | _ => none
attribute [push_cast] ckAwake6
/- lists of things as arguments, cell by cell -/
theorem VLe.slV {n : Nat} {f g : Nat → V} (h : ∀ i, i < n → (g i).flat.length = (f i).flat.length ∧ ∀ j, j < (f i).flat.length → VLe ((f i).flat.getD j .any) ((g i).flat.getD j .any) ∧ ((g i).flat.getD j .any).isPure = true) : VLe (.sl n f) (.sl n g) := by
  intro γ imm w v hr
  cases inv_sl (S := ⟨γ, imm, fun _ => none, w⟩) hr with
  | sl0 _ a c => exact .pure (.sl0 _ a c)
  | sl _ _ b off c sz u hb hnc hs hf hc ho hp =>
    refine .pure (.sl n g b off c sz u hb hnc hs (fun i hi => (h i hi).1.trans (hf i hi)) hc ho (fun i j hi hj => ?_))
    have hj' : j < (f i).flat.length := by rw [hf i hi]; exact hj
    obtain ⟨h1, h2⟩ := (h i hi).2 j hj'
    exact isPure_rep (S := ⟨γ, imm, fun _ => none, w⟩) (h1 _ _ _ _ (.pure (hp i j hi hj))) h2
def isLv {α : Type} (c : Cod α) (n : Nat) (f : Nat → V) : Prop := VLe (.sl n f) (.sl (lsOf c n f).length (lsF c (lsOf c n f)))
/-- a thing's cells say what its code says -/
def isE {α : Type} (c : Cod α) (v : V) : Prop := (c.enc (c.dec v)).flat.length = v.flat.length ∧ ∀ j, j < v.flat.length → VLe (v.flat.getD j .any) ((c.enc (c.dec v)).flat.getD j .any) ∧ ((c.enc (c.dec v)).flat.getD j .any).isPure = true
theorem shListE {α : Type} {c : Cod α} {s : Sh} {p : α → Prop} (hs : ∀ m v, s.has m v → isE c v ∧ p (c.dec v)) {m : Nat} {v : V} (h : Sh.has (.list s) m v) : ∃ (n : Nat) (f : Nat → V), v = .sl n f ∧ isLv c n f ∧ n ≤ 140737488355328 ∧ ∀ a ∈ lsOf c n f, p a := by
  obtain ⟨l, ms, rfl, h1, h2, h3, h4⟩ := h
  have := reach_le
  refine ⟨_, _, rfl, ?_, by omega, fun a ha => ?_⟩
  · unfold isLv
    rw [lsOf_len]
    refine VLe.slV fun i hi => ?_
    have hE := (hs _ _ (h4 i hi)).1
    have e2 : lsF c (lsOf c l.length (litF l)) i = c.enc (c.dec (litF l i)) := by
      unfold lsF lsOf
      rw [List.getD_eq_getElem?_getD, List.getElem?_map, List.getElem?_range hi]; rfl
    rw [e2]
    exact hE
  · simp only [lsOf, List.mem_map, List.mem_range] at ha
    obtain ⟨i, hi, rfl⟩ := ha
    exact (hs _ _ (h4 i hi)).2

/- lists of records as arguments -/
theorem shRecX {m : Nat} {v : V} (h : Sh.has (.tup [.int .i64, .str, .str, .int .i64, .str, .list (.tup [.str, .str]), .list (.int .u8)]) m v) : ∃ ki id ow ti ke n f k g, v = .agg [.int .i64 ki, .str id, .str ow, .int .i64 ti, .str ke, .sl n f, .sl k g] ∧ isLs cHd n f ∧ isBy k g := by
  obtain ⟨l, ms, rfl, -, hl⟩ := h
  obtain ⟨m1, v1, ms, l, rfl, h1, hl⟩ := hasL_cons hl
  obtain ⟨m2, v2, ms, l, rfl, h2, hl⟩ := hasL_cons hl
  obtain ⟨m3, v3, ms, l, rfl, h3, hl⟩ := hasL_cons hl
  obtain ⟨m4, v4, ms, l, rfl, h4, hl⟩ := hasL_cons hl
  obtain ⟨m5, v5, ms, l, rfl, h5, hl⟩ := hasL_cons hl
  obtain ⟨m6, v6, ms, l, rfl, h6, hl⟩ := hasL_cons hl
  obtain ⟨m7, v7, ms, l, rfl, h7, hl⟩ := hasL_cons hl
  obtain rfl := hasL_nil hl
  obtain ⟨ki, rfl, c1⟩ := shInt h1
  obtain ⟨id, rfl, b2⟩ := shStr h2
  obtain ⟨ow, rfl, b3⟩ := shStr h3
  obtain ⟨ti, rfl, c4⟩ := shInt h4
  obtain ⟨ke, rfl, b5⟩ := shStr h5
  obtain ⟨n, f, rfl, i6, b6, k6⟩ := shList (c := cHd) (fun m v h => shHead h) h6
  obtain ⟨k, g, rfl, i7, b7⟩ := shBytes h7
  exact ⟨ki, id, ow, ti, ke, n, f, k, g, rfl, i6, i7⟩
theorem shRecs {m : Nat} {v : V} (h : Sh.has (.list (.tup [.int .i64, .str, .str, .int .i64, .str, .list (.tup [.str, .str]), .list (.int .u8)])) m v) : ∃ (n : Nat) (f : Nat → V), v = .sl n f ∧ isLv cRec n f ∧ n ≤ 140737488355328 ∧ recsOk (lsOf cRec n f) := by
  obtain ⟨l, ms, rfl, h1, h2, h3, h4⟩ := h
  have := reach_le
  refine ⟨_, _, rfl, ?_, by omega, fun a ha => ?_⟩
  · unfold isLv
    rw [lsOf_len]
    refine VLe.slV fun i hi => ?_
    obtain ⟨ki, id, ow, ti, ke, n, f, k, g, e, i6, i7⟩ := shRecX (h4 i hi)
    have e : litF l i = _ := e
    have e2 : lsF cRec (lsOf cRec l.length (litF l)) i = cRec.enc (cRec.dec (litF l i)) := by
      unfold lsF lsOf
      rw [List.getD_eq_getElem?_getD, List.getElem?_map, List.getElem?_range hi]; rfl
    rw [e2, e]
    refine ⟨rfl, fun j hj => ?_⟩
    match j, hj with
    | 0, _ => exact ⟨VLe.refl _, rfl⟩
    | 1, _ => exact ⟨VLe.refl _, rfl⟩
    | 2, _ => exact ⟨VLe.refl _, rfl⟩
    | 3, _ => exact ⟨VLe.refl _, rfl⟩
    | 4, _ => exact ⟨VLe.refl _, rfl⟩
    | 5, _ => exact ⟨isLs.vle i6, rfl⟩
    | 6, _ => exact ⟨isBy.vle i7, rfl⟩
  · simp only [lsOf, List.mem_map, List.mem_range] at ha
    obtain ⟨i, hi, rfl⟩ := ha
    exact (shRec (h4 i hi)).2

/-- a mark -/
structure Mk where
  id : List UInt8
  fr : Int
  en : Int
deriving DecidableEq
def noMk : Mk := ⟨[], 0, 0⟩
def decMk : V → Mk
  | .agg [.str id, .int _ fr, .int _ en] => ⟨id, fr, en⟩
  | _ => noMk
def cMk : Cod Mk := ⟨fun a => .agg [.str a.id, .int .i64 a.fr, .int .i64 a.en], decMk, noMk, fun a => rfl⟩
@[push_cast] theorem enc_mk (a : Mk) : cMk.enc a = .agg [.str a.id, .int .i64 a.fr, .int .i64 a.en] := rfl
@[push_cast] theorem dec_mk (k k' : IntKind) (fr en : Int) (id : List UInt8) : cMk.dec (.agg [.str id, .int k fr, .int k' en]) = ⟨id, fr, en⟩ := rfl
@[push_cast] theorem lsF_mk (l : List Mk) (i : Nat) : lsF cMk l i = .agg [.str (l.getD i noMk).id, .int .i64 (l.getD i noMk).fr, .int .i64 (l.getD i noMk).en] := rfl
theorem lnA_ge {B : List UInt8} {a : Nat} (w : List UInt8) (acc : List UInt8 → Bool) (h : a ≤ B.length) : a ≤ lnA B a w acc := by
  unfold lnA lnR lineOk
  split
  · rename_i g
    simp only [Bool.and_eq_true] at g
    have := ln_fit h g.1.1; omega
  · exact Nat.le_refl _
theorem wholeA_ge {B : List UInt8} {a : Nat} (w : List UInt8) (h : a ≤ B.length) : a ≤ wholeA B a w := by
  unfold wholeA wholeB
  split
  · rename_i g
    simp only [Bool.and_eq_true] at g
    have := ln_fit h g.1; omega
  · exact Nat.le_refl _
theorem hds_ge {B : List UInt8} : ∀ (k : Nat) (a : Nat) (l : List Hd), a ≤ B.length → a ≤ (hdsR B k a l).2.1
  | 0, a, l, h => Nat.le_refl _
  | k + 1, a, l, h => by
    rw [hdsR]
    split
    · exact Nat.le_refl _
    · split
      · rename_i g
        simp only [Bool.and_eq_true] at g
        have hf := ln_fit h g.1
        have := hds_ge k (lnN B a) (l ++ [hdV (lnS B a)]) hf.2.1
        omega
      · exact Nat.le_refl _
theorem linesD_ge {B : List UInt8} {x : Rp} {h : List Hd} (hx : x.pl ≤ B.length) : x.pl ≤ (linesD B x h).2.1.pl := by
  have b1 := lnA_ge wLng (fun v => digL v 9) hx
  have c1 := lnA_le wLng (fun v => digL v 9) hx
  have b2 := lnA_ge wDig dgB c1
  have c2 := lnA_le wDig dgB c1
  have b3 := wholeA_ge [] c2
  unfold linesD
  split
  · exact b1
  split
  · exact Nat.le_trans b1 b2
  · exact Nat.le_trans b1 (Nat.le_trans b2 b3)
theorem linesC_ge {B : List UInt8} {x : Rp} (hx : x.pl ≤ B.length) : x.pl ≤ (linesC B B.length x).2.1.pl := by
  have b1 := lnA_ge wKind kindB hx
  have c1 := lnA_le wKind kindB hx
  have b2 := lnA_ge wDate rdB c1
  have c2 := lnA_le wDate rdB c1
  have b3 := lnA_ge wKey (fun _ => true) c2
  have c3 := lnA_le wKey (fun _ => true) c2
  have b4 := hds_ge (B.length + 1) _ [] c3
  have c4 := (hds_le (B := B) (B.length + 1) _ [] c3 (nohds _) (Nat.zero_le _)).1
  unfold linesC
  dsimp only
  split
  · exact b1
  split
  · exact Nat.le_trans b1 b2
  split
  · exact Nat.le_trans b1 (Nat.le_trans b2 b3)
  split
  · exact Nat.le_trans b1 (Nat.le_trans b2 (Nat.le_trans b3 b4))
  · exact Nat.le_trans b1 (Nat.le_trans b2 (Nat.le_trans b3 (Nat.le_trans b4 (linesD_ge (x := ⟨_, _, _, _, _, _, _, _⟩) c4))))
theorem linesL_ge {B : List UInt8} {x : Rp} (hx : x.pl ≤ B.length) : x.pl ≤ (linesL B B.length x).2.1.pl := by
  have b1 := wholeA_ge wKept0 hx
  have c1 := wholeA_le wKept0 hx
  have b2 := lnA_ge wId (fun _ => true) c1
  have c2 := lnA_le wId (fun _ => true) c1
  have b3 := lnA_ge wOf ofB c2
  have c3 := lnA_le wOf ofB c2
  unfold linesL
  dsimp only
  split
  · exact b1
  split
  · exact Nat.le_trans b1 b2
  split
  · split
    · exact Nat.le_trans b1 (Nat.le_trans b2 b3)
    · exact Nat.le_trans b1 (Nat.le_trans b2 (Nat.le_trans b3 (linesC_ge (x := ⟨_, _, _, _, _, _, _, _⟩) c3)))
  · exact Nat.le_trans b1 (Nat.le_trans b2 (linesC_ge (x := ⟨_, _, _, _, _, _, _, _⟩) c2))
/-- what is read is small, and lies behind the place -/
theorem rdOne_fit {B : List UInt8} {a : Nat} (hB : B.length ≤ 500000) (ha : a ≤ B.length) : recOk (rdOne B a).1 ∧ ((rdOne B a).2.2 = 0 → (a : Int) + 4 ≤ (rdOne B a).2.1 ∧ (rdOne B a).2.1 ≤ B.length ∧ checkRecL (rdOne B a).1 = 0) := by
  have lk := linesL_ok (B := B) (rp0_ok (n := B.length) (a := a) ha)
  have lg : a ≤ (linesL B B.length (rp0 a)).2.1.pl := linesL_ge (x := rp0 a) ha
  unfold rdOne
  generalize linesL B B.length (rp0 a) = L at lk lg
  obtain ⟨ok, ⟨pl, ki, id, ow, ti, ke, ln, dg⟩, hs⟩ := L
  obtain ⟨⟨p1, ⟨p2, p2'⟩, p3, p4, ⟨p5, p5'⟩, p6, ⟨p7, p7'⟩⟩, p8, p9⟩ := lk
  simp only at lg p1 p2 p2' p3 p4 p5 p5' p6 p7 p7' p8 p9
  have no : recOk noRec := ⟨fun x hx => (by cases hx), by decide, by decide, by decide, by decide, by decide, by decide, by decide, by decide, by decide⟩
  dsimp only
  split
  · exact ⟨no, fun h => (by simp at h)⟩
  split
  · exact ⟨no, fun h => (by simp at h)⟩
  split
  · exact ⟨no, fun h => (by simp at h)⟩
  split
  · exact ⟨no, fun h => (by simp at h)⟩
  split
  · rename_i h
    exact ⟨no, fun h' => absurd h' h⟩
  · rename_i h1 h2 h3 h4 h5
    refine ⟨⟨fun x hx => ?_, ?_, ?_, ?_, ?_, ?_, ?_, ?_, ?_, ?_⟩, fun _ => ⟨?_, ?_, Classical.not_not.1 h5⟩⟩
    · have := p8 x hx
      omega
    all_goals simp only
    all_goals (try (rw [List.length_take, List.length_drop]))
    all_goals omega
/-- a file, read -/
def rfGo (B : List UInt8) : Nat → Nat → List Rcd → List Mk → List Rcd × List Mk × Int × Int
  | 0, _, _, _ => ([], [], 0, 0)
  | k + 1, a, l, m => if a < B.length then (if (rdOne B a).2.2 = 0 then rfGo B k (rdOne B a).2.1.toNat (l ++ [(rdOne B a).1]) (m ++ [⟨(rdOne B a).1.id, a, (rdOne B a).2.1⟩]) else ([], [], (rdOne B a).2.1, (rdOne B a).2.2)) else if checkFileL l = 0 then (l, m, 0, 0) else ([], [], 0, checkFileL l)
def readFileL (B : List UInt8) : List Rcd × List Mk × Int × Int := if 500000 < B.length then ([], [], 0, 2) else rfGo B (B.length + 1) 0 [] []
def ckReadFile0 : Ck
  | [.sl n f] => some (isBy n f ∧ n ≤ 140737488355328, .tup [.sl (readFileL (bytesOf n f)).1.length (lsF cRec (readFileL (bytesOf n f)).1), .sl (readFileL (bytesOf n f)).2.1.length (lsF cMk (readFileL (bytesOf n f)).2.1), .int .i64 (readFileL (bytesOf n f)).2.2.1, .int .i64 (readFileL (bytesOf n f)).2.2.2])
  | _ => none
def ckReadFile : Ck
  | [.sl n f] => some (isBy n f ∧ n ≤ 140737488355328, .tup [.sl (readFileL (bytesOf n f)).1.length (lsF cRec (readFileL (bytesOf n f)).1), .int .i64 (readFileL (bytesOf n f)).2.2.1, .int .i64 (readFileL (bytesOf n f)).2.2.2])
  | _ => none
def ckMarks : Ck
  | [.sl n f] => some (isBy n f ∧ n ≤ 140737488355328, .tup [.sl (readFileL (bytesOf n f)).2.1.length (lsF cMk (readFileL (bytesOf n f)).2.1), .int .i64 (readFileL (bytesOf n f)).2.2.2])
  | _ => none
attribute [push_cast] ckReadFile0 ckReadFile ckMarks

def ckWriteHeadsK : List V → List Blk → Option (Prop × V × List Blk)
  | [.vec i n, .sl m f], [.vec 1 k g] => some (k = n ∧ isBy n g ∧ isLs cHd m f ∧ n ≤ 1000000 ∧ m ≤ 1000000 ∧ (headsB (lsOf cHd m f)).length ≤ 100000000000, .vec i (n + (headsB (lsOf cHd m f)).length + 2), [.vec 1 (n + (headsB (lsOf cHd m f)).length + 2) (byF (bytesOf n g ++ headsB (lsOf cHd m f) ++ [13, 10]))])
  | _, _ => none
def ckWriteHeads : Cf := ⟨fun | [.vec i _, _] => [i] | _ => [], ckWriteHeadsK⟩
@[push_cast] theorem wh_ids (i n : Nat) (x : V) : ckWriteHeads.ids [.vec i n, x] = [i] := rfl
@[push_cast] theorem wh_k (i n : Nat) (m : Nat) (f : Nat → V) (k : Nat) (g : Nat → V) : ckWriteHeads.k [.vec i n, .sl m f] [.vec 1 k g] = some (k = n ∧ isBy n g ∧ isLs cHd m f ∧ n ≤ 1000000 ∧ m ≤ 1000000 ∧ (headsB (lsOf cHd m f)).length ≤ 100000000000, .vec i (n + (headsB (lsOf cHd m f)).length + 2), [.vec 1 (n + (headsB (lsOf cHd m f)).length + 2) (byF (bytesOf n g ++ headsB (lsOf cHd m f) ++ [13, 10]))]) := rfl

def reqP (a : Inq) : List UInt8 := a.me ++ [32] ++ a.tg ++ [32, 87, 69, 66, 47, 49, 13, 10]
def reqB (a : Inq) : List UInt8 := reqP a ++ headsB a.hd ++ [13, 10] ++ a.bd
def reqA (a : Inq) : List UInt8 := if checkInqL a = 0 then reqB a else []
theorem inq_ok {a : Inq} (h : checkInqL a = 0) : a.me.length ≤ 40 ∧ a.tg.length ≤ 2000 ∧ a.hd.length ≤ 100 ∧ (headsB a.hd).length ≤ 104400 ∧ a.bd.length ≤ 200000 := by
  unfold checkInqL at h
  split at h
  · rename_i h1
    split at h
    · rename_i h2
      split at h
      · rename_i h3
        split at h
        · simp only [tokL, targetL, Bool.and_eq_true, decide_eq_true_eq] at h1 h2
          exact ⟨by omega, by omega, heads_100 h3, heads_le h3, by omega⟩
        · omega
      · omega
    · omega
  · omega
def ckReq : Ck
  | [x] => some (isC cInq x ∧ inqOk (cInq.dec x), .tup [.sl (reqA (cInq.dec x)).length (byF (reqA (cInq.dec x))), .int .i64 (checkInqL (cInq.dec x))])
  | _ => none
attribute [push_cast] ckReq
def bareL (s : List UInt8) : Bool := s.all fun c => decide (c ≠ 13) && decide (c ≠ 10)
theorem crlf_pre (c : UInt8) (t : List UInt8) : crlf.isPrefixOf (c :: t) = true ↔ c = 13 ∧ t.getD 0 0 = 10 ∧ 0 < t.length := by
  cases t with
  | nil => simp [crlf, List.isPrefixOf]
  | cons d t => simp [crlf, List.isPrefixOf]; exact ⟨fun h => ⟨h.1.symm, h.2.symm⟩, fun h => ⟨h.1.symm, h.2.symm⟩⟩
theorem lineS_idx : ∀ r : List UInt8, lineS r = if 0 ≤ Lib.index r crlf ∧ bareL (r.take (Lib.index r crlf).toNat) = true then some (r.take (Lib.index r crlf).toNat) else none
  | [] => by
    have e : Lib.index [] crlf = -1 := by rw [Lib.index]; rfl
    rw [e, if_neg (by omega)]; rfl
  | c :: t => by
    have ih := lineS_idx t
    have hp := crlf_pre c t
    have hge := Lib.index_ge t crlf
    rw [lineS, Lib.index]
    by_cases h : crlf.isPrefixOf (c :: t) = true
    · obtain ⟨h1, h2, h3⟩ := hp.1 h
      rw [if_pos h, if_pos h1, if_pos ⟨h2, h3⟩, if_pos ⟨by omega, rfl⟩]
      rfl
    · rw [if_neg h]
      by_cases hm : (Lib.index t crlf == -1) = true
      · rw [if_pos hm]
        rw [show (if 0 ≤ (-1 : Int) ∧ bareL ((c :: t).take (-1 : Int).toNat) = true then some ((c :: t).take (-1 : Int).toNat) else none) = none from if_neg (fun x => by have := x.1; omega)]
        rw [beq_iff_eq] at hm
        rw [if_neg (fun x => by have := x.1; omega)] at ih
        by_cases h1 : c = 13
        · rw [if_pos h1, if_neg (fun x => h (hp.2 ⟨h1, x.1, x.2⟩))]
        rw [if_neg h1, ih]
        by_cases h2 : c = 10
        · rw [if_pos h2]
        · rw [if_neg h2]; rfl
      · rw [if_neg hm]
        have hn : Lib.index t crlf ≠ -1 := fun e => hm (beq_iff_eq.2 e)
        rw [show (Lib.index t crlf + 1).toNat = (Lib.index t crlf).toNat + 1 by omega, List.take_succ_cons]
        by_cases h1 : c = 13
        · rw [if_pos h1, if_neg (fun x => h (hp.2 ⟨h1, x.1, x.2⟩)), if_neg]
          rintro ⟨_, x⟩
          unfold bareL at x
          rw [List.all_cons, Bool.and_eq_true] at x
          subst h1
          exact absurd x.1 (by decide)
        rw [if_neg h1]
        by_cases h2 : c = 10
        · rw [if_pos h2, if_neg]
          rintro ⟨_, x⟩
          unfold bareL at x
          rw [List.all_cons, Bool.and_eq_true] at x
          subst h2
          exact absurd x.1 (by decide)
        rw [if_neg h2, ih]
        have eb : bareL (c :: t.take (Lib.index t crlf).toNat) = bareL (t.take (Lib.index t crlf).toNat) := by
          unfold bareL
          rw [List.all_cons, decide_eq_true h1, decide_eq_true h2]; rfl
        rw [eb]
        by_cases hb : bareL (t.take (Lib.index t crlf).toNat) = true
        · rw [if_pos ⟨by omega, hb⟩, if_pos ⟨by omega, hb⟩]; rfl
        · rw [if_neg (fun x => hb x.2), if_neg (fun x => hb x.2)]; rfl

/- a request is read as it was written -/
theorem lineS_app : ∀ (s r : List UInt8), bareL s = true → lineS (s ++ [13, 10] ++ r) = some s
  | [], r, _ => by
    show lineS (13 :: 10 :: r) = some []
    rw [lineS, if_pos rfl, if_pos ⟨rfl, by simp⟩]
  | c :: t, r, h => by
    unfold bareL at h
    rw [List.all_cons, Bool.and_eq_true, Bool.and_eq_true, decide_eq_true_eq, decide_eq_true_eq] at h
    have ih := lineS_app t r h.2
    show lineS (c :: (t ++ [13, 10] ++ r)) = _
    rw [lineS, if_neg h.1.1, if_neg h.1.2, ih]; rfl
theorem lineS_inv : ∀ {l s : List UInt8}, lineS l = some s → l = s ++ [13, 10] ++ l.drop (s.length + 2)
  | [], s, h => by cases h
  | c :: t, s, h => by
    rw [lineS] at h
    split at h
    · split at h
      · rename_i h1 h2
        cases h
        subst h1
        match t, h2 with
        | d :: u, h2 =>
          have e : d = 10 := by simpa using h2.1
          subst e; rfl
      · cases h
    · split at h
      · cases h
      · cases ht : lineS t with
        | none => rw [ht] at h; cases h
        | some z =>
          rw [ht] at h; cases h
          have ih := lineS_inv ht
          simp only [List.length_cons, List.cons_append]
          rw [show z.length + 1 + 2 = (z.length + 2) + 1 by omega, List.drop_succ_cons]
          congr 1
theorem ln_app {p s r : List UInt8} (h : bareL s = true) : lnB (p ++ (s ++ [13, 10] ++ r)) p.length = true ∧ lnS (p ++ (s ++ [13, 10] ++ r)) p.length = s ∧ lnN (p ++ (s ++ [13, 10] ++ r)) p.length = (p ++ (s ++ [13, 10])).length := by
  have e : lineS ((p ++ (s ++ [13, 10] ++ r)).drop p.length) = some s := by rw [List.drop_left]; exact lineS_app s r h
  unfold lnB lnS lnN
  rw [e]
  refine ⟨rfl, rfl, ?_⟩
  simp; omega
theorem bare_app (a b : List UInt8) : bareL (a ++ b) = (bareL a && bareL b) := by unfold bareL; rw [List.all_append]
theorem all_imp {s : List UInt8} {p q : UInt8 → Bool} (h : s.all p = true) (hi : ∀ c, p c = true → q c = true) : s.all q = true := by
  rw [List.all_eq_true] at h ⊢
  exact fun x hx => hi x (h x hx)
theorem u8_all {P : UInt8 → Prop} (h : ∀ n, n < 256 → P (UInt8.ofNat n)) (c : UInt8) : P c := by
  have := h c.toNat (UInt8.toNat_lt c)
  simpa using this
theorem tok_plain (c : UInt8) : tokB c = true → c ≠ 13 ∧ c ≠ 10 ∧ c ≠ 32 ∧ c ≠ 58 := by
  refine u8_all (P := fun c => tokB c = true → c ≠ 13 ∧ c ≠ 10 ∧ c ≠ 32 ∧ c ≠ 58) ?_ c
  decide +kernel
theorem val_plain (c : UInt8) : valB c = true → c ≠ 13 ∧ c ≠ 10 := by
  refine u8_all (P := fun c => valB c = true → c ≠ 13 ∧ c ≠ 10) ?_ c
  decide +kernel
theorem tg_plain (c : UInt8) : tgB c = true → c ≠ 13 ∧ c ≠ 10 ∧ c ≠ 32 := by
  refine u8_all (P := fun c => tgB c = true → c ≠ 13 ∧ c ≠ 10 ∧ c ≠ 32) ?_ c
  decide +kernel
theorem spl_no (c : UInt8) : ∀ s : List UInt8, (∀ x ∈ s, x ≠ c) → spl c s = [s]
  | [], _ => rfl
  | x :: t, h => by
    rw [spl, if_neg (h x (by simp)), spl_no c t fun y hy => h y (by simp [hy])]; rfl
theorem spl_cut (c : UInt8) : ∀ (s r : List UInt8), (∀ x ∈ s, x ≠ c) → spl c (s ++ c :: r) = s :: spl c r
  | [], r, _ => by show spl c (c :: r) = _; rw [spl, if_pos rfl]
  | x :: t, r, h => by
    show spl c (x :: (t ++ c :: r)) = _
    rw [spl, if_neg (h x (by simp)), spl_cut c t r fun y hy => h y (by simp [hy])]; rfl
theorem idx_colon : ∀ (n v : List UInt8), (∀ x ∈ n, x ≠ 58) → Lib.index (n ++ 58 :: 32 :: v) [58, 32] = n.length
  | [], v, _ => by
    show Lib.index (58 :: 32 :: v) [58, 32] = 0
    rw [Lib.index, if_pos (by simp [List.isPrefixOf])]
  | x :: t, v, h => by
    have ih := idx_colon t v fun y hy => h y (by simp [hy])
    have hx := h x (by simp)
    show Lib.index (x :: (t ++ 58 :: 32 :: v)) [58, 32] = _
    have hp : ([58, 32] : List UInt8).isPrefixOf (x :: (t ++ 58 :: 32 :: v)) = false := by simp [List.isPrefixOf, Ne.symm hx]
    rw [Lib.index, hp, ih]
    have h2 : ((t.length : Int) == -1) = false := by rw [beq_eq_false_iff_ne]; omega
    rw [h2]
    simp
theorem no_colon {n : List UInt8} (h : ∀ x ∈ n, x ≠ 58) : Lib.contains n [58] = false := by
  unfold Lib.contains
  rw [decide_eq_false]
  intro h0
  rcases Lib.index_spec n [58] with ⟨h1, _⟩ | ⟨i, h1, h2, h3, _⟩
  · omega
  · unfold Lib.occAt at h3
    cases hd : n.drop i with
    | nil => rw [hd] at h3; simp [List.isPrefixOf] at h3
    | cons y t =>
      rw [hd] at h3
      have e : (58 : UInt8) = y := by simpa [List.isPrefixOf] using h3
      exact h y (List.mem_of_mem_drop (by rw [hd]; simp)) e.symm
theorem hd_app {h : Hd} (hn : ∀ x ∈ h.name, x ≠ 58) (hne : h.name ≠ []) : hdB (h.name ++ [58, 32] ++ h.value) = true ∧ hdV (h.name ++ [58, 32] ++ h.value) = h := by
  have e : hdCut (h.name ++ [58, 32] ++ h.value) = (h.name, h.value, true) := by
    unfold hdCut Lib.cut
    rw [show h.name ++ [58, 32] ++ h.value = h.name ++ 58 :: 32 :: h.value by simp, idx_colon _ _ hn, if_pos (by omega)]
    simp
  have hB : hdB (h.name ++ [58, 32] ++ h.value) = true := by
    unfold hdB
    rw [e]
    simp only
    rw [no_colon hn, bne_iff_ne.2 hne]; rfl
  refine ⟨hB, ?_⟩
  unfold hdV
  rw [if_pos hB, e]
theorem hd_inv {s : List UInt8} (h : hdB s = true) : s = (hdV s).name ++ [58, 32] ++ (hdV s).value := by
  unfold hdV
  rw [if_pos h]
  unfold hdB at h
  simp only [Bool.and_eq_true] at h
  have h1 := h.1.1
  unfold hdCut Lib.cut at h1 ⊢
  rcases Lib.index_spec s [58, 32] with ⟨h2, _⟩ | ⟨i, h2, h3, h4, _⟩
  · rw [h2, if_neg (by omega)] at h1; cases h1
  · rw [h2, if_pos (by omega)]
    unfold Lib.occAt at h4
    obtain ⟨t, ht⟩ := List.isPrefixOf_iff_prefix.1 h4
    simp only [Int.toNat_natCast]
    have e : s = s.take i ++ s.drop i := (List.take_append_drop i s).symm
    have e2 : s.drop (i + ([58, 32] : List UInt8).length) = t := by
      rw [← List.drop_drop, ← ht]; rfl
    show s = s.take i ++ [58, 32] ++ s.drop (i + ([58, 32] : List UInt8).length)
    rw [e2, List.append_assoc, ht]; exact e
theorem rh_app : ∀ (hd : List Hd) (p : List UInt8) (out : List Hd) (k : Nat) (r : List UInt8), hd.length < k → (∀ h ∈ hd, tokL h.name = true ∧ valueL h.value = true) → rhL (p ++ (headsB hd ++ [13, 10] ++ r)) k p.length out = (out ++ hd, (p ++ (headsB hd ++ [13, 10])).length, true)
  | [], p, out, k + 1, r, _, _ => by
    have h := ln_app (p := p) (s := []) (r := r) rfl
    simp only [List.nil_append] at h
    show rhL (p ++ ([13, 10] ++ r)) (k + 1) p.length out = _
    rw [rhL, if_neg (by simp), h.1, if_neg (by simp), h.2.1, if_pos rfl, h.2.2]
    simp [headsB]
  | x :: t, p, out, k + 1, r, hk, hok => by
    have hx := hok x (by simp)
    have ht := hx.1
    have hv := hx.2
    simp only [tokL, valueL, Bool.and_eq_true, decide_eq_true_eq] at ht hv
    have hbare : bareL (x.name ++ [58, 32] ++ x.value) = true := by
      rw [bare_app, bare_app]
      have b1 : bareL x.name = true := all_imp ht.2 fun c hc => by have := tok_plain c hc; simp [this.1, this.2.1]
      have b2 : bareL x.value = true := all_imp hv.2 fun c hc => by have := val_plain c hc; simp [this.1, this.2]
      rw [b1, b2]; rfl
    have hn : ∀ y ∈ x.name, y ≠ 58 := fun y hy => (tok_plain y (List.all_eq_true.1 ht.2 y hy)).2.2.2
    have hne : x.name ≠ [] := fun e => by rw [e] at ht; simp at ht
    have e : p ++ (headsB (x :: t) ++ [13, 10] ++ r) = p ++ ((x.name ++ [58, 32] ++ x.value) ++ [13, 10] ++ (headsB t ++ [13, 10] ++ r)) := by simp [headsB, headB]
    have h := ln_app (p := p) (s := x.name ++ [58, 32] ++ x.value) (r := headsB t ++ [13, 10] ++ r) hbare
    have hh := hd_app hn hne
    rw [e, rhL, if_neg (by simp; omega), h.1, if_neg (by simp), h.2.1, if_neg (by simp), hh.1, if_neg (by simp), hh.2, h.2.2]
    have ih := rh_app t (p ++ ((x.name ++ [58, 32] ++ x.value) ++ [13, 10])) (out ++ [x]) k r (by simp at hk; omega) fun y hy => hok y (by simp [hy])
    rw [show p ++ ((x.name ++ [58, 32] ++ x.value) ++ [13, 10] ++ (headsB t ++ [13, 10] ++ r)) = p ++ ((x.name ++ [58, 32] ++ x.value) ++ [13, 10]) ++ (headsB t ++ [13, 10] ++ r) by simp, ih]
    simp [headsB, headB]
theorem headsB_ge : ∀ l : List Hd, l.length ≤ (headsB l).length
  | [] => Nat.zero_le _
  | x :: t => by have := headsB_ge t; simp [headsB, headB]; omega
theorem inq_parts {a : Inq} (h : checkInqL a = 0) : tokL a.me = true ∧ targetL a.tg = true ∧ checkHeadsL a.hd = 0 := by
  unfold checkInqL at h
  split at h
  · rename_i h1
    split at h
    · rename_i h2
      split at h
      · rename_i h3; exact ⟨h1, h2, h3⟩
      · rename_i h3; exact absurd h h3
    · omega
  · omega
theorem heads_mem {l : List Hd} (e : checkHeadsL l = 0) : ∀ h ∈ l, tokL h.name = true ∧ valueL h.value = true := by
  unfold checkHeadsL at e
  split at e
  · omega
  · have key : ∀ {l : List Hd}, headsGo l = 0 → ∀ h ∈ l, tokL h.name = true ∧ valueL h.value = true := by
      intro l
      induction l with
      | nil => intro _ h hh; cases hh
      | cons x t ih =>
        intro e h hh
        simp only [headsGo] at e
        split at e
        · rename_i h1
          split at e
          · rename_i h2
            rcases List.mem_cons.1 hh with rfl | hh
            · exact ⟨h1, h2⟩
            · exact ih e h hh
          · omega
        · omega
    exact key e
/-- a request that was written is read -/
theorem req_back {a : Inq} (h : checkInqL a = 0) (hl : (reqB a).length ≤ 400000) : rqL (reqB a) = (a, 0, 0) := by
  obtain ⟨p1, p2, p3⟩ := inq_parts h
  simp only [tokL, targetL, Bool.and_eq_true, decide_eq_true_eq] at p1 p2
  have m1 : ∀ x ∈ a.me, x ≠ 32 := fun x hx => (tok_plain x (List.all_eq_true.1 p1.2 x hx)).2.2.1
  have m2 : ∀ x ∈ a.tg, x ≠ 32 := fun x hx => (tg_plain x (List.all_eq_true.1 p2.2 x hx)).2.2
  have hb : bareL (a.me ++ 32 :: (a.tg ++ 32 :: wWeb)) = true := by
    rw [bare_app, show 32 :: (a.tg ++ 32 :: wWeb) = [32] ++ (a.tg ++ ([32] ++ wWeb)) from rfl, bare_app, bare_app]
    have b1 : bareL a.me = true := all_imp p1.2 fun c hc => by have := tok_plain c hc; simp [this.1, this.2.1]
    have b2 : bareL a.tg = true := all_imp p2.2 fun c hc => by have := tg_plain c hc; simp [this.1, this.2.1]
    rw [b1, b2]; rfl
  have e : reqB a = [] ++ ((a.me ++ 32 :: (a.tg ++ 32 :: wWeb)) ++ [13, 10] ++ (headsB a.hd ++ [13, 10] ++ a.bd)) := by simp [reqB, reqP, wWeb]
  have hln := ln_app (p := []) (r := headsB a.hd ++ [13, 10] ++ a.bd) hb
  rw [← e] at hln
  simp only [List.length_nil] at hln
  have hw : rqW (reqB a) = [a.me, a.tg, wWeb] := by
    unfold rqW
    rw [hln.2.1, splitL_eq, spl_cut 32 _ _ m1, spl_cut 32 _ _ m2, spl_no 32 wWeb (by decide)]
  have hk : rqOk (reqB a) = true := by
    unfold rqOk
    rw [hw, hln.1]
    have n1 : a.me ≠ [] := fun e => by rw [e] at p1; simp at p1
    have n2 : a.tg ≠ [] := fun e => by rw [e] at p2; simp at p2
    simp [n1, n2]
  have hh : rqH (reqB a) = (a.hd, ((a.me ++ 32 :: (a.tg ++ 32 :: wWeb)) ++ [13, 10] ++ (headsB a.hd ++ [13, 10])).length, true) := by
    have hr := rh_app a.hd ((a.me ++ 32 :: (a.tg ++ 32 :: wWeb)) ++ [13, 10]) [] ((reqB a).length + 1) a.bd (by have := heads_100 p3; have : a.hd.length ≤ (headsB a.hd).length := headsB_ge a.hd; have : (headsB a.hd).length ≤ (reqB a).length := (by simp only [reqB, List.length_append]; omega); omega) (heads_mem p3)
    unfold rqH
    rw [hln.2.2]
    have e2 : reqB a = ((a.me ++ 32 :: (a.tg ++ 32 :: wWeb)) ++ [13, 10]) ++ (headsB a.hd ++ [13, 10] ++ a.bd) := by rw [e]; simp
    rw [← e2] at hr
    simpa using hr
  have hI : rqI (reqB a) = a := by
    unfold rqI
    rw [hw, hh]
    have e3 : (reqB a).drop ((a.me ++ 32 :: (a.tg ++ 32 :: wWeb)) ++ [13, 10] ++ (headsB a.hd ++ [13, 10])).length = a.bd := by
      rw [e]
      have : [] ++ ((a.me ++ 32 :: (a.tg ++ 32 :: wWeb)) ++ [13, 10] ++ (headsB a.hd ++ [13, 10] ++ a.bd)) = ((a.me ++ 32 :: (a.tg ++ 32 :: wWeb)) ++ [13, 10] ++ (headsB a.hd ++ [13, 10])) ++ a.bd := by simp
      rw [this, List.drop_left]
    rw [e3]; rfl
  unfold rqL
  rw [if_neg (by omega), if_pos hk, hh, if_pos rfl, hI, if_pos h]

end Go.Abs
