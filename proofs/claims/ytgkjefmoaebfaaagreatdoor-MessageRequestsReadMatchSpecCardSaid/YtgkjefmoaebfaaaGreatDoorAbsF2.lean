/- what functions of this program compute: contracts, each a function's own -/
import Derived.Test.YtgkjefmoaebfaaaGreatDoorAbsK2
import Derived.Test.YtgkjefmoaebfaaaGreatDoorAbsFacts
import Derived.Test.YtgkjefmoaebfaaaGreatDoorAbsF1
import Derived.Test.YtgkjefmoaebfaaaGreatDoorAbsShelf
import Derived.Lib.SplitLaws
import Derived.Lib.SlTrimSet
import Derived.Lib.Atoi
import Derived.Lib.Itoa
import Derived.Lib.ItoaNum
import Derived.Lib.AtoiErrMem
import Derived.Lib.Index
import Derived.Lib.IndexBytes
import Derived.Shelf.Bytes.SlIndexWhole
import Derived.Lib.ItoaLen
namespace Go.Abs
open Go Go.Proofs
set_option maxHeartbeats 4000000
set_option maxRecDepth 100000
set_option linter.unusedVariables false
set_option linter.unusedSimpArgs false
def noInq : Inq := ⟨[], [], [], []⟩
@[push_cast] theorem noInq_me : noInq.me = [] := rfl
@[push_cast] theorem noInq_tg : noInq.tg = [] := rfl
@[push_cast] theorem noInq_hd : noInq.hd = [] := rfl
@[push_cast] theorem noInq_bd : noInq.bd = [] := rfl
def wWeb : List UInt8 := [87, 69, 66, 47, 49]
/-- the three words of a request's first line -/
def rqW (b : List UInt8) : List (List UInt8) := splitL (lnS b 0) 32
def rqOk (b : List UInt8) : Bool := lnB b 0 && decide ((rqW b).length = 3) && ((rqW b).getD 0 [] != []) && ((rqW b).getD 1 [] != []) && ((rqW b).getD 2 [] == wWeb)
def rqH (b : List UInt8) : List Hd × Nat × Bool := rhL b (b.length + 1) (lnN b 0) []
def rqI (b : List UInt8) : Inq := ⟨(rqW b).getD 0 [], (rqW b).getD 1 [], (rqH b).1, b.drop (rqH b).2.1⟩
/-- a request, read: it, the place of an error, the error -/
def rqL (b : List UInt8) : Inq × Nat × Int := if 400000 < b.length then (noInq, 0, 2) else if rqOk b = true then (if (rqH b).2.2 = true then (if checkInqL (rqI b) = 0 then (rqI b, 0, 0) else (noInq, 0, checkInqL (rqI b))) else (noInq, (rqH b).2.1, 10)) else (noInq, 0, 10)
def hdsLe (n : Nat) (l : List Hd) : Prop := ∀ h ∈ l, h.name.length ≤ n ∧ h.value.length ≤ n
theorem hdV_le (s : List UInt8) : (hdV s).name.length ≤ s.length ∧ (hdV s).value.length ≤ s.length := by
  unfold hdV
  split
  · unfold hdCut Lib.cut
    split <;> simp <;> omega
  · simp
theorem lnS_le (b : List UInt8) {a : Nat} (ha : a ≤ b.length) : (lnS b a).length ≤ b.length := by
  cases h : lnB b a with
  | true => have := ln_fit ha h; omega
  | false =>
    unfold lnB at h
    unfold lnS
    cases hs : lineS (b.drop a) with
    | none => simp
    | some s => rw [hs] at h; cases h
theorem rh_fit {b : List UInt8} : ∀ (k a : Nat) (out : List Hd), a ≤ b.length → hdsLe b.length out → (rhL b k a out).2.1 ≤ b.length ∧ hdsLe b.length (rhL b k a out).1 ∧ (rhL b k a out).1.length ≤ out.length + k
  | 0, a, out, ha, ho => by simp [rhL, hdsLe]
  | k + 1, a, out, ha, ho => by
    rw [rhL]
    split
    · simp [hdsLe]
    split
    · simp [hdsLe]; omega
    rename_i h1 h2
    have hB : lnB b a = true := by simpa using h2
    have hf := ln_fit ha hB
    split
    · refine ⟨hf.2.1, ho, by simp⟩
    split
    · simp [hdsLe]; omega
    · have := rh_fit k (lnN b a) (out ++ [hdV (lnS b a)]) hf.2.1 (fun h hh => by
        rcases List.mem_append.1 hh with hh | hh
        · exact ho h hh
        · rw [List.mem_singleton] at hh; subst hh
          have h3 := hdV_le (lnS b a)
          have h4 := lnS_le b ha
          omega)
      refine ⟨this.1, this.2.1, ?_⟩
      have h5 := this.2.2
      simp only [List.length_append, List.length_singleton] at h5; omega
theorem drop_by {b : List UInt8} {p : Nat} (hp : p ≤ b.length) : ByI (b.length - p) (fun i => shF (byF b) p i) (b.drop p) := by
  have h := ByI.sh (ByI.by b) (l := p) (k := b.length - p) (by omega)
  rw [List.take_of_length_le (by simp)] at h
  exact h
@[push_cast] theorem kill_shby (d p : Nat) (s : List UInt8) (i : Nat) : V.kill d (shF (byF s) p i) = shF (byF s) p i := rfl
@[push_cast] theorem men_shby (d p : Nat) (s : List UInt8) (i : Nat) : V.men d (shF (byF s) p i) = false := rfl
def ckReadReq : Ck
  | [.sl n f] => some (isBy n f ∧ n ≤ 4611686018427387900, .tup [cInq.enc (rqL (bytesOf n f)).1, .int .i64 (rqL (bytesOf n f)).2.1, .int .i64 (rqL (bytesOf n f)).2.2])
  | _ => none
theorem conReadReq : Con pg 6 ckReadReq := by
  have hct := (ctA_ok conLine (ctA_ok conSplit (ctA_ok conReadHeads (ctA_ok conCheckInq (ctN_ok _)))))
  intro args q r h hq
  unfold ckReadReq at h
  split at h
  · cases h
    rename_i n f
    refine pcall_args (args' := [.sl (bytesOf n f).length (byF (bytesOf n f))]) ⟨isBy.vle hq.1, trivial⟩ ?_
    have h1 : (bytesOf n f).length ≤ 4611686018427387900 := by rw [bytesOf_len]; exact hq.2
    generalize bytesOf n f = b at h1 ⊢
    refine w6 (fun _ => false) [.frz 71] rfl hct rfl rfl ?_
    push_cast (config := { maxSteps := 10000000 })
    have hln : lnS b 0 = lnS b 0 := rfl
    have hsl := lnS_le b (Nat.zero_le b.length)
    have no : ∀ {p : Nat} {f : Int}, rqL b = (noInq, p, f) → ([] = (rqL b).1.me ∧ [] = (rqL b).1.tg ∧ (rqL b).1.hd.length = 0 ∧ (rqL b).1.bd.length = 0) ∧ p = (rqL b).2.1 ∧ f = (rqL b).2.2 := fun h => by rw [h]; exact ⟨⟨rfl, rfl, rfl, rfl⟩, rfl, rfl⟩
    refine ⟨fun h => ?_, fun h0 => ⟨h1, by omega, fun h => ⟨h, by omega⟩, fun h => ⟨h, by omega⟩, fun h => ⟨h, by omega⟩, fun h => ?_, fun h => ?_⟩⟩
    · have e : rqL b = (noInq, 0, 2) := by unfold rqL; rw [if_pos (by omega)]
      have := no e
      exact ⟨this.1, by rw [e]; rfl, this.2.2⟩
    · have ek : rqOk b = false := by
        unfold rqOk rqW
        rcases h with (((h | h) | h) | h) | h
        · rw [h]; rfl
        · rw [decide_eq_false (by omega)]; simp
        · rw [h]; simp
        · rw [h]; simp
        · rw [show ((splitL (lnS b 0) 32).getD 2 [] == wWeb) = false from beq_eq_false_iff_ne.2 h]; simp
      have e : rqL b = (noInq, 0, 10) := by unfold rqL; rw [if_neg (by omega), if_neg (by simp [ek])]
      have := no e
      exact ⟨this.1, by rw [e]; rfl, this.2.2⟩
    have ek : rqOk b = true := by
      unfold rqOk rqW
      rw [h.1.1.1.1, decide_eq_true (by omega), bne_iff_ne.2 h.1.1.2, bne_iff_ne.2 h.1.2, h.2]; rfl
    have hf := ln_fit (Nat.zero_le b.length) h.1.1.1.1
    have hr := rh_fit (b.length + 1) (lnN b 0) [] hf.2.1 (fun _ hh => by cases hh)
    have e1 : rqL b = if (rqH b).2.2 = true then (if checkInqL (rqI b) = 0 then (rqI b, 0, 0) else (noInq, 0, checkInqL (rqI b))) else (noInq, (rqH b).2.1, 10) := by unfold rqL; rw [if_neg (by omega), if_pos ek]
    have hdb := drop_by hr.1
    have hI : (⟨(splitL (lnS b 0) 32).getD 0 [], (splitL (lnS b 0) 32).getD 1 [], (rhL b (b.length + 1) (lnN b 0) []).1, b.drop (rhL b (b.length + 1) (lnN b 0) []).2.1⟩ : Inq) = rqI b := rfl
    rw [hdb.bytes, hI]
    have hRH : rhL b (b.length + 1) (lnN b 0) [] = rqH b := rfl
    rw [hRH] at hr hdb ⊢
    refine ⟨⟨hf.2.1, by omega⟩, fun h3 => ?_, fun h3 => ⟨by omega, by omega, hr.1, ⟨by omega, by omega⟩, ⟨hdb.is, ?_⟩, hdb.pure, fun h4 => ⟨hdb.pure, ?_⟩, fun h4 => ⟨hdb.pure, ?_⟩⟩⟩
    · exact no (by rw [e1, if_neg (by simp [h3])])
    · have hw : ∀ i, ((splitL (lnS b 0) 32).getD i []).length ≤ (lnS b 0).length := fun i => by
        rw [splitL_eq]
        by_cases hi : i < (spl 32 (lnS b 0)).length
        · rw [List.getD_eq_getElem?_getD, List.getElem?_eq_getElem hi]
          exact spl_len 32 _ _ (List.getElem_mem hi)
        · rw [List.getD_eq_getElem?_getD, List.getElem?_eq_none (by omega)]; simp
      have w0 := hw 0
      have w1 := hw 1
      refine ⟨fun x hx => ?_, ?_, ?_, ?_, ?_⟩
      · have := hr.2.1 x hx; omega
      · show ((splitL (lnS b 0) 32).getD 0 []).length ≤ _; omega
      · show ((splitL (lnS b 0) 32).getD 1 []).length ≤ _; omega
      · show (rqH b).1.length ≤ _; have := hr.2.2; simp only [List.length_nil] at this; omega
      · show (b.drop (rqH b).2.1).length ≤ _; rw [List.length_drop]; omega
    · have e := e1
      rw [if_pos h3, if_neg h4] at e
      have := no e
      exact ⟨this.1, by rw [e]; rfl, this.2.2⟩
    · have e := e1
      rw [if_pos h3, if_pos h4] at e
      rw [e]
      refine ⟨⟨rfl, rfl, ⟨rfl, fun _ _ => rfl⟩, ?_, fun i hi => ?_⟩, rfl, rfl⟩
      · show _ = (b.drop (rqH b).2.1).length; rw [List.length_drop]
      · exact hdb.2 i hi
  · cases h
attribute [push_cast] ckReadReq

def ckWriteHeadsK : List V → List Blk → Option (Prop × V × List Blk)
  | [.vec i n, .sl m f], [.vec 1 k g] => some (k = n ∧ isBy n g ∧ isLs cHd m f ∧ n ≤ 1000000 ∧ m ≤ 1000000 ∧ (headsB (lsOf cHd m f)).length ≤ 100000000000, .vec i (n + (headsB (lsOf cHd m f)).length + 2), [.vec 1 (n + (headsB (lsOf cHd m f)).length + 2) (byF (bytesOf n g ++ headsB (lsOf cHd m f) ++ [13, 10]))])
  | _, _ => none
def ckWriteHeads : Cf := ⟨fun | [.vec i _, _] => [i] | _ => [], ckWriteHeadsK⟩
theorem conWriteHeads : FCon pg 27 ckWriteHeads := by
  have hct := ctN_ok pg
  intro args bs q r bs' h hq
  replace h : ckWriteHeadsK args bs = some (q, r, bs') := h
  unfold ckWriteHeadsK at h
  split at h
  · cases h
    rename_i i n m f k g
    refine ⟨rfl, rfl, ?_⟩
    obtain ⟨rfl, hg, hf, hk, hm, hb⟩ := hq
    refine fcall_args (args' := [.vec (i + 9000) (bytesOf k g).length, .sl (lsOf cHd m f).length (lsF cHd (lsOf cHd m f))]) ⟨VLe.of_eq (by rw [bytesOf_len]; rfl), isLs.vle hf, trivial⟩ ?_
    refine fcall_blk (hm := [(i + 9000, .vec 1 (bytesOf k g).length (byF (bytesOf k g)))]) ⟨rfl, ⟨rfl, (bytesOf_len k g).symm, fun j hj => by show V.shift (g j) = _; rw [hg.2 j hj]; rfl⟩, trivial⟩ ?_
    have hk2 : (bytesOf k g).length ≤ 1000000 := by rw [bytesOf_len]; exact hk
    have hm2 : (lsOf cHd m f).length ≤ 1000000 := by rw [lsOf_len]; exact hm
    have ek : k = (bytesOf k g).length := (bytesOf_len k g).symm
    rw [show k + (headsB (lsOf cHd m f)).length + 2 = (bytesOf k g).length + (headsB (lsOf cHd m f)).length + 2 by rw [← ek]]
    generalize bytesOf k g = b at hk2 ⊢
    generalize lsOf cHd m f = l at hb hm2 ⊢
    show FCall pg 27 [.vec (i + 9000) b.length, .sl l.length (lsF cHd l)] [(i + 9000, .vec 1 b.length (byF b))] (.vec (i + 9000) (b.length + (headsB l).length + 2)) [(i + 9000, .vec 1 (b.length + (headsB l).length + 2) (byF (b ++ headsB l ++ [13, 10])))]
    refine fw27 (fun _ => false) [] rfl hct rfl (by simp) (by simp [hlIn, idsIn, Blk.menIn, V.menInL, V.menIn, V.flat, byF, lsF]) (by simp [V.menIn, V.menInL, idsIn]) ?_
    push_cast (config := { maxSteps := 10000000 })
    refine LoopW.adj ⟨hct, fol⟩ (by kernel_rfl) [] (fun t : Nat × List UInt8 => [(0, .vec (i + 9000) t.2.length), (7, .sl l.length (lsF cHd l)), (8, .int .i64 l.length), (9, .int .i64 t.1)]) (fun t => [(i + 9000, .vec 1 t.2.length (byF t.2))]) (fun t => t.1 ≤ l.length ∧ t.2 ++ headsB (l.drop t.1) = b ++ headsB l) (fun t => l.length - t.1) (0, b) ?_ fun t ht => ?_
    · push_cast (config := { maxSteps := 10000000 })
      exact Nat.zero_le _
    · obtain ⟨j, o⟩ := t
      obtain ⟨h1, h2⟩ : j ≤ l.length ∧ o ++ headsB (l.drop j) = b ++ headsB l := ht
      have hl := congrArg List.length h2
      simp only [List.length_append] at hl
      push_cast (config := { maxSteps := 10000000 })
      refine ⟨fun hlt => ?_, fun hge => ?_⟩
      · have e := dropG (d := ⟨[], []⟩) hlt
        rw [e, headsB] at h2 hl
        clear e
        generalize l.getD j ⟨[], []⟩ = x at *
        have hx : (headB x).length = x.name.length + 2 + x.value.length + 2 := by simp [headB]; omega
        simp only [List.length_append] at hl
        have app := ByI.app (ByI.by o) (ByI.by (headB x)) rfl
        refine ⟨hlt, by omega, by omega, by omega, ⟨by omega, by omega⟩, ⟨by omega, by omega⟩, (j + 1, o ++ headB x), ⟨by show j + 1 ≤ l.length; omega, by rw [← h2]; simp⟩, by show l.length - (j + 1) < l.length - j; omega, ⟨by rw [List.length_append, hx], by simp⟩, by rw [List.length_append, hx], fun i hi => app.2 i (by rw [hx]; omega)⟩
      · rw [List.drop_eq_nil_of_le (by omega)] at h2 hl
        simp only [headsB, List.append_nil, List.length_nil] at h2 hl
        subst h2
        have app := ByI.app (ByI.by (b ++ headsB l)) (ByI.by [13, 10]) rfl
        exact ⟨⟨by omega, by omega⟩, by omega, by omega, app.2⟩
  · cases h
attribute [push_cast] ckWriteHeadsK
@[push_cast] theorem wh_ids (i n : Nat) (x : V) : ckWriteHeads.ids [.vec i n, x] = [i] := rfl
@[push_cast] theorem wh_k (i n : Nat) (m : Nat) (f : Nat → V) (k : Nat) (g : Nat → V) : ckWriteHeads.k [.vec i n, .sl m f] [.vec 1 k g] = some (k = n ∧ isBy n g ∧ isLs cHd m f ∧ n ≤ 1000000 ∧ m ≤ 1000000 ∧ (headsB (lsOf cHd m f)).length ≤ 100000000000, .vec i (n + (headsB (lsOf cHd m f)).length + 2), [.vec 1 (n + (headsB (lsOf cHd m f)).length + 2) (byF (bytesOf n g ++ headsB (lsOf cHd m f) ++ [13, 10]))]) := rfl

def reqP (a : Inq) : List UInt8 := a.me ++ [32] ++ a.tg ++ [32, 87, 69, 66, 47, 49, 13, 10]
def reqB (a : Inq) : List UInt8 := reqP a ++ headsB a.hd ++ [13, 10] ++ a.bd
def reqA (a : Inq) : List UInt8 := if checkInqL a = 0 then reqB a else []
theorem inq_ok {a : Inq} (h : checkInqL a = 0) : a.me.length ≤ 40 ∧ a.tg.length ≤ 2000 ∧ a.hd.length ≤ 100 ∧ (headsB a.hd).length ≤ 104400 ∧ a.bd.length ≤ 200000 := by
  unfold checkInqL at h
  split at h
  · rename_i h1
    split at h
    · rename_i h2
      split at h
      · rename_i h3
        split at h
        · simp only [tokL, targetL, Bool.and_eq_true, decide_eq_true_eq] at h1 h2
          exact ⟨by omega, by omega, heads_100 h3, heads_le h3, by omega⟩
        · omega
      · omega
    · omega
  · omega
def ckReq : Ck
  | [x] => some (isC cInq x ∧ inqOk (cInq.dec x), .tup [.sl (reqA (cInq.dec x)).length (byF (reqA (cInq.dec x))), .int .i64 (checkInqL (cInq.dec x))])
  | _ => none
def bareL (s : List UInt8) : Bool := s.all fun c => decide (c ≠ 13) && decide (c ≠ 10)
theorem crlf_pre (c : UInt8) (t : List UInt8) : crlf.isPrefixOf (c :: t) = true ↔ c = 13 ∧ t.getD 0 0 = 10 ∧ 0 < t.length := by
  cases t with
  | nil => simp [crlf, List.isPrefixOf]
  | cons d t => simp [crlf, List.isPrefixOf]; exact ⟨fun h => ⟨h.1.symm, h.2.symm⟩, fun h => ⟨h.1.symm, h.2.symm⟩⟩
theorem lineS_idx : ∀ r : List UInt8, lineS r = if 0 ≤ Lib.index r crlf ∧ bareL (r.take (Lib.index r crlf).toNat) = true then some (r.take (Lib.index r crlf).toNat) else none
  | [] => by
    have e : Lib.index [] crlf = -1 := by rw [Lib.index]; rfl
    rw [e, if_neg (by omega)]; rfl
  | c :: t => by
    have ih := lineS_idx t
    have hp := crlf_pre c t
    have hge := Lib.index_ge t crlf
    rw [lineS, Lib.index]
    by_cases h : crlf.isPrefixOf (c :: t) = true
    · obtain ⟨h1, h2, h3⟩ := hp.1 h
      rw [if_pos h, if_pos h1, if_pos ⟨h2, h3⟩, if_pos ⟨by omega, rfl⟩]
      rfl
    · rw [if_neg h]
      by_cases hm : (Lib.index t crlf == -1) = true
      · rw [if_pos hm]
        rw [show (if 0 ≤ (-1 : Int) ∧ bareL ((c :: t).take (-1 : Int).toNat) = true then some ((c :: t).take (-1 : Int).toNat) else none) = none from if_neg (fun x => by have := x.1; omega)]
        rw [beq_iff_eq] at hm
        rw [if_neg (fun x => by have := x.1; omega)] at ih
        by_cases h1 : c = 13
        · rw [if_pos h1, if_neg (fun x => h (hp.2 ⟨h1, x.1, x.2⟩))]
        rw [if_neg h1, ih]
        by_cases h2 : c = 10
        · rw [if_pos h2]
        · rw [if_neg h2]; rfl
      · rw [if_neg hm]
        have hn : Lib.index t crlf ≠ -1 := fun e => hm (beq_iff_eq.2 e)
        rw [show (Lib.index t crlf + 1).toNat = (Lib.index t crlf).toNat + 1 by omega, List.take_succ_cons]
        by_cases h1 : c = 13
        · rw [if_pos h1, if_neg (fun x => h (hp.2 ⟨h1, x.1, x.2⟩)), if_neg]
          rintro ⟨_, x⟩
          unfold bareL at x
          rw [List.all_cons, Bool.and_eq_true] at x
          subst h1
          exact absurd x.1 (by decide)
        rw [if_neg h1]
        by_cases h2 : c = 10
        · rw [if_pos h2, if_neg]
          rintro ⟨_, x⟩
          unfold bareL at x
          rw [List.all_cons, Bool.and_eq_true] at x
          subst h2
          exact absurd x.1 (by decide)
        rw [if_neg h2, ih]
        have eb : bareL (c :: t.take (Lib.index t crlf).toNat) = bareL (t.take (Lib.index t crlf).toNat) := by
          unfold bareL
          rw [List.all_cons, decide_eq_true h1, decide_eq_true h2]; rfl
        rw [eb]
        by_cases hb : bareL (t.take (Lib.index t crlf).toNat) = true
        · rw [if_pos ⟨by omega, hb⟩, if_pos ⟨by omega, hb⟩]; rfl
        · rw [if_neg (fun x => hb x.2), if_neg (fun x => hb x.2)]; rfl

/- a request is read as it was written -/
theorem lineS_app : ∀ (s r : List UInt8), bareL s = true → lineS (s ++ [13, 10] ++ r) = some s
  | [], r, _ => by
    show lineS (13 :: 10 :: r) = some []
    rw [lineS, if_pos rfl, if_pos ⟨rfl, by simp⟩]
  | c :: t, r, h => by
    unfold bareL at h
    rw [List.all_cons, Bool.and_eq_true, Bool.and_eq_true, decide_eq_true_eq, decide_eq_true_eq] at h
    have ih := lineS_app t r h.2
    show lineS (c :: (t ++ [13, 10] ++ r)) = _
    rw [lineS, if_neg h.1.1, if_neg h.1.2, ih]; rfl
theorem lineS_inv : ∀ {l s : List UInt8}, lineS l = some s → l = s ++ [13, 10] ++ l.drop (s.length + 2)
  | [], s, h => by cases h
  | c :: t, s, h => by
    rw [lineS] at h
    split at h
    · split at h
      · rename_i h1 h2
        cases h
        subst h1
        match t, h2 with
        | d :: u, h2 =>
          have e : d = 10 := by simpa using h2.1
          subst e; rfl
      · cases h
    · split at h
      · cases h
      · cases ht : lineS t with
        | none => rw [ht] at h; cases h
        | some z =>
          rw [ht] at h; cases h
          have ih := lineS_inv ht
          simp only [List.length_cons, List.cons_append]
          rw [show z.length + 1 + 2 = (z.length + 2) + 1 by omega, List.drop_succ_cons]
          congr 1
theorem ln_app {p s r : List UInt8} (h : bareL s = true) : lnB (p ++ (s ++ [13, 10] ++ r)) p.length = true ∧ lnS (p ++ (s ++ [13, 10] ++ r)) p.length = s ∧ lnN (p ++ (s ++ [13, 10] ++ r)) p.length = (p ++ (s ++ [13, 10])).length := by
  have e : lineS ((p ++ (s ++ [13, 10] ++ r)).drop p.length) = some s := by rw [List.drop_left]; exact lineS_app s r h
  unfold lnB lnS lnN
  rw [e]
  refine ⟨rfl, rfl, ?_⟩
  simp; omega
theorem bare_app (a b : List UInt8) : bareL (a ++ b) = (bareL a && bareL b) := by unfold bareL; rw [List.all_append]
theorem all_imp {s : List UInt8} {p q : UInt8 → Bool} (h : s.all p = true) (hi : ∀ c, p c = true → q c = true) : s.all q = true := by
  rw [List.all_eq_true] at h ⊢
  exact fun x hx => hi x (h x hx)
theorem u8_all {P : UInt8 → Prop} (h : ∀ n, n < 256 → P (UInt8.ofNat n)) (c : UInt8) : P c := by
  have := h c.toNat (UInt8.toNat_lt c)
  simpa using this
theorem tok_plain (c : UInt8) : tokB c = true → c ≠ 13 ∧ c ≠ 10 ∧ c ≠ 32 ∧ c ≠ 58 := by
  refine u8_all (P := fun c => tokB c = true → c ≠ 13 ∧ c ≠ 10 ∧ c ≠ 32 ∧ c ≠ 58) ?_ c
  decide +kernel
theorem val_plain (c : UInt8) : valB c = true → c ≠ 13 ∧ c ≠ 10 := by
  refine u8_all (P := fun c => valB c = true → c ≠ 13 ∧ c ≠ 10) ?_ c
  decide +kernel
theorem tg_plain (c : UInt8) : tgB c = true → c ≠ 13 ∧ c ≠ 10 ∧ c ≠ 32 := by
  refine u8_all (P := fun c => tgB c = true → c ≠ 13 ∧ c ≠ 10 ∧ c ≠ 32) ?_ c
  decide +kernel
theorem spl_no (c : UInt8) : ∀ s : List UInt8, (∀ x ∈ s, x ≠ c) → spl c s = [s]
  | [], _ => rfl
  | x :: t, h => by
    rw [spl, if_neg (h x (by simp)), spl_no c t fun y hy => h y (by simp [hy])]; rfl
theorem spl_cut (c : UInt8) : ∀ (s r : List UInt8), (∀ x ∈ s, x ≠ c) → spl c (s ++ c :: r) = s :: spl c r
  | [], r, _ => by show spl c (c :: r) = _; rw [spl, if_pos rfl]
  | x :: t, r, h => by
    show spl c (x :: (t ++ c :: r)) = _
    rw [spl, if_neg (h x (by simp)), spl_cut c t r fun y hy => h y (by simp [hy])]; rfl
theorem idx_colon : ∀ (n v : List UInt8), (∀ x ∈ n, x ≠ 58) → Lib.index (n ++ 58 :: 32 :: v) [58, 32] = n.length
  | [], v, _ => by
    show Lib.index (58 :: 32 :: v) [58, 32] = 0
    rw [Lib.index, if_pos (by simp [List.isPrefixOf])]
  | x :: t, v, h => by
    have ih := idx_colon t v fun y hy => h y (by simp [hy])
    have hx := h x (by simp)
    show Lib.index (x :: (t ++ 58 :: 32 :: v)) [58, 32] = _
    have hp : ([58, 32] : List UInt8).isPrefixOf (x :: (t ++ 58 :: 32 :: v)) = false := by simp [List.isPrefixOf, Ne.symm hx]
    rw [Lib.index, hp, ih]
    have h2 : ((t.length : Int) == -1) = false := by rw [beq_eq_false_iff_ne]; omega
    rw [h2]
    simp
theorem no_colon {n : List UInt8} (h : ∀ x ∈ n, x ≠ 58) : Lib.contains n [58] = false := by
  unfold Lib.contains
  rw [decide_eq_false]
  intro h0
  rcases Lib.index_spec n [58] with ⟨h1, _⟩ | ⟨i, h1, h2, h3, _⟩
  · omega
  · unfold Lib.occAt at h3
    cases hd : n.drop i with
    | nil => rw [hd] at h3; simp [List.isPrefixOf] at h3
    | cons y t =>
      rw [hd] at h3
      have e : (58 : UInt8) = y := by simpa [List.isPrefixOf] using h3
      exact h y (List.mem_of_mem_drop (by rw [hd]; simp)) e.symm
theorem hd_app {h : Hd} (hn : ∀ x ∈ h.name, x ≠ 58) (hne : h.name ≠ []) : hdB (h.name ++ [58, 32] ++ h.value) = true ∧ hdV (h.name ++ [58, 32] ++ h.value) = h := by
  have e : hdCut (h.name ++ [58, 32] ++ h.value) = (h.name, h.value, true) := by
    unfold hdCut Lib.cut
    rw [show h.name ++ [58, 32] ++ h.value = h.name ++ 58 :: 32 :: h.value by simp, idx_colon _ _ hn, if_pos (by omega)]
    simp
  have hB : hdB (h.name ++ [58, 32] ++ h.value) = true := by
    unfold hdB
    rw [e]
    simp only
    rw [no_colon hn, bne_iff_ne.2 hne]; rfl
  refine ⟨hB, ?_⟩
  unfold hdV
  rw [if_pos hB, e]
theorem hd_inv {s : List UInt8} (h : hdB s = true) : s = (hdV s).name ++ [58, 32] ++ (hdV s).value := by
  unfold hdV
  rw [if_pos h]
  unfold hdB at h
  simp only [Bool.and_eq_true] at h
  have h1 := h.1.1
  unfold hdCut Lib.cut at h1 ⊢
  rcases Lib.index_spec s [58, 32] with ⟨h2, _⟩ | ⟨i, h2, h3, h4, _⟩
  · rw [h2, if_neg (by omega)] at h1; cases h1
  · rw [h2, if_pos (by omega)]
    unfold Lib.occAt at h4
    obtain ⟨t, ht⟩ := List.isPrefixOf_iff_prefix.1 h4
    simp only [Int.toNat_natCast]
    have e : s = s.take i ++ s.drop i := (List.take_append_drop i s).symm
    have e2 : s.drop (i + ([58, 32] : List UInt8).length) = t := by
      rw [← List.drop_drop, ← ht]; rfl
    show s = s.take i ++ [58, 32] ++ s.drop (i + ([58, 32] : List UInt8).length)
    rw [e2, List.append_assoc, ht]; exact e
theorem rh_app : ∀ (hd : List Hd) (p : List UInt8) (out : List Hd) (k : Nat) (r : List UInt8), hd.length < k → (∀ h ∈ hd, tokL h.name = true ∧ valueL h.value = true) → rhL (p ++ (headsB hd ++ [13, 10] ++ r)) k p.length out = (out ++ hd, (p ++ (headsB hd ++ [13, 10])).length, true)
  | [], p, out, k + 1, r, _, _ => by
    have h := ln_app (p := p) (s := []) (r := r) rfl
    simp only [List.nil_append] at h
    show rhL (p ++ ([13, 10] ++ r)) (k + 1) p.length out = _
    rw [rhL, if_neg (by simp), h.1, if_neg (by simp), h.2.1, if_pos rfl, h.2.2]
    simp [headsB]
  | x :: t, p, out, k + 1, r, hk, hok => by
    have hx := hok x (by simp)
    have ht := hx.1
    have hv := hx.2
    simp only [tokL, valueL, Bool.and_eq_true, decide_eq_true_eq] at ht hv
    have hbare : bareL (x.name ++ [58, 32] ++ x.value) = true := by
      rw [bare_app, bare_app]
      have b1 : bareL x.name = true := all_imp ht.2 fun c hc => by have := tok_plain c hc; simp [this.1, this.2.1]
      have b2 : bareL x.value = true := all_imp hv.2 fun c hc => by have := val_plain c hc; simp [this.1, this.2]
      rw [b1, b2]; rfl
    have hn : ∀ y ∈ x.name, y ≠ 58 := fun y hy => (tok_plain y (List.all_eq_true.1 ht.2 y hy)).2.2.2
    have hne : x.name ≠ [] := fun e => by rw [e] at ht; simp at ht
    have e : p ++ (headsB (x :: t) ++ [13, 10] ++ r) = p ++ ((x.name ++ [58, 32] ++ x.value) ++ [13, 10] ++ (headsB t ++ [13, 10] ++ r)) := by simp [headsB, headB]
    have h := ln_app (p := p) (s := x.name ++ [58, 32] ++ x.value) (r := headsB t ++ [13, 10] ++ r) hbare
    have hh := hd_app hn hne
    rw [e, rhL, if_neg (by simp; omega), h.1, if_neg (by simp), h.2.1, if_neg (by simp), hh.1, if_neg (by simp), hh.2, h.2.2]
    have ih := rh_app t (p ++ ((x.name ++ [58, 32] ++ x.value) ++ [13, 10])) (out ++ [x]) k r (by simp at hk; omega) fun y hy => hok y (by simp [hy])
    rw [show p ++ ((x.name ++ [58, 32] ++ x.value) ++ [13, 10] ++ (headsB t ++ [13, 10] ++ r)) = p ++ ((x.name ++ [58, 32] ++ x.value) ++ [13, 10]) ++ (headsB t ++ [13, 10] ++ r) by simp, ih]
    simp [headsB, headB]
theorem headsB_ge : ∀ l : List Hd, l.length ≤ (headsB l).length
  | [] => Nat.zero_le _
  | x :: t => by have := headsB_ge t; simp [headsB, headB]; omega
theorem inq_parts {a : Inq} (h : checkInqL a = 0) : tokL a.me = true ∧ targetL a.tg = true ∧ checkHeadsL a.hd = 0 := by
  unfold checkInqL at h
  split at h
  · rename_i h1
    split at h
    · rename_i h2
      split at h
      · rename_i h3; exact ⟨h1, h2, h3⟩
      · rename_i h3; exact absurd h h3
    · omega
  · omega
theorem heads_mem {l : List Hd} (e : checkHeadsL l = 0) : ∀ h ∈ l, tokL h.name = true ∧ valueL h.value = true := by
  unfold checkHeadsL at e
  split at e
  · omega
  · have key : ∀ {l : List Hd}, headsGo l = 0 → ∀ h ∈ l, tokL h.name = true ∧ valueL h.value = true := by
      intro l
      induction l with
      | nil => intro _ h hh; cases hh
      | cons x t ih =>
        intro e h hh
        simp only [headsGo] at e
        split at e
        · rename_i h1
          split at e
          · rename_i h2
            rcases List.mem_cons.1 hh with rfl | hh
            · exact ⟨h1, h2⟩
            · exact ih e h hh
          · omega
        · omega
    exact key e
/-- a request that was written is read -/
theorem req_back {a : Inq} (h : checkInqL a = 0) (hl : (reqB a).length ≤ 400000) : rqL (reqB a) = (a, 0, 0) := by
  obtain ⟨p1, p2, p3⟩ := inq_parts h
  simp only [tokL, targetL, Bool.and_eq_true, decide_eq_true_eq] at p1 p2
  have m1 : ∀ x ∈ a.me, x ≠ 32 := fun x hx => (tok_plain x (List.all_eq_true.1 p1.2 x hx)).2.2.1
  have m2 : ∀ x ∈ a.tg, x ≠ 32 := fun x hx => (tg_plain x (List.all_eq_true.1 p2.2 x hx)).2.2
  have hb : bareL (a.me ++ 32 :: (a.tg ++ 32 :: wWeb)) = true := by
    rw [bare_app, show 32 :: (a.tg ++ 32 :: wWeb) = [32] ++ (a.tg ++ ([32] ++ wWeb)) from rfl, bare_app, bare_app]
    have b1 : bareL a.me = true := all_imp p1.2 fun c hc => by have := tok_plain c hc; simp [this.1, this.2.1]
    have b2 : bareL a.tg = true := all_imp p2.2 fun c hc => by have := tg_plain c hc; simp [this.1, this.2.1]
    rw [b1, b2]; rfl
  have e : reqB a = [] ++ ((a.me ++ 32 :: (a.tg ++ 32 :: wWeb)) ++ [13, 10] ++ (headsB a.hd ++ [13, 10] ++ a.bd)) := by simp [reqB, reqP, wWeb]
  have hln := ln_app (p := []) (r := headsB a.hd ++ [13, 10] ++ a.bd) hb
  rw [← e] at hln
  simp only [List.length_nil] at hln
  have hw : rqW (reqB a) = [a.me, a.tg, wWeb] := by
    unfold rqW
    rw [hln.2.1, splitL_eq, spl_cut 32 _ _ m1, spl_cut 32 _ _ m2, spl_no 32 wWeb (by decide)]
  have hk : rqOk (reqB a) = true := by
    unfold rqOk
    rw [hw, hln.1]
    have n1 : a.me ≠ [] := fun e => by rw [e] at p1; simp at p1
    have n2 : a.tg ≠ [] := fun e => by rw [e] at p2; simp at p2
    simp [n1, n2]
  have hh : rqH (reqB a) = (a.hd, ((a.me ++ 32 :: (a.tg ++ 32 :: wWeb)) ++ [13, 10] ++ (headsB a.hd ++ [13, 10])).length, true) := by
    have hr := rh_app a.hd ((a.me ++ 32 :: (a.tg ++ 32 :: wWeb)) ++ [13, 10]) [] ((reqB a).length + 1) a.bd (by have := heads_100 p3; have : a.hd.length ≤ (headsB a.hd).length := headsB_ge a.hd; have : (headsB a.hd).length ≤ (reqB a).length := (by simp only [reqB, List.length_append]; omega); omega) (heads_mem p3)
    unfold rqH
    rw [hln.2.2]
    have e2 : reqB a = ((a.me ++ 32 :: (a.tg ++ 32 :: wWeb)) ++ [13, 10]) ++ (headsB a.hd ++ [13, 10] ++ a.bd) := by rw [e]; simp
    rw [← e2] at hr
    simpa using hr
  have hI : rqI (reqB a) = a := by
    unfold rqI
    rw [hw, hh]
    have e3 : (reqB a).drop ((a.me ++ 32 :: (a.tg ++ 32 :: wWeb)) ++ [13, 10] ++ (headsB a.hd ++ [13, 10])).length = a.bd := by
      rw [e]
      have : [] ++ ((a.me ++ 32 :: (a.tg ++ 32 :: wWeb)) ++ [13, 10] ++ (headsB a.hd ++ [13, 10] ++ a.bd)) = ((a.me ++ 32 :: (a.tg ++ 32 :: wWeb)) ++ [13, 10] ++ (headsB a.hd ++ [13, 10])) ++ a.bd := by simp
      rw [this, List.drop_left]
    rw [e3]; rfl
  unfold rqL
  rw [if_neg (by omega), if_pos hk, hh, if_pos rfl, hI, if_pos h]

def ckBIndex : Ck
  | [.sl n f, .sl m g] => some (isBy n f ∧ isBy m g ∧ n < 4294967281 ∧ 2 ≤ m ∧ m ≤ 4611686018427387904, .int .i64 (Lib.index (bytesOf n f) (bytesOf m g)))
  | _ => none
theorem libBytes (a : List UInt8) : Lib.bytesOf (a.map fun x => (x.toNat : Int)) = a := by
  unfold Lib.bytesOf
  rw [List.map_map]
  conv => rhs; rw [← List.map_id a]
  refine List.map_congr_left fun x _ => ?_
  simp
theorem nums_byte (a : List UInt8) : ∀ x ∈ a.map (fun x => (x.toNat : Int)), 0 ≤ x ∧ x < 256 := by
  intro x hx
  obtain ⟨y, _, rfl⟩ := List.mem_map.1 hx
  have := UInt8.toNat_lt y
  omega
theorem nums_at (a : List UInt8) (i : Nat) : (a.map (fun x => (x.toNat : Int))).getD i 0 = ((a.getD i 0).toNat : Int) := by
  rw [List.getD_eq_getElem?_getD, List.getD_eq_getElem?_getD, List.getElem?_map]
  cases a[i]? <;> rfl
theorem conBIndex : Con pg 54 ckBIndex := by
  intro args q r h hq
  unfold ckBIndex at h
  split at h
  · cases h
    rename_i n f m g
    obtain ⟨q1, q2, q3, q4, q5⟩ := hq
    refine pcall_args (args' := [.sl (bytesOf n f).length (byF (bytesOf n f)), .sl (bytesOf m g).length (byF (bytesOf m g))]) ⟨q1.vle, q2.vle, trivial⟩ ?_
    rw [← bytesOf_len n f] at q3
    rw [← bytesOf_len m g] at q4 q5
    generalize bytesOf n f = a at q3 ⊢
    generalize bytesOf m g = b at q4 q5 ⊢
    refine pcall_rep (by kernel_rfl) fun S vals hw hl hr => ?_
    obtain ⟨u, v, rfl⟩ := vals2 hl
    obtain ⟨a1, c1, rfl, k1, k2, k3⟩ := inv_bytes (b := a) (by simpa using hr 0 (by simp))
    obtain ⟨a2, c2, rfl, l1, l2, l3⟩ := inv_bytes (b := b) (by simpa using hr 1 (by simp))
    obtain ⟨mx, hmx⟩ := maxLen hw
    cases a2 with
    | none => have := l2 rfl; omega
    | some A2 =>
      cases a1 with
      | none =>
        have h0 := k2 rfl
        refine (Any.bytes_Index_longer (Tryz.lays185) none (some A2) a.length c1 b.length c2 S.w (by omega) (by omega) (by omega)).mono fun e w' h => ?_
        obtain ⟨he, rfl⟩ := h
        refine ⟨_, he, grow_eq rfl, fun γ imm _ _ => .pure ?_⟩
        have : a = [] := List.length_eq_zero_iff.1 h0
        subst this
        have e : Lib.index [] b = -1 := by
          rw [Lib.index]
          match b, q4 with
          | x :: t, _ => rfl
        rw [e]; exact .int _ _
      | some A1 =>
        refine (Any.bytes_Index_at (Tryz.lays185) A1 A2 a.length c1 b.length c2 (a.map fun x => (x.toNat : Int)) (b.map fun x => (x.toNat : Int)) mx S.w (by simp) (by simp) (nums_byte a) (nums_byte b) (fun i hi => by rw [nums_at]; exact k3 A1 rfl i hi) (fun i hi => by rw [nums_at]; exact l3 A2 rfl i hi) k1 q3 (by omega) hmx).mono fun e w' h => ?_
        obtain ⟨he, n, rfl⟩ := h
        rw [libBytes, libBytes] at he
        exact ⟨_, he, grow_drewN _ _, fun γ imm _ _ => .pure (.int _ _)⟩
  · cases h
attribute [push_cast] ckBIndex

theorem idx_none (c : UInt8) : ∀ s : List UInt8, decide (Lib.indexByte s c < 0) = s.all fun x => decide (x ≠ c)
  | [] => rfl
  | x :: t => by
    have ih := idx_none c t
    have hge := Lib.indexByte_ge t c
    unfold Lib.indexByte
    rw [List.all_cons, ← ih]
    by_cases h : x = c
    · subst h; simp
    · by_cases h1 : Lib.indexByte t c = -1
      · simp [h, h1]
      · have : ¬ Lib.indexByte t c < 0 := by omega
        have h2 : ¬ Lib.indexByte t c + 1 < 0 := by omega
        simp [h, h1, this, h2]
theorem all_and (s : List UInt8) (p q : UInt8 → Bool) : (s.all p && s.all q) = s.all fun c => p c && q c := by
  induction s with
  | nil => rfl
  | cons x t ih => simp only [List.all_cons, ← ih]; cases p x <;> cases q x <;> simp
def ckBare : Ck
  | [.str s] => some (s.length ≤ 4611686018427387904, .bool (bareL s))
  | _ => none
theorem conBare : Con pg 21 ckBare := by
  have hct := (ctA_ok conIndexByte (ctN_ok _))
  intro args q r h hq
  unfold ckBare at h
  split at h
  · cases h
    rename_i s
    refine w21 (fun _ => false) [] rfl hct rfl rfl ?_
    push_cast (config := { maxSteps := 10000000 })
    rw [idx_none, idx_none]
    unfold bareL
    exact all_and _ _ _
  · cases h
attribute [push_cast] ckBare

/-- where the line from a place on ends, it, and the place behind it -/
def laK (b : List UInt8) (a : Nat) : Int := Lib.index (b.drop a) crlf
def laS (b : List UInt8) (a : Nat) : List UInt8 := if laK b a < 0 then b.drop a else (b.drop a).take (laK b a).toNat
def laN (b : List UInt8) (a : Nat) : Int := if laK b a < 0 then -1 else a + laK b a + 2
theorem idx_fit (s : List UInt8) : Lib.index s crlf = -1 ∨ (0 ≤ Lib.index s crlf ∧ Lib.index s crlf + 2 ≤ s.length) := by
  rcases Lib.index_spec s crlf with ⟨h, _⟩ | ⟨i, h1, h2, h3, _⟩
  · exact .inl h
  · refine .inr ⟨by omega, ?_⟩
    unfold Lib.occAt at h3
    obtain ⟨t, ht⟩ := List.isPrefixOf_iff_prefix.1 h3
    have := congrArg List.length ht
    simp only [List.length_append, List.length_drop] at this
    have hl : crlf.length = 2 := rfl
    omega
theorem laK_fit (b : List UInt8) (a : Nat) : laK b a = -1 ∨ (0 ≤ laK b a ∧ laK b a + 2 ≤ ((b.length - a : Nat) : Int)) := by
  have := idx_fit (b.drop a)
  rw [List.length_drop] at this
  exact this
theorem la_line (b : List UInt8) (a : Nat) : (lnB b a = true ↔ 0 ≤ laN b a ∧ bareL (laS b a) = true) ∧ (lnB b a = true → lnS b a = laS b a ∧ (lnN b a : Int) = laN b a) := by
  have e := lineS_idx (b.drop a)
  change lineS (b.drop a) = if 0 ≤ laK b a ∧ bareL ((b.drop a).take (laK b a).toNat) = true then some ((b.drop a).take (laK b a).toNat) else none at e
  have hk := laK_fit b a
  unfold lnB lnS lnN laS laN
  by_cases h0 : laK b a < 0
  · rw [if_pos h0, if_pos h0]
    rw [if_neg (fun x => by have := x.1; omega)] at e
    rw [e]
    exact ⟨⟨fun h => (by cases h), fun h => absurd h.1 (by omega)⟩, fun h => (by cases h)⟩
  · rw [if_neg h0, if_neg h0]
    by_cases hb : bareL ((b.drop a).take (laK b a).toNat) = true
    · rw [if_pos ⟨by omega, hb⟩] at e
      rw [e]
      refine ⟨⟨fun _ => ⟨by omega, hb⟩, fun _ => rfl⟩, fun _ => ⟨rfl, ?_⟩⟩
      have hl : ((b.drop a).take (laK b a).toNat).length = (laK b a).toNat := by rw [List.length_take, List.length_drop]; omega
      simp only [hl]
      omega
    · rw [if_neg (fun x => hb x.2)] at e
      rw [e]
      exact ⟨⟨fun h => (by cases h), fun h => absurd h.2 hb⟩, fun h => (by cases h)⟩
theorem la_le (b : List UInt8) {a : Nat} (ha : a ≤ b.length) : (laS b a).length ≤ b.length ∧ laN b a ≤ b.length ∧ (0 ≤ laN b a → (a : Int) + 2 ≤ laN b a) ∧ -1 ≤ laN b a := by
  have hk := laK_fit b a
  unfold laS laN
  split
  · rw [List.length_drop]; omega
  · rw [List.length_take, List.length_drop]; omega
def ckLineAt : Ck
  | [.sl n f, .int .i64 a] => some (isBy n f ∧ 0 ≤ a ∧ a ≤ n ∧ n ≤ 4000000, .tup [.str (laS (bytesOf n f) a.toNat), .int .i64 (laN (bytesOf n f) a.toNat)])
  | _ => none
theorem conLineAt : Con pg 20 ckLineAt := by
  have hct := (ctA_ok conBIndex (ctN_ok _))
  intro args q r h hq
  unfold ckLineAt at h
  split at h
  · cases h
    rename_i n f a
    refine pcall_args (args' := [.sl (bytesOf n f).length (byF (bytesOf n f)), .int .i64 a]) ⟨isBy.vle hq.1, VLe.refl _, trivial⟩ ?_
    obtain ⟨-, h0, h1, h2⟩ := hq
    have hl := bytesOf_len n f
    rw [← hl] at h1 h2
    generalize bytesOf n f = b at h1 h2 ⊢
    clear hl
    obtain ⟨a, rfl⟩ : ∃ k : Nat, a = k := ⟨a.toNat, by omega⟩
    rw [Int.toNat_natCast]
    have ha : a ≤ b.length := by omega
    have hdb := drop_by ha
    refine w20 (fun d => decide (d = 10)) [] rfl hct rfl rfl ?_
    push_cast (config := { maxSteps := 10000000 })
    have hcr : ByI 2 (fun i => V.kill 10 (litF [V.int IntKind.u8 13, V.int IntKind.u8 10] i)) crlf := ⟨rfl, fun i hi => by
      rcases (by omega : i = 0 ∨ i = 1) with rfl | rfl <;> rfl⟩
    rw [show bytesOf (b.length - a) (shF (byF b) a) = b.drop a from hdb.bytes, hcr.bytes]
    have hk := laK_fit b a
    have e1 : laS b a = if laK b a < 0 then b.drop a else (b.drop a).take (laK b a).toNat := rfl
    have e2 : laN b a = if laK b a < 0 then -1 else a + laK b a + 2 := rfl
    change a ≤ b.length ∧ (isBy _ _ ∧ _ ∧ _) ∧ _ ∧ (laK b a < 0 → _) ∧ (¬ laK b a < 0 → _)
    generalize hK : Lib.index (b.drop a) crlf = K
    change laK b a = K at hK
    rw [hK] at hk e1 e2 ⊢
    refine ⟨ha, ⟨hdb.is, hcr.is, by omega⟩, hcr.pure, fun h => ⟨ha, hdb.bytesP, ?_, ?_⟩, fun h => ?_⟩
    · rw [e1, if_pos h]
    · rw [e2, if_pos h]
    · rw [if_neg h] at e1 e2
      have hs := ByI.sh (ByI.by b) (l := a) (k := ((a : Int) + K).toNat - a) (by omega)
      refine ⟨⟨by omega, by omega⟩, ⟨⟨by omega, by omega⟩, ha, by omega⟩, hs.bytesP, ⟨by omega, by omega⟩, ⟨by omega, by omega⟩, ?_, e2.symm⟩
      rw [show bytesOf (((a : Int) + K).toNat - a) (shF (byF b) a) = _ from hs.bytes, e1, show ((a : Int) + K).toNat - a = K.toNat by omega]
  · cases h
attribute [push_cast] ckLineAt

def ckHeadsAt : Ck
  | [.sl n f, .int .i64 a] => some (isBy n f ∧ 0 ≤ a ∧ a ≤ n ∧ n ≤ 4000000, .tup [.sl (rhL (bytesOf n f) (n + 1) a.toNat []).1.length (lsF cHd (rhL (bytesOf n f) (n + 1) a.toNat []).1), .int .i64 (if (rhL (bytesOf n f) (n + 1) a.toNat []).2.2 = true then ((rhL (bytesOf n f) (n + 1) a.toNat []).2.1 : Int) else 0), .int .i64 (if (rhL (bytesOf n f) (n + 1) a.toNat []).2.2 = true then -1 else ((rhL (bytesOf n f) (n + 1) a.toNat []).2.1 : Int))])
  | _ => none
theorem hdB_2 {s : List UInt8} : hdB s = true ↔ (hdCut s).2.2 = true ∧ (hdCut s).1 ≠ [] ∧ Lib.indexByte (hdCut s).1 58 < 0 := by
  unfold hdB
  rw [Bool.and_eq_true, Bool.and_eq_true, bne_iff_ne, and_assoc]
  have : ((!(Lib.contains (hdCut s).1 [58])) = true ↔ Lib.indexByte (hdCut s).1 58 < 0) := by
    unfold Lib.contains
    rw [Lib.index_one]
    simp
  rw [this]
theorem conHeadsAt : Con pg 22 ckHeadsAt := by
  have hct := (ctA_ok conLineAt (ctA_ok conCut (ctA_ok conIndexByte (ctA_ok conBare (ctN_ok _)))))
  intro args q r h hq
  unfold ckHeadsAt at h
  split at h
  · cases h
    rename_i n f a
    refine pcall_args (args' := [.sl (bytesOf n f).length (byF (bytesOf n f)), .int .i64 a]) ⟨isBy.vle hq.1, VLe.refl _, trivial⟩ ?_
    obtain ⟨-, h0, h1, h2⟩ := hq
    have hl := bytesOf_len n f
    rw [← hl] at h1 h2
    rw [show n + 1 = (bytesOf n f).length + 1 by rw [hl]]
    generalize bytesOf n f = b at h1 h2 ⊢
    clear hl
    obtain ⟨a, rfl⟩ : ∃ k : Nat, a = k := ⟨a.toNat, by omega⟩
    rw [Int.toNat_natCast]
    have ha : a ≤ b.length := by omega
    generalize hR : rhL b (b.length + 1) a [] = R
    refine w22 (fun _ => false) [.frz 90] rfl hct rfl rfl ?_
    push_cast (config := { maxSteps := 10000000 })
    refine LoopW.adj ⟨hct, fol⟩ (by kernel_rfl) [.nv 7 90 2 (lsF cHd [])] (fun t : Nat × List Hd => [(0, .sl b.length (byF b)), (1, .int .i64 t.1), (7, .vec 90 t.2.length)]) (fun t => [(90, .vec 2 t.2.length (lsF cHd t.2))]) (fun t => t.1 ≤ b.length ∧ t.2.length ≤ t.1 ∧ ∃ k, b.length < t.1 + k ∧ rhL b k t.1 t.2 = R) (fun t => b.length - t.1) (a, []) ?_ fun t ht => ?_
    · push_cast (config := { maxSteps := 10000000 })
      exact ⟨ha, Nat.zero_le _, _, by omega, hR⟩
    · obtain ⟨i, o⟩ := t
      obtain ⟨i1, i2, k, i3, i4⟩ : i ≤ b.length ∧ o.length ≤ i ∧ ∃ k, b.length < i + k ∧ rhL b k i o = R := ht
      push_cast (config := { maxSteps := 10000000 })
      obtain ⟨k, rfl⟩ : ∃ k', k = k' + 1 := ⟨k - 1, by omega⟩
      rw [rhL] at i4
      have hno : ∀ {p : Nat}, (([], p, false) : List Hd × Nat × Bool) = R → R.1.length = 0 ∧ ((0 : Int) = if R.2.2 = true then (R.2.1 : Int) else 0) ∧ (p : Int) = if R.2.2 = true then -1 else (R.2.1 : Int) := fun h => by rw [← h]; exact ⟨rfl, rfl, rfl⟩
      obtain ⟨l1, l2⟩ := la_line b i
      obtain ⟨e1, e2, e3, e4⟩ := la_le b i1
      have hfalse : ¬ (0 ≤ laN b i ∧ bareL (laS b i) = true) → lnB b i = false := fun h => by
        cases hB : lnB b i with
        | false => rfl
        | true => exact absurd (l1.1 hB) h
      refine ⟨fun h => ?_, fun h => ?_⟩
      · rw [if_neg (by omega)] at i4
        refine ⟨⟨i1, by omega⟩, fun h3 => ?_, fun h3 => ⟨fun h4 => ?_, fun h4 => ⟨by omega, fun h5 => ⟨h5, by omega⟩, fun h5 => ?_, fun h5 => ?_⟩⟩⟩
        · rw [if_pos (hfalse fun x => by omega)] at i4
          exact hno i4
        · have hB := l1.2 ⟨by omega, by rw [h4]; rfl⟩
          obtain ⟨l3, l4⟩ := l2 hB
          rw [if_neg (by simp [hB]), if_pos (by rw [l3, h4])] at i4
          rw [← i4]
          exact ⟨⟨rfl, fun _ _ => rfl⟩, l4.symm, rfl⟩
        · by_cases hb : bareL (laS b i) = true
          · have hB := l1.2 ⟨by omega, hb⟩
            obtain ⟨l3, l4⟩ := l2 hB
            have hd : hdB (laS b i) = false := by
              cases hh : hdB (laS b i) with
              | false => rfl
              | true =>
                obtain ⟨g1, g2, g3⟩ := hdB_2.1 hh
                change (Lib.cut (laS b i) [58, 32]).2.2 = true at g1
                change ¬ (Lib.cut (laS b i) [58, 32]).1 = [] at g2
                change Lib.indexByte (Lib.cut (laS b i) [58, 32]).1 58 < 0 at g3
                rcases h5 with ((h5 | h5) | h5) | h5
                · rw [g1] at h5; cases h5
                · exact absurd h5 g2
                · omega
                · rw [hb] at h5; cases h5
            rw [if_neg (by simp [hB]), if_neg (by rw [l3]; exact h4), if_pos (by rw [l3]; exact hd)] at i4
            exact hno i4
          · rw [if_pos (hfalse fun x => hb x.2)] at i4
            exact hno i4
        · have hB := l1.2 ⟨by omega, h5.2⟩
          obtain ⟨l3, l4⟩ := l2 hB
          have hd : hdB (laS b i) = true := hdB_2.2 ⟨h5.1.1.1, h5.1.1.2, by have := h5.1.2; change Lib.indexByte (Lib.cut (laS b i) [58, 32]).1 58 < 0; omega⟩
          have hv : hdV (laS b i) = ⟨(Lib.cut (laS b i) [58, 32]).1, (Lib.cut (laS b i) [58, 32]).2.1⟩ := by unfold hdV; rw [if_pos hd]; rfl
          rw [if_neg (by simp [hB]), if_neg (by rw [l3]; exact h4), if_neg (by rw [l3]; simp [hd]), l3, hv] at i4
          have app := LsI.app (c := cHd) (f := lsF cHd o) (g := litF [cHd.enc ⟨(Lib.cut (laS b i) [58, 32]).1, (Lib.cut (laS b i) [58, 32]).2.1⟩]) (LsI.ls o) (LsI.one (c := cHd) (a := ⟨(Lib.cut (laS b i) [58, 32]).1, (Lib.cut (laS b i) [58, 32]).2.1⟩) rfl) rfl
          exact ⟨⟨by omega, by omega⟩, ((lnN b i, o ++ [(⟨(Lib.cut (laS b i) [58, 32]).1, (Lib.cut (laS b i) [58, 32]).2.1⟩ : Hd)]) : Nat × List Hd), ⟨by show lnN b i ≤ b.length; omega, by simp; omega, k, by show b.length < lnN b i + k; omega, i4⟩, by show b.length - lnN b i < b.length - i; omega, ⟨l4.symm, by simp⟩, by simp, app.2⟩
      · rw [if_pos (by omega)] at i4
        exact hno i4
  · cases h
attribute [push_cast] ckHeadsAt

def ckReadReq2 : Ck
  | [.sl n f] => some (isBy n f ∧ n ≤ 4611686018427387900, .tup [cInq.enc (rqL (bytesOf n f)).1, .int .i64 (rqL (bytesOf n f)).2.1, .int .i64 (rqL (bytesOf n f)).2.2])
  | _ => none
theorem conReadReq2 : Con pg 7 ckReadReq2 := by
  have hct := (ctA_ok conLineAt (ctA_ok conSplit (ctA_ok conBare (ctA_ok conHeadsAt (ctA_ok conCheckReq (ctN_ok _))))))
  intro args q r h hq
  unfold ckReadReq2 at h
  split at h
  · cases h
    rename_i n f
    refine pcall_args (args' := [.sl (bytesOf n f).length (byF (bytesOf n f))]) ⟨isBy.vle hq.1, trivial⟩ ?_
    have h1 : (bytesOf n f).length ≤ 4611686018427387900 := by rw [bytesOf_len]; exact hq.2
    generalize bytesOf n f = b at h1 ⊢
    refine w7 (fun _ => false) [.frz 79] rfl hct rfl rfl ?_
    push_cast (config := { maxSteps := 10000000 })
    have no : ∀ {p : Nat} {f : Int}, rqL b = (noInq, p, f) → ([] = (rqL b).1.me ∧ [] = (rqL b).1.tg ∧ (rqL b).1.hd.length = 0 ∧ (rqL b).1.bd.length = 0) ∧ (p : Int) = (rqL b).2.1 ∧ f = (rqL b).2.2 := fun h => by rw [h]; exact ⟨⟨rfl, rfl, rfl, rfl⟩, rfl, rfl⟩
    obtain ⟨l1, l2⟩ := la_line b 0
    obtain ⟨e1, e2, e3, e4⟩ := la_le b (Nat.zero_le b.length)
    refine ⟨fun h => no (p := 0) (by unfold rqL; rw [if_pos (by omega)]), fun h0 => ⟨by omega, by omega, fun h => ⟨h, by omega⟩, fun h => ⟨h, by omega⟩, fun h => ⟨h, by omega⟩, fun h => ⟨h, by omega⟩, fun h => ?_, fun h => ?_⟩⟩
    · refine no (p := 0) ?_
      have ek : rqOk b = false := by
        unfold rqOk rqW
        cases hB : lnB b 0 with
        | false => rfl
        | true =>
          obtain ⟨l3, l4⟩ := l2 hB
          obtain ⟨l5, l6⟩ := l1.1 hB
          rw [l3]
          rcases h with ((((h | h) | h) | h) | h) | h
          · omega
          · rw [decide_eq_false (by omega)]; simp
          · rw [h]; simp
          · rw [h]; simp
          · rw [show ((splitL (laS b 0) 32).getD 2 [] == wWeb) = false from beq_eq_false_iff_ne.2 h]; simp
          · rw [h] at l6; cases l6
      unfold rqL; rw [if_neg (by omega), if_neg (by simp [ek])]
    have hB := l1.2 ⟨by have := h.1.1.1.1.1; omega, h.2⟩
    obtain ⟨l3, l4⟩ := l2 hB
    rw [← l3] at h ⊢
    rw [← l4] at h e2 e3 ⊢
    simp only [Int.toNat_natCast] at h ⊢
    have ek : rqOk b = true := by
      unfold rqOk rqW
      rw [hB, decide_eq_true (by have := h.1.1.1.1.2; omega), bne_iff_ne.2 h.1.1.1.2, bne_iff_ne.2 h.1.1.2, h.1.2]; rfl
    have q1 : rqL b = if (rqH b).2.2 = true then (if checkInqL (rqI b) = 0 then (rqI b, 0, 0) else (noInq, 0, checkInqL (rqI b))) else (noInq, (rqH b).2.1, 10) := by unfold rqL; rw [if_neg (by omega), if_pos ek]
    have hsl := lnS_le b (Nat.zero_le b.length)
    have hf := ln_fit (Nat.zero_le b.length) hB
    have hr := rh_fit (b.length + 1) (lnN b 0) [] hf.2.1 (fun _ hh => by cases hh)
    have hdb := drop_by hr.1
    have hRH : rhL b (b.length + 1) (lnN b 0) [] = rqH b := rfl
    rw [hRH] at hr hdb ⊢
    refine ⟨⟨by omega, by omega, by omega⟩, ?_⟩
    by_cases h3 : (rqH b).2.2 = true
    · simp only [if_pos h3, Int.toNat_natCast]
      have hI : (⟨(splitL (lnS b 0) 32).getD 0 [], (splitL (lnS b 0) 32).getD 1 [], (rqH b).1, b.drop (rqH b).2.1⟩ : Inq) = rqI b := rfl
      rw [hdb.bytes, hI]
      rw [if_pos h3] at q1
      refine ⟨fun h => absurd h (by omega), fun _ => ⟨by omega, by omega, ⟨⟨by omega, by omega⟩, by omega⟩, ⟨by omega, by omega⟩, ⟨hdb.is, ?_⟩, hdb.pure, fun h4 => ⟨hdb.pure, ?_⟩, fun h4 => ⟨hdb.pure, ?_⟩⟩⟩
      · have hw : ∀ i, ((splitL (lnS b 0) 32).getD i []).length ≤ (lnS b 0).length := fun i => by
          rw [splitL_eq]
          by_cases hi : i < (spl 32 (lnS b 0)).length
          · rw [List.getD_eq_getElem?_getD, List.getElem?_eq_getElem hi]
            exact spl_len 32 _ _ (List.getElem_mem hi)
          · rw [List.getD_eq_getElem?_getD, List.getElem?_eq_none (by omega)]; simp
        have w0 := hw 0
        have w1 := hw 1
        refine ⟨fun x hx => ?_, ?_, ?_, ?_, ?_⟩
        · have := hr.2.1 x hx; omega
        · show ((splitL (lnS b 0) 32).getD 0 []).length ≤ _; omega
        · show ((splitL (lnS b 0) 32).getD 1 []).length ≤ _; omega
        · show (rqH b).1.length ≤ _; have := hr.2.2; simp only [List.length_nil] at this; omega
        · show (b.drop (rqH b).2.1).length ≤ _; rw [List.length_drop]; omega
      · rw [if_neg h4] at q1
        exact no (p := 0) q1
      · rw [if_pos h4] at q1
        rw [q1]
        refine ⟨⟨rfl, rfl, ⟨rfl, fun _ _ => rfl⟩, ?_, fun i hi => ?_⟩, rfl, rfl⟩
        · show _ = (b.drop (rqH b).2.1).length; rw [List.length_drop]
        · exact hdb.2 i hi
    · simp only [if_neg h3]
      rw [if_neg h3] at q1
      exact ⟨fun _ => no q1, fun h => absurd (Int.natCast_nonneg _) h⟩
  · cases h
attribute [push_cast] ckReadReq2

theorem eq_take {α : Type} [DecidableEq α] {d : α} {a b : List α} (h : a.length = b.length) (hh : ∀ j, j < a.length → a.getD j d = b.getD j d) : a = b := by
  apply List.ext_getElem h
  intro i h1 h2
  have := hh i h1
  rwa [List.getD_eq_getElem?_getD, List.getD_eq_getElem?_getD, List.getElem?_eq_getElem h1, List.getElem?_eq_getElem h2] at this
theorem ne_at {α : Type} {d : α} {a b : List α} {i : Nat} (h : a.getD i d ≠ b.getD i d) : a ≠ b := fun e => h (by rw [e])
def ckEqHd : Ck
  | [.sl n f, .sl m g] => some (isLs cHd n f ∧ isLs cHd m g ∧ n ≤ 4611686018427387904, .bool (decide (lsOf cHd n f = lsOf cHd m g)))
  | _ => none
theorem conEqHd : Con pg 24 ckEqHd := by
  have hct := ctN_ok pg
  intro args q r h hq
  unfold ckEqHd at h
  split at h
  · cases h
    rename_i n f m g
    refine pcall_args (args' := [.sl (lsOf cHd n f).length (lsF cHd (lsOf cHd n f)), .sl (lsOf cHd m g).length (lsF cHd (lsOf cHd m g))]) ⟨isLs.vle hq.1, isLs.vle hq.2.1, trivial⟩ ?_
    have hn : (lsOf cHd n f).length ≤ 4611686018427387904 := by rw [lsOf_len]; exact hq.2.2
    generalize lsOf cHd n f = a at hn ⊢
    generalize lsOf cHd m g = b
    refine w24 (fun _ => false) [] rfl hct rfl rfl ?_
    push_cast (config := { maxSteps := 10000000 })
    refine ⟨fun h => ?_, fun h => ?_⟩
    · exact (decide_eq_false fun e => h (by rw [e])).symm
    refine LoopW.adj ⟨hct, fol⟩ (by kernel_rfl) [] (fun i : Nat => [(0, .sl a.length (lsF cHd a)), (1, .sl b.length (lsF cHd b)), (12, .int .i64 a.length), (13, .int .i64 i)]) (fun _ => []) (fun i => i ≤ a.length ∧ ∀ j, j < i → a.getD j ⟨[], []⟩ = b.getD j ⟨[], []⟩) (fun i => a.length - i) 0 ?_ fun i hi => ?_
    · push_cast (config := { maxSteps := 10000000 })
      exact Nat.zero_le _
    · push_cast (config := { maxSteps := 10000000 })
      obtain ⟨h1, h2⟩ := hi
      refine ⟨fun hlt => ⟨hlt, by omega, fun hne => ?_, fun he => ⟨by omega, i + 1, ⟨by omega, fun j hj => ?_⟩, by omega, by omega⟩⟩, fun hge => ?_⟩
      · exact (decide_eq_false (ne_at (d := ⟨[], []⟩) (i := i) fun e => hne (by rw [e]) (by rw [e]))).symm
      · by_cases e : j = i
        · subst e
          have e1 : ∀ x y : Hd, x.name = y.name → x.value = y.value → x = y := fun x y h h' => by cases x; cases y; simp_all
          exact e1 _ _ he.1 he.2
        · exact h2 j (by omega)
      · exact (decide_eq_true (eq_take (d := ⟨[], []⟩) (by omega) fun j hj => h2 j (by omega))).symm
  · cases h
attribute [push_cast] ckEqHd

def ckSameInq : Ck
  | [.agg [.str s1, .str r1, .sl n f, .sl m g], .agg [.str s2, .str r2, .sl n' f', .sl m' g']] => some (isLs cHd n f ∧ isLs cHd n' f' ∧ n ≤ 4611686018427387904 ∧ isBy m g ∧ isBy m' g', .bool (decide ((⟨s1, r1, lsOf cHd n f, bytesOf m g⟩ : Inq) = ⟨s2, r2, lsOf cHd n' f', bytesOf m' g'⟩)))
  | _ => none
theorem conSameInq : Con pg 8 ckSameInq := by
  have hct := (ctA_ok conEqHd (ctA_ok conBEqual (ctN_ok _)))
  intro args q r h hq
  unfold ckSameInq at h
  split at h
  · cases h
    rename_i s1 r1 n f m g s2 r2 n' f' m' g'
    refine w8 (fun _ => false) [] rfl hct rfl rfl ?_
    push_cast (config := { maxSteps := 10000000 })
    obtain ⟨h1, h2, h3, h4, h5⟩ := hq
    refine ⟨fun h => ⟨h, h1, h2, h3⟩, fun h => ⟨h, h4, h5⟩, ?_⟩
    rw [Bool.eq_iff_iff]
    simp only [Bool.and_eq_true, beq_iff_eq, decide_eq_true_eq, Inq.mk.injEq, and_assoc]
  · cases h
attribute [push_cast] ckSameInq

theorem rq_hds (b : List UInt8) : (rqL b).1.hd.length ≤ 4611686018427387904 := by
  unfold rqL
  split
  · exact Nat.zero_le _
  split
  · split
    · split
      · rename_i h
        have := heads_100 (inq_parts h).2.2
        show (rqI b).hd.length ≤ _
        omega
      · exact Nat.zero_le _
    · exact Nat.zero_le _
  · exact Nat.zero_le _
def ckLawRR : Ck
  | [.sl n f] => some (isBy n f ∧ n ≤ 140737488355328, .bool true)
  | _ => none
theorem conLawRR : Con pg 3 ckLawRR := by
  have hct := (ctA_ok conReadReq (ctA_ok conReadReq2 (ctA_ok conSameInq (ctA_ok conAwake2 (ctN_ok _)))))
  intro args q r h hq
  unfold ckLawRR at h
  split at h
  · cases h
    rename_i n f
    refine pcall_args (args' := [.sl (bytesOf n f).length (byF (bytesOf n f))]) ⟨isBy.vle hq.1, trivial⟩ ?_
    have h1 : (bytesOf n f).length ≤ 140737488355328 := by rw [bytesOf_len]; exact hq.2
    generalize bytesOf n f = b at h1 ⊢
    refine w3 (fun _ => false) [] rfl hct rfl rfl ?_
    push_cast (config := { maxSteps := 10000000 })
    exact ⟨by omega, by omega, rq_hds b⟩
  · cases h
attribute [push_cast] ckLawRR
theorem allLawRR {H : Type} (ds : List (DataW H)) (hh : hasD [.list (.int .u8)] ds) : PCall pg 3 (ds.map toV) (.bool true) := by
  obtain ⟨d1, rfl, a⟩ := hasD1 hh
  obtain ⟨n, f, e1, h3, h4⟩ := shBytes a
  simp only [List.map_cons, List.map_nil, e1]
  have hr : reachBytes ≤ 140737488355328 := by unfold reachBytes; omega
  exact conLawRR _ _ _ rfl ⟨h3, Nat.le_trans h4 hr⟩

end Go.Abs
