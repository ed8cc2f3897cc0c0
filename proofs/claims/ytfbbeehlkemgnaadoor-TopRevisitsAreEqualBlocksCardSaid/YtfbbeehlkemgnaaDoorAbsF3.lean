/- what functions of this program compute: contracts, each a function's own -/
import Derived.Test.YtfbbeehlkemgnaaDoorAbsK2
import Derived.Test.YtfbbeehlkemgnaaDoorAbsFacts
import Derived.Test.YtfbbeehlkemgnaaDoorAbsF2
import Derived.Test.YtfbbeehlkemgnaaDoorAbsShelf
import Derived.Lib.SlTrimSet
import Derived.Lib.Atoi
import Derived.Lib.Itoa
import Derived.Lib.ItoaNum
import Derived.Lib.AtoiErrMem
import Derived.Lib.Repeat
import Derived.Lib.ItoaLen
import Derived.Lib.Fold
namespace Go.Abs
open Go Go.Proofs
set_option maxHeartbeats 4000000
set_option maxRecDepth 100000
set_option linter.unusedVariables false
set_option linter.unusedSimpArgs false
def ckFold : Ck
  | [.str s, .str t] => some (s.length < 4294967281 ∧ asciiC s = true ∧ asciiC t = true, .bool (Lib.equalFold s t))
  | _ => none
theorem conFold : Con pg 29 ckFold := by
  intro args q r h hq
  unfold ckFold at h
  split at h
  · cases h
    rename_i s t
    exact pcall_shelf (by kernel_rfl) rfl fun w hw => (Tryd.strings_EqualFold ⟨s.toArray⟩ ⟨t.toArray⟩ w (by show s.toArray.size < _; simpa using hq.1) (asciiC_at hq.2.1) (asciiC_at hq.2.2)).mono fun e w' h => shelf_bool h.1 (grow_eq h.2)
  · cases h
attribute [push_cast] ckFold
theorem fold_low : ∀ (s t : List UInt8), lowL t = t → (Lib.equalFold s t = (lowL s == t))
  | [], [], _ => rfl
  | [], _ :: _, _ => rfl
  | x :: s, [], _ => rfl
  | x :: s, y :: t, h => by
    have h1 : lowB y = y := (List.cons.inj h).1
    have h2 : lowL t = t := (List.cons.inj h).2
    have ih := fold_low s t h2
    have e : Lib.foldEq x y = (lowB x == y) := by
      have key : ∀ a, a < 256 → ∀ b, b < 256 → lowB (UInt8.ofNat b) = UInt8.ofNat b → Lib.foldEq (UInt8.ofNat a) (UInt8.ofNat b) = (lowB (UInt8.ofNat a) == UInt8.ofNat b) := by
        intro a ha b hb hl
        rw [Bool.eq_iff_iff, beq_iff_eq]
        unfold Lib.foldEq
        rw [decide_eq_true_eq]
        have ea : (UInt8.ofNat a).toNat = a := by rw [UInt8.toNat_ofNat']; omega
        have eb : (UInt8.ofNat b).toNat = b := by rw [UInt8.toNat_ofNat']; omega
        have hb2 : ¬ (65 ≤ b ∧ b ≤ 90) := by
          intro hh
          unfold lowB at hl
          rw [eb, if_pos (by omega)] at hl
          have := congrArg UInt8.toNat hl
          rw [eb, UInt8.toNat_ofNat'] at this
          omega
        rw [ea, eb]
        unfold lowB
        rw [ea]
        constructor
        · intro hh
          by_cases hc : 65 ≤ a ∧ a ≤ 90
          · rw [if_pos hc]
            congr 1
            omega
          · rw [if_neg hc]
            congr 1
            omega
        · intro hh
          have := congrArg UInt8.toNat hh
          by_cases hc : 65 ≤ a ∧ a ≤ 90
          · rw [if_pos hc, eb, UInt8.toNat_ofNat'] at this; omega
          · rw [if_neg hc, ea, eb] at this; omega
      have := key x.toNat (UInt8.toNat_lt x) y.toNat (UInt8.toNat_lt y) (by simpa using h1)
      simpa using this
    show (Lib.foldEq x y && Lib.equalFold s t) = (lowB x :: lowL s == y :: t)
    rw [ih, e]; rfl
def namesA (l : List Hd) : Prop := ∀ h ∈ l, asciiC h.name = true ∧ h.name.length ≤ 1000000
def ckHasPie : Ck
  | [.agg [.int .i64 ki, .str id, .str ow, .int .i64 ti, .str ke, .sl n f, .sl m g]] => some (isLs cHd n f ∧ namesA (lsOf cHd n f) ∧ n ≤ 1000000, .bool ((lsOf cHd n f).any fun h => lowL h.name == wPieces))
  | _ => none
theorem conHasPie : Con pg 15 ckHasPie := by
  have hct := (ctA_ok conFold (ctN_ok _))
  intro args q r h hq
  unfold ckHasPie at h
  split at h
  · cases h
    rename_i ki id ow ti ke n f m g
    refine pcall_args (args' := [.agg [.int .i64 ki, .str id, .str ow, .int .i64 ti, .str ke, .sl (lsOf cHd n f).length (lsF cHd (lsOf cHd n f)), .sl m g]]) ⟨VLe.agg ⟨VLe.refl _, VLe.refl _, VLe.refl _, VLe.refl _, VLe.refl _, isLs.vle hq.1, VLe.refl _, trivial⟩, trivial⟩ ?_
    obtain ⟨-, hl, hn⟩ := hq
    rw [← lsOf_len (c := cHd) n f] at hn
    generalize lsOf cHd n f = l at hl hn ⊢
    refine w15 (fun _ => false) [] rfl hct rfl rfl ?_
    push_cast (config := { maxSteps := 10000000 })
    refine LoopW.adj ⟨hct, fol⟩ (by kernel_rfl) [] (fun i : Nat => [(6, .sl l.length (lsF cHd l)), (7, .int .i64 l.length), (8, .int .i64 i)]) (fun _ => []) (fun i => i ≤ l.length ∧ (l.any fun h => lowL h.name == wPieces) = ((l.drop i).any fun h => lowL h.name == wPieces)) (fun i => l.length - i) 0 ?_ fun i hi => ?_
    · push_cast (config := { maxSteps := 10000000 })
      exact Nat.zero_le _
    · obtain ⟨i1, i2⟩ := hi
      push_cast (config := { maxSteps := 10000000 })
      rw [show ([112, 105, 101, 99, 101, 115] : List UInt8) = wPieces from rfl, fold_low _ wPieces rfl]
      refine ⟨fun h => ?_, fun h => ?_⟩
      · have hm := hl _ (getD_memH (d := ⟨[], []⟩) h)
        rw [dropG (d := ⟨[], []⟩) h, List.any_cons] at i2
        refine ⟨h, ⟨by omega, hm.1⟩, fun g => ?_, fun g => ⟨by omega, i + 1, ⟨by omega, ?_⟩, by omega, by omega⟩⟩
        · rw [i2]
          have g : (lowL (l.getD i ⟨[], []⟩).name == wPieces) = true := g
          rw [g]; rfl
        · have g : (lowL (l.getD i ⟨[], []⟩).name == wPieces) = false := g
          rw [g, Bool.false_or] at i2
          exact i2
      · rw [i2, List.drop_eq_nil_of_le (by omega)]; rfl
  · cases h
attribute [push_cast] ckHasPie
def recsA (l : List Rcd) : Prop := ∀ r ∈ l, namesA r.hd ∧ r.hd.length ≤ 1000000
def ckHasOf : Ck
  | [.sl n f] => some (isLs cRec n f ∧ recsA (lsOf cRec n f) ∧ n ≤ 1000000, .bool ((lsOf cRec n f).any fun r => decide (r.ow ≠ []) || pieB r))
  | _ => none
theorem conHasOf : Con pg 6 ckHasOf := by
  have hct := (ctA_ok conHasPie (ctN_ok _))
  intro args q r h hq
  unfold ckHasOf at h
  split at h
  · cases h
    rename_i n f
    refine pcall_args (args' := [.sl (lsOf cRec n f).length (lsF cRec (lsOf cRec n f))]) ⟨isLs.vle hq.1, trivial⟩ ?_
    obtain ⟨-, hl, hn⟩ := hq
    rw [← lsOf_len (c := cRec) n f] at hn
    generalize lsOf cRec n f = l at hl hn ⊢
    refine w6 (fun _ => false) [] rfl hct rfl rfl ?_
    push_cast (config := { maxSteps := 10000000 })
    refine LoopW.adj ⟨hct, fol⟩ (by kernel_rfl) [] (fun i : Nat => [(5, .sl l.length (lsF cRec l)), (6, .int .i64 l.length), (7, .int .i64 i)]) (fun _ => []) (fun i => i ≤ l.length ∧ (l.any fun r => decide (r.ow ≠ []) || pieB r) = ((l.drop i).any fun r => decide (r.ow ≠ []) || pieB r)) (fun i => l.length - i) 0 ?_ fun i hi => ?_
    · push_cast (config := { maxSteps := 10000000 })
      exact Nat.zero_le _
    · obtain ⟨i1, i2⟩ := hi
      push_cast (config := { maxSteps := 10000000 })
      have en : (fun r : Rcd => decide ¬ r.ow = [] || pieB r) = (fun r => decide (r.ow ≠ []) || pieB r) := rfl
      refine ⟨fun h => ?_, fun h => ?_⟩
      · have hm := hl _ (getD_memH (d := noRec) h)
        rw [dropG (d := noRec) h, List.any_cons] at i2
        refine ⟨h, fun g => ⟨g, hm⟩, fun g => ?_, fun g => ⟨by omega, i + 1, ⟨by omega, ?_⟩, by omega, by omega⟩⟩
        · show true = l.any fun r => decide (r.ow ≠ []) || pieB r
          rw [i2]
          rcases g with g | g
          · rw [decide_eq_true (show (l.getD i noRec).ow ≠ [] from g)]; rfl
          · rw [show pieB (l.getD i noRec) = true from g, Bool.or_true]; rfl
        · show (l.any fun r => decide (r.ow ≠ []) || pieB r) = _
          rw [i2, decide_eq_false (show ¬ (l.getD i noRec).ow ≠ [] from fun x => x g.1), show pieB (l.getD i noRec) = false from g.2]; rfl
      · show false = l.any fun r => decide (r.ow ≠ []) || pieB r
        rw [i2, List.drop_eq_nil_of_le (by omega)]; rfl
  · cases h
attribute [push_cast] ckHasOf
def lonG (l : List (List UInt8)) (k : Nat) : Int := l.foldl (fun n b => max n (b.length : Int)) (k : Int)
def lonL (l : List (List UInt8)) : Int := l.foldl (fun n b => max n (b.length : Int)) 0
def ckLon : Ck
  | [.sl n f] => some (isLs cBy n f ∧ n ≤ 1000000, .int .i64 (lonL (lsOf cBy n f)))
  | _ => none
theorem conLon : Con pg 7 ckLon := by
  have hct := ctN_ok pg
  intro args q r h hq
  unfold ckLon at h
  split at h
  · cases h
    rename_i n f
    refine pcall_args (args' := [.sl (lsOf cBy n f).length (lsF cBy (lsOf cBy n f))]) ⟨isLs.vle hq.1, trivial⟩ ?_
    obtain ⟨-, hn⟩ := hq
    rw [← lsOf_len (c := cBy) n f] at hn
    generalize lsOf cBy n f = l at hn ⊢
    refine w7 (fun _ => false) [] rfl hct rfl rfl ?_
    push_cast (config := { maxSteps := 10000000 })
    refine LoopW.adj ⟨hct, fol⟩ (by kernel_rfl) [] (fun i : Nat => [(3, .int .i64 (lonL (l.take i))), (6, .sl l.length (lsF cBy l)), (7, .int .i64 l.length), (8, .int .i64 i)]) (fun _ => []) (fun i => i ≤ l.length) (fun i => l.length - i) 0 ?_ fun i hi => ?_
    · push_cast (config := { maxSteps := 10000000 })
      exact ⟨Nat.zero_le _, rfl⟩
    · push_cast (config := { maxSteps := 10000000 })
      refine ⟨fun h => ⟨h, by omega, i + 1, by omega, by omega, ?_, by omega⟩, fun h => by rw [List.take_of_length_le (by omega)]⟩
      have e : l.take (i + 1) = l.take i ++ [l.getD i []] := by
        rw [List.getD_eq_getElem?_getD, List.getElem?_eq_getElem h, List.take_succ_eq_append_getElem h]; rfl
      rw [e]
      unfold lonL
      rw [List.foldl_append]; rfl
  · cases h
attribute [push_cast] ckLon

def encN (r : Rcd) (b : Bool) : V := .agg [.int .i64 r.ki, .str r.id, .str r.ow, .int .i64 r.ti, .str r.ke, .sl r.hd.length (lsF cHd r.hd), bif b then .nilsl else .sl r.bd.length (byF r.bd)]
def isRev (l : List Rcd) (i : Nat) : Bool := candB l (l.getD i noRec) && (fstR l (l.take i) (l.getD i noRec)).isSome
def revG (l : List Rcd) (k j : Nat) : V := encN ((revU l k).getD j noRec) (decide (j < k) && isRev l j)
theorem ssC : SsK pg.prog 43 := by
  exact ssK_of (e := 9) (n := pg.prog.types.size - 1) (fs := match pg.prog.underlying 43 with
    | some (.struct x) => x
    | _ => #[]) (deep_law (m := 3) (by decide) (by kernel_rfl) (by kernel_rfl) (by kernel_rfl)) (by kernel_rfl) (by kernel_rfl) (by kernel_rfl) (by kernel_rfl) (by kernel_rfl) (by kernel_rfl) (by kernel_rfl) (by kernel_rfl)
theorem revU_kk (l : List Rcd) (k : Nat) : (revU l k).getD k noRec = l.getD k noRec := by
  by_cases h : k < l.length
  · exact revU_at l (Nat.le_refl k) h
  · rw [List.getD_eq_getElem?_getD, List.getD_eq_getElem?_getD, List.getElem?_eq_none (l := l) (by omega)]
    unfold revU
    rw [List.getElem?_eq_none]
    rw [List.length_append, List.length_map, List.length_range, List.length_drop]; omega
@[push_cast] theorem revG_kk (l : List Rcd) (k : Nat) : revG l k k = .agg [.int .i64 (l.getD k noRec).ki, .str (l.getD k noRec).id, .str (l.getD k noRec).ow, .int .i64 (l.getD k noRec).ti, .str (l.getD k noRec).ke, .sl (l.getD k noRec).hd.length (lsF cHd (l.getD k noRec).hd), .sl (l.getD k noRec).bd.length (byF (l.getD k noRec).bd)] := by
  unfold revG
  rw [revU_kk, decide_eq_false (Nat.lt_irrefl k)]; rfl
theorem revG_0 (l : List Rcd) (j : Nat) : revG l 0 j = lsF cRec l j := by
  unfold revG
  rw [revU_0, decide_eq_false (Nat.not_lt_zero j)]; rfl
@[push_cast] theorem kill_revG (d : Nat) (l : List Rcd) (k j : Nat) : V.kill d (revG l k j) = revG l k j := by
  unfold revG encN
  cases decide (j < k) && isRev l j <;> rfl
theorem pure_revG (l : List Rcd) (k j : Nat) : (revG l k j).isPure = true := by
  unfold revG encN
  cases decide (j < k) && isRev l j <;> rfl
@[push_cast] theorem setF_kkR (f : Nat → V) (k : Nat) (v : V) : setF f k v k = v := by
  unfold setF; rw [decide_eq_true rfl]; rfl
theorem setF_3 (f : Nat → V) (k : Nat) (a b c : V) (j : Nat) : setF (setF (setF f k a) k b) k c j = if j = k then c else f j := by
  unfold setF
  by_cases e : j = k
  · rw [decide_eq_true e, if_pos e]; rfl
  · rw [decide_eq_false e, if_neg e]; rfl
theorem revG_s (l : List Rcd) {k : Nat} (h : k < l.length) (j : Nat) : revG l (k + 1) j = if j = k then encN (revF l k) (isRev l k) else revG l k j := by
  have hl := revU_len l (Nat.le_of_lt h)
  unfold revG
  rw [revU_s l h]
  by_cases e : j = k
  · subst e
    rw [if_pos rfl, decide_eq_true (Nat.lt_succ_self j), Bool.true_and, List.getD_eq_getElem?_getD, List.getElem?_set_self (by omega)]; rfl
  · rw [if_neg e, List.getD_eq_getElem?_getD, List.getElem?_set, if_neg (fun x => e x.symm), ← List.getD_eq_getElem?_getD]
    congr 2
    exact decide_eq_decide.2 (by omega)
theorem rev_stay (l : List Rcd) {k : Nat} (h : isRev l k = false) : encN (revF l k) (isRev l k) = revG l k k := by
  have hF : revF l k = l.getD k noRec := by
    unfold revF revR
    unfold isRev at h
    by_cases hc : candB l (l.getD k noRec) = true
    · rw [if_pos hc]
      rw [hc, Bool.true_and] at h
      cases hf : fstR l (l.take k) (l.getD k noRec) with
      | none => rfl
      | some x => rw [hf] at h; cases h
    · rw [if_neg hc]
  rw [h, hF, revG_kk]; rfl
theorem rev_go (l : List Rcd) {k : Nat} {x : Rcd} (hc : candB l (l.getD k noRec) = true) (hf : fstR l (l.take k) (l.getD k noRec) = some x) : encN (revF l k) (isRev l k) = .agg [.int .i64 4, .str (l.getD k noRec).id, .str x.id, .int .i64 (l.getD k noRec).ti, .str (l.getD k noRec).ke, .sl (l.getD k noRec).hd.length (lsF cHd (l.getD k noRec).hd), .nilsl] := by
  have h1 : isRev l k = true := by unfold isRev; rw [hc, hf]; rfl
  have h2 : revF l k = ⟨4, (l.getD k noRec).id, x.id, (l.getD k noRec).ti, (l.getD k noRec).ke, (l.getD k noRec).hd, []⟩ := by
    unfold revF revR; rw [if_pos hc, hf]
  rw [h1, h2]; rfl
theorem rev_step (l : List Rcd) {k : Nat} (h : k < l.length) (hr : isRev l k = false) (j : Nat) : revG l k j = revG l (k + 1) j := by
  rw [revG_s l h]
  by_cases e : j = k
  · subst e; rw [if_pos rfl, rev_stay l hr]
  · rw [if_neg e]
theorem cand_iff {l : List Rcd} {r : Rcd} : candB l r = true ↔ (((r.ki = 3 ∧ ¬ (r.bd.length : Int) = 0) ∧ r.ow = []) ∧ (List.map Rcd.ow l).contains r.id = false) ∧ ¬ 0 ≤ fstH r.hd [112, 105, 101, 99, 101, 115] := by
  have hb : r.bd ≠ [] ↔ ¬ (r.bd.length : Int) = 0 := by
    rw [← List.length_pos_iff]; omega
  have hp : pieB r = false ↔ ¬ 0 ≤ fstH r.hd [112, 105, 101, 99, 101, 115] := by
    rw [fstH_any]
    show (r.hd.any fun h => lowL h.name == wPieces) = false ↔ ¬ (r.hd.any fun h => lowL h.name == wPieces) = true
    simp
  unfold candB ofB
  rw [← hb, ← hp]
  simp only [Bool.and_eq_true, Bool.not_eq_true', decide_eq_true_eq]
def ckRevV : Ck
  | [.sl n f] => some (isLs cRec n f ∧ recsOk (lsOf cRec n f), .tup [.sl (if checkFileL (lsOf cRec n f) = 0 then (lsOf cRec n f).length else 0) (revG (lsOf cRec n f) (lsOf cRec n f).length), .int .i64 (checkFileL (lsOf cRec n f))])
  | _ => none
theorem conRevV : Con pg 4 ckRevV := by
  have hct := (ctA_ok conCheckFile (ctA_ok conRhead (ctW_ok conCopiesN (ctN_ok _))))
  intro args q r h hq
  unfold ckRevV at h
  split at h
  · cases h
    rename_i n f
    refine pcall_args (args' := [.sl (lsOf cRec n f).length (lsF cRec (lsOf cRec n f))]) ⟨isLs.vle hq.1, trivial⟩ ?_
    obtain ⟨-, hl⟩ := hq
    generalize lsOf cRec n f = l at hl ⊢
    refine w4 (fun _ => false) [.frz 33] rfl hct rfl rfl ?_
    push_cast (config := { maxSteps := 10000000 })
    refine ⟨hl, fun h => ?_, fun h => ?_⟩
    · rw [if_neg h]
    rw [if_pos h]
    obtain ⟨hck, -, hlen⟩ := file_ok h
    refine LoopW.adj ⟨hct, fol⟩ (by kernel_rfl) [] (fun i : Nat => [(0, .sl l.length (lsF cRec l)), (5, .map 20), (21, .sl l.length (lsF cRec l)), (22, .int .i64 l.length), (23, .int .i64 i)]) (fun i => [(20, .mp .str (seenM ((l.take i).map Rcd.ow)))]) (fun i => i ≤ l.length) (fun i => l.length - i) 0 ?_ fun i hi => ?_
    · push_cast (config := { maxSteps := 10000000 })
      exact ⟨Nat.zero_le _, seen_nil⟩
    · push_cast (config := { maxSteps := 10000000 })
      refine ⟨fun hlt => ?_, fun hge => ?_⟩
      · refine ⟨hlt, by omega, i + 1, by omega, by omega, by omega, fun k => ?_⟩
        have e : l.take (i + 1) = l.take i ++ [l.getD i noRec] := by
          rw [List.getD_eq_getElem?_getD, List.getElem?_eq_getElem hlt, List.take_succ_eq_append_getElem hlt]; rfl
        rw [e, List.map_append]
        exact putM_seen _ _ _
      · have hi : i = l.length := by omega
        have hrs := fun r (hr : r ∈ l) => rec_sz (hck r hr)
        have h30 : ∀ r ∈ l, r.hd.length ≤ 1000000 := fun r hr => by
          obtain ⟨-, -, -, -, -, -, z⟩ := hrs r hr
          omega
        refine ⟨⟨hl, h30, by omega⟩, ?_⟩
        rw [hi, List.take_length]
        refine LoopW.adj ⟨hct, fol⟩ (by kernel_rfl) [] (fun k : Nat => [(5, .map 20), (8, .map 31), (9, .vec 33 l.length), (34, .vec 33 l.length), (35, .int .i64 l.length), (36, .int .i64 k)]) (fun k => [(20, .mp .str (seenM (l.map Rcd.ow))), (31, .mp .ss (firM l (l.take k))), (33, .vec 7 l.length (revG l k))]) (fun k => k ≤ l.length) (fun k => l.length - k) 0 ?_ fun k hk => ?_
        · push_cast (config := { maxSteps := 10000000 })
          exact ⟨Nat.zero_le _, fun k => by cases k <;> rfl, fun i hi => (revG_0 l i).symm⟩
        · push_cast (config := { maxSteps := 10000000 })
          refine ⟨fun hlt => ?_, fun hge => ?_⟩
          · have ok := recsOk_at hl hlt
            have e1 : l.take (k + 1) = l.take k ++ [l.getD k noRec] := by
              rw [List.getD_eq_getElem?_getD, List.getElem?_eq_getElem hlt, List.take_succ_eq_append_getElem hlt]; rfl
            have hN : hdsN (l.getD k noRec).hd := fun x hx => (ok.1 x hx).1
            have h30k := h30 _ (getD_memH (d := noRec) hlt)
            have hci := cand_iff (l := l) (r := l.getD k noRec)
            have hfm := firM_at l (l.take k) (l.getD k noRec)
            have hst := rev_step l hlt
            refine ⟨hlt, hlt, fun g => ⟨g, hN, h30k⟩, fun g => ?_, fun g => ?_⟩
            · have hc : candB l (l.getD k noRec) = false := by
                cases e : candB l (l.getD k noRec) with
                | false => rfl
                | true =>
                  obtain ⟨⟨⟨⟨x1, x2⟩, x3⟩, x4⟩, x5⟩ := hci.1 e
                  rcases g with ((g | g) | g) | g
                  · rcases g with g | g
                    · exact absurd x1 g
                    · exact absurd g x2
                  · exact absurd x3 g
                  · rw [x4] at g; cases g
                  · exact absurd g x5
              refine ⟨by omega, k + 1, by omega, by omega, by omega, fun z => ?_, fun j hj => hst (by unfold isRev; rw [hc]; rfl) j⟩
              rw [e1]; exact (firM_no hc z).symm
            · have hc := hci.2 g
              refine ⟨⟨⟨ssC, ok.2.2.2.1, ok.2.2.2.2.2.1⟩, firM_okS _ _ _⟩, fun a => ?_, fun a => ⟨⟨ssC, ok.2.2.2.1, ok.2.2.2.2.2.1⟩, by omega, k + 1, by omega, by omega, by omega, fun z => ?_, fun j hj => hst ?_ j⟩⟩
              · cases hf : fstR l (l.take k) (l.getD k noRec) with
                | none => rw [hfm, hf] at a; cases a
                | some x =>
                  refine ⟨hlt, hlt, hlt, hlt, hlt, hlt, by omega, k + 1, by omega, by omega, by omega, fun z => ?_, fun j hj => ?_⟩
                  · rw [e1]; exact (firM_old hf z).symm
                  · rw [setF_3, revG_s l hlt, rev_go l hc hf, hfm, hf]; rfl
              · have hf : fstR l (l.take k) (l.getD k noRec) = none := by
                  cases e : fstR l (l.take k) (l.getD k noRec) with
                  | none => rfl
                  | some x => rw [hfm, e] at a; cases a
                rw [e1]; exact firM_new hc hf z
              · have hf : fstR l (l.take k) (l.getD k noRec) = none := by
                  cases e : fstR l (l.take k) (l.getD k noRec) with
                  | none => rfl
                  | some x => rw [hfm, e] at a; cases a
                unfold isRev; rw [hf]; simp
          · have hkl : k = l.length := by omega
            refine ⟨fun j _ => pure_revG l k j, fun j _ => by rw [hkl], h.symm⟩
  · cases h
attribute [push_cast] ckRevV
def revR0 (l : List Rcd) : List Rcd := if checkFileL l = 0 then revL l else []
def ckRev : Ck
  | [.sl n f] => some (isLs cRec n f ∧ recsOk (lsOf cRec n f), .tup [.sl (revR0 (lsOf cRec n f)).length (lsF cRec (revR0 (lsOf cRec n f))), .int .i64 (checkFileL (lsOf cRec n f))])
  | _ => none
theorem VLe.tup2 {a b c : V} (h : VLe a b) : VLe (.tup [a, c]) (.tup [b, c]) := by
  intro γ imm w v hr
  obtain ⟨vs, rfl, h1, h2⟩ := inv_tup (S := ⟨γ, imm, fun _ => none, w⟩) hr
  exact .tup _ vs h1 fun i hi => by
    match i, hi with
    | 0, _ => exact h _ _ _ _ (h2 0 (by simp))
    | 1, _ => exact h2 1 (by simp)
theorem PLe.nilS (f : Nat → V) : PLe .nilsl (.sl 0 f) := by
  intro imm w v h
  cases h
  exact .sl0 _ _ _
theorem rev_bd (l : List Rcd) {i : Nat} (h : isRev l i = true) : (revF l i).bd = [] := by
  unfold isRev at h
  rw [Bool.and_eq_true] at h
  unfold revF revR
  rw [if_pos h.1]
  cases hf : fstR l (l.take i) (l.getD i noRec) with
  | none => rw [hf] at h; cases h.2
  | some x => rfl
theorem revG_end (l : List Rcd) {i : Nat} (h : i < l.length) : revG l l.length i = encN (revF l i) (isRev l i) := by
  unfold revG
  rw [revU_end, revL_at l h, decide_eq_true h, Bool.true_and]
theorem enc_ple (r : Rcd) {b : Bool} (h : b = true → r.bd = []) : pleL (encN r b).flat (cRec.enc r).flat := by
  refine ⟨PLe.refl _, PLe.refl _, PLe.refl _, PLe.refl _, PLe.refl _, PLe.refl _, ?_, trivial⟩
  cases b with
  | false => exact PLe.refl _
  | true =>
    rw [h rfl]
    exact PLe.nilS _
theorem conRev : Con pg 4 ckRev := by
  intro args q r h hq
  unfold ckRev at h
  split at h
  · cases h
    rename_i n f
    refine pcall_res (VLe.tup2 ?_) (conRevV _ _ _ rfl hq)
    generalize lsOf cRec n f = l
    unfold revR0
    by_cases he : checkFileL l = 0
    · rw [if_pos he, if_pos he]
      refine VLe.slP (revL_len l).symm fun i hi => ?_
      rw [revG_end l hi]
      have e : lsF cRec (revL l) i = cRec.enc (revF l i) := by
        show cRec.enc ((revL l).getD i noRec) = _
        rw [revL_at l hi]
      rw [e]
      exact enc_ple _ (rev_bd l)
    · rw [if_neg he, if_neg he]
      exact VLe.slP rfl fun i hi => absurd hi (Nat.not_lt_zero i)
  · cases h
attribute [push_cast] ckRev

def fsM (l : List (List UInt8)) (i : Nat) : MK → Option V
  | .str s => if l.findIdx (· == s) < i then some (.int .i64 (l.findIdx (· == s))) else none
  | _ => none
def firL (l : List (List UInt8)) : List Int := (List.range l.length).map fun k => (fstI l k : Int)
theorem fsM_okI (l : List (List UInt8)) (i : Nat) (k : MK) : okI .i64 (fsM l i k) := by
  cases k with
  | str s => simp only [fsM]; split <;> trivial
  | int _ _ => trivial
  | ss _ _ => trivial
theorem fs_ne {l : List (List UInt8)} {i : Nat} (h : i < l.length) {s : List UInt8} (hs : s ≠ l.getD i []) : ¬ l.findIdx (· == s) = i := by
  intro e
  have h2 : l.findIdx (· == s) < l.length := by omega
  have := List.findIdx_getElem (p := fun b => b == s) (xs := l) (w := h2)
  simp only [e] at this
  rw [beq_iff_eq] at this
  rw [List.getD_eq_getElem?_getD, List.getElem?_eq_getElem h] at hs
  exact hs this.symm
theorem fs_le {l : List (List UInt8)} {i : Nat} (h : i < l.length) : l.findIdx (· == l.getD i []) ≤ i := fstI_le (B := l) (k := i) rfl h
theorem fsM_old {l : List (List UInt8)} {i : Nat} (h : i < l.length) (hf : l.findIdx (· == l.getD i []) < i) (k : MK) : fsM l (i + 1) k = fsM l i k := by
  cases k with
  | str s =>
    simp only [fsM]
    by_cases e : s = l.getD i []
    · subst e; rw [if_pos hf, if_pos (by omega)]
    · have := fs_ne h e
      by_cases g : l.findIdx (· == s) < i
      · rw [if_pos g, if_pos (by omega)]
      · rw [if_neg g, if_neg (by omega)]
  | int _ _ => rfl
  | ss _ _ => rfl
theorem fsM_new {l : List (List UInt8)} {i : Nat} (h : i < l.length) (hf : ¬ l.findIdx (· == l.getD i []) < i) (k : MK) : putM (fsM l i) (.str (l.getD i [])) (.int .i64 i) k = fsM l (i + 1) k := by
  have hle := fs_le h
  unfold putM
  by_cases e : k = .str (l.getD i [])
  · subst e
    rw [decide_eq_true rfl, cond_true]
    simp only [fsM]
    rw [if_pos (by omega), show l.findIdx (· == l.getD i []) = i by omega]
  · rw [decide_eq_false e, cond_false]
    cases k with
    | str s =>
      have hs : s ≠ l.getD i [] := fun x => e (by rw [x])
      have := fs_ne h hs
      simp only [fsM]
      by_cases g : l.findIdx (· == s) < i
      · rw [if_pos g, if_pos (by omega)]
      · rw [if_neg g, if_neg (by omega)]
    | int _ _ => rfl
    | ss _ _ => rfl
def ckFirsts : Ck
  | [.sl n f] => some (isLs cBy n f ∧ n ≤ 300 ∧ ∀ b ∈ lsOf cBy n f, b.length ≤ 20000, .tup [.sl (firL (lsOf cBy n f)).length (lsF cInt (firL (lsOf cBy n f))), .int .i64 0])
  | _ => none
theorem conFirsts : Con pg 8 ckFirsts := by
  have hct := ctN_ok pg
  intro args q r h hq
  unfold ckFirsts at h
  split at h
  · cases h
    rename_i n f
    refine pcall_args (args' := [.sl (lsOf cBy n f).length (lsF cBy (lsOf cBy n f))]) ⟨isLs.vle hq.1, trivial⟩ ?_
    obtain ⟨-, hn, hl⟩ := hq
    rw [← lsOf_len (c := cBy) n f] at hn
    generalize lsOf cBy n f = l at hl hn ⊢
    refine w8 (fun _ => false) [.frz 8000] rfl hct rfl rfl ?_
    push_cast (config := { maxSteps := 10000000 })
    refine ⟨fun h => by omega, fun h => ?_⟩
    refine LoopW.adj ⟨hct, fol⟩ (by kernel_rfl) [.nv 5 8000 1 (lsF cInt [])] (fun i : Nat => [(4, .map 13), (5, .vec 8000 i), (14, .sl l.length (lsF cBy l)), (15, .int .i64 l.length), (16, .int .i64 i)]) (fun i => [(13, .mp .str (fsM l i)), (8000, .vec 1 i (lsF cInt (firL l)))]) (fun i => i ≤ l.length) (fun i => l.length - i) 0 ?_ fun i hi => ?_
    · push_cast (config := { maxSteps := 10000000 })
      exact ⟨Nat.zero_le _, fun k => by cases k <;> rfl⟩
    · push_cast (config := { maxSteps := 10000000 })
      refine ⟨fun h => ?_, fun h => by unfold firL; rw [List.length_map, List.length_range]; omega⟩
      have hb := hl _ (getD_memH (d := []) h)
      have hi1 : fsM l (i + 1) (.str (l.getD i [])) = some (.int .i64 (fstI l i)) := by
        have := fs_le h
        simp only [fsM]
        rw [if_pos (by omega)]; rfl
      have hfl : (firL l).getD i 0 = (fstI l i : Int) := by
        unfold firL
        rw [List.getD_eq_getElem?_getD, List.getElem?_map, List.getElem?_range h]; rfl
      have hap : ∀ j, j < i + 1 → appF i (lsF cInt (firL l)) (litF [V.int IntKind.i64 (fstI l i)]) j = V.int IntKind.i64 ((firL l).getD j 0) := fun j hj => by
        unfold appF
        by_cases e : j < i
        · rw [decide_eq_true e]; rfl
        · rw [decide_eq_false e]
          obtain rfl : j = i := by omega
          rw [Nat.sub_self, cond_false, hfl]; rfl
      have hsm : (fsM l i (.str (l.getD i []))).isSome = true ↔ l.findIdx (· == l.getD i []) < i := by
        simp only [fsM]
        by_cases g : l.findIdx (· == l.getD i []) < i
        · rw [if_pos g]; exact ⟨fun _ => g, fun _ => rfl⟩
        · rw [if_neg g]; exact ⟨fun x => absurd x (by simp), fun x => absurd x g⟩
      refine ⟨h, fun g => by omega, fun g => ⟨fsM_okI _ _ _, fun a => ?_, fun a => ?_⟩⟩
      · have hn2 : ¬ l.findIdx (· == l.getD i []) < i := fun x => by rw [hsm.2 x] at a; cases a
        have hp := fsM_new h hn2
        rw [hp, hi1]
        exact ⟨rfl, by omega, by omega, i + 1, by omega, by omega, ⟨rfl, by omega⟩, hp, rfl, hap⟩
      · have hy := hsm.1 a
        have hp := fsM_old h hy
        rw [← hp, hi1]
        exact ⟨rfl, by omega, by omega, i + 1, by omega, by omega, ⟨rfl, by omega⟩, fun k => (hp k).symm, rfl, hap⟩
  · cases h
attribute [push_cast] ckFirsts

/- lists of records as arguments -/
theorem shRecX {m : Nat} {v : V} (h : Sh.has (.tup [.int .i64, .str, .str, .int .i64, .str, .list (.tup [.str, .str]), .list (.int .u8)]) m v) : ∃ ki id ow ti ke n f k g, v = .agg [.int .i64 ki, .str id, .str ow, .int .i64 ti, .str ke, .sl n f, .sl k g] ∧ isLs cHd n f ∧ isBy k g := by
  obtain ⟨l, ms, rfl, -, hl⟩ := h
  obtain ⟨m1, v1, ms, l, rfl, h1, hl⟩ := hasL_cons hl
  obtain ⟨m2, v2, ms, l, rfl, h2, hl⟩ := hasL_cons hl
  obtain ⟨m3, v3, ms, l, rfl, h3, hl⟩ := hasL_cons hl
  obtain ⟨m4, v4, ms, l, rfl, h4, hl⟩ := hasL_cons hl
  obtain ⟨m5, v5, ms, l, rfl, h5, hl⟩ := hasL_cons hl
  obtain ⟨m6, v6, ms, l, rfl, h6, hl⟩ := hasL_cons hl
  obtain ⟨m7, v7, ms, l, rfl, h7, hl⟩ := hasL_cons hl
  obtain rfl := hasL_nil hl
  obtain ⟨ki, rfl, c1⟩ := shInt h1
  obtain ⟨id, rfl, b2⟩ := shStr h2
  obtain ⟨ow, rfl, b3⟩ := shStr h3
  obtain ⟨ti, rfl, c4⟩ := shInt h4
  obtain ⟨ke, rfl, b5⟩ := shStr h5
  obtain ⟨n, f, rfl, i6, b6, k6⟩ := shList (c := cHd) (fun m v h => shHead h) h6
  obtain ⟨k, g, rfl, i7, b7⟩ := shBytes h7
  exact ⟨ki, id, ow, ti, ke, n, f, k, g, rfl, i6, i7⟩
theorem shRecs {m : Nat} {v : V} (h : Sh.has (.list (.tup [.int .i64, .str, .str, .int .i64, .str, .list (.tup [.str, .str]), .list (.int .u8)])) m v) : ∃ (n : Nat) (f : Nat → V), v = .sl n f ∧ isLv cRec n f ∧ n ≤ 140737488355328 ∧ recsOk (lsOf cRec n f) := by
  obtain ⟨l, ms, rfl, h1, h2, h3, h4⟩ := h
  have := reach_le
  refine ⟨_, _, rfl, ?_, by omega, fun a ha => ?_⟩
  · unfold isLv
    rw [lsOf_len]
    refine VLe.slV fun i hi => ?_
    obtain ⟨ki, id, ow, ti, ke, n, f, k, g, e, i6, i7⟩ := shRecX (h4 i hi)
    have e : litF l i = _ := e
    have e2 : lsF cRec (lsOf cRec l.length (litF l)) i = cRec.enc (cRec.dec (litF l i)) := by
      unfold lsF lsOf
      rw [List.getD_eq_getElem?_getD, List.getElem?_map, List.getElem?_range hi]; rfl
    rw [e2, e]
    refine ⟨rfl, fun j hj => ?_⟩
    match j, hj with
    | 0, _ => exact ⟨VLe.refl _, rfl⟩
    | 1, _ => exact ⟨VLe.refl _, rfl⟩
    | 2, _ => exact ⟨VLe.refl _, rfl⟩
    | 3, _ => exact ⟨VLe.refl _, rfl⟩
    | 4, _ => exact ⟨VLe.refl _, rfl⟩
    | 5, _ => exact ⟨isLs.vle i6, rfl⟩
    | 6, _ => exact ⟨isBy.vle i7, rfl⟩
  · simp only [lsOf, List.mem_map, List.mem_range] at ha
    obtain ⟨i, hi, rfl⟩ := ha
    exact (shRec (h4 i hi)).2

def ckAlive : Ck
  | [] => some (True, .bool true)
  | _ => none
def ckDigN : Ck
  | [.nilsl] => some (True, .str (digestL []))
  | _ => none
theorem conDigN : Con pg 14 ckDigN := by
  intro args q r h hq
  unfold ckDigN at h
  split at h
  · cases h
    exact pcall_args (args' := [.sl 0 (byF [])]) ⟨VLe.nilsl _, trivial⟩ (conDigest _ _ _ rfl ⟨isBy_by [], by decide⟩)
  · cases h
attribute [push_cast] ckDigN
theorem conAlive : Con pg 5 ckAlive := by
  have hct := (ctA_ok conDateText (ctA_ok conHasPre (ctA_ok conDigN (ctN_ok _))))
  intro args q r h hq
  unfold ckAlive at h
  split at h
  · cases h
    refine w5 (fun _ => false) [] rfl hct rfl rfl ?_
    push_cast (config := { maxSteps := 10000000 })
    exact ⟨by decide +kernel, by decide +kernel, by decide +kernel⟩
  · cases h
attribute [push_cast] ckAlive
theorem lon_at {l : List (List UInt8)} (h : ¬ 20000 < lonL l) : ∀ b ∈ l, b.length ≤ 20000 := by
  have key : ∀ (l : List (List UInt8)) (n : Int), n ≤ l.foldl (fun n b => max n (b.length : Int)) n ∧ ∀ b ∈ l, (b.length : Int) ≤ l.foldl (fun n b => max n (b.length : Int)) n := by
    intro l
    induction l with
    | nil => intro n; exact ⟨Int.le_refl _, fun b hb => by cases hb⟩
    | cons x t ih =>
      intro n
      obtain ⟨h1, h2⟩ := ih (max n x.length)
      rw [List.foldl_cons]
      refine ⟨by omega, fun b hb => ?_⟩
      rcases List.mem_cons.1 hb with e | e
      · subst e; omega
      · exact h2 b e
  intro b hb
  have := (key l 0).2 b hb
  unfold lonL at h
  omega
theorem hdGo_mem : ∀ {l : List Hd}, headsGo l = 0 → ∀ h ∈ l, tokL h.name = true ∧ valueL h.value = true
  | [], _, h, hh => by cases hh
  | x :: t, e, h, hh => by
    simp only [headsGo] at e
    split at e
    · rename_i h1
      split at e
      · rename_i h2
        rcases List.mem_cons.1 hh with rfl | hh
        · exact ⟨h1, h2⟩
        · exact hdGo_mem e h hh
      · omega
    · omega
theorem hd_mem {l : List Hd} (e : checkHeadsL l = 0) : ∀ h ∈ l, tokL h.name = true ∧ valueL h.value = true := by
  unfold checkHeadsL at e
  split at e
  · omega
  · exact hdGo_mem e
theorem tokB_ascii {c : UInt8} (h : tokB c = true) : c.toNat < 128 := by
  have key : ∀ n, n < 256 → tokB (UInt8.ofNat n) = true → n < 128 := by decide +kernel
  exact key c.toNat (UInt8.toNat_lt c) (by simpa using h)
theorem recs_a {l : List Rcd} (h : ∀ r ∈ l, checkRecL r = 0) : recsA l := by
  intro r hr
  obtain ⟨-, -, -, -, -, -, -, h30, hh, -⟩ := rec_ok (h r hr)
  refine ⟨fun x hx => ?_, by omega⟩
  have ht := (hd_mem hh x hx).1
  unfold tokL at ht
  simp only [Bool.and_eq_true, decide_eq_true_eq, List.all_eq_true] at ht
  refine ⟨?_, by omega⟩
  unfold asciiC
  rw [List.all_eq_true]
  intro c hc
  exact decide_eq_true (tokB_ascii (ht.2 c hc))
def ckLawTR : Ck
  | [.sl n f] => some (isLv cRec n f ∧ recsOk (lsOf cRec n f), .bool true)
  | _ => none
theorem conLawTR : Con pg 3 ckLawTR := by
  have hct := (ctA_ok conRev (ctA_ok conAlive (ctA_ok conHasOf (ctA_ok conLon (ctA_ok conFirsts (ctN_ok _))))))
  intro args q r h hq
  unfold ckLawTR at h
  split at h
  · cases h
    rename_i n f
    refine pcall_args (args' := [.sl (lsOf cRec n f).length (lsF cRec (lsOf cRec n f))]) ⟨hq.1, trivial⟩ ?_
    obtain ⟨-, hl⟩ := hq
    generalize lsOf cRec n f = l at hl ⊢
    refine w3 (fun d => decide (d = 20012)) [] rfl hct rfl rfl ?_
    push_cast (config := { maxSteps := 10000000 })
    have hrl : checkFileL l = 0 → (revR0 l).length = l.length := fun h => by unfold revR0; rw [if_pos h, revL_len]
    refine ⟨hl, fun h => ?_, fun h => ?_⟩
    · rcases h with h | h
      · exact ⟨h, by unfold revR0; rw [if_neg h]; rfl⟩
      · have h0 : ¬ checkFileL l = 0 := fun e => h (hrl e)
        exact ⟨h0, by unfold revR0; rw [if_neg h0]; rfl⟩
    obtain ⟨h, -⟩ := h
    obtain ⟨hck, -, hlen⟩ := file_ok h
    rw [show revR0 l = revL l by unfold revR0; rw [if_pos h]]
    generalize hK : (l.getD 0 noRec).ke = K
    refine SeqW.cut ⟨hct, fol⟩ (by kernel_rfl) (by kernel_rfl) [.frz 8000] (fun _ : Unit => [(0, .sl l.length (lsF cRec l)), (3, .sl (revL l).length (lsF cRec (revL l))), (5, .sl (blkN K l l.length).length (lsF cBy (blkN K l l.length))), (6, .vec 8001 (selN K l l.length).length)]) (fun _ => [(8001, .vec 1 (selN K l l.length).length (lsF cInt ((selN K l l.length).map Int.ofNat)))]) (fun _ => True) ?_ fun _ _ => ?_
    · push_cast (config := { maxSteps := 10000000 })
      refine LoopW.adj ⟨hct, fol⟩ (by kernel_rfl) [.nv 5 8000 1 (lsF cBy []), .nv 6 8001 1 (lsF cInt [])] (fun i : Nat => [(0, .sl l.length (lsF cRec l)), (3, .sl (revL l).length (lsF cRec (revL l))), (5, .vec 8000 (blkN K l i).length), (6, .vec 8001 (selN K l i).length), (37, .sl l.length (lsF cRec l)), (38, .int .i64 l.length), (39, .int .i64 i)]) (fun i => [(8000, .vec 1 (blkN K l i).length (lsF cBy (blkN K l i))), (8001, .vec 1 (selN K l i).length (lsF cInt ((selN K l i).map Int.ofNat)))]) (fun i => i ≤ l.length) (fun i => l.length - i) 0 ?_ fun i hi => ?_
      · push_cast (config := { maxSteps := 10000000 })
        exact ⟨Nat.zero_le _, rfl, rfl⟩
      · have hsl := selN_len K l i
        have hbl : (blkN K l i).length = (selN K l i).length := by unfold blkN; rw [List.length_map]
        push_cast (config := { maxSteps := 10000000 })
        rw [hK]
        refine ⟨fun hlt => ?_, fun hge => ?_⟩
        · refine ⟨hlt, fun g => ⟨g, by omega⟩, fun g => ?_, fun g => ?_⟩
          · have hb : selB K l i = true := by unfold selB; rw [decide_eq_true g.1, decide_eq_true g.2]; rfl
            refine ⟨by omega, by omega, by omega, i + 1, by omega, by omega, ⟨by rw [blkN_yes hb]; simp, by rw [selN_yes hb]; simp, by omega⟩, ⟨by rw [blkN_yes hb]; simp, ?_⟩, by rw [selN_yes hb]; simp, ?_⟩
            · rw [blkN_yes hb]
              exact (LsI.app (c := cBy) (f := lsF cBy (blkN K l i)) (g := litF [cBy.enc (l.getD i noRec).bd]) (LsI.ls _) (LsI.one (c := cBy) (a := (l.getD i noRec).bd) rfl) rfl).2
            · rw [selN_yes hb, List.map_append]
              have app := (LsI.app (c := cInt) (f := lsF cInt ((selN K l i).map Int.ofNat)) (g := litF [cInt.enc (i : Int)]) (LsI.ls _) (LsI.one (c := cInt) (a := (i : Int)) rfl) rfl).2
              rw [List.length_map] at app
              exact app
          · have hb : selB K l i = false := by
              unfold selB
              rw [Bool.and_eq_false_iff, decide_eq_false_iff_not, decide_eq_false_iff_not]
              by_cases e : (l.getD i noRec).ki = 3
              · exact .inr (g e)
              · exact .inl e
            rw [← blkN_no hb, ← selN_no hb]
            exact ⟨by omega, i + 1, by omega, by omega, ⟨rfl, rfl, by omega⟩, ⟨rfl, fun _ _ => rfl⟩, rfl, fun _ _ => rfl⟩
        · have : i = l.length := by omega
          subst this
          exact ⟨(), ⟨⟨rfl, fun _ _ => rfl⟩, rfl⟩, rfl, fun _ _ => rfl⟩
    push_cast (config := { maxSteps := 10000000 })
    have hsl := selN_len K l l.length
    have hbl : (blkN K l l.length).length = (selN K l l.length).length := by unfold blkN; rw [List.length_map]
    have hfl : (firL (blkN K l l.length)).length = (blkN K l l.length).length := by unfold firL; rw [List.length_map, List.length_range]
    refine ⟨⟨recs_a hck, by omega⟩, fun g => ⟨g, by omega⟩, fun g => ⟨⟨by omega, lon_at (by omega)⟩, fun k => k hfl, fun _ => ?_⟩⟩
    have hP : Plain6 l := by
      have g1 := List.any_eq_false.1 g.1.1
      refine ⟨fun r hr => ?_, fun r hr => ?_, fun r hr => ?_⟩
      · have := g1 r hr
        simp only [Bool.or_eq_true, decide_eq_true_eq] at this
        exact Classical.byContradiction fun e => this (.inl e)
      · have := g1 r hr
        simp only [Bool.or_eq_true, decide_eq_true_eq] at this
        cases e : pieB r with
        | false => rfl
        | true => exact absurd (.inr e) this
      · intro e
        have := (rec_ok (hck r hr)).2.2.1
        rw [e] at this; revert this; decide
    have core := fun k hk => top_core hP K (k := k) hk
    refine LoopW.adj ⟨hct, fol⟩ (by kernel_rfl) [] (fun k : Nat => [(0, .sl l.length (lsF cRec l)), (3, .sl (revL l).length (lsF cRec (revL l))), (5, .sl (blkN K l l.length).length (lsF cBy (blkN K l l.length))), (6, .vec 8001 (selN K l l.length).length), (9, .sl (firL (blkN K l l.length)).length (lsF cInt (firL (blkN K l l.length)))), (93, .vec 8001 (selN K l l.length).length), (94, .int .i64 (selN K l l.length).length), (95, .int .i64 k)]) (fun _ => [(8001, .vec 1 (selN K l l.length).length (lsF cInt ((selN K l l.length).map Int.ofNat)))]) (fun k => k ≤ (selN K l l.length).length) (fun k => (selN K l l.length).length - k) 0 ?_ fun k hk => ?_
    · push_cast (config := { maxSteps := 10000000 })
      exact Nat.zero_le _
    · push_cast (config := { maxSteps := 10000000 })
      intro hlt
      obtain ⟨c1, c2⟩ := core k hlt
      have hF0 : fstI (blkN K l l.length) k ≤ k := fstI_le rfl (by omega)
      have hNl : ∀ j, j < (selN K l l.length).length → (selN K l l.length).getD j 0 < l.length := fun j hj => (selN_mem.1 (getD_mem' (d := 0) hj)).1
      have eF : (firL (blkN K l l.length)).getD k 0 = (fstI (blkN K l l.length) k : Int) := by
        unfold firL
        rw [List.getD_eq_getElem?_getD, List.getElem?_map, List.getElem?_range (by omega)]; rfl
      have eN : ∀ j, j < (selN K l l.length).length → ((selN K l l.length).map Int.ofNat).getD j 0 = (((selN K l l.length).getD j 0 : Nat) : Int) := fun j hj => by
        rw [List.getD_eq_getElem?_getD, List.getElem?_map, List.getElem?_eq_getElem hj, List.getD_eq_getElem?_getD, List.getElem?_eq_getElem hj]; rfl
      have n1 := hNl k hlt
      have n2 := hNl _ (show fstI (blkN K l l.length) k < (selN K l l.length).length by omega)
      rw [eF]
      simp only [Int.toNat_natCast]
      rw [eN k hlt, eN _ (by omega)]
      simp only [Int.toNat_natCast]
      have eR := revL_at l n1
      rw [eR]
      have hrl2 := revL_len l
      generalize revF l ((selN K l l.length).getD k 0) = R at *
      have hA : (R.ki == 4) = ((fstI (blkN K l l.length) k : Int) != k && decide (0 < (((blkN K l l.length).getD k []).length : Int))) := by
        rw [Bool.eq_iff_iff, beq_iff_eq, c1, Bool.and_eq_true, bne_iff_ne, decide_eq_true_eq]
        omega
      refine ⟨hlt, hlt, by omega, fun a => ⟨a, by omega⟩, by omega, fun a => ⟨a, by omega⟩, fun a => ⟨a, by omega⟩, fun a => ⟨a, by omega⟩, fun a => ⟨a, by omega⟩, fun a => ⟨a, by omega⟩, fun a => ⟨a, fun b => ⟨a, b⟩⟩, fun a => ?_, fun a => ⟨by omega, k + 1, by omega, by omega, by omega⟩⟩
      rcases a with a | a
      · exact a hA
      · exact a.2 (c2 ⟨by omega, by omega⟩)
  · cases h
attribute [push_cast] ckLawTR
theorem allLawTR {H : Type} (ds : List (DataW H)) (hh : hasD [.list (.tup [.int .i64, .str, .str, .int .i64, .str, .list (.tup [.str, .str]), .list (.int .u8)])] ds) : PCall pg 3 (ds.map toV) (.bool true) := by
  obtain ⟨d1, rfl, a⟩ := hasD1 hh
  obtain ⟨n, f, e1, i1, b1, k1⟩ := shRecs a
  simp only [List.map_cons, List.map_nil, e1]
  exact conLawTR _ _ _ rfl ⟨i1, k1⟩

end Go.Abs
