/- what functions of this program compute: contracts, each a function's own -/
import Derived.Test.YtgfejmodfapeoaaGreatDoorAbsK2
import Derived.Test.YtgfejmodfapeoaaGreatDoorAbsFacts
import Derived.Test.YtgfejmodfapeoaaGreatDoorAbsF1
import Derived.Test.YtgfejmodfapeoaaGreatDoorAbsShelf
import Derived.Lib.SplitLaws
import Derived.Lib.SlTrimSet
import Derived.Lib.Atoi
import Derived.Lib.Itoa
import Derived.Lib.ItoaNum
import Derived.Lib.AtoiErrMem
import Derived.Lib.Join
import Derived.Lib.IndexMore
import Derived.Lib.Repeat
import Derived.Lib.ItoaLen
import Derived.Lib.Index
import Derived.Lib.IndexBytes
namespace Go.Abs
open Go Go.Proofs
set_option maxHeartbeats 4000000
set_option maxRecDepth 100000
set_option linter.unusedVariables false
set_option linter.unusedSimpArgs false
theorem put_by {x : Int} (h0 : 0 ≤ x) (hx : x < 65536) : ByI 2 (litF [V.int IntKind.u8 (x.fdiv (2 ^ min 8 IntKind.i64.bits) % 256), V.int IntKind.u8 (x % 256)]) (twoN x) := by
  refine ⟨rfl, fun j hj => ?_⟩
  have e1 : x.fdiv (2 ^ min 8 IntKind.i64.bits) = x / 256 := by
    rw [show (2 : Int) ^ min 8 IntKind.i64.bits = 256 from by decide]
    exact Int.fdiv_eq_ediv_of_nonneg _ (by decide)
  rw [e1]
  have hu : ∀ y : Int, 0 ≤ y → y < 256 → V.int IntKind.u8 y = V.int IntKind.u8 ((UInt8.ofNat y.toNat).toNat : Int) := fun y a b => by
    congr 1
    show y = ((y.toNat % 256 : Nat) : Int)
    omega
  rcases (show j = 0 ∨ j = 1 by omega) with rfl | rfl
  · exact hu _ (by omega) (by omega)
  · exact hu _ (by omega) (by omega)
def ckPutK : List V → List Blk → Option (Prop × V × List Blk)
  | [.vec i n, .int .i64 x], [.vec 1 k g] => some (k = n ∧ isBy n g ∧ n ≤ 100000000 ∧ 0 ≤ x ∧ x < 65536, .vec i (n + 2), [.vec 1 (n + 2) (byF (bytesOf n g ++ twoN x))])
  | _, _ => none
def ckPut : Cf := ⟨fun | [.vec i _, _] => [i] | _ => [], ckPutK⟩
theorem conPut : FCon pg 37 ckPut := by
  have hct := ctN_ok pg
  intro args bs q r bs' h hq
  replace h : ckPutK args bs = some (q, r, bs') := h
  unfold ckPutK at h
  split at h
  · cases h
    rename_i i n x k g
    refine ⟨rfl, by first | exact Nat.le_refl _ | exact Nat.zero_le _, ?_⟩
    obtain ⟨rfl, hg, hk, h0, hx⟩ := hq
    refine fcall_args (args' := [.vec (i + 9000) (bytesOf k g).length, .int .i64 x]) ⟨VLe.of_eq (by rw [bytesOf_len]; rfl), VLe.refl _, trivial⟩ ?_
    refine fcall_blk (hm := [(i + 9000, .vec 1 (bytesOf k g).length (byF (bytesOf k g)))]) ⟨rfl, ⟨rfl, (bytesOf_len k g).symm, fun j hj => by show V.shift (g j) = _; rw [hg.2 j hj]; rfl⟩, trivial⟩ ?_
    have hk2 : (bytesOf k g).length ≤ 100000000 := by rw [bytesOf_len]; exact hk
    have ek : k = (bytesOf k g).length := (bytesOf_len k g).symm
    rw [show k + 2 = (bytesOf k g).length + 2 by rw [← ek]]
    generalize bytesOf k g = b at hk2 ⊢
    show FCall pg 37 [.vec (i + 9000) b.length, .int .i64 x] [(i + 9000, .vec 1 b.length (byF b))] (.vec (i + 9000) (b.length + 2)) [(i + 9000, .vec 1 (b.length + 2) (byF (b ++ twoN x)))]
    refine fw37 (fun _ => false) [] rfl hct rfl (by simp) (by simp [hlIn, idsIn, Blk.menIn, V.menInL, V.menIn, V.flat, byF, lsF]) (by simp [V.menIn, V.menInL, idsIn]) ?_
    push_cast (config := { maxSteps := 10000000 })
    have hp := put_by h0 hx
    exact ⟨⟨by omega, by omega⟩, (ByI.app (ByI.by b) hp rfl).2⟩
  · cases h
attribute [push_cast] ckPutK
@[push_cast] theorem put_ids (i n : Nat) (x : V) : ckPut.ids [.vec i n, x] = [i] := rfl
@[push_cast] theorem put_k (i n k : Nat) (x : Int) (g : Nat → V) : ckPut.k [.vec i n, .int .i64 x] [.vec 1 k g] = some (k = n ∧ isBy n g ∧ n ≤ 100000000 ∧ 0 ≤ x ∧ x < 65536, .vec i (n + 2), [.vec 1 (n + 2) (byF (bytesOf n g ++ twoN x))]) := rfl
theorem twoN_len (x : Int) : (twoN x).length = 2 := rfl
theorem delB_take (l : List Cpy) {i : Nat} (h : i < l.length) : delB (l.take (i + 1)) = delB (l.take i) ++ cpyB (l.getD i noCpy) := by
  unfold delB
  rw [List.take_add_one, List.getElem?_eq_getElem h, List.getD_eq_getElem?_getD, List.getElem?_eq_getElem h, List.map_append, List.flatten_append]
  simp
theorem delB_all (l : List Cpy) {i : Nat} (h : ¬ i < l.length) : delB (l.take i) = delB l := by rw [List.take_of_length_le (by omega)]
theorem cpyB_le {c : Cpy} (h : c.by'.length ≤ 3000) : (cpyB c).length ≤ 3003 := by
  unfold cpyB
  split
  · simp [twoN]
  · simp [twoN]; omega
theorem delB_le {l : List Cpy} (h : ∀ c ∈ l, c.by'.length ≤ 3000) : (delB l).length ≤ 3003 * l.length := by
  unfold delB
  induction l with
  | nil => simp
  | cons x t ih =>
    have := ih fun c hc => h c (List.mem_cons_of_mem _ hc)
    have := cpyB_le (h x List.mem_cons_self)
    rw [List.map_cons, List.flatten_cons, List.length_append, List.length_cons]
    omega
theorem one_lit (x : UInt8) {v : Int} (hv : v = x.toNat) : ByI 1 (litF [.int .u8 v]) [x] := ⟨rfl, fun j hj => by
  obtain rfl : j = 0 := by omega
  subst hv; rfl⟩
theorem bytesOf_byL {n : Nat} {x : List UInt8} (h : n = x.length) : bytesOf n (byF x) = x := by subst h; exact bytesOf_by x
theorem isBy_byL {n : Nat} {x : List UInt8} (h : n = x.length) : isBy n (byF x) := by subst h; exact isBy_by x
def smC (c : Cpy) : Prop := 0 ≤ c.fr ∧ c.fr ≤ 3000 ∧ c.n ≤ 3000 ∧ c.by'.length ≤ 3000
def ckDelBytes : Ck
  | [.sl n f] => some (isLs cCpy n f ∧ n ≤ 3000 ∧ ∀ c ∈ lsOf cCpy n f, smC c, .sl (delB (lsOf cCpy n f)).length (byF (delB (lsOf cCpy n f))))
  | _ => none
theorem conDelBytes : Con pg 15 ckDelBytes := by
  have hct := (ctF_ok conPut (ctN_ok _))
  intro args q r h hq
  unfold ckDelBytes at h
  split at h
  · cases h
    rename_i n f
    refine pcall_args (args' := [.sl (lsOf cCpy n f).length (lsF cCpy (lsOf cCpy n f))]) ⟨isLs.vle hq.1, trivial⟩ ?_
    obtain ⟨-, hn, hl⟩ := hq
    rw [← lsOf_len (c := cCpy) n f] at hn
    generalize lsOf cCpy n f = l at hn hl ⊢
    refine w15 (fun _ => false) [.frz 8000] rfl hct rfl rfl ?_
    push_cast (config := { maxSteps := 10000000 })
    refine LoopW.adj ⟨hct, fol⟩ (by kernel_rfl) [.nv 3 8000 1 (byF [])] (fun i : Nat => [(3, .vec 8000 (delB (l.take i)).length), (6, .sl l.length (lsF cCpy l)), (7, .int .i64 l.length), (8, .int .i64 i)]) (fun i => [(8000, .vec 1 (delB (l.take i)).length (byF (delB (l.take i))))]) (fun i => i ≤ l.length) (fun i => l.length - i) 0 ?_ fun i hi => ?_
    · push_cast (config := { maxSteps := 10000000 })
      exact ⟨Nat.zero_le _, rfl⟩
    · have hs := delB_le (l := l.take i) fun c hc => (hl c (List.mem_of_mem_take hc)).2.2.2
      have ht : (l.take i).length ≤ l.length := by rw [List.length_take]; omega
      push_cast (config := { maxSteps := 10000000 })
      refine ⟨fun h => ?_, fun h => by rw [delB_all l h]; exact ⟨rfl, fun _ _ => rfl⟩⟩
      have hk := delB_take l h
      obtain ⟨c1, c2, c3, c4⟩ : smC (l.getD i noCpy) := hl _ (by rw [List.getD_eq_getElem?_getD, List.getElem?_eq_getElem h]; exact List.getElem_mem h)
      have hkl := congrArg List.length hk
      rw [List.length_append] at hkl
      generalize l.getD i noCpy = c at *
      generalize delB (l.take i) = s at *
      have A : ∀ (x : UInt8) {v : Int}, v = x.toNat → ByI (s.length + 1) (appF s.length (fun i => byF s i) (litF [V.int IntKind.u8 v])) (s ++ [x]) := fun x {v} hv => ByI.app (ByI.by s) (one_lit x hv) rfl
      have A1 := A 1 (v := 1) rfl
      have A2 := A 2 (v := 2) rfl
      refine ⟨h, fun h0 => ?_, fun h0 => ?_⟩
      · have hcl : cpyB c = 1 :: (twoN c.fr ++ twoN c.n) := by unfold cpyB; rw [if_pos h0]
        rw [hcl] at hk hkl
        simp only [List.length_cons, List.length_append, twoN_len] at hkl
        rw [A1.bytes, bytesOf_byL (by simp [twoN_len])]
        refine ⟨⟨by omega, by omega⟩, ⟨A1.is, by omega, by omega, by omega⟩, ⟨isBy_byL (by simp [twoN_len]), by omega, by omega, by omega⟩, ⟨by omega, by omega⟩, i + 1, by omega, by omega, ⟨by omega, by omega⟩, by omega, fun j hj => ?_⟩
        rw [hk]; simp
      · have hcl : cpyB c = 2 :: (twoN c.by'.length ++ c.by') := by unfold cpyB; rw [if_neg h0]
        rw [hcl] at hk hkl
        simp only [List.length_cons, List.length_append, twoN_len] at hkl
        rw [A2.bytes]
        refine ⟨⟨by omega, by omega⟩, ⟨A2.is, by omega, by omega⟩, ⟨by omega, by omega⟩, ⟨by omega, by omega⟩, i + 1, by omega, by omega, ⟨by omega, by omega⟩, by omega, fun j hj => ?_⟩
        have app := ByI.app (n := s.length + 1 + 2) (f := byF (s ++ [2] ++ twoN c.by'.length)) (a := s ++ [2] ++ twoN c.by'.length) ⟨by simp [twoN_len], fun _ _ => rfl⟩ (ByI.by c.by') rfl
        rw [hk, app.2 j hj]; simp
  · cases h
attribute [push_cast] ckDelBytes
def ckCheckCopy : Ck
  | [.agg [.int .i64 fr, .int .i64 n, .sl k g]] => some ((0 < n ∧ k = 0) ∨ (n = 0 ∧ fr = 0 ∧ 0 < k), .int .i64 0)
  | _ => none
theorem conCheckCopy : Con pg 38 ckCheckCopy := by
  have hct := ctN_ok pg
  intro args q r h hq
  unfold ckCheckCopy at h
  split at h
  · cases h
    rename_i fr n k g
    refine w38 (fun _ => false) [] rfl hct rfl rfl ?_
    push_cast (config := { maxSteps := 10000000 })
    omega
  · cases h
attribute [push_cast] ckCheckCopy
def ckRebuilt : Ck
  | [.sl n f, .sl m g] => some (isBy n f ∧ isLs cCpy m g ∧ n ≤ 3000 ∧ m ≤ 3000 ∧ (∀ c ∈ lsOf cCpy m g, okC (bytesOf n f) c) ∧ (rebL (bytesOf n f) (lsOf cCpy m g)).length ≤ 3000, .tup [.sl (rebL (bytesOf n f) (lsOf cCpy m g)).length (byF (rebL (bytesOf n f) (lsOf cCpy m g))), .int .i64 0])
  | _ => none
theorem rebL_take (base : List UInt8) (l : List Cpy) {i : Nat} (h : i < l.length) : rebL base (l.take (i + 1)) = rebL base (l.take i) ++ rebC base (l.getD i noCpy) := by
  unfold rebL
  rw [List.take_add_one, List.getElem?_eq_getElem h, List.getD_eq_getElem?_getD, List.getElem?_eq_getElem h, List.map_append, List.flatten_append]
  simp
theorem rebL_pre (base : List UInt8) (l : List Cpy) (i : Nat) : (rebL base (l.take i)).length ≤ (rebL base l).length := by
  have := rebL_app base (l.take i) (l.drop i)
  rw [List.take_append_drop] at this
  rw [this, List.length_append]; omega
theorem conRebuilt : Con pg 17 ckRebuilt := by
  have hct := (ctA_ok conCheckCopy (ctN_ok _))
  intro args q r h hq
  unfold ckRebuilt at h
  split at h
  · cases h
    rename_i n f m g
    refine pcall_args (args' := [.sl (bytesOf n f).length (byF (bytesOf n f)), .sl (lsOf cCpy m g).length (lsF cCpy (lsOf cCpy m g))]) ⟨isBy.vle hq.1, isLs.vle hq.2.1, trivial⟩ ?_
    obtain ⟨-, -, hn, hm, hl, hs⟩ := hq
    rw [← bytesOf_len n f] at hn
    rw [← lsOf_len (c := cCpy) m g] at hm
    generalize bytesOf n f = base at hn hl hs ⊢
    generalize lsOf cCpy m g = l at hm hl hs ⊢
    refine w17 (fun _ => false) [.frz 8000] rfl hct rfl rfl ?_
    push_cast (config := { maxSteps := 10000000 })
    refine ⟨fun h => by omega, fun h => ?_⟩
    refine LoopW.adj ⟨hct, fol⟩ (by kernel_rfl) [.nv 6 8000 1 (byF [])] (fun i : Nat => [(0, .sl base.length (byF base)), (6, .vec 8000 (rebL base (l.take i)).length), (7, .bool false), (19, .sl l.length (lsF cCpy l)), (20, .int .i64 l.length), (21, .int .i64 i)]) (fun i => [(8000, .vec 1 (rebL base (l.take i)).length (byF (rebL base (l.take i))))]) (fun i => i ≤ l.length) (fun i => l.length - i) 0 ?_ fun i hi => ?_
    · push_cast (config := { maxSteps := 10000000 })
      exact ⟨Nat.zero_le _, rfl⟩
    · have hp := rebL_pre base l (i + 1)
      have hb : okC base (l.getD i noCpy) ∨ ¬ i < l.length := by
        by_cases h : i < l.length
        · exact .inl (hl _ (by rw [List.getD_eq_getElem?_getD, List.getElem?_eq_getElem h]; exact List.getElem_mem h))
        · exact .inr h
      push_cast (config := { maxSteps := 10000000 })
      refine ⟨fun h => ?_, fun h => by rw [show rebL base (l.take i) = rebL base l by rw [List.take_of_length_le (by omega)]]; exact ⟨rfl, fun _ _ => rfl⟩⟩
      replace hb := hb.resolve_right (fun x => x h)
      have hk := rebL_take base l h
      have hkl := congrArg List.length hk
      rw [List.length_append] at hkl
      generalize l.getD i noCpy = c at *
      generalize rebL base (l.take i) = s at *
      have hf : (0 ≤ c.fr ∧ 0 ≤ c.n ∧ c.fr + c.n ≤ base.length) ∧ (0 < c.n ∧ c.by'.length = 0 ∨ c.n = 0 ∧ c.fr = 0 ∧ 0 < c.by'.length) := by
        rcases hb with ⟨b1, b2, b3, b4⟩ | ⟨b1, b2, b3⟩
        · exact ⟨⟨b3, by omega, b4⟩, .inl ⟨b1, by rw [b2]; rfl⟩⟩
        · exact ⟨⟨by omega, by omega, by omega⟩, .inr ⟨b1, b2, List.length_pos_iff.2 b3⟩⟩
      obtain ⟨⟨f1, f2, f3⟩, f4⟩ := hf
      have hrl : (rebC base c).length = c.n.toNat + c.by'.length := by
        unfold rebC
        rw [List.length_append, List.length_take, List.length_drop]
        omega
      have en : (c.fr + c.n).toNat - c.fr.toNat = c.n.toNat := by omega
      rw [hrl] at hkl
      rw [en]
      refine ⟨h, f4, fun _ => ⟨⟨by omega, by omega⟩, by omega, by omega⟩, fun x => by omega, fun _ => ⟨⟨by omega, by omega⟩, ⟨by omega, by omega⟩, fun _ => ⟨⟨by omega, by omega⟩, ⟨⟨by omega, by omega⟩, ⟨by omega, by omega⟩, by omega⟩, ⟨by omega, by omega⟩, ⟨by omega, by omega⟩, ⟨by omega, by omega⟩, i + 1, by omega, by omega, ⟨by omega, by omega, by omega⟩, by omega, fun j hj => ?_⟩, fun x => by omega⟩⟩
      have app := ByI.app (ByI.app (ByI.by s) (ByI.sh (l := c.fr.toNat) (k := c.n.toNat) (ByI.by base) (by omega)) rfl) (ByI.by c.by') rfl
      rw [hk]
      have := app.2 j hj
      rw [List.append_assoc] at this
      exact this
  · cases h
attribute [push_cast] ckRebuilt
def keptE (l : List (List UInt8)) (m : Int) : Int := if 300 < l.length then 2 else if l.any (fun b => decide (3000 < b.length)) = true then 2 else if m < 0 ∨ 300 < m then 1 else 0
def keptR (l : List (List UInt8)) (m : Int) : List Ver := if keptE l m = 0 then (keptN l m l.length).1 else []
def encVG (v : Ver) : V := bif v.wh then .agg [.bool true, .sl v.wb.length (byF v.wb), .nilsl] else .agg [.bool false, .nilsl, .sl v.ps.length (lsF cCpy v.ps)]
def verG (l : List Ver) : Nat → V := fun i => encVG (l.getD i noVer)
theorem kill_verG (d : Nat) (l : List Ver) (i : Nat) : V.kill d (verG l i) = verG l i := by
  unfold verG encVG
  cases (l.getD i noVer).wh <;> rfl
theorem pure_verG (l : List Ver) (i : Nat) : (verG l i).isPure = true := by
  unfold verG encVG
  cases (l.getD i noVer).wh <;> rfl
theorem verG_app {L : List Ver} {i : Nat} (h : L.length = i) (x : Ver) {v : V} (hv : v = encVG x) : ∀ j, j < i + 1 → appF i (verG L) (litF [v]) j = verG (L ++ [x]) j := by
  intro j hj
  subst h hv
  unfold appF verG
  by_cases e : j < L.length
  · rw [decide_eq_true e, cond_true, getD_appL _ _ _ e]
  · obtain rfl : j = L.length := by omega
    rw [decide_eq_false e, cond_false, getD_appR, Nat.sub_self]; rfl
theorem keptE_0 {l : List (List UInt8)} {m : Int} (h : keptE l m = 0) : l.length ≤ 300 ∧ (∀ b ∈ l, b.length ≤ 3000) ∧ 0 ≤ m ∧ m ≤ 300 := by
  unfold keptE at h
  split at h
  · omega
  · split at h
    · omega
    · rename_i h2
      split at h
      · omega
      · refine ⟨by omega, fun b hb => ?_, by omega, by omega⟩
        rw [Bool.not_eq_true, List.any_eq_false] at h2
        have := h2 b hb
        simp only [decide_eq_true_eq] at this
        omega
theorem smC_of {base b : List UInt8} (h1 : base.length ≤ 3000) (h2 : b.length ≤ 3000) : ∀ c ∈ delL base b, smC c := by
  intro c hc
  obtain ⟨d1, d2, d3⟩ := delL_ok base b
  have hr : (rebC base c).length ≤ (rebL base (delL base b)).length := by
    obtain ⟨p, q, e⟩ := List.append_of_mem hc
    rw [e, rebL_app, List.length_append, show c :: q = [c] ++ q from rfl, rebL_app, List.length_append, rebL_one]
    omega
  rw [d2] at hr
  have hl : (rebC base c).length = min c.n.toNat (base.length - c.fr.toNat) + c.by'.length := by
    unfold rebC
    rw [List.length_append, List.length_take, List.length_drop]
  rcases d1 c hc with ⟨b1, b2, b3, b4⟩ | ⟨b1, b2, b3⟩
  · exact ⟨b3, by omega, by omega, by rw [b2]; exact Nat.zero_le _⟩
  · exact ⟨by omega, by omega, by omega, by omega⟩
def ckKeptG : Ck
  | [.sl n f, .int .i64 m] => some (isLs cBy n f, .tup [.sl (keptR (lsOf cBy n f) m).length (verG (keptR (lsOf cBy n f) m)), .int .i64 (keptE (lsOf cBy n f) m)])
  | _ => none
theorem conKeptG : Con pg 6 ckKeptG := by
  have hct := (ctA_ok conDelta (ctA_ok conDelBytes (ctA_ok conCloneBy (ctN_ok _))))
  intro args q r h hq
  unfold ckKeptG at h
  split at h
  · cases h
    rename_i n f m
    refine pcall_args (args' := [.sl (lsOf cBy n f).length (lsF cBy (lsOf cBy n f)), .int .i64 m]) ⟨isLs.vle hq, VLe.refl _, trivial⟩ ?_
    clear hq
    generalize lsOf cBy n f = l
    refine w6 (fun _ => false) [.frz 8000] rfl hct rfl rfl ?_
    push_cast (config := { maxSteps := 10000000 })
    have hr0 : keptE l m ≠ 0 → (keptR l m).length = 0 := fun h => by unfold keptR; rw [if_neg h]; rfl
    refine ⟨fun h => ?_, fun h => ?_⟩
    · have e : keptE l m = 2 := by unfold keptE; rw [if_pos (by omega)]
      exact ⟨hr0 (by omega), e.symm⟩
    refine LoopW.adj ⟨hct, fol⟩ (by kernel_rfl) [] (fun i : Nat => [(0, .sl l.length (lsF cBy l)), (1, .int .i64 m), (16, .sl l.length (lsF cBy l)), (17, .int .i64 l.length), (18, .int .i64 i)]) (fun _ => []) (fun i => i ≤ l.length ∧ ∀ j, j < i → (l.getD j []).length ≤ 3000) (fun i => l.length - i) 0 ?_ fun i hi => ?_
    · push_cast (config := { maxSteps := 10000000 })
      exact Nat.zero_le _
    · obtain ⟨i1, i2⟩ : i ≤ l.length ∧ ∀ j, j < i → (l.getD j []).length ≤ 3000 := hi
      push_cast (config := { maxSteps := 10000000 })
      refine ⟨fun h1 => ⟨h1, fun h2 => ?_, fun h2 => ⟨⟨by omega, by omega⟩, i + 1, ⟨by omega, fun j hj => ?_⟩, by omega, by omega⟩⟩, fun h1 => ?_⟩
      · have e : keptE l m = 2 := by
          unfold keptE
          rw [if_neg (by omega), if_pos (List.any_eq_true.2 ⟨l.getD i [], by rw [List.getD_eq_getElem?_getD, List.getElem?_eq_getElem h1]; exact List.getElem_mem h1, decide_eq_true (by omega)⟩)]
        exact ⟨hr0 (by omega), e.symm⟩
      · by_cases e : j = i
        · subst e; omega
        · exact i2 j (by omega)
      have h3 : ¬ l.any (fun b => decide (3000 < b.length)) = true := by
        rw [Bool.not_eq_true, List.any_eq_false]
        intro b hb
        obtain ⟨j, hj, e⟩ := List.mem_iff_getElem.1 hb
        have := i2 j (by omega)
        rw [List.getD_eq_getElem?_getD, List.getElem?_eq_getElem hj] at this
        simp only [decide_eq_true_eq]
        rw [← e]
        show ¬ 3000 < l[j].length
        simp only [Option.getD_some] at this
        omega
      refine ⟨fun h2 => ?_, fun h2 => ?_⟩
      · have e : keptE l m = 1 := by
          unfold keptE
          rw [if_neg (by omega), if_neg h3, if_pos h2]
        exact ⟨hr0 (by omega), e.symm⟩
      have e : keptE l m = 0 := by
        unfold keptE
        rw [if_neg (by omega), if_neg h3, if_neg (by omega)]
      have eR : keptR l m = (keptN l m l.length).1 := by unfold keptR; rw [if_pos e]
      rw [eR, e]
      have hsz := (keptE_0 e).2.1
      have hat : ∀ j, j < l.length → (l.getD j []).length ≤ 3000 := fun j hj => hsz _ (by rw [List.getD_eq_getElem?_getD, List.getElem?_eq_getElem hj]; exact List.getElem_mem hj)
      refine LoopW.adj ⟨hct, fol⟩ (by kernel_rfl) [.nv 8 8000 3 (verG [])] (fun i : Nat => [(0, .sl l.length (lsF cBy l)), (1, .int .i64 m), (8, .vec 8000 i), (9, .int .i64 (keptN l m i).2), (32, .sl l.length (lsF cBy l)), (33, .int .i64 l.length), (34, .int .i64 i)]) (fun i => [(8000, .vec 3 i (verG (keptN l m i).1))]) (fun i => i ≤ l.length) (fun i => l.length - i) 0 ?_ fun i hi => ?_
      · push_cast (config := { maxSteps := 10000000 })
        exact ⟨Nat.zero_le _, rfl⟩
      · have hn := keptN_len l m i
        have h300 := (keptE_0 e).1
        push_cast (config := { maxSteps := 10000000 })
        refine ⟨fun h1 => ?_, fun h1 => ?_⟩
        · have hi1 := hat i h1
          have hi0 := hat (i - 1) (by omega)
          have hd := delL_ok (l.getD (i - 1) []) (l.getD i [])
          have hsm := smC_of hi0 hi1
          have hS : keptN l m (i + 1) = if 0 < i ∧ (keptN l m i).2 < m ∧ (delB (delL (l.getD (i - 1) []) (l.getD i []))).length < (l.getD i []).length then ((keptN l m i).1 ++ [⟨false, [], delL (l.getD (i - 1) []) (l.getD i [])⟩], (keptN l m i).2 + 1) else ((keptN l m i).1 ++ [⟨true, l.getD i [], []⟩], 0) := rfl
          rw [show ((i : Int) - 1).toNat = i - 1 by omega]
          have W : ¬ (0 < i ∧ (keptN l m i).2 < m ∧ (delB (delL (l.getD (i - 1) []) (l.getD i []))).length < (l.getD i []).length) → 0 = (keptN l m (i + 1)).2 ∧ ∀ j, j < i + 1 → appF i (verG (keptN l m i).1) (litF [V.agg [V.bool true, V.sl (l.getD i []).length (byF (l.getD i [])), V.nilsl]]) j = verG (keptN l m (i + 1)).1 j := fun hc => by
            rw [hS, if_neg hc]
            exact ⟨rfl, verG_app hn.1 ⟨true, l.getD i [], []⟩ rfl⟩
          refine ⟨h1, fun h2 => ⟨⟨by omega, by omega⟩, ⟨by omega, by omega⟩, ⟨hi0, hi1⟩, ⟨by omega, hsm⟩, fun h3 => ⟨⟨by omega, by omega⟩, ⟨by omega, by omega⟩, ⟨by omega, by omega⟩, i + 1, by omega, by omega, ⟨rfl, ?_, by omega⟩, rfl, ?_⟩, fun h3 => ⟨by omega, ⟨by omega, by omega⟩, ⟨by omega, by omega⟩, i + 1, by omega, by omega, ⟨rfl, (W (by omega)).1, by omega⟩, rfl, (W (by omega)).2⟩⟩, fun h2 => ⟨by omega, ⟨by omega, by omega⟩, ⟨by omega, by omega⟩, i + 1, by omega, by omega, ⟨rfl, (W (by omega)).1, by omega⟩, rfl, (W (by omega)).2⟩⟩
          · rw [hS, if_pos ⟨by omega, h2.2, h3⟩]
          · rw [hS, if_pos ⟨by omega, h2.2, h3⟩]
            exact verG_app hn.1 ⟨false, [], _⟩ rfl
        · obtain rfl : i = l.length := by omega
          exact ⟨fun j _ => pure_verG _ _, hn.1.symm, fun _ _ => rfl⟩
  · cases h
attribute [push_cast] ckKeptG
theorem verG_ple {v : Ver} (h : (v.wh = true ∧ v.ps = []) ∨ (v.wh = false ∧ v.wb = [])) : pleL (encVG v).flat (cVer.enc v).flat := by
  obtain ⟨w, b, s⟩ := v
  rcases h with ⟨h1, h2⟩ | ⟨h1, h2⟩
  · cases h1; cases h2
    exact ⟨PLe.refl _, PLe.refl _, ple_nilD _, trivial⟩
  · cases h1; cases h2
    exact ⟨PLe.refl _, ple_nilD _, PLe.refl _, trivial⟩
def ckKept : Ck
  | [.sl n f, .int .i64 m] => some (isLs cBy n f, .tup [.sl (keptR (lsOf cBy n f) m).length (lsF cVer (keptR (lsOf cBy n f) m)), .int .i64 (keptE (lsOf cBy n f) m)])
  | _ => none
theorem conKept : Con pg 6 ckKept := by
  intro args q r h hq
  unfold ckKept at h
  split at h
  · cases h
    rename_i n f m
    refine pcall_resD (VLe.tup2D (VLe.slP rfl fun i hi => ?_)) (conKeptG _ _ _ rfl hq)
    generalize lsOf cBy n f = l at hi ⊢
    refine verG_ple ?_
    unfold keptR at hi ⊢
    split at hi
    · rename_i he
      rw [if_pos he]
      rw [(keptN_len l m l.length).1] at hi
      rcases keptN_at l m hi with e | ⟨_, e⟩
      · rw [e]; exact .inl ⟨rfl, rfl⟩
      · rw [e]; exact .inr ⟨rfl, rfl⟩
    · exact absurd hi (Nat.not_lt_zero _)
  · cases h
attribute [push_cast] ckKept

def outL (v : List Ver) (i : Nat) : Nat → List UInt8
  | 0 => []
  | j + 1 => chV v (i + j)
theorem shF_ver (v : List Ver) (i j : Nat) : shF (lsF cVer v) i j = .agg [.bool (v.getD (j + i) noVer).wh, .sl (v.getD (j + i) noVer).wb.length (byF (v.getD (j + i) noVer).wb), .sl (v.getD (j + i) noVer).ps.length (lsF cCpy (v.getD (j + i) noVer).ps)] := rfl
theorem chV_wh {v : List Ver} {m : Nat} (h : (v.getD m noVer).wh = true) : chV v m = (v.getD m noVer).wb := by
  cases m with
  | zero => rfl
  | succ m => rw [chV, if_pos h]
theorem chV_ps {v : List Ver} {m : Nat} (h : (v.getD (m + 1) noVer).wh = false) : chV v (m + 1) = rebL (chV v m) (v.getD (m + 1) noVer).ps := by
  rw [chV, if_neg (by rw [h]; decide)]
theorem outL_end {v : List Ver} {i k : Nat} (h : i ≤ k) : outL v i (k + 1 - i) = chV v k := by
  rw [show k + 1 - i = (k - i) + 1 by omega]
  show chV v (i + (k - i)) = _
  rw [show i + (k - i) = k by omega]
def ckRestored : Ck
  | [.sl n f, .int .i64 k] => some (isLs cVer n f ∧ n ≤ 300 ∧ 0 ≤ k ∧ k < n ∧ VerOk (lsOf cVer n f) k.toNat, .tup [.sl (chV (lsOf cVer n f) k.toNat).length (byF (chV (lsOf cVer n f) k.toNat)), .int .i64 0])
  | _ => none
theorem conRestored : Con pg 7 ckRestored := by
  have hct := (ctA_ok conCloneBy (ctA_ok conRebuilt (ctN_ok _)))
  intro args q r h hq
  unfold ckRestored at h
  split at h
  · cases h
    rename_i n f k
    refine pcall_args (args' := [.sl (lsOf cVer n f).length (lsF cVer (lsOf cVer n f)), .int .i64 k]) ⟨isLs.vle hq.1, VLe.refl _, trivial⟩ ?_
    obtain ⟨-, hn, h0, hk, hv⟩ := hq
    rw [← lsOf_len (c := cVer) n f] at hn hk
    generalize lsOf cVer n f = v at hn hk hv ⊢
    obtain ⟨k, rfl⟩ : ∃ m : Nat, k = m := ⟨k.toNat, by omega⟩
    rw [Int.toNat_natCast] at hv ⊢
    refine w7 (fun _ => false) [] rfl hct rfl rfl ?_
    push_cast (config := { maxSteps := 10000000 })
    refine ⟨fun h => by omega, fun h => ⟨fun h => by omega, fun h => ?_⟩⟩
    refine LoopW.adj ⟨hct, fol⟩ (by kernel_rfl) [] (fun i : Nat => [(0, .sl v.length (lsF cVer v)), (1, .int .i64 k), (6, .int .i64 i)]) (fun _ => []) (fun i => i ≤ k ∧ ∀ j, i < j → j ≤ k → (v.getD j noVer).wh = false) (fun i => i) k ?_ fun i hi => ?_
    · push_cast (config := { maxSteps := 10000000 })
      exact ⟨Nat.le_refl _, fun j a b => by omega⟩
    · obtain ⟨i1, i2⟩ : i ≤ k ∧ ∀ j, i < j → j ≤ k → (v.getD j noVer).wh = false := hi
      push_cast (config := { maxSteps := 10000000 })
      refine ⟨by omega, fun hw => ?_, fun hw => ⟨fun h => by omega, fun _ => ⟨⟨by omega, by omega⟩, ⟨⟨by omega, by omega⟩, by omega, by omega⟩, ?_⟩⟩⟩
      · have hi0 : i ≠ 0 := fun e => by
          subst e
          rw [hv.first] at hw; cases hw
        refine ⟨⟨by omega, by omega⟩, i - 1, ⟨by omega, fun j a b => ?_⟩, by omega, by omega⟩
        by_cases e : j = i
        · subst e; exact hw
        · exact i2 j (by omega) b
      refine LoopW.adj ⟨hct, fol⟩ (by kernel_rfl) [] (fun j : Nat => [(7, .sl (outL v i j).length (byF (outL v i j))), (42, .sl (k + 1 - i) (shF (lsF cVer v) i)), (43, .int .i64 ((k + 1 - i : Nat) : Int)), (44, .int .i64 j)]) (fun _ => []) (fun j => j ≤ k + 1 - i) (fun j => k + 1 - i - j) 0 ?_ fun j hj => ?_
      · push_cast (config := { maxSteps := 10000000 })
        exact ⟨Nat.zero_le _, rfl⟩
      · have hS := shF_ver v i j
        have hj : j ≤ k + 1 - i := hj
        cases hw2 : (v.getD (j + i) noVer).wh with
        | true =>
          rw [hw2] at hS
          push_cast (config := { maxSteps := 10000000 }) [hS]
          refine ⟨fun h => ?_, fun h => by obtain rfl : j = k + 1 - i := (by omega); rw [outL_end i1]; exact ⟨rfl, fun _ _ => rfl⟩⟩
          obtain ⟨p1, p2⟩ := hv.whole (j + i) (by omega) hw2
          have e : outL v i (j + 1) = (v.getD (j + i) noVer).wb := by
            show chV v (i + j) = _
            rw [Nat.add_comm i j, chV_wh hw2]
          rw [p1]
          exact ⟨h, fun x => absurd x (by decide), fun _ => ⟨fun x => by omega, fun _ => ⟨by omega, ⟨by omega, by omega⟩, j + 1, by omega, by omega, ⟨by rw [e], fun q _ => by rw [e]⟩, by omega⟩⟩⟩
        | false =>
          rw [hw2] at hS
          push_cast (config := { maxSteps := 10000000 }) [hS]
          refine ⟨fun h => ?_, fun h => by obtain rfl : j = k + 1 - i := (by omega); rw [outL_end i1]; exact ⟨rfl, fun _ _ => rfl⟩⟩
          cases j with
          | zero =>
            rw [Nat.zero_add] at hw2
            rw [hw2] at hw; cases hw
          | succ j =>
            have hix : j + 1 + i = (i + j) + 1 := by omega
            rw [hix] at hw2 ⊢
            obtain ⟨p1, p2, p3⟩ := hv.part (i + j) (by omega) hw2
            have hsz := hv.size (i + j + 1) (by omega)
            rw [chV_ps hw2] at hsz
            have e : outL v i (j + 1) = chV v (i + j) := rfl
            have e2 : outL v i (j + 1 + 1) = rebL (chV v (i + j)) (v.getD (i + j + 1) noVer).ps := by
              show chV v (i + (j + 1)) = _
              rw [show i + (j + 1) = i + j + 1 by omega, chV_ps hw2]
            rw [p1, e]
            exact ⟨h, fun x => absurd x (by decide), fun _ => ⟨⟨hv.size (i + j) (by omega), p2, p3, hsz⟩, ⟨by omega, by omega⟩, j + 1 + 1, by omega, by omega, ⟨by rw [e2], fun q _ => by rw [e2]⟩, by omega⟩⟩
  · cases h
attribute [push_cast] ckRestored

theorem maxLen {w : World} (h : pg.ok w) : ∃ m, w.cell? ⟨0, 0, none⟩ = some (.int .i64 m) := by
  obtain ⟨w0, ⟨_, h1⟩, h2⟩ := h
  obtain ⟨m, hm⟩ := (Tryz.laysM145).s1_3 w0 h1
  exact ⟨m, by rw [cell_same (h2 0 (by decide))]; exact hm⟩
theorem grow_drewN (w : World) (n : Nat) : World.grow w (w.drewN n) := ⟨rfl, rfl, rfl, Nat.le_refl _, fun _ _ => rfl⟩
def ckCut : Ck
  | [.str s, .str sep] => some (s.length < 4294967281, .tup [.str (Lib.cut s sep).1, .str (Lib.cut s sep).2.1, .bool (Lib.cut s sep).2.2])
  | _ => none
theorem conCut : Con pg 107 ckCut := by
  intro args q r h hq
  unfold ckCut at h
  split at h
  · cases h
    rename_i s sep
    refine pcall_shelf (by kernel_rfl) rfl fun w hw => ?_
    obtain ⟨m, hm⟩ := maxLen hw
    refine (Tryz.strings_Cut ⟨s.toArray⟩ ⟨sep.toArray⟩ m w (by show s.toArray.size < _; simpa using hq) hm).mono fun e w' h => ?_
    obtain ⟨he, n, rfl⟩ := h
    refine ⟨_, he, grow_drewN _ _, fun γ imm => .tup _ [_, _, _] rfl fun i hi => ?_⟩
    match i, hi with
    | 0, _ => exact .pure (.str _)
    | 1, _ => exact .pure (.str _)
    | 2, _ => exact .pure (.bool _)
  · cases h
attribute [push_cast] ckCut
def ckContains : Ck
  | [.str s, .str sub] => some (s.length < 4294967281, .bool (Lib.contains s sub))
  | _ => none
theorem conContains : Con pg 143 ckContains := by
  intro args q r h hq
  unfold ckContains at h
  split at h
  · cases h
    rename_i s sub
    refine pcall_shelf (by kernel_rfl) rfl fun w hw => ?_
    obtain ⟨m, hm⟩ := maxLen hw
    exact (Tryz.strings_Contains ⟨s.toArray⟩ ⟨sub.toArray⟩ m w (by show s.toArray.size < _; simpa using hq) hm).mono fun e w' h => shelf_bool h.1 (grow_eq h.2)
  · cases h
attribute [push_cast] ckContains
/-- the parts of a string between a byte -/
def splitL (s : List UInt8) (c : UInt8) : List (List UInt8) := (Lib.splitB ⟨#[c]⟩ 0 (Lib.countB ⟨s.toArray⟩ ⟨#[c]⟩) ⟨s.toArray⟩).map fun b => b.data.toList
def ckSplit : Ck
  | [.str s, .str [c]] => some (s.length < 4294967281, .sl (splitL s c).length (lsF cStr (splitL s c)))
  | _ => none
theorem conSplit : Con pg 91 ckSplit := by
  intro args q r h hq
  unfold ckSplit at h
  split at h
  · cases h
    rename_i s c
    refine pcall_shelf2 (by kernel_rfl) rfl fun w hw => ?_
    obtain ⟨m, hm⟩ := maxLen hw
    refine (Tryz.strings_Split ⟨s.toArray⟩ ⟨#[c]⟩ m w (by show s.toArray.size < _; simpa using hq) hm (Nat.le_refl 1)).mono fun e w' h => ?_
    have hl : (splitL s c).length = Lib.countB ⟨s.toArray⟩ ⟨#[c]⟩ + 1 := by
      unfold splitL
      rw [List.length_map]
      exact Lib.splitB_all ⟨#[c]⟩ (Nat.le_refl 1) 0 _ _ rfl
    refine shelf_strs (l := fun i => (splitL s c).getD i []) (by rw [hl]; exact h.1) h.2 (by omega) (fun i hi => ?_) fun i hi => rfl
    unfold splitL at hi ⊢
    rw [List.length_map] at hi
    simp [List.getD_eq_getElem?_getD, List.getElem?_eq_getElem hi]
  · cases h
attribute [push_cast] ckSplit

/- rows of digits -/
def isDg (c : UInt8) : Bool := decide (48 ≤ c.toNat ∧ c.toNat ≤ 57)
def digs : List UInt8 := [48, 49, 50, 51, 52, 53, 54, 55, 56, 57]
theorem digs_has (c : UInt8) : digs.contains c = isDg c := by
  have key : ∀ n, n < 256 → digs.contains (UInt8.ofNat n) = isDg (UInt8.ofNat n) := by decide +kernel
  have := key c.toNat (UInt8.toNat_lt c)
  simpa using this
theorem dropW_nil {p : UInt8 → Bool} : ∀ {l : List UInt8}, l.dropWhile p = [] ↔ ∀ x ∈ l, p x = true
  | [] => by simp
  | a :: l => by
    rw [List.dropWhile_cons]
    cases h : p a with
    | true => simp only [if_true, dropW_nil, List.mem_cons, forall_eq_or_imp, h, true_and]
    | false => simp [h]
theorem dropW_head {p : UInt8 → Bool} : ∀ {l : List UInt8} {a : UInt8} {t : List UInt8}, l.dropWhile p = a :: t → p a = false
  | [], _, _, h => by simp at h
  | b :: l, a, t, h => by
    rw [List.dropWhile_cons] at h
    cases hb : p b with
    | true => rw [hb] at h; exact dropW_head h
    | false => rw [hb] at h; simp only [Bool.false_eq_true, if_false, List.cons.injEq] at h; rw [← h.1]; exact hb
theorem dropW_sub {p : UInt8 → Bool} : ∀ {l : List UInt8} {x : UInt8}, x ∈ l.dropWhile p → x ∈ l
  | [], _, h => by simp at h
  | b :: l, x, h => by
    rw [List.dropWhile_cons] at h
    split at h
    · exact List.mem_cons_of_mem _ (dropW_sub h)
    · exact h
theorem snoc_ind {α : Type} {P : List α → Prop} (h0 : P []) (h : ∀ s c, P s → P (s ++ [c])) (s : List α) : P s := by
  have : ∀ t : List α, P t.reverse := by
    intro t
    induction t with
    | nil => exact h0
    | cons a t ih => rw [List.reverse_cons]; exact h _ _ ih
  simpa using this s.reverse
theorem trimS_nil (s cs : List UInt8) : Lib.trimS s cs = [] ↔ s.all (cs.contains ·) = true := by
  unfold Lib.trimS Lib.trimLeftS Lib.trimRightS
  rw [dropW_nil, List.all_eq_true]
  constructor
  · intro h x hx
    have hr : s.reverse.dropWhile (fun x => cs.contains x) = [] := by
      cases hd : s.reverse.dropWhile (fun x => cs.contains x) with
      | nil => rfl
      | cons a t =>
        have h1 := dropW_head hd
        have h2 := h a (by rw [hd]; simp)
        rw [h1] at h2; cases h2
    rw [dropW_nil] at hr
    exact hr x (by simpa using hx)
  · intro h x hx
    exact h x (by have := dropW_sub (by simpa using hx); simpa using this)
theorem trim_dig (s : List UInt8) : Lib.trimS s digs = [] ↔ s.all isDg = true := by
  rw [trimS_nil]
  have : (fun x => digs.contains x) = isDg := funext digs_has
  rw [this]
def natOf (s : List UInt8) : Nat := s.foldl (fun a c => a * 10 + (c.toNat - 48)) 0
theorem natOf_snoc (s : List UInt8) (c : UInt8) : natOf (s ++ [c]) = natOf s * 10 + (c.toNat - 48) := by simp [natOf, List.foldl_append]
theorem decFrom_dig : ∀ (s : List UInt8) (a : Nat), s.all isDg = true → Lib.decFrom a s = some (s.foldl (fun a c => a * 10 + (c.toNat - 48)) a)
  | [], a, _ => rfl
  | c :: s, a, h => by
    simp only [List.all_cons, Bool.and_eq_true] at h
    have hc : 48 ≤ c.toNat ∧ c.toNat ≤ 57 := of_decide_eq_true h.1
    simp only [Lib.decFrom, Lib.digitVal, if_pos hc, List.foldl_cons]
    exact decFrom_dig s _ h.2
theorem atoi_dig {s : List UInt8} (h0 : s ≠ []) (h : s.all isDg = true) : Lib.atoi s = some (natOf s : Int) := by
  cases s with
  | nil => exact absurd rfl h0
  | cons c s =>
    have hc : 48 ≤ c.toNat ∧ c.toNat ≤ 57 := of_decide_eq_true (by simp only [List.all_cons, Bool.and_eq_true] at h; exact h.1)
    have h1 : (c == 45) = false := by
      simp only [beq_eq_false_iff_ne]; intro e; subst e; revert hc; decide
    have h2 : (c == 43) = false := by
      simp only [beq_eq_false_iff_ne]; intro e; subst e; revert hc; decide
    unfold Lib.atoi
    simp only [h1, h2, Bool.false_eq_true, if_false]
    unfold Lib.decNat
    simp only [List.isEmpty_cons, Bool.false_eq_true, if_false]
    rw [decFrom_dig _ _ h]
    rfl
theorem natOf_lt (s : List UInt8) : s.all isDg = true → natOf s < 10 ^ s.length := by
  refine snoc_ind (P := fun s => s.all isDg = true → natOf s < 10 ^ s.length) (fun _ => by simp [natOf]) (fun s c ih h => ?_) s
  simp only [List.all_append, List.all_cons, List.all_nil, Bool.and_true, Bool.and_eq_true] at h
  have hc : 48 ≤ c.toNat ∧ c.toNat ≤ 57 := of_decide_eq_true h.2
  have := ih h.1
  rw [natOf_snoc, List.length_append, List.length_singleton, Nat.pow_succ]
  omega
/-- digits, from 1 to n of them, without a needless 0 -/
def digL (s : List UInt8) (n : Int) : Bool := decide (1 ≤ s.length) && decide ((s.length : Int) ≤ n) && s.all isDg && (decide (s.getD 0 0 ≠ 48) || s == [48])
theorem itoa_nat (n : Nat) : Lib.itoa (n : Int) = Lib.decDigits n := by unfold Lib.itoa; rw [if_neg (by omega)]; simp
theorem dec_step {n : Nat} (h : 10 ≤ n) : Lib.decDigits n = Lib.decDigits (n / 10) ++ [UInt8.ofNat (48 + n % 10)] := by
  rw [Lib.decDigits, dif_neg (by omega)]
theorem dec_small {n : Nat} (h : n < 10) : Lib.decDigits n = [UInt8.ofNat (48 + n)] := by
  rw [Lib.decDigits, dif_pos h]
theorem natOf_pos {s : List UInt8} (h : s.all isDg = true) (h0 : 1 ≤ s.length) (h1 : s.getD 0 0 ≠ 48) : 1 ≤ natOf s := by
  revert h h0 h1
  refine snoc_ind (P := fun s => s.all isDg = true → 1 ≤ s.length → s.getD 0 0 ≠ 48 → 1 ≤ natOf s) (fun _ h => by simp at h) (fun s c ih h _ h1 => ?_) s
  simp only [List.all_append, List.all_cons, List.all_nil, Bool.and_true, Bool.and_eq_true] at h
  have hc : 48 ≤ c.toNat ∧ c.toNat ≤ 57 := of_decide_eq_true h.2
  rw [natOf_snoc]
  cases s with
  | nil =>
    simp only [List.nil_append, List.getD_cons_zero] at h1
    have : c.toNat ≠ 48 := fun e => h1 (UInt8.toNat_inj.1 e)
    omega
  | cons a s =>
    have := ih h.1 (by simp) (by simpa using h1)
    omega
/-- a number's digits are written as they were read -/
theorem dec_natOf {s : List UInt8} (h : s.all isDg = true) (h0 : 1 ≤ s.length) (h1 : s.getD 0 0 ≠ 48 ∨ s.length = 1) : Lib.decDigits (natOf s) = s := by
  revert h h0 h1
  refine snoc_ind (P := fun s => s.all isDg = true → 1 ≤ s.length → (s.getD 0 0 ≠ 48 ∨ s.length = 1) → Lib.decDigits (natOf s) = s) (fun _ h => by simp at h) (fun s c ih h _ h1 => ?_) s
  simp only [List.all_append, List.all_cons, List.all_nil, Bool.and_true, Bool.and_eq_true] at h
  have hc : 48 ≤ c.toNat ∧ c.toNat ≤ 57 := of_decide_eq_true h.2
  have hcc : UInt8.ofNat (48 + (c.toNat - 48)) = c := by rw [show 48 + (c.toNat - 48) = c.toNat by omega]; simp
  rw [natOf_snoc]
  cases s with
  | nil =>
    simp only [natOf, List.foldl_nil, Nat.zero_mul, Nat.zero_add, List.nil_append]
    rw [dec_small (by omega), hcc]
  | cons a s =>
    have h48 : (a :: s).getD 0 0 ≠ 48 := by
      rcases h1 with h1 | h1
      · simpa using h1
      · simp at h1
    have hp := natOf_pos h.1 (by simp) h48
    rw [dec_step (by omega), show (natOf (a :: s) * 10 + (c.toNat - 48)) / 10 = natOf (a :: s) by omega, show (natOf (a :: s) * 10 + (c.toNat - 48)) % 10 = c.toNat - 48 by omega, hcc, ih h.1 (by simp) (.inl h48)]
theorem dec_dig (n : Nat) : (Lib.decDigits n).all isDg = true ∧ natOf (Lib.decDigits n) = n ∧ 1 ≤ (Lib.decDigits n).length ∧ ((Lib.decDigits n).getD 0 0 ≠ 48 ∨ (Lib.decDigits n).length = 1) ∧ (10 ≤ n → (Lib.decDigits n).getD 0 0 ≠ 48) := by
  have one : ∀ m, m < 10 → isDg (UInt8.ofNat (48 + m)) = true ∧ (UInt8.ofNat (48 + m)).toNat = 48 + m := fun m hm => by
    have e : (UInt8.ofNat (48 + m)).toNat = 48 + m := by rw [UInt8.toNat_ofNat']; omega
    exact ⟨decide_eq_true (by omega), e⟩
  induction n using Nat.strongRecOn with
  | _ n ih =>
    by_cases h : n < 10
    · rw [dec_small h]
      obtain ⟨a, b⟩ := one n h
      refine ⟨by simp only [List.all_cons, a, List.all_nil, Bool.and_true], by simp only [natOf, List.foldl_cons, List.foldl_nil, b]; omega, by simp, .inr rfl, fun h => by omega⟩
    · rw [dec_step (by omega)]
      obtain ⟨a, b⟩ := one (n % 10) (by omega)
      obtain ⟨i1, i2, i3, i4, i5⟩ := ih (n / 10) (by omega)
      have hg : (Lib.decDigits (n / 10)).getD 0 0 ≠ 48 := by
        by_cases h10 : n / 10 < 10
        · rw [dec_small h10]
          simp only [List.getD_cons_zero]
          intro e
          have := congrArg UInt8.toNat e
          rw [(one (n / 10) h10).2] at this
          have : (48 : UInt8).toNat = 48 := rfl
          omega
        · exact i5 (by omega)
      have hg2 : (Lib.decDigits (n / 10) ++ [UInt8.ofNat (48 + n % 10)]).getD 0 0 ≠ 48 := by
        cases hd : Lib.decDigits (n / 10) with
        | nil => rw [hd] at i3; simp at i3
        | cons x t => rw [hd] at hg; simpa using hg
      refine ⟨by simp only [List.all_append, i1, List.all_cons, a, List.all_nil, Bool.and_true], by rw [natOf_snoc, i2, b]; omega, by simp, .inl hg2, fun _ => hg2⟩
theorem dec_len : ∀ (k n : Nat), n < 10 ^ (k + 1) → (Lib.decDigits n).length ≤ k + 1
  | 0, n, h => by rw [dec_small (by omega)]; simp
  | k + 1, n, h => by
    by_cases h1 : n < 10
    · rw [dec_small h1]; simp
    · rw [dec_step (by omega)]
      have := dec_len k (n / 10) (by rw [Nat.pow_succ] at h; omega)
      simp; omega

/-- the parts of a string between a byte, part by part -/
def spl (c : UInt8) : List UInt8 → List (List UInt8)
  | [] => [[]]
  | x :: t => if x = c then [] :: spl c t else (x :: (spl c t).headD []) :: (spl c t).tail
theorem spl_ne (c : UInt8) (s : List UInt8) : spl c s ≠ [] := by
  cases s with
  | nil => simp [spl]
  | cons x t => rw [spl]; split <;> simp
theorem splitK_spl (c : UInt8) : ∀ s : List UInt8, Lib.splitK [c] 0 (s.count c) s = spl c s
  | [] => rfl
  | x :: t => by
    have ih := splitK_spl c t
    by_cases h : x = c
    · subst h
      have hix : Lib.index (x :: t) [x] = 0 := by rw [Lib.index]; simp [List.isPrefixOf]
      rw [show (x :: t).count x = t.count x + 1 by simp, Lib.splitK, hix]
      rw [spl, if_pos rfl, ← ih]
      rfl
    · have hp : ([c] : List UInt8).isPrefixOf (x :: t) = false := by simp [List.isPrefixOf, Ne.symm h]
      have hix : Lib.index (x :: t) [c] = if Lib.index t [c] == -1 then -1 else Lib.index t [c] + 1 := by rw [Lib.index, hp]; simp
      rw [show (x :: t).count c = t.count c by rw [List.count_cons_of_ne (by simpa using h)]]
      rw [spl, if_neg h]
      cases hk : t.count c with
      | zero =>
        rw [hk] at ih
        rw [← ih]; rfl
      | succ k =>
        rw [hk] at ih
        rw [← ih]
        simp only [Lib.splitK]
        rw [hix]
        by_cases hm : (Lib.index t [c] == -1) = true
        · simp only [hm, if_true]; rfl
        · have hge := Lib.index_ge t [c]
          have hn : Lib.index t [c] ≠ -1 := fun e => hm (beq_iff_eq.2 e)
          have hm2 : (Lib.index t [c] + 1 == -1) = false := by rw [beq_eq_false_iff_ne]; omega
          simp only [hm, if_false, Bool.false_eq_true, hm2]
          rw [show (Lib.index t [c] + 1).toNat = (Lib.index t [c]).toNat + 1 by omega]
          simp
theorem splitL_eq (s : List UInt8) (c : UInt8) : splitL s c = spl c s := by
  unfold splitL
  rw [Lib.splitB_data]
  have e : Lib.countB ⟨s.toArray⟩ ⟨#[c]⟩ = s.count c := by
    unfold Lib.countB
    rw [show (⟨s.toArray⟩ : ByteArray).data.toList = s by simp]
    exact Lib.count_one c s
  rw [e]
  simpa using splitK_spl c s
theorem spl_len (c : UInt8) : ∀ s : List UInt8, ∀ p ∈ spl c s, p.length ≤ s.length
  | [], p, h => by simp [spl] at h; simp [h]
  | x :: t, p, h => by
    have ih := spl_len c t
    rw [spl] at h
    split at h
    · rcases List.mem_cons.1 h with rfl | h
      · simp
      · have := ih p h; simp only [List.length_cons]; omega
    · rcases List.mem_cons.1 h with rfl | h
      · cases hs : spl c t with
        | nil => exact absurd hs (spl_ne c t)
        | cons a r =>
          have := ih a (by rw [hs]; simp)
          simp only [List.headD_cons, List.length_cons]; omega
      · have := ih p (List.mem_of_mem_tail h); simp only [List.length_cons]; omega
/-- the parts, joined again -/
theorem spl_join (c : UInt8) : ∀ s : List UInt8, List.intercalate [c] (spl c s) = s
  | [] => rfl
  | x :: t => by
    have ih := spl_join c t
    have hne := spl_ne c t
    rw [spl]
    cases hs : spl c t with
    | nil => exact absurd hs hne
    | cons a r =>
      rw [hs] at ih
      split
      · rename_i h; subst h
        rw [← ih]
        simp [List.intercalate, List.intersperse]
      · rw [← ih]
        cases r <;> simp [List.intercalate, List.intersperse]

def labB (c : UInt8) : Bool := isLet (c.toNat : Int) || isDig (c.toNat : Int) || decide (c.toNat = 45)
/-- a label, a host -/
def labelL (s : List UInt8) : Bool := decide (1 ≤ s.length) && decide (s.length ≤ 63) && decide ((s.getD 0 0).toNat ≠ 45) && decide ((s.getD (s.length - 1) 0).toNat ≠ 45) && s.all labB
def hostL (s : List UInt8) : Bool := decide (s.length ≤ 253) && (splitL s 46).all labelL
def ckIsLabel : Ck
  | [.str s] => some (s.length ≤ 4611686018427387904, .bool (labelL s))
  | _ => none
theorem conIsLabel : Con pg 92 ckIsLabel := by
  have hct := (ctA_ok conIsLet (ctA_ok conIsDig (ctN_ok _)))
  intro args q r h hq
  unfold ckIsLabel at h
  split at h
  · cases h
    rename_i s
    refine w92 (fun _ => false) [] rfl hct rfl rfl ?_
    push_cast (config := { maxSteps := 10000000 })
    have ee : ∀ h : 1 ≤ s.length, s.getD ((s.length : Int) - 1).toNat 0 = s.getD (s.length - 1) 0 := fun h => by rw [show ((s.length : Int) - 1).toNat = s.length - 1 by omega]
    refine ⟨fun h => ⟨h, by omega⟩, fun h => ⟨h, by omega, by omega⟩, fun h => ⟨h, by omega, by omega⟩, fun h => ?_, fun h => ?_⟩
    · unfold labelL
      by_cases h1 : 1 ≤ s.length
      · rw [ee h1] at h
        by_cases h2 : s.length ≤ 63
        · by_cases h3 : (s.getD 0 0).toNat = 45
          · rw [decide_eq_false (show ¬ (s.getD 0 0).toNat ≠ 45 from fun x => x h3)]; simp
          · rw [decide_eq_false (show ¬ (s.getD (s.length - 1) 0).toNat ≠ 45 from fun x => x (by omega))]; simp
        · rw [decide_eq_false h2]; simp
      · rw [decide_eq_false h1]; rfl
    have h1 : 1 ≤ s.length := by omega
    rw [ee h1] at h
    have e0 : labelL s = s.all labB := by
      unfold labelL
      rw [decide_eq_true h1, decide_eq_true (show s.length ≤ 63 by omega), decide_eq_true (show (s.getD 0 0).toNat ≠ 45 by omega), decide_eq_true (show (s.getD (s.length - 1) 0).toNat ≠ 45 by omega)]; rfl
    rw [e0]
    refine LoopW.adj ⟨hct, fol⟩ (by kernel_rfl) [] (fun i : Nat => [(0, .str s), (26, .int .i64 s.length), (27, .int .i64 i)]) (fun _ => []) (fun i => i ≤ s.length ∧ ∀ j, j < i → labB (s.getD j 0) = true) (fun i => s.length - i) 0 ?_ fun i hi => ?_
    · push_cast (config := { maxSteps := 10000000 })
      exact Nat.zero_le _
    · push_cast (config := { maxSteps := 10000000 })
      obtain ⟨h3, h4⟩ := hi
      refine ⟨fun hw => ⟨hw, fun a => ⟨a, hw⟩, fun a => ⟨a, hw⟩, fun a => ?_, fun a => ⟨by omega, i + 1, ⟨by omega, fun j hj => ?_⟩, by omega, by omega⟩⟩, fun hw => ?_⟩
      · refine (all_no hw ?_).symm
        unfold labB
        rw [a.1.1, a.1.2, decide_eq_false (by omega)]; rfl
      · by_cases e : j = i
        · subst e
          unfold labB
          cases g1 : isLet ((s.getD j 0).toNat : Int) with
          | true => rfl
          | false =>
            cases g2 : isDig ((s.getD j 0).toNat : Int) with
            | true => rfl
            | false => rw [decide_eq_true (show (s.getD j 0).toNat = 45 by have := a ⟨g1, g2⟩; omega)]; rfl
        · exact h4 j (by omega)
      · exact (all_at fun j hj => h4 j (by omega)).symm
  · cases h
attribute [push_cast] ckIsLabel
def ckIsHost : Ck
  | [.str s] => some (s.length ≤ 4611686018427387904, .bool (hostL s))
  | _ => none
theorem splitL_le (s : List UInt8) (c : UInt8) : (splitL s c).length ≤ s.length + 1 := by
  rw [splitL_eq]
  induction s with
  | nil => simp [spl]
  | cons x t ih =>
    rw [spl]
    have := List.length_pos_iff.2 (spl_ne c t)
    split
    · simp only [List.length_cons]; omega
    · simp only [List.length_cons, List.length_tail]; omega
theorem conIsHost0 : Con pg 48 ckIsHost := by
  have hct := (ctA_ok conSplit (ctA_ok conIsLabel (ctN_ok _)))
  intro args q r h hq
  unfold ckIsHost at h
  split at h
  · cases h
    rename_i s
    refine w48 (fun _ => false) [] rfl hct rfl rfl ?_
    push_cast (config := { maxSteps := 10000000 })
    refine ⟨fun h => by unfold hostL; rw [decide_eq_false (by omega)]; rfl, fun h => ⟨by omega, ?_⟩⟩
    have e0 : hostL s = (splitL s 46).all labelL := by unfold hostL; rw [decide_eq_true (by omega)]; rfl
    have hw : ∀ i, ((splitL s 46).getD i []).length ≤ s.length := fun i => by
      rw [splitL_eq]
      by_cases hi : i < (spl 46 s).length
      · rw [List.getD_eq_getElem?_getD, List.getElem?_eq_getElem hi]
        exact spl_len 46 _ _ (List.getElem_mem hi)
      · rw [List.getD_eq_getElem?_getD, List.getElem?_eq_none (by omega)]; simp
    rw [e0]
    have hl := splitL_le s 46
    generalize splitL s 46 = l at *
    refine LoopW.adj ⟨hct, fol⟩ (by kernel_rfl) [] (fun i : Nat => [(9, .sl l.length (lsF cStr l)), (10, .int .i64 l.length), (11, .int .i64 i)]) (fun _ => []) (fun i => i ≤ l.length ∧ ∀ j, j < i → labelL (l.getD j []) = true) (fun i => l.length - i) 0 ?_ fun i hi => ?_
    · push_cast (config := { maxSteps := 10000000 })
      exact Nat.zero_le _
    · push_cast (config := { maxSteps := 10000000 })
      obtain ⟨h3, h4⟩ := hi
      refine ⟨fun h5 => ⟨h5, by have := hw i; omega, fun h6 => (all_no' (d := []) h5 h6).symm, fun h6 => ⟨⟨by omega, by omega⟩, i + 1, ⟨by omega, fun j hj => ?_⟩, by omega, by omega⟩⟩, fun h5 => (all_at' fun j hj => h4 j (by omega)).symm⟩
      by_cases e : j = i
      · subst e; exact h6
      · exact h4 j (by omega)
  · cases h
attribute [push_cast] ckIsHost
def ckIsHostA : Ck
  | [.str s] => some (s.length ≤ 140737488355328, .bool (hostL s && lowL s == s))
  | _ => none
attribute [push_cast] ckIsHostA
def rowB (c : UInt8) : Bool := decide (33 ≤ c.toNat) && decide (c.toNat ≤ 126) && decide (Lib.indexByte [34, 35, 60, 62, 92, 94, 123, 124, 125, 96] c < 0)
/-- % and two digits at a place, or another byte -/
def pctB (s : List UInt8) (i : Nat) : Bool := decide (i + 2 < s.length) && isHex ((s.getD (i + 1) 0).toNat : Int) && isHex ((s.getD (i + 2) 0).toNat : Int)
/-- how far a row goes -/
def reL (s w : List UInt8) : Nat → Nat → Nat × Bool
  | 0, _ => (s.length, true)
  | k + 1, i => if s.length ≤ i then (s.length, true) else if 0 ≤ Lib.indexByte w (s.getD i 0) then (i, true) else if rowB (s.getD i 0) = false then (i, false) else if (s.getD i 0).toNat = 37 then (if pctB s i = true then reL s w k (i + 3) else (i, false)) else reL s w k (i + 1)
def ckRowEnd : Ck
  | [.str s, .str w] => some (s.length ≤ 4611686018427387900, .tup [.int .i64 (reL s w (s.length + 1) 0).1, .bool (reL s w (s.length + 1) 0).2])
  | _ => none
theorem conRowEnd : Con pg 93 ckRowEnd := by
  have hct := (ctA_ok conIndexByte (ctA_ok conIsHex (ctN_ok _)))
  intro args q r h hq
  unfold ckRowEnd at h
  split at h
  · cases h
    rename_i s w
    refine w93 (fun _ => false) [] rfl hct rfl rfl ?_
    push_cast (config := { maxSteps := 10000000 })
    generalize hR : reL s w (s.length + 1) 0 = R
    refine LoopW.adj ⟨hct, fol⟩ (by kernel_rfl) [] (fun i : Nat => [(0, .str s), (1, .str w), (6, .int .i64 i)]) (fun _ => []) (fun i => i ≤ s.length ∧ ∃ k, s.length < i + k ∧ reL s w k i = R) (fun i => s.length - i) 0 ?_ fun i hi => ?_
    · push_cast (config := { maxSteps := 10000000 })
      exact ⟨Nat.zero_le _, _, by omega, hR⟩
    · obtain ⟨i1, k, i3, i4⟩ := hi
      push_cast (config := { maxSteps := 10000000 })
      obtain ⟨k, rfl⟩ : ∃ k', k = k' + 1 := ⟨k - 1, by omega⟩
      rw [reL] at i4
      refine ⟨fun h => ?_, fun h => ?_⟩
      · rw [if_neg (by omega)] at i4
        refine ⟨h, fun h1 => ?_, fun h1 => ⟨fun h2 => ?_, fun h2 => ?_⟩⟩
        · rw [if_pos h1] at i4; rw [← i4]; exact ⟨rfl, rfl⟩
        · have hb : rowB (s.getD i 0) = false := by
            unfold rowB
            rcases h2 with (h2 | h2) | h2
            · rw [decide_eq_false (by omega)]; rfl
            · rw [decide_eq_false (show ¬ (s.getD i 0).toNat ≤ 126 by omega)]; simp
            · rw [decide_eq_false (show ¬ Lib.indexByte [34, 35, 60, 62, 92, 94, 123, 124, 125, 96] (s.getD i 0) < 0 by omega)]; simp
          rw [if_neg h1, if_pos hb] at i4; rw [← i4]; exact ⟨rfl, rfl⟩
        · have hb : rowB (s.getD i 0) = true := by
            unfold rowB
            rw [decide_eq_true (by omega), decide_eq_true (by omega), decide_eq_true (by omega)]; rfl
          rw [if_neg h1, if_neg (by rw [hb]; simp)] at i4
          refine ⟨fun h3 => ⟨⟨by omega, by omega⟩, fun h4 => ⟨h4, by omega, by omega⟩, fun h4 => ⟨h4, by omega, by omega⟩, fun h4 => ⟨h4, by omega, by omega⟩, fun h4 => ⟨h4, by omega, by omega⟩, fun h4 => ?_, fun h4 => ?_⟩, fun h3 => ?_⟩
          · have hp : ¬ pctB s i = true := fun hp => by
              simp only [pctB, Bool.and_eq_true, decide_eq_true_eq] at hp
              rcases h4 with (h4 | h4) | h4
              · omega
              · rw [hp.1.2] at h4; cases h4
              · rw [hp.2] at h4; cases h4
            rw [if_pos (by omega), if_neg hp] at i4; rw [← i4]; exact ⟨rfl, rfl⟩
          · have hp : pctB s i = true := by
              simp only [pctB, Bool.and_eq_true, decide_eq_true_eq]
              exact ⟨⟨by have := h4.1.1; omega, h4.1.2⟩, h4.2⟩
            rw [if_pos (by omega), if_pos hp] at i4
            have := h4.1.1
            exact ⟨⟨by omega, by omega⟩, ⟨by omega, by omega⟩, i + 3, ⟨by omega, k, by omega, i4⟩, by omega, by omega⟩
          · rw [if_neg (by omega)] at i4
            exact ⟨⟨by omega, by omega⟩, i + 1, ⟨by omega, k, by omega, i4⟩, by omega, by omega⟩
      · rw [if_pos (by omega)] at i4; rw [← i4]; exact ⟨rfl, rfl⟩
  · cases h
attribute [push_cast] ckRowEnd
def ckIsRow : Ck
  | [.str s, .str w] => some (s.length ≤ 4611686018427387900, .bool ((reL s w (s.length + 1) 0).2 && ((reL s w (s.length + 1) 0).1 == s.length)))
  | _ => none
theorem conIsRow : Con pg 50 ckIsRow := by
  have hct := (ctA_ok conRowEnd (ctN_ok _))
  intro args q r h hq
  unfold ckIsRow at h
  split at h
  · cases h
    rename_i s w
    refine w50 (fun _ => false) [] rfl hct rfl rfl ?_
    push_cast (config := { maxSteps := 10000000 })
    refine ⟨hq, ?_⟩
    congr 1
    rw [Bool.eq_iff_iff, beq_iff_eq, beq_iff_eq]; omega
  · cases h
attribute [push_cast] ckIsRow
theorem row_eq (n : Nat) (h : n < 256) : (decide (33 ≤ (n : Int)) && decide ((n : Int) ≤ 126) && ((n : Int) != 96) && decide (Lib.indexByte [34, 35, 60, 62, 92, 94, 123, 124, 125] n.toUInt8 < 0)) = rowB (UInt8.ofNat n) := by
  revert n
  decide +kernel
def ckRowByte : Ck
  | [.int .u8 c] => some (0 ≤ c ∧ c < 256, .bool (rowB (UInt8.ofNat c.toNat)))
  | _ => none
attribute [push_cast] ckRowByte
def cellP (s : List UInt8) (j : Nat) : Bool := rowB (s.getD j 0) && decide ((s.getD j 0).toNat ≠ 63) && (decide ((s.getD j 0).toNat ≠ 37) || pctB s j)
/-- a row without a question mark -/
def rowP (s : List UInt8) : Bool := (List.range s.length).all (cellP s)
def rbL (s : List UInt8) : Nat → Nat → Int
  | 0, _ => -1
  | k + 1, i => if s.length ≤ i then -1 else if cellP s i = true then rbL s k (i + 1) else i
def ckRowBad : Ck
  | [.str s, .int .u8 c] => some (c = 63 ∧ s.length ≤ 4611686018427387900, .int .i64 (rbL s (s.length + 1) 0))
  | _ => none
attribute [push_cast] ckRowBad
theorem cell_hex (c : UInt8) : isHex (c.toNat : Int) = true → rowB c = true ∧ c.toNat ≠ 63 ∧ c.toNat ≠ 37 := by
  have key : ∀ n, n < 256 → isHex ((UInt8.ofNat n).toNat : Int) = true → rowB (UInt8.ofNat n) = true ∧ (UInt8.ofNat n).toNat ≠ 63 ∧ (UInt8.ofNat n).toNat ≠ 37 := by decide +kernel
  have := key c.toNat (UInt8.toNat_lt c)
  simpa using this
theorem rb_all {s : List UInt8} : ∀ (k i : Nat), s.length < i + k → (rbL s k i < 0 ↔ ∀ j, i ≤ j → j < s.length → cellP s j = true)
  | 0, i, h => ⟨fun _ j h1 h2 => by omega, fun _ => by show (-1 : Int) < 0; omega⟩
  | k + 1, i, h => by
    rw [rbL]
    by_cases h1 : s.length ≤ i
    · rw [if_pos h1]; exact ⟨fun _ j h1 h2 => by omega, fun _ => by omega⟩
    rw [if_neg h1]
    by_cases hc : cellP s i = true
    · rw [if_pos hc, rb_all k (i + 1) (by omega)]
      refine ⟨fun hh j h2 h3 => ?_, fun hh j h2 h3 => hh j (by omega) h3⟩
      by_cases e : j = i
      · subst e; exact hc
      · exact hh j (by omega) h3
    · rw [if_neg hc]
      exact ⟨fun hh => by omega, fun hh => absurd (hh i (Nat.le_refl _) (by omega)) hc⟩
theorem idx_one (d c : UInt8) : 0 ≤ Lib.indexByte [d] c ↔ c = d := by
  have e : Lib.indexByte [d] c = if d == c then 0 else -1 := rfl
  rw [e]
  by_cases h : d = c
  · subst h; simp
  · rw [if_neg (by simpa using h)]
    exact ⟨fun x => by omega, fun x => absurd x.symm h⟩
theorem re_all {s : List UInt8} : ∀ (k i : Nat), s.length < i + k → (((reL s [63] k i).2 = true ∧ (reL s [63] k i).1 = s.length) ↔ ∀ j, i ≤ j → j < s.length → cellP s j = true)
  | 0, i, h => ⟨fun _ j h1 h2 => by omega, fun _ => ⟨rfl, rfl⟩⟩
  | k + 1, i, h => by
    have hq : (0 ≤ Lib.indexByte [63] (s.getD i 0)) ↔ (s.getD i 0).toNat = 63 := by
      have : (s.getD i 0).toNat = 63 ↔ s.getD i 0 = 63 := ⟨fun e => UInt8.toNat_inj.1 e, fun e => by rw [e]; rfl⟩
      rw [this]
      exact idx_one 63 _
    rw [reL]
    by_cases h1 : s.length ≤ i
    · rw [if_pos h1]; exact ⟨fun _ j h1 h2 => by omega, fun _ => ⟨rfl, rfl⟩⟩
    rw [if_neg h1]
    by_cases h2 : 0 ≤ Lib.indexByte [63] (s.getD i 0)
    · rw [if_pos h2]
      refine ⟨fun hh => absurd hh.2 (by show i ≠ s.length; omega), fun hh => ?_⟩
      have := hh i (Nat.le_refl _) (by omega)
      simp only [cellP, Bool.and_eq_true, decide_eq_true_eq] at this
      exact absurd (hq.1 h2) this.1.2
    rw [if_neg h2]
    have h63 : (s.getD i 0).toNat ≠ 63 := fun e => h2 (hq.2 e)
    by_cases h3 : rowB (s.getD i 0) = false
    · rw [if_pos h3]
      refine ⟨fun hh => absurd hh.1 (by simp), fun hh => ?_⟩
      have := hh i (Nat.le_refl _) (by omega)
      simp only [cellP, Bool.and_eq_true, h3] at this
      exact absurd this.1.1 (by simp)
    rw [if_neg h3]
    have h3' : rowB (s.getD i 0) = true := by simpa using h3
    by_cases h4 : (s.getD i 0).toNat = 37
    · rw [if_pos h4]
      by_cases hp : pctB s i = true
      · rw [if_pos hp, re_all k (i + 3) (by omega)]
        have hp' := hp
        simp only [pctB, Bool.and_eq_true, decide_eq_true_eq] at hp'
        refine ⟨fun hh j h5 h6 => ?_, fun hh j h5 h6 => hh j (by omega) h6⟩
        rcases (by omega : j = i ∨ j = i + 1 ∨ j = i + 2 ∨ i + 3 ≤ j) with rfl | rfl | rfl | h7
        · simp only [cellP, Bool.and_eq_true, Bool.or_eq_true, decide_eq_true_eq]
          exact ⟨⟨h3', h63⟩, .inr hp⟩
        · have := cell_hex _ hp'.1.2
          simp only [cellP, Bool.and_eq_true, Bool.or_eq_true, decide_eq_true_eq]
          exact ⟨⟨this.1, this.2.1⟩, .inl this.2.2⟩
        · have := cell_hex _ hp'.2
          simp only [cellP, Bool.and_eq_true, Bool.or_eq_true, decide_eq_true_eq]
          exact ⟨⟨this.1, this.2.1⟩, .inl this.2.2⟩
        · exact hh j h7 h6
      · rw [if_neg hp]
        refine ⟨fun hh => absurd hh.1 (by simp), fun hh => ?_⟩
        have := hh i (Nat.le_refl _) (by omega)
        simp only [cellP, Bool.and_eq_true, Bool.or_eq_true, decide_eq_true_eq] at this
        rcases this.2 with h | h
        · exact absurd h4 h
        · exact absurd h hp
    · rw [if_neg h4, re_all k (i + 1) (by omega)]
      refine ⟨fun hh j h5 h6 => ?_, fun hh j h5 h6 => hh j (by omega) h6⟩
      by_cases e : j = i
      · subst e
        simp only [cellP, Bool.and_eq_true, Bool.or_eq_true, decide_eq_true_eq]
        exact ⟨⟨h3', h63⟩, .inl h4⟩
      · exact hh j (by omega) h6
theorem rowP_rb (s : List UInt8) : decide (rbL s (s.length + 1) 0 < 0) = rowP s := by
  rw [Bool.eq_iff_iff, decide_eq_true_eq, rb_all _ 0 (by omega)]
  simp [rowP, List.all_eq_true]
theorem rowP_re (s : List UInt8) : ((reL s [63] (s.length + 1) 0).2 && ((reL s [63] (s.length + 1) 0).1 == s.length)) = rowP s := by
  rw [Bool.eq_iff_iff, Bool.and_eq_true, beq_iff_eq, re_all _ 0 (by omega)]
  simp [rowP, List.all_eq_true]
/-- a cookie's path -/
def cpathL (s : List UInt8) : Bool := decide (1 ≤ s.length) && decide ((s.getD 0 0).toNat = 47) && rowP s && decide (s.length ≤ 2000)
def ckIsPath1 : Ck
  | [.str s] => some (s.length ≤ 4611686018427387900, .bool (s == [] || (decide ((s.getD 0 0).toNat = 47) && rowP s)))
  | _ => none
theorem i47 (c : UInt8) : (((c.toNat : Int)) == 47) = decide (c.toNat = 47) := by
  rw [Bool.eq_iff_iff, beq_iff_eq, decide_eq_true_eq]; omega
theorem sne_pos {s : List UInt8} (h : ¬ s = []) : 0 < (s.length : Int) := by
  have := List.length_pos_iff.2 h; omega
attribute [push_cast] ckIsPath1
def ckCPath2 : Ck
  | [.str s] => some (s.length ≤ 4611686018427387900, .bool (cpathL s))
  | _ => none
attribute [push_cast] ckCPath2
end Go.Abs
