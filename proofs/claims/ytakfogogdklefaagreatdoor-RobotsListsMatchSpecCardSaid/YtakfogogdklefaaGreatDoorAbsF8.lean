/- what functions of this program compute: contracts, each a function's own -/
import Derived.Test.YtakfogogdklefaaGreatDoorAbsK2
import Derived.Test.YtakfogogdklefaaGreatDoorAbsFacts
import Derived.Test.YtakfogogdklefaaGreatDoorAbsF7
import Derived.Test.YtakfogogdklefaaGreatDoorAbsShelf
import Derived.Lib.SplitLaws
import Derived.Lib.SlTrimSet
import Derived.Lib.Atoi
import Derived.Lib.Itoa
import Derived.Lib.ItoaNum
import Derived.Lib.AtoiErrMem
import Derived.Lib.Join
import Derived.Lib.Repeat
import Derived.Lib.IndexMore
import Derived.Lib.ItoaLen
import Derived.Shelf.Spec.SlicesInsert
import Derived.Shelf.Spec.SlicesInsertGrow
import Derived.Lib.Overlaps
import Derived.Lib.AppendZerosOnto
import Derived.Laws.NewBlocks
import Derived.WalkKit
import Derived.Lib.Walk
import Derived.OwnWalkIn
import Derived.TacticsInMore
import Derived.RegionIn
import Derived.LoopNIn
import Derived.LoopIn
import Derived.Shelf.Abstract
namespace Go.Abs
open Go Go.Proofs
set_option maxHeartbeats 4000000
set_option maxRecDepth 100000
set_option linter.unusedVariables false
set_option linter.unusedSimpArgs false
theorem conSymBE : FCon pg 146 (ckSymE 2000000) := conSymE 2000000
def ckStbEK : List V → List Blk → Option (Prop × V × List Blk)
  | [.vec _ n, .int .i64 m, .fn (.func 56) [] []], [.vec 3 k f] => some (k = n ∧ m = n ∧ isLs cEnt n f ∧ n ≤ 1000, .tup [], [.vec 3 n (lsF cEnt (srtE (lsOf cEnt n f)))])
  | _, _ => none
def ckStbE : Cf := ⟨fun | .vec i _ :: _ => [i] | _ => [], ckStbEK⟩
theorem conStbE : FCon pg 99 ckStbE := by
  have hct := (ctF_ok conSymBE (ctF_ok conInsE (ctN_ok _)))
  intro args bs q r bs' h hq
  replace h : ckStbEK args bs = some (q, r, bs') := h
  unfold ckStbEK at h
  split at h
  · cases h
    rename_i i n m k f
    refine ⟨rfl, by first | exact Nat.le_refl _ | exact Nat.zero_le _, ?_⟩
    obtain ⟨rfl, rfl, hf, hn⟩ := hq
    have hk : k = (lsOf cEnt k f).length := (lsOf_len k f).symm
    refine fcall_blk (hm := [(i + 9000, .vec 3 (lsOf cEnt k f).length (lsF cEnt (lsOf cEnt k f)))]) ⟨rfl, ⟨rfl, hk, fun j hj => by show V.shift (f j) = _; rw [hf.2 j hj]; rfl⟩, trivial⟩ ?_
    have hlen : (lsOf cEnt k f).length = k := lsOf_len k f
    generalize lsOf cEnt k f = D at hlen ⊢
    subst hlen
    have e1 : ∀ E : List Ent, E.length = D.length → lsOf cEnt D.length (lsF cEnt E) = E := fun E hE => by rw [← hE]; exact lsOf_ls E
    have e2 : ∀ E : List Ent, E.length = D.length → isLs cEnt D.length (lsF cEnt E) := fun E hE => by rw [← hE]; exact isLs_ls E
    show FCall pg 99 [.vec (i + 9000) D.length, .int .i64 D.length, .fn (.func 56) [] []] [(i + 9000, .vec 3 D.length (lsF cEnt D))] (.tup []) [(i + 9000, .vec 3 D.length (lsF cEnt (srtE D)))]
    refine fw99 (fun _ => false) [] rfl hct rfl (by simp) ?_ rfl ?_
    · simp [hlIn, Blk.menIn, men_cooE, idsIn]
    push_cast (config := { maxSteps := 10000000 })
    (repeat (refine ⟨by omega, ?_⟩))
    refine LoopW.adj ⟨hct, fol⟩ (by kernel_rfl) [] (fun t : Nat × List Ent => [(0, .vec (i + 9000) D.length), (1, .int .i64 D.length), (2, .fn (.func 56) [] []), (6, .int .i64 20), (7, .int .i64 t.1), (8, .int .i64 ((t.1 : Int) + 20))]) (fun t => [(i + 9000, .vec 3 D.length (lsF cEnt t.2))]) (fun t => 20 ∣ t.1 ∧ t.1 ≤ D.length ∧ t.2.length = D.length ∧ FiK ltE D t.2 ∧ BlkSE t.2 20 0 t.1) (fun t => D.length - t.1) (0, D) ?_ fun t ht => ?_
    · push_cast (config := { maxSteps := 10000000 })
      exact ⟨Nat.zero_le _, FiK.refl _ _, fun x _ _ h => absurd h (by omega)⟩
    · obtain ⟨a, E⟩ := t
      obtain ⟨i1, i2, i3, i4, i5⟩ : 20 ∣ a ∧ a ≤ D.length ∧ E.length = D.length ∧ FiK ltE D E ∧ BlkSE E 20 0 a := ht
      push_cast (config := { maxSteps := 10000000 })
      refine ⟨fun hlt => ?_, fun hge => ?_⟩
      · rw [e1 E i3]
        have hs := i5.step (b := a + 20) i1 (by omega) (by omega) (by omega)
        have hf := insD_fiE (D := E) (a := a) (b := a + 20) (by omega) (by omega)
        have hl := insD_lenE (D := E) (a := a) (b := a + 20) (by omega) (by omega)
        refine ⟨⟨e2 E i3, by omega⟩, by omega, (a + 20, insD ltE noEnt E a (a + 20)), ⟨by show 20 ∣ a + 20; omega, by show a + 20 ≤ D.length; omega, hl.trans i3, i4.trans hf, hs⟩, by show D.length - (a + 20) < D.length - a; omega, ⟨by show (a : Int) + 20 = ((a + 20 : Nat) : Int); omega, by show (a : Int) + 20 + 20 = ((a + 20 : Nat) : Int) + 20; omega⟩, fun i hi => rfl⟩
      · rw [e1 E i3]
        refine ⟨⟨e2 E i3, by omega⟩, ?_⟩
        have hs := i5.step (b := D.length) i1 i2 (by omega) (by omega)
        have hf := insD_fiE (D := E) (a := a) (b := D.length) i2 (by omega)
        have hl := insD_lenE (D := E) (a := a) (b := D.length) i2 (by omega)
        generalize insD ltE noEnt E a D.length = E1 at *
        refine LoopW.adj ⟨hct, fol⟩ (by kernel_rfl) [] (fun t : Nat × List Ent => [(0, .vec (i + 9000) D.length), (1, .int .i64 D.length), (2, .fn (.func 56) [] []), (6, .int .i64 t.1)]) (fun t => [(i + 9000, .vec 3 D.length (lsF cEnt t.2))]) (fun t => 0 < t.1 ∧ t.1 ≤ 2000 ∧ t.2.length = D.length ∧ FiK ltE D t.2 ∧ BlkSE t.2 t.1 0 D.length) (fun t => D.length - t.1) (20, E1) ?_ fun t ht => ?_
        · push_cast (config := { maxSteps := 10000000 })
          exact ⟨hl.trans i3, i4.trans hf, hs.all (by omega) _⟩
        · obtain ⟨s, F⟩ := t
          obtain ⟨j1, j2, j3, j4, j5⟩ : 0 < s ∧ s ≤ 2000 ∧ F.length = D.length ∧ FiK ltE D F ∧ BlkSE F s 0 D.length := ht
          push_cast (config := { maxSteps := 10000000 })
          refine ⟨fun hlt => ?_, fun hge => ?_⟩
          · (repeat (refine ⟨by omega, ?_⟩))
            refine LoopW.adj ⟨hct, fol⟩ (by kernel_rfl) [] (fun t : Nat × List Ent => [(0, .vec (i + 9000) D.length), (1, .int .i64 D.length), (2, .fn (.func 56) [] []), (6, .int .i64 s), (7, .int .i64 t.1), (8, .int .i64 ((t.1 : Int) + 2 * s))]) (fun t => [(i + 9000, .vec 3 D.length (lsF cEnt t.2))]) (fun t => (2 * s) ∣ t.1 ∧ t.1 ≤ D.length ∧ t.2.length = D.length ∧ FiK ltE D t.2 ∧ BlkSE t.2 (2 * s) 0 t.1 ∧ BlkSE t.2 s t.1 D.length) (fun t => D.length - t.1) (0, F) ?_ fun t ht => ?_
            · push_cast (config := { maxSteps := 10000000 })
              exact ⟨⟨Nat.dvd_zero _, Nat.zero_le _, j3, j4, fun x _ _ h => absurd h (by omega), j5⟩, by omega⟩
            · obtain ⟨a, G⟩ := t
              obtain ⟨k1, k2, k3, k4, k5, k6⟩ : (2 * s) ∣ a ∧ a ≤ D.length ∧ G.length = D.length ∧ FiK ltE D G ∧ BlkSE G (2 * s) 0 a ∧ BlkSE G s a D.length := ht
              push_cast (config := { maxSteps := 10000000 })
              rw [e1 G k3]
              have ds : s ∣ a := Nat.dvd_trans (Nat.dvd_mul_left s 2) k1
              have ea : ((a : Int) + s).toNat = a + s := by omega
              have eb : ((a : Int) + 2 * s).toNat = a + 2 * s := by omega
              simp only [ea, eb]
              have q1 : a < D.length → SrtK ltE (sgL G a (min (a + s) D.length)) := fun h => by
                have := k6 a ds (Nat.le_refl _) h
                rwa [k3] at this
              have q2 : a + s < D.length → SrtK ltE (sgL G (a + s) (min (a + s + s) D.length)) := fun h => by
                have := k6 (a + s) (Nat.dvd_add ds (Nat.dvd_refl s)) (by omega) h
                rwa [k3] at this
              have k6' : BlkSE G s a G.length := by rw [k3]; exact k6
              refine ⟨fun hb => ?_, fun hb => ⟨by omega, fun hc => ?_, fun hc => ?_⟩⟩
              · have q1 := q1 (by omega)
                have q2 := q2 (by omega)
                rw [Nat.min_eq_left (by omega)] at q1 q2
                rw [show a + s + s = a + 2 * s by omega] at q2
                have hs := k5.step (b := a + 2 * s) k1 (by omega) (by omega) (by omega)
                have hh := k6'.hi (b := a + 2 * s) (by omega) (by omega)
                have hf := insD_fiE (D := G) (a := a) (b := a + 2 * s) (by omega) (by omega)
                have hl := insD_lenE (D := G) (a := a) (b := a + 2 * s) (by omega) (by omega)
                refine ⟨by omega, ⟨e2 G k3, by omega, by omega, by omega, by omega, by omega, q1, q2⟩, by omega, by omega, (a + 2 * s, insD ltE noEnt G a (a + 2 * s)), ⟨Nat.dvd_add k1 (Nat.dvd_refl _), by show a + 2 * s ≤ D.length; omega, hl.trans k3, k4.trans hf, hs, by rw [← k3]; exact hh⟩, by show D.length - (a + 2 * s) < D.length - a; omega, ⟨by show (a : Int) + 2 * s = ((a + 2 * s : Nat) : Int); omega, by show (a : Int) + 2 * s + 2 * s = ((a + 2 * s : Nat) : Int) + 2 * s; omega⟩, fun i hi => rfl⟩
              · have q1 := q1 (by omega)
                have q2 := q2 (by omega)
                rw [Nat.min_eq_left (by omega)] at q1
                rw [Nat.min_eq_right (by omega)] at q2
                have hs := k5.step (b := D.length) k1 (by omega) (by omega) (by omega)
                have hf := insD_fiE (D := G) (a := a) (b := D.length) (by omega) (by omega)
                have hl := insD_lenE (D := G) (a := a) (b := D.length) (by omega) (by omega)
                refine ⟨⟨e2 G k3, by omega, by omega, by omega, Nat.le_refl _, by omega, q1, q2⟩, by omega, (2 * s, insD ltE noEnt G a D.length), ⟨by show 0 < 2 * s; omega, by show 2 * s ≤ 2000; omega, hl.trans k3, k4.trans hf, hs.all (by omega) _⟩, by show D.length - 2 * s < D.length - s; omega, by show (s : Int) * 2 = ((2 * s : Nat) : Int); omega, fun i hi => rfl⟩
              · refine ⟨by omega, (2 * s, G), ⟨by show 0 < 2 * s; omega, by show 2 * s ≤ 2000; omega, k3, k4, ?_⟩, by show D.length - 2 * s < D.length - s; omega, by show (s : Int) * 2 = ((2 * s : Nat) : Int); omega, fun i hi => rfl⟩
                intro x hx h0 hx2
                by_cases e : x < a
                · exact k5 x hx h0 e
                · by_cases e2 : x = a
                  · subst e2
                    have q1 := q1 hx2
                    rw [Nat.min_eq_right (by omega)] at q1
                    rw [k3, Nat.min_eq_right (by omega)]
                    exact q1
                  · have := dv_lt k1 hx (by omega)
                    omega
          · have hS : SrtK ltE F := by
              by_cases h0 : D.length = 0
              · rw [List.length_eq_zero_iff.1 (j3.trans h0)]; exact SrtK.nil _
              · have := j5 0 (Nat.dvd_zero _) (Nat.le_refl _) (by omega)
                rw [Nat.min_eq_right (by omega), sgL_allE F (Nat.le_refl _)] at this
                exact this
            have hE : srtE D = F := srtL_eq keyE noEnt hS j4
            rw [hE]
            exact fun i hi => rfl
  · cases h
attribute [push_cast] ckStbEK
@[push_cast] theorem stb_idsE (i n : Nat) (l : List V) : ckStbE.ids (.vec i n :: l) = [i] := rfl
@[push_cast] theorem stb_kE {i n k : Nat} {m : Int} {f : Nat → V} : ckStbE.k [.vec i n, .int .i64 m, .fn (.func 56) [] []] [.vec 3 k f] = some (k = n ∧ m = n ∧ isLs cEnt n f ∧ n ≤ 1000, .tup [], [.vec 3 n (lsF cEnt (srtE (lsOf cEnt n f)))]) := rfl
def ckSSFE : Cf := ⟨fun | .vec i _ :: _ => [i] | _ => [], fun
  | [.vec _ n, .fn (.func 56) [] []], [.vec 3 k f] => some (k = n ∧ isLs cEnt n f ∧ n ≤ 1000, .tup [], [.vec 3 n (lsF cEnt (srtE (lsOf cEnt n f)))])
  | _, _ => none⟩
theorem conSSFE : FCon pg 55 ckSSFE := by
  have hct := ctF_ok conStbE (ctN_ok pg)
  intro args bs q r bs' h hq
  unfold ckSSFE at h
  dsimp only at h
  split at h
  · cases h
    rename_i i n k f
    refine ⟨rfl, by first | exact Nat.le_refl _ | exact Nat.zero_le _, ?_⟩
    obtain ⟨rfl, hf, hn⟩ := hq
    have hk : k = (lsOf cEnt k f).length := (lsOf_len k f).symm
    refine fcall_blk (hm := [(i + 9000, .vec 3 (lsOf cEnt k f).length (lsF cEnt (lsOf cEnt k f)))]) ⟨rfl, ⟨rfl, hk, fun j hj => by show V.shift (f j) = _; rw [hf.2 j hj]; rfl⟩, trivial⟩ ?_
    have hlen : (lsOf cEnt k f).length = k := lsOf_len k f
    generalize lsOf cEnt k f = D at hlen ⊢
    subst hlen
    show FCall pg 55 [.vec (i + 9000) D.length, .fn (.func 56) [] []] [(i + 9000, .vec 3 D.length (lsF cEnt D))] (.tup []) [(i + 9000, .vec 3 D.length (lsF cEnt (srtE D)))]
    refine fw55 (fun _ => false) [] rfl hct rfl (by simp) ?_ rfl ?_
    · simp [hlIn, Blk.menIn, men_cooE, idsIn]
    push_cast (config := { maxSteps := 10000000 })
    exact hn
  · cases h
@[push_cast] theorem ssf_idsE (i n : Nat) (l : List V) : ckSSFE.ids (.vec i n :: l) = [i] := rfl
@[push_cast] theorem ssf_kE {i n k : Nat} {f : Nat → V} : ckSSFE.k [.vec i n, .fn (.func 56) [] []] [.vec 3 k f] = some (k = n ∧ isLs cEnt n f ∧ n ≤ 1000, .tup [], [.vec 3 n (lsF cEnt (srtE (lsOf cEnt n f)))]) := rfl

def newB (s : Int) (e : Ent) : Bool := decide (e.day = 0 ∨ s ≤ e.day)
def newE (m : SMp) (s : Int) : Int := if chkM m ≠ 0 then chkM m else if s < 1 ∨ 3652059 < s then 1 else 0
def newL (m : SMp) (s : Int) : List (List UInt8) := if newE m s = 0 then (srtE (m.en.filter (newB s))).map Ent.loc else []
def ckNewer : Ck
  | [.agg [.bool b, .sl n f], .int .i64 s] => some (isLs cEnt n f ∧ n ≤ 4611686018427387904, .tup [.sl (newL ⟨b, lsOf cEnt n f⟩ s).length (lsF cStr (newL ⟨b, lsOf cEnt n f⟩ s)), .int .i64 (newE ⟨b, lsOf cEnt n f⟩ s)])
  | _ => none
theorem conNewer : Con pg 20 ckNewer := by
  have hct := (ctA_ok conCM (ctF_ok conSSFE (ctN_ok _)))
  intro args q r h hq
  unfold ckNewer at h
  split at h
  · cases h
    rename_i b n f s
    obtain ⟨h0, hn⟩ := hq
    rw [← lsOf_len (c := cEnt) n f] at hn
    refine pcall_args (args' := [.agg [.bool b, .sl (lsOf cEnt n f).length (lsF cEnt (lsOf cEnt n f))], .int .i64 s]) ⟨VLe.agg ⟨VLe.refl _, h0.vle, trivial⟩, VLe.refl _, trivial⟩ ?_
    generalize lsOf cEnt n f = l at hn ⊢
    refine w20 (fun _ => false) [.frz 8001] rfl hct rfl rfl ?_
    push_cast (config := { maxSteps := 10000000 })
    refine ⟨hn, fun h => ?_, fun h1 => ⟨fun h => ?_, fun h2 => ?_⟩⟩
    · have e : newE ⟨b, l⟩ s = chkM ⟨b, l⟩ := by unfold newE; rw [if_pos h]
      unfold newL; rw [e, if_neg h]; exact ⟨rfl, rfl⟩
    · have e : newE ⟨b, l⟩ s = 1 := by unfold newE; rw [if_neg (fun x => x h1), if_pos (by omega)]
      unfold newL; rw [e]; exact ⟨rfl, rfl⟩
    have e0 : newE ⟨b, l⟩ s = 0 := by unfold newE; rw [if_neg (fun x => x h1), if_neg (by omega)]
    have eF : newL ⟨b, l⟩ s = (srtE (l.filter (newB s))).map Ent.loc := by unfold newL; rw [if_pos e0]
    have hl1 : l.length ≤ 1000 := by
      unfold chkM at h1
      split at h1
      · cases h1
      · rename_i z; exact Nat.le_of_not_lt z
    rw [e0, eF]
    refine LoopW.adj ⟨hct, fol⟩ (by kernel_rfl) [.nv 7 8000 3 (lsF cEnt [])] (fun t : Nat × List Ent => [(1, .int .i64 s), (7, .vec 8000 t.2.length), (25, .sl l.length (lsF cEnt l)), (26, .int .i64 l.length), (27, .int .i64 t.1)]) (fun t => [(8000, .vec 3 t.2.length (lsF cEnt t.2))]) (fun t => t.1 ≤ l.length ∧ t.2 = (l.take t.1).filter (newB s)) (fun t => l.length - t.1) (0, []) ?_ fun t ht => ?_
    · push_cast (config := { maxSteps := 10000000 })
      exact ⟨Nat.zero_le _, rfl⟩
    · obtain ⟨i, o⟩ := t
      obtain ⟨i1, i2⟩ : i ≤ l.length ∧ o = (l.take i).filter (newB s) := ht
      push_cast (config := { maxSteps := 10000000 })
      have hol : o.length ≤ i := by
        rw [i2]
        have := List.length_filter_le (newB s) (l.take i)
        rw [List.length_take] at this; omega
      have hfs : ∀ h : i < l.length, (l.take (i + 1)).filter (newB s) = if newB s (l.getD i noEnt) = true then o ++ [l.getD i noEnt] else o := fun h => by
        have ht : l.take (i + 1) = l.take i ++ [l.getD i noEnt] := by
          rw [List.getD_eq_getElem?_getD, List.getElem?_eq_getElem h, List.take_succ_eq_append_getElem h]; rfl
        rw [ht, List.filter_append, ← i2]
        by_cases g : newB s (l.getD i noEnt) = true
        · rw [if_pos g, List.filter_cons_of_pos g]; rfl
        · rw [if_neg g, List.filter_cons_of_neg g]; simp
      have hnb : newB s (l.getD i noEnt) = true ↔ ((l.getD i noEnt).day = 0 ∨ s ≤ (l.getD i noEnt).day) := by unfold newB; rw [decide_eq_true_eq]
      refine ⟨fun h => ⟨h, fun g => ⟨⟨by omega, by omega⟩, ⟨by omega, by omega⟩, (i + 1, o ++ [l.getD i noEnt]), ⟨by show i + 1 ≤ _; omega, ?_⟩, by show l.length - (i + 1) < _; omega, ⟨by simp, by show (i : Int) + 1 = ((i + 1 : Nat) : Int); omega⟩, by simp, ?_⟩, fun g => ⟨⟨by omega, by omega⟩, (i + 1, o), ⟨by show i + 1 ≤ _; omega, ?_⟩, by show l.length - (i + 1) < _; omega, ⟨rfl, by show (i : Int) + 1 = ((i + 1 : Nat) : Int); omega⟩, rfl, fun _ _ => rfl⟩⟩, fun h => ?_⟩
      · show o ++ [l.getD i noEnt] = _
        rw [hfs h, if_pos (hnb.2 g)]
      · exact (LsI.app (c := cEnt) (f := lsF cEnt o) (g := litF [cEnt.enc (l.getD i noEnt)]) (LsI.ls o) (LsI.one (c := cEnt) (a := l.getD i noEnt) rfl) rfl).2
      · show o = _
        rw [hfs h, if_neg (fun x => by have := hnb.1 x; omega)]
      refine ⟨by omega, ?_⟩
      rw [List.take_of_length_le (by omega)] at i2
      rw [← i2]
      have eS : (srtE o).length = o.length := srtL_len ltE noEnt o
      rw [← eS]
      generalize srtE o = S at *
      refine LoopW.adj ⟨hct, fol⟩ (by kernel_rfl) [.frz 8000, .nv 10 8001 1 (lsF cStr [])] (fun i : Nat => [(10, .vec 8001 i), (47, .sl S.length (lsF cEnt S)), (48, .int .i64 S.length), (49, .int .i64 i)]) (fun i => [(8001, .vec 1 i (lsF cStr (S.map Ent.loc)))]) (fun i => i ≤ S.length) (fun i => S.length - i) 0 ?_ fun i hi => ?_
      · push_cast (config := { maxSteps := 10000000 })
        exact Nat.zero_le _
      · push_cast (config := { maxSteps := 10000000 })
        refine ⟨fun hlt => ⟨hlt, ⟨by omega, by omega⟩, ⟨by omega, by omega⟩, i + 1, by omega, by omega, ⟨rfl, by omega⟩, rfl, fun j hj => ?_⟩, fun hge => by rw [List.length_map]; omega⟩
        unfold appF
        by_cases e : j < i
        · rw [decide_eq_true e]; rfl
        · rw [decide_eq_false e]
          obtain rfl : j = i := by omega
          rw [Nat.sub_self, cond_false, List.getD_eq_getElem?_getD (l := List.map Ent.loc S), List.getElem?_map, List.getElem?_eq_getElem hlt]
          show V.str _ = V.str (S[j]).loc
          rw [List.getD_eq_getElem?_getD, List.getElem?_eq_getElem hlt]; rfl
  · cases h
attribute [push_cast] ckNewer

/- parts of a list -/
def cntP (n k : Nat) : Nat := (n + k - 1) / k
def partL (l : List Ent) (k j : Nat) : List Ent := (l.drop (j * k)).take k
def outF (l : List Ent) (k j : Nat) : V := .agg [.bool false, .sl (min k (l.length - j * k)) (shF (lsF cEnt l) (j * k))]
def dayL (l : List Ent) : Int := l.foldl (fun d e => max d e.day) 0
def idxE (l : List Ent) (base : List UInt8) (k j : Nat) : Ent := ⟨base ++ Lib.itoa ((j : Int) + 1) ++ [46, 120, 109, 108], dayL (partL l k j), -1⟩
def idxL (l : List Ent) (base : List UInt8) (k : Nat) : List Ent := (List.range (cntP l.length k)).map (idxE l base k)
def partsL (l : List Ent) (k : Nat) : List SMp := (List.range (cntP l.length k)).map fun j => ⟨false, partL l k j⟩
theorem partL_len (l : List Ent) (k j : Nat) : (partL l k j).length = min k (l.length - j * k) := by
  unfold partL; rw [List.length_take, List.length_drop]
theorem partL_at (l : List Ent) {k j i : Nat} (h : i < min k (l.length - j * k)) : (partL l k j).getD i noEnt = l.getD (i + j * k) noEnt := by
  unfold partL
  rw [List.getD_eq_getElem?_getD, List.getElem?_take_of_lt (by omega), List.getElem?_drop, List.getD_eq_getElem?_getD, Nat.add_comm]
theorem dayL_app (l : List Ent) (e : Ent) : dayL (l ++ [e]) = max (dayL l) e.day := by
  unfold dayL; rw [List.foldl_append]; rfl
theorem idxL_len (l : List Ent) (base : List UInt8) (k : Nat) : (idxL l base k).length = cntP l.length k := by simp [idxL]
theorem partsL_len (l : List Ent) (k : Nat) : (partsL l k).length = cntP l.length k := by simp [partsL]
theorem idxL_at (l : List Ent) (base : List UInt8) {k j : Nat} (h : j < cntP l.length k) : (idxL l base k).getD j noEnt = idxE l base k j := by
  simp [idxL, List.getD_eq_getElem?_getD, h]
theorem partsL_at (l : List Ent) {k j : Nat} (h : j < cntP l.length k) : (partsL l k).getD j noSMp = ⟨false, partL l k j⟩ := by
  simp [partsL, List.getD_eq_getElem?_getD, h]
theorem cntP_iff {n k j : Nat} (hk : 1 ≤ k) : j < cntP n k ↔ j * k < n := by
  unfold cntP
  rw [show (j < (n + k - 1) / k) = (j + 1 ≤ (n + k - 1) / k) from rfl, Nat.le_div_iff_mul_le (by omega), Nat.succ_mul]; omega
theorem cntP_le {n k : Nat} (hk : 1 ≤ k) : cntP n k ≤ n := by
  apply Nat.le_of_not_lt
  intro h
  have h1 := (cntP_iff (n := n) hk).1 h
  have := Nat.le_mul_of_pos_right n hk
  omega
/-- the parts are together the list -/
theorem parts_join (l : List Ent) {k : Nat} (hk : 1 ≤ k) : ∀ m, ((List.range m).map (partL l k)).flatten = l.take (m * k)
  | 0 => by simp
  | m + 1 => by
    rw [List.range_succ, List.map_append, List.flatten_append, parts_join l hk m]
    simp only [List.map_cons, List.map_nil, List.flatten_cons, List.flatten_nil, List.append_nil]
    rw [Nat.succ_mul]
    unfold partL
    rw [List.take_add]
theorem parts_all (l : List Ent) {k : Nat} (hk : 1 ≤ k) : ((List.range (cntP l.length k)).map (partL l k)).flatten = l := by
  rw [parts_join l hk]
  apply List.take_of_length_le
  apply Nat.le_of_not_lt
  intro h
  have := (cntP_iff (n := l.length) (j := cntP l.length k) hk).2 h
  omega

/-- cells laid into a row -/
def layA (arr : Array Value) (o : Nat) (l : List Value) : Array Value := (l.zipIdx 0).foldl (fun cs (p : Value × Nat) => cs.setIfInBounds (o + p.2) p.1) arr
theorem layA_ok (l : List Value) (o : Nat) (arr : Array Value) (h : o + l.length ≤ arr.size) : (layA arr o l).size = arr.size ∧ ∀ k, (layA arr o l).getD k undef = if o ≤ k ∧ k < o + l.length then l.getD (k - o) undef else arr.getD k undef := by
  have := lay_cells l o 0 arr (by omega)
  exact this
theorem szEnt : (Tryz.prog.info? 57).map (·.size) = some 3 := by kernel_rfl
theorem copy3 (w : World) {b o dl dc : Nat} {arr : Array Value} {t : TypeId} {lo : Nat} (ty : TypeId) (hb : w.heap[b]? = some (.cells arr t (lo, lo))) (a : Addr) (sl sc k : Nat) (cs : List Value) (hk : k = min sl dl) (hl : cs.length = k * 3)
    (hsrc : ∀ j v, cs[j]? = some v → w.cell? (a.add j) = some v) (hle : o + cs.length ≤ arr.size) (h1 : ∀ v ∈ cs, one v) :
    (Builtin.copy_ #[22, 22] ty #[.slice (some ⟨b, o, none⟩) dl dc, .slice (some a) sl sc]).run Tryz.prog w = .ok (goInt k) (w.setRow b (layA arr o cs)) := by
  have hl' := run_loadCells_list (P := Tryz.prog) w a cs hsrc
  have hst := store_run (P := Tryz.prog) b o t lo lo cs 0 arr w hb (.inl rfl) (by omega) h1
  have hu := run_underlying Tryz.underlying22
  cases hq : (Tryz.prog.info? 57) with
  | none => have := szEnt; rw [hq] at this; cases this
  | some i =>
    have hi : i.size = 3 := by have := szEnt; rw [hq] at this; simpa using this
    have hm : Nat.min sl dl = k := hk.symm
    simp [Builtin.copy_, hu, Builtin.lenOf, Builtin.firstCells, sizeOf, typeInfo, hq, hi, hm, ← hl, hl', hst, layA]
theorem frozen_no {w : World} {b : Nat} {arr : Array Value} {t : TypeId} {lo : Nat} (hb : w.heap[b]? = some (.cells arr t (lo, lo))) (q : Nat) : w.frozen? ⟨b, q, none⟩ = false := by
  simp only [World.frozen?, hb, Bool.and_eq_false_iff, decide_eq_false_iff_not]; omega
theorem overlaps_no (w : World) {vb vo b o la ca lb cb : Nat} {arr varr : Array Value} {t vt : TypeId} {lo vlo : Nat} (hne : vb ≠ b) (hv : w.heap[vb]? = some (.cells varr vt (vlo, vlo))) (hb : w.heap[b]? = some (.cells arr t (lo, lo))) (hs : arr.size ≠ 0) :
    (callFunc 101 #[.slice (some ⟨vb, vo, none⟩) la ca, .slice (some ⟨b, o, none⟩) lb cb]).run Tryz.prog w = .ok (.value (.bool false)) w := by
  have hsz : ∀ w, (Go.sizeOf 57).run Tryz.prog w = .ok 3 w := fun w => by
    cases hq : (Tryz.prog.info? 57) with
    | none => have := szEnt; rw [hq] at this; cases this
    | some i =>
      have hi : i.size = 3 := by have := szEnt; rw [hq] at this; simpa using this
      simp [sizeOf, typeInfo, hq, hi]
  rw [run_callFunc_extern Tryz.func101 (by kernel_rfl) (by kernel_rfl) (by kernel_rfl) (e := Extern.SlicesOverlaps.overlaps #[22, 22] #[4]) (by kernel_rfl),
    Lib.run_overlaps_apart w 22 4 57 Tryz.underlying22 3 hsz ⟨vb, vo, none⟩ ⟨b, o, none⟩ la ca lb cb hne vt t varr.size arr.size (by unfold World.shape?; rw [hv]) (by unfold World.shape?; rw [hb]) hs (frozen_no hv _) (frozen_no hv _)]
  rfl
open Go.RowKit Go.Shelf in
set_option maxRecDepth 100000 in
theorem ins_room (b n cap a vb vo vc : Nat) (arr varr : Array Value) (t vt : TypeId) (lo vlo : Nat) (tl xs : List Value) (w : World) (hne : vb ≠ b) (hb : w.heap[b]? = some (.cells arr t (lo, lo))) (hv : w.heap[vb]? = some (.cells varr vt (vlo, vlo)))
    (hs : arr.size = cap * 3) (ha : a < n) (hroom : n + 1 ≤ cap) (hcap : n ≤ 1000000)
    (htl : tl.length = (n - a) * 3) (hxl : xs.length = 3) (htc : ∀ j v, tl[j]? = some v → w.cell? ⟨b, a * 3 + j, none⟩ = some v) (hxc : ∀ j v, xs[j]? = some v → w.cell? ⟨vb, vo + j, none⟩ = some v) (h1t : ∀ v ∈ tl, one v) (h1x : ∀ v ∈ xs, one v) :
    Calls Tryz.prog 58 #[.slice (some ⟨b, 0, none⟩) n cap, .int .i64 a, .slice (some ⟨vb, vo, none⟩) 1 vc] w fun e w' =>
      e = .returned (.slice (some ⟨b, 0, none⟩) (n + 1) cap) ∧ w' = (w.drew.setRow b (layA arr ((a + 1) * 3) tl)).setRow b (layA (layA arr ((a + 1) * 3) tl) (a * 3) xs) := by
  have t22 := Tryz.underlying22
  have mixed : Tryz.prog.follows .mixedOrders = true := fol
  have hov : ∀ lb cb, (callFunc 101 #[.slice (some ⟨vb, vo, none⟩) 1 vc, .slice (some ⟨b, (a + 1) * 3, none⟩) lb cb]).run Tryz.prog w = .ok (.value (.bool false)) w := fun lb cb => overlaps_no w hne hv hb (by omega)
  have hz2 : ¬ ((a : Int) = (n : Int)) := by omega
  have hw1 : IntKind.i64.wrap ((a : Int) + 1) = (a : Int) + 1 := by rw [IntKind.wrap_i64]; omega
  have hw2 : IntKind.i64.wrap ((n : Int) + 1) = (n : Int) + 1 := by rw [IntKind.wrap_i64]; omega
  have hbd : w.drew.heap[b]? = some (.cells arr t (lo, lo)) := hb
  have hA := layA_ok tl ((a + 1) * 3) arr (by omega)
  have hcp1 : ∀ ty dl sl dc sc, dl = n - a → sl = n + 1 - a → (Builtin.copy_ #[22, 22] ty #[.slice (some ⟨b, (a + 1) * 3, none⟩) dl dc, .slice (some ⟨b, a * 3, none⟩) sl sc]).run Tryz.prog w.drew = .ok (goInt (n - a : Nat)) (w.drew.setRow b (layA arr ((a + 1) * 3) tl)) := fun ty dl sl dc sc e1 e2 =>
    copy3 w.drew ty hbd ⟨b, a * 3, none⟩ sl sc (n - a) tl (by omega) htl (fun j v hj => by rw [addr_add]; exact htc j v hj) (by omega) h1t
  have hb2 : (w.drew.setRow b (layA arr ((a + 1) * 3) tl)).heap[b]? = some (.cells (layA arr ((a + 1) * 3) tl) t (lo, lo)) := setRow_heap _ _ _ _ _ _ hbd
  have hxc2 : ∀ j v, xs[j]? = some v → (w.drew.setRow b (layA arr ((a + 1) * 3) tl)).cell? ⟨vb, vo + j, none⟩ = some v := fun j v hj => (cell_same (setRow_other _ _ _ _ hne) _).trans (hxc j v hj)
  have hcp2 : ∀ ty dl dc, dl = n + 1 - a → (Builtin.copy_ #[22, 22] ty #[.slice (some ⟨b, a * 3, none⟩) dl dc, .slice (some ⟨vb, vo, none⟩) 1 vc]).run Tryz.prog (w.drew.setRow b (layA arr ((a + 1) * 3) tl)) = .ok (goInt (1 : Nat)) ((w.drew.setRow b (layA arr ((a + 1) * 3) tl)).setRow b (layA (layA arr ((a + 1) * 3) tl) (a * 3) xs)) := fun ty dl dc e1 =>
    copy3 (w.drew.setRow b (layA arr ((a + 1) * 3) tl)) ty hb2 ⟨vb, vo, none⟩ 1 vc 1 xs (by omega) (by omega) (fun j v hj => by rw [addr_add]; exact hxc2 j v hj) (by omega) h1x
  have hb1 : (0 : Int) ≤ (a : Int) + 1 := by omega
  have hin : a ≤ n := by omega
  have hc1 : ¬ (cap = a + 1) := by omega
  have hc2 : ¬ (cap = a) := by omega
  have hb3 : (a : Int) ≤ (n : Int) + 1 := by omega
  have hb4 : a ≤ n + 1 := by omega
  go_enter Tryz.func58, Tryz.ntmps58
  go_wp2_with (simp only [hov])
  go_region_law_o (refine step_copy_runI rfl _ _ 22 22 rfl _ _ (by simp [Act.eval, Act.put]) (by simp [Act.eval, Act.put]) (hcp1 _ _ _ _ _ rfl rfl) ?_)
  all_goals
    go_wp2
    go_ret
    exact ⟨rfl, rfl⟩
theorem infoEnt : ∃ i z, Tryz.prog.info? 57 = some i ∧ i.zero = some z ∧ i.size = 3 ∧ i.bytes = 32 ∧ z.cells.size = 3 := by
  have h1 : (Tryz.prog.info? 57).map (fun i => (i.size, i.bytes)) = some (3, 32) := by kernel_rfl
  have h2 : ((Tryz.prog.info? 57).bind (fun i => i.zero)).map (fun z => z.cells.size) = some 3 := by kernel_rfl
  cases hq : (Tryz.prog.info? 57) with
  | none => rw [hq] at h1; cases h1
  | some i =>
    rw [hq] at h1 h2
    cases hz : i.zero with
    | none => rw [Option.bind_some, hz] at h2; cases h2
    | some z =>
      rw [Option.bind_some, hz] at h2
      simp only [Option.map_some, Option.some.injEq, Prod.mk.injEq] at h1 h2
      exact ⟨i, z, rfl, hz, h1.1, h1.2, h2⟩
open Go.RowKit Go.Shelf in
set_option maxRecDepth 100000 in
theorem ins_grow (b n cap a vb vo vc : Nat) (hd tl xs : List Value) (w : World) (hbw : b < w.heap.size) (hvw : vb < w.heap.size)
    (ha : a < n) (hnc : n ≤ cap) (hroom : cap < n + 1) (hcap : n ≤ 1000000)
    (hhl : hd.length = a * 3) (htl : tl.length = (n - a) * 3) (hxl : xs.length = 3) (hhc : ∀ j v, hd[j]? = some v → w.cell? ⟨b, j, none⟩ = some v) (htc : ∀ j v, tl[j]? = some v → w.cell? ⟨b, a * 3 + j, none⟩ = some v) (hxc : ∀ j v, xs[j]? = some v → w.cell? ⟨vb, vo + j, none⟩ = some v) (h1t : ∀ v ∈ tl, one v) (h1x : ∀ v ∈ xs, one v) :
    Calls Tryz.prog 58 #[.slice (some ⟨b, 0, none⟩) n cap, .int .i64 a, .slice (some ⟨vb, vo, none⟩) 1 vc] w fun e w' =>
      ∃ G ROW, n + 1 ≤ G ∧ ROW.size = G * 3 ∧ (∀ k, k < a * 3 → ROW.getD k undef = hd.getD k undef) ∧ e = .returned (.slice (some ⟨w.heap.size, 0, none⟩) (n + 1) G) ∧ Pushed w w' (.cells (layA (layA ROW (a * 3) xs) ((a + 1) * 3) tl) 57 (0, 0)) := by
  have t22 := Tryz.underlying22
  have t3 := Tryz.underlying3
  have mixed : Tryz.prog.follows .mixedOrders = true := fol
  obtain ⟨i0, z0, hi0, hz0, hi1, hi2, hzs⟩ := infoEnt
  have hz2 : ¬ ((a : Int) = (n : Int)) := by omega
  have hz3 : (cap : Int) < (n : Int) + 1 := by omega
  have hw1 : IntKind.i64.wrap ((a : Int) + 1) = (a : Int) + 1 := by rw [IntKind.wrap_i64]; omega
  have hw2 : IntKind.i64.wrap ((n : Int) + 1) = (n : Int) + 1 := by rw [IntKind.wrap_i64]; omega
  have hw3 : IntKind.i64.wrap ((n : Int) + 1 - a) = (n : Int) + 1 - a := by rw [IntKind.wrap_i64]; omega
  have hb1 : (0 : Int) ≤ (a : Int) + 1 := by omega
  have hin : a ≤ n := by omega
  have hkk : (n : Int) + 1 - (a : Int) = ((n + 1 - a : Nat) : Int) := by omega
  have hik : a + (n + 1 - a) = n + 1 := by omega
  have hold : (Builtin.firstCells i0.size a (.slice (some ⟨b, 0, none⟩) a cap)).run Tryz.prog w.drew = .ok hd.toArray w.drew := by
    rw [hi1]
    exact run_firstCells_some w.drew 3 a ⟨b, 0, none⟩ a cap hd hhl (fun j v hj => by rw [addr_add, Nat.zero_add]; exact hhc j v hj)
  obtain ⟨G, hG⟩ : ∃ G, G = grownCap w (n + 1) cap 57 := ⟨_, rfl⟩
  obtain ⟨ROW, hROW⟩ : ∃ ROW : Array Value, ROW = hd.toArray ++ Builtin.zeroCells z0.cells (n + 1 - a) ++ Builtin.zeroCells z0.cells (G - (n + 1)) := ⟨_, rfl⟩
  have hGn : n + 1 ≤ G := by rw [hG]; exact grownCap_ge w _ _ _
  have hGi : ¬ (G = a) := by omega
  have hGim : ¬ (G = a + 1) := by omega
  have hci : ¬ (cap = a) := by omega
  have hrz : ∀ ty, (Builtin.append_ #[22, 3] ty #[.slice (some ⟨b, 0, none⟩) a cap, .int .i64 ((n : Int) + 1 - (a : Int))]).run Tryz.prog w =
      .ok (.slice (some ⟨w.heap.size, 0, none⟩) (n + 1) G) (w.drew.alloc (.cells ROW 57)) := fun ty => by
    have h := Lib.run_append_grow_zeros w 22 3 ty 57 i0 z0 .i64 .i64 t22 t3 hi0 hz0 (some ⟨b, 0, none⟩) a cap hd hold (n + 1 - a) (by omega) (by omega) (by omega) (by omega) (by rw [hi2]; omega) (by rw [hi2, hik]; exact growslice_fits hroom (by omega))
    rw [hik, ← hG, ← hROW] at h
    rw [hkk]
    exact h
  have hRs : ROW.size = G * 3 := by
    rw [hROW, Array.size_append, Array.size_append, size_zeroCells, size_zeroCells, hzs, List.size_toArray, hhl]; omega
  have hRh : ∀ k, k < a * 3 → ROW.getD k undef = hd.getD k undef := fun k hk => by
    rw [hROW]
    simp only [Array.getD_eq_getD_getElem?, List.getD_eq_getElem?_getD]
    rw [Array.getElem?_append, if_pos (by rw [Array.size_append, List.size_toArray, hhl]; omega), Array.getElem?_append, if_pos (by rw [List.size_toArray, hhl]; omega), List.getElem?_toArray]
  clear hROW hold
  have hN0 : (w.alloc (.cells ROW 57)).drew.heap[w.heap.size]? = some (.cells ROW 57 (0, 0)) := World.alloc_heap_new w _
  have hold2 : ∀ k, k < w.heap.size → (w.alloc (.cells ROW 57)).drew.heap[k]? = w.heap[k]? := fun k hk => RowKit.Below.heap_alloc w _ _ hk
  have hA := layA_ok xs (a * 3) ROW (by omega)
  have hcpA : ∀ ty dl dc, dl = n + 1 - a → (Builtin.copy_ #[22, 22] ty #[.slice (some ⟨w.heap.size, a * 3, none⟩) dl dc, .slice (some ⟨vb, vo, none⟩) 1 vc]).run Tryz.prog (w.alloc (.cells ROW 57)).drew = .ok (goInt (1 : Nat)) ((w.alloc (.cells ROW 57)).drew.setRow w.heap.size (layA ROW (a * 3) xs)) := fun ty dl dc e1 =>
    copy3 _ ty hN0 ⟨vb, vo, none⟩ 1 vc 1 xs (by omega) (by omega) (fun j v hj => by rw [addr_add]; exact (cell_same (hold2 _ hvw) _).trans (hxc j v hj)) (by omega) h1x
  have hN1 : ((w.alloc (.cells ROW 57)).drew.setRow w.heap.size (layA ROW (a * 3) xs)).drew.heap[w.heap.size]? = some (.cells (layA ROW (a * 3) xs) 57 (0, 0)) := setRow_heap _ _ _ _ _ _ hN0
  have hcpB : ∀ ty dl sl dc sc, dl = n - a → sl = n - a → (Builtin.copy_ #[22, 22] ty #[.slice (some ⟨w.heap.size, (a + 1) * 3, none⟩) dl dc, .slice (some ⟨b, a * 3, none⟩) sl sc]).run Tryz.prog ((w.alloc (.cells ROW 57)).drew.setRow w.heap.size (layA ROW (a * 3) xs)).drew = .ok (goInt (n - a : Nat)) (((w.alloc (.cells ROW 57)).drew.setRow w.heap.size (layA ROW (a * 3) xs)).drew.setRow w.heap.size (layA (layA ROW (a * 3) xs) ((a + 1) * 3) tl)) := fun ty dl sl dc sc e1 e2 =>
    copy3 _ ty hN1 ⟨b, a * 3, none⟩ sl sc (n - a) tl (by omega) htl (fun j v hj => by
      rw [addr_add]
      refine (cell_same ?_ _).trans (htc j v hj)
      exact (setRow_other _ _ _ _ (by omega)).trans (hold2 _ hbw)) (by rw [hA.1]; omega) h1t
  have hP : Pushed w (((w.alloc (.cells ROW 57)).drew.setRow w.heap.size (layA ROW (a * 3) xs)).drew.setRow w.heap.size (layA (layA ROW (a * 3) xs) ((a + 1) * 3) tl)) (.cells (layA (layA ROW (a * 3) xs) ((a + 1) * 3) tl) 57 (0, 0)) :=
    ⟨rfl, rfl, rfl, by simp, fun {c} hb => (setRow_other _ _ _ _ (by omega)).trans ((setRow_other _ _ _ _ (by omega)).trans (hold2 _ hb)), setRow_heap _ _ _ _ _ _ hN1⟩
  clear hA hN0 hN1 hold2 hkk hik hG hzs hi1 hi2 hz0 hi0
  go_enter Tryz.func58, Tryz.ntmps58
  go_wp2_with (first
    | (at_builtin; refine Lib.wpList_append_run _ rfl _ _ _ _ rfl _ _ rfl rfl _ _ (hrz _) ?_)
    | (at_builtin; refine wpList_copy_runI _ rfl _ _ 22 22 rfl _ _ rfl rfl (hcpA _ _ _ rfl) ?_))
  go_region_law_o (refine step_copy_runI rfl _ _ 22 22 rfl _ _ (by simp [Act.eval, Act.put]) (by simp [Act.eval, Act.put]) (hcpB _ _ _ _ _ rfl rfl) ?_)
  all_goals
    go_wp2
    go_ret
    exact ⟨G, ROW, hGn, hRs, hRh, rfl, hP⟩

/-- what an entry's cells in the new row are -/
theorem ins_cell {D : List Ent} {x : Ent} {a e : Nat} (ha : a < D.length) (he : e < D.length + 1) : (stK D x a).getD e noEnt = if e < a then D.getD e noEnt else if e = a then x else D.getD (e - 1) noEnt := by
  unfold stK
  rw [List.getD_eq_getElem?_getD, List.getElem?_append, List.length_take, Nat.min_eq_left (by omega)]
  by_cases h1 : e < a
  · rw [if_pos h1, if_pos h1, List.getElem?_take_of_lt h1, List.getD_eq_getElem?_getD]
  · rw [if_neg h1, if_neg h1]
    by_cases h2 : e = a
    · subst h2; rw [if_pos rfl, Nat.sub_self]; rfl
    · rw [if_neg h2, show e - a = (e - 1 - a) + 1 by omega, List.getElem?_cons_succ, List.getElem?_drop, List.getD_eq_getElem?_getD]
      congr 2; omega
theorem ins_rep {γ γ' : Gh} {imm : Nat → Prop} {w w' : World} {D : List Ent} {x : Ent} {a : Nat} {arr varr A2 : Array Value} (ha : a < D.length)
    (hc : ∀ q, q < (D.length + 1) * 3 → A2.getD q undef = if q < a * 3 then arr.getD q undef else if q < (a + 1) * 3 then varr.getD (q - a * 3) undef else arr.getD (q - 3) undef)
    (h8 : ∀ e q, e < D.length → q < 3 → RepC γ imm w ((lsF cEnt D e).flat.getD q .any) (arr.getD (e * 3 + q) undef)) (hx : ∀ q, q < 3 → RepC γ imm w ((cEnt.enc x).flat.getD q .any) (varr.getD q undef))
    (him : ∀ b, imm b → w'.heap[b]? = w.heap[b]?) {e q : Nat} (he : e < D.length + 1) (hq : q < 3) : RepC γ' imm w' ((lsF cEnt (stK D x a) e).flat.getD q .any) (A2.getD (e * 3 + q) undef) := by
  have nm : ∀ (y : Ent) (id : Nat), V.men id ((cEnt.enc y).flat.getD q .any) = false := fun y id => by
    match q, hq with
    | 0, _ => rfl
    | 1, _ => rfl
    | 2, _ => rfl
  have up : ∀ {y : Ent} {v : Value}, RepC γ imm w ((cEnt.enc y).flat.getD q .any) v → RepC γ' imm w' ((cEnt.enc y).flat.getD q .any) v := fun {y v} h =>
    ⟨RepV.mono (fun _ h => h) him h.1 (fun id hid => by rw [nm] at hid; cases hid), h.2⟩
  have e1 : lsF cEnt (stK D x a) e = cEnt.enc ((stK D x a).getD e noEnt) := rfl
  rw [e1, ins_cell ha he, hc _ (by omega)]
  by_cases h1 : e < a
  · rw [if_pos h1, if_pos (show e * 3 + q < a * 3 by omega)]
    exact up (h8 e q (by omega) hq)
  · rw [if_neg h1, if_neg (show ¬ e * 3 + q < a * 3 by omega)]
    by_cases h2 : e = a
    · rw [if_pos h2, if_pos (show e * 3 + q < (a + 1) * 3 by omega), show e * 3 + q - a * 3 = q by omega]
      exact up (hx q hq)
    · rw [if_neg h2, if_neg (show ¬ e * 3 + q < (a + 1) * 3 by omega), show e * 3 + q - 3 = (e - 1) * 3 + q by omega]
      exact up (h8 (e - 1) q (by omega) hq)
theorem getD_tl {arr : Array Value} {o m j : Nat} (h : j < m) (ho : o + m ≤ arr.size) : ((arr.toList.drop o).take m).getD j undef = arr.getD (o + j) undef := by
  rw [List.getD_eq_getElem?_getD, List.getElem?_take_of_lt h, List.getElem?_drop, Array.getElem?_toList, Array.getD_eq_getD_getElem?]
theorem at_tl {arr : Array Value} {o m j : Nat} {v : Value} (h : ((arr.toList.drop o).take m)[j]? = some v) : arr[o + j]? = some v ∧ j < m := by
  rw [List.getElem?_take] at h
  split at h
  · rename_i hj
    rw [List.getElem?_drop, Array.getElem?_toList] at h
    exact ⟨h, hj⟩
  · cases h
def ckInsertK : List V → List Blk → Option (Prop × V × List Blk)
  | [.vec i n, .int .i64 a, .vec j 1], [.vec 3 k f, .vec 3 1 g] => some (i ≠ j ∧ k = n ∧ isLs cEnt n f ∧ isLs cEnt 1 g ∧ n ≤ 1000000 ∧ 0 ≤ a ∧ a ≤ n, .vec i (n + 1), [.vec 3 (n + 1) (lsF cEnt (stK (lsOf cEnt n f) (cEnt.dec (g 0)) a.toNat)), .vec 3 1 (lsF cEnt [cEnt.dec (g 0)])])
  | _, _ => none
def ckInsert : Cf := ⟨fun | [.vec i _, _, .vec j _] => [i, j] | _ => [], ckInsertK⟩

theorem ins_sem {i j a : Nat} {D : List Ent} {x : Ent} (hij : i ≠ j) (hn : D.length ≤ 1000000) (ha : a < D.length) :
    FCall pg 58 [.vec (i + 9000) D.length, .int .i64 a, .vec (j + 9000) 1] [(i + 9000, .vec 3 D.length (lsF cEnt D)), (j + 9000, .vec 3 1 (lsF cEnt [x]))] (.vec (i + 9000) (D.length + 1)) [(i + 9000, .vec 3 (D.length + 1) (lsF cEnt (stK D x a))), (j + 9000, .vec 3 1 (lsF cEnt [x]))] := by
  intro S vals hs hh hl hr
  have ei : S.h (i + 9000) = some (.vec 3 D.length (lsF cEnt D)) := by rw [hh]; simp [hOf]
  have ej : S.h (j + 9000) = some (.vec 3 1 (lsF cEnt [x])) := by
    rw [hh]
    show upd _ (i + 9000) _ (j + 9000) = _
    rw [upd_ne _ _ (by omega)]; simp [hOf]
  match vals, hl with
  | [v0, v1, v2], _ =>
    have r0 : S.rep (.vec (i + 9000) D.length) v0 := hr 0 (by simp)
    have r1 : S.rep (.int .i64 a) v1 := hr 1 (by simp)
    have r2 : S.rep (.vec (j + 9000) 1) v2 := hr 2 (by simp)
    obtain rfl := inv_int r1
    obtain ⟨A0, m0, c0, g1, g2, g3⟩ := inv_vec r0
    have em := vec_len hs ei g1
    subst em
    obtain rfl := g3 rfl
    obtain ⟨A1, m1, c1, f1, f2, f3⟩ := inv_vec r2
    have em := vec_len hs ej f1
    subst em
    obtain rfl := f3 rfl
    obtain ⟨-, -, ⟨k3, _⟩ | ⟨b, cap, arr, tt, lo, hi, k3, k4, kc, k5, k6, k7, k8⟩⟩ := hs.blk _ _ ei
    · omega
    obtain ⟨-, -, ⟨l3, _⟩ | ⟨vb, vcap, varr, vt, vlo, vhi, l3, l4, lc, l5, l6, l7, l8⟩⟩ := hs.blk _ _ ej
    · omega
    obtain rfl : lo = hi := by rcases k7 with h | h; exact h; omega
    obtain rfl : vlo = vhi := by rcases l7 with h | h; exact h; omega
    have bi : blkOf (S.γ (i + 9000)) = some b := by rw [k3]; simp [blkOf]; omega
    have bj : blkOf (S.γ (j + 9000)) = some vb := by rw [l3]; simp [blkOf]; omega
    have si : (S.h (i + 9000)).isSome = true := by rw [ei]; rfl
    have sj : (S.h (j + 9000)).isSome = true := by rw [ej]; rfl
    have hne : vb ≠ b := fun e => by
      have := hs.inj (i + 9000) (j + 9000) b si sj bi (e ▸ bj)
      omega
    have h8x : ∀ q, q < 3 → RepC S.γ S.imm S.w ((cEnt.enc x).flat.getD q .any) (varr.getD q undef) := fun q hq => by
      have := l8 0 q (by omega) hq
      rwa [Nat.zero_mul, Nat.zero_add] at this
    have one1 : ∀ q, q < D.length * 3 → one (arr.getD q undef) := fun q hq => by
      have := (k8 (q / 3) (q % 3) (by omega) (by omega)).2
      rwa [show q / 3 * 3 + q % 3 = q by omega] at this
    have mm1 : D.length * 3 ≤ cap * 3 := Nat.mul_le_mul_right _ k4
    have mm2 : 3 ≤ vcap * 3 := by omega
    have htl : ((arr.toList.drop (a * 3)).take ((D.length - a) * 3)).length = (D.length - a) * 3 := by rw [List.length_take, List.length_drop, Array.length_toList (xs := arr)]; omega
    have hxl : ((varr.toList.drop 0).take 3).length = 3 := by rw [List.length_take, List.length_drop, Array.length_toList (xs := varr)]; omega
    have hhl : ((arr.toList.drop 0).take (a * 3)).length = a * 3 := by rw [List.length_take, List.length_drop, Array.length_toList (xs := arr)]; omega
    have htc : ∀ q v, ((arr.toList.drop (a * 3)).take ((D.length - a) * 3))[q]? = some v → S.w.cell? ⟨b, a * 3 + q, none⟩ = some v := fun q v h => by
      rw [cell_of_heap k5]; exact (at_tl h).1
    have hxc : ∀ q v, ((varr.toList.drop 0).take 3)[q]? = some v → S.w.cell? ⟨vb, 0 + q, none⟩ = some v := fun q v h => by
      rw [cell_of_heap l5]; exact (at_tl h).1
    have hhc : ∀ q v, ((arr.toList.drop 0).take (a * 3))[q]? = some v → S.w.cell? ⟨b, q, none⟩ = some v := fun q v h => by
      have := (at_tl h).1
      rw [Nat.zero_add] at this
      rw [cell_of_heap k5]; exact this
    have h1t : ∀ v ∈ (arr.toList.drop (a * 3)).take ((D.length - a) * 3), one v := fun v hv => by
      obtain ⟨q, hq, rfl⟩ := List.getElem_of_mem hv
      rw [htl] at hq
      have := one1 (a * 3 + q) (by omega)
      rw [← getD_tl hq (by omega), List.getD_eq_getElem?_getD, List.getElem?_eq_getElem (by rw [htl]; exact hq)] at this
      exact this
    have h1x : ∀ v ∈ (varr.toList.drop 0).take 3, one v := fun v hv => by
      obtain ⟨q, hq, rfl⟩ := List.getElem_of_mem hv
      rw [hxl] at hq
      have := (h8x q hq).2
      rw [← Nat.zero_add q, ← getD_tl hq (by omega), List.getD_eq_getElem?_getD, List.getElem?_eq_getElem (by rw [hxl]; exact hq)] at this
      exact this
    have hK : ∀ B, Abs.upd S.h (i + 9000) (some B) = hOf [(i + 9000, B), (j + 9000, .vec 3 1 (lsF cEnt [x]))] := fun B => by
      rw [hh]
      funext id
      simp only [hOf]
      by_cases e : id = i + 9000
      · subst e; rw [upd_same, upd_same]
      · rw [upd_ne _ _ e, upd_ne _ _ e, upd_ne _ _ e]
    have hlo : ∀ v id, hOf [(i + 9000, .vec 3 D.length (lsF cEnt D)), (j + 9000, .vec 3 1 (lsF cEnt [x]))] id = none → Abs.upd S.γ (i + 9000) v id = S.γ id := fun v id h => by
      by_cases e : id = i + 9000
      · subst e; simp [hOf] at h
      · rw [upd_ne _ _ e]
    have himm : ∀ w' : World, (∀ c, c < S.w.heap.size → c ≠ b → w'.heap[c]? = S.w.heap[c]?) → ∀ c, S.imm c → w'.heap[c]? = S.w.heap[c]? := fun w' hw c hc =>
      hw c (hs.immLt c hc) fun e => hs.disj b ⟨_, si, bi⟩ (e ▸ hc)
    generalize hT : (arr.toList.drop (a * 3)).take ((D.length - a) * 3) = T at htl htc h1t
    generalize hX : (varr.toList.drop 0).take 3 = X at hxl hxc h1x
    generalize hH : (arr.toList.drop 0).take (a * 3) = H at hhl hhc
    have tT : ∀ q, q < (D.length - a) * 3 → T.getD q undef = arr.getD (a * 3 + q) undef := fun q hq => by rw [← hT]; exact getD_tl hq (by omega)
    have tX : ∀ q, q < 3 → X.getD q undef = varr.getD q undef := fun q hq => by rw [← hX, getD_tl hq (by omega), Nat.zero_add]
    have tH : ∀ q, q < a * 3 → H.getD q undef = arr.getD q undef := fun q hq => by rw [← hH, getD_tl hq (by omega), Nat.zero_add]
    clear hT hX hH
    refine .inl ⟨by kernel_rfl, ?_⟩
    show Calls pg.prog _ #[S.γ (i + 9000), _, S.γ (j + 9000)] _ _
    rw [k3, l3]
    by_cases hroom : D.length + 1 ≤ cap
    · refine (ins_room b D.length cap a vb 0 vcap arr varr tt vt lo vlo T X S.w hne k5 l5 k6 ha hroom hn htl hxl htc hxc h1t h1x).mono ?_
      rintro e w' ⟨rfl, hw⟩
      obtain ⟨a1, a2⟩ := layA_ok T ((a + 1) * 3) arr (by omega)
      obtain ⟨a3, a4⟩ := layA_ok X (a * 3) (layA arr ((a + 1) * 3) T) (by omega)
      have hc : ∀ q, q < (D.length + 1) * 3 → (layA (layA arr ((a + 1) * 3) T) (a * 3) X).getD q undef = if q < a * 3 then arr.getD q undef else if q < (a + 1) * 3 then varr.getD (q - a * 3) undef else arr.getD (q - 3) undef := fun q hq => by
        rw [a4, a2]
        by_cases c1 : q < a * 3
        · rw [if_neg (show ¬ (a * 3 ≤ q ∧ q < a * 3 + X.length) by omega), if_neg (show ¬ ((a + 1) * 3 ≤ q ∧ q < (a + 1) * 3 + T.length) by omega), if_pos c1]
        · rw [if_neg c1]
          by_cases c2 : q < (a + 1) * 3
          · rw [if_pos (show a * 3 ≤ q ∧ q < a * 3 + X.length by omega), if_pos c2, tX _ (by omega)]
          · rw [if_neg (show ¬ (a * 3 ≤ q ∧ q < a * 3 + X.length) by omega), if_pos (show (a + 1) * 3 ≤ q ∧ q < (a + 1) * 3 + T.length by omega), if_neg c2, tT _ (by omega), show a * 3 + (q - (a + 1) * 3) = q - 3 by omega]
      have hsz : (layA (layA arr ((a + 1) * 3) T) (a * 3) X).size = cap * 3 := by rw [a3, a1, k6]
      generalize layA (layA arr ((a + 1) * 3) T) (a * 3) X = A2 at *
      have hb2 : w'.heap[b]? = some (.cells A2 tt (lo, lo)) := by rw [hw]; exact setRow_heap _ _ _ _ _ _ (setRow_heap _ _ _ _ _ _ k5)
      have ho : ∀ c, c < S.w.heap.size → c ≠ b → w'.heap[c]? = S.w.heap[c]? := fun c _ hcb => by
        rw [hw]; exact (setRow_other _ _ _ _ hcb).trans (setRow_other _ _ _ _ hcb)
      have hsize : w'.heap.size = S.w.heap.size := by rw [hw]; simp
      have h1 : w'.os = S.w.os := by rw [hw]; rfl
      have h2 : w'.tape = S.w.tape := by rw [hw]; rfl
      have h3 : w'.output = S.w.output := by rw [hw]; rfl
      clear hw
      obtain ⟨m1, m2⟩ := Sim.upd hs (fun _ => False) (i + 9000) (.slice (some ⟨b, 0, none⟩) (D.length + 1) cap) (.vec 3 (D.length + 1) (lsF cEnt (stK D x a))) w' h1 h2 h3 (by omega)
        (fun c hc hno => ho c hc fun e => hno ⟨si, e ▸ bi⟩) (fun c hc => .inl ⟨si, by rw [bi]; simp only [blkOf] at hc; split at hc <;> simp_all⟩)
        ⟨by decide, fun e he => rfl, .inr ⟨b, cap, A2, tt, lo, lo, upd_same _ _ _, hroom, kc, hb2, hsz, .inl rfl, fun e q he hq => ins_rep ha hc k8 h8x (himm w' ho) he hq⟩⟩
        (.inr (.inr ⟨_, _, _, _, _, _, k3, rfl, Nat.lt_succ_self _⟩))
      rw [hK] at m1 m2
      exact ⟨_, _, _, rfl, m1, m2, hlo _, .vec _ _ _ _ _ _ (upd_same _ _ _) (Nat.le_refl _) (fun _ => (upd_same _ _ _).symm) rfl⟩
    · refine (ins_grow b D.length cap a vb 0 vcap H T X S.w (hs.ownLt ⟨_, si, bi⟩) (hs.ownLt ⟨_, sj, bj⟩) ha k4 (by omega) hn hhl htl hxl hhc htc hxc h1t h1x).mono ?_
      rintro e w' ⟨G, ROW, hG, hRs, hRh, rfl, hP⟩
      obtain ⟨a1, a2⟩ := layA_ok X (a * 3) ROW (by omega)
      obtain ⟨a3, a4⟩ := layA_ok T ((a + 1) * 3) (layA ROW (a * 3) X) (by omega)
      have hc : ∀ q, q < (D.length + 1) * 3 → (layA (layA ROW (a * 3) X) ((a + 1) * 3) T).getD q undef = if q < a * 3 then arr.getD q undef else if q < (a + 1) * 3 then varr.getD (q - a * 3) undef else arr.getD (q - 3) undef := fun q hq => by
        rw [a4, a2]
        by_cases c1 : q < a * 3
        · rw [if_neg (show ¬ ((a + 1) * 3 ≤ q ∧ q < (a + 1) * 3 + T.length) by omega), if_neg (show ¬ (a * 3 ≤ q ∧ q < a * 3 + X.length) by omega), if_pos c1, hRh q c1, tH q c1]
        · rw [if_neg c1]
          by_cases c2 : q < (a + 1) * 3
          · rw [if_neg (show ¬ ((a + 1) * 3 ≤ q ∧ q < (a + 1) * 3 + T.length) by omega), if_pos (show a * 3 ≤ q ∧ q < a * 3 + X.length by omega), if_pos c2, tX _ (by omega)]
          · rw [if_pos (show (a + 1) * 3 ≤ q ∧ q < (a + 1) * 3 + T.length by omega), if_neg c2, tT _ (by omega), show a * 3 + (q - (a + 1) * 3) = q - 3 by omega]
      have hsz : (layA (layA ROW (a * 3) X) ((a + 1) * 3) T).size = G * 3 := by rw [a3, a1, hRs]
      generalize layA (layA ROW (a * 3) X) ((a + 1) * 3) T = A2 at *
      have ho : ∀ c, c < S.w.heap.size → c ≠ b → w'.heap[c]? = S.w.heap[c]? := fun c hc _ => hP.old hc
      obtain ⟨m1, m2⟩ := Sim.upd hs (fun _ => False) (i + 9000) (.slice (some ⟨S.w.heap.size, 0, none⟩) (D.length + 1) G) (.vec 3 (D.length + 1) (lsF cEnt (stK D x a))) w' hP.os hP.tape hP.output (by have := hP.size; omega)
        (fun c hc _ => hP.old hc) (fun c hc => .inr (by simp only [blkOf] at hc; split at hc <;> simp_all))
        ⟨by decide, fun e he => rfl, .inr ⟨S.w.heap.size, G, A2, _, 0, 0, upd_same _ _ _, hG, by omega, hP.new, hsz, .inl rfl, fun e q he hq => ins_rep ha hc k8 h8x (himm w' ho) he hq⟩⟩
        (.inr (.inr ⟨_, _, _, _, _, _, k3, rfl, Nat.lt_succ_self _⟩))
      rw [hK] at m1 m2
      exact ⟨_, _, _, rfl, m1, m2, hlo _, .vec _ _ _ _ _ _ (upd_same _ _ _) (Nat.le_refl _) (fun _ => (upd_same _ _ _).symm) rfl⟩
theorem conInsert : FCon pg 58 ckInsert := by
  have hct := ctN_ok pg
  intro args bs q r bs' h hq
  replace h : ckInsertK args bs = some (q, r, bs') := h
  unfold ckInsertK at h
  split at h
  · cases h
    rename_i i n a j k f g
    refine ⟨rfl, Nat.le_refl _, ?_⟩
    obtain ⟨hij, rfl, hf, hg, hn, h0, h1⟩ := hq
    obtain ⟨a, rfl⟩ := Int.eq_ofNat_of_zero_le h0
    have hg1 : lsOf cEnt 1 g = [cEnt.dec (g 0)] := rfl
    have hk : k = (lsOf cEnt k f).length := (lsOf_len k f).symm
    show FCall pg _ [.vec (i + 9000) k, .int .i64 a, .vec (j + 9000) 1] [(i + 9000, .vec 3 k fun z => V.shift (f z)), (j + 9000, .vec 3 1 fun z => V.shift (g z))] (.vec (i + 9000) (k + 1)) [(i + 9000, .vec 3 (k + 1) (lsF cEnt (stK (lsOf cEnt k f) (cEnt.dec (g 0)) a))), (j + 9000, .vec 3 1 (lsF cEnt [cEnt.dec (g 0)]))]
    refine fcall_blk (hm := [(i + 9000, .vec 3 (lsOf cEnt k f).length (lsF cEnt (lsOf cEnt k f))), (j + 9000, .vec 3 1 (lsF cEnt [cEnt.dec (g 0)]))]) ⟨rfl, ⟨rfl, hk, fun z hz => by show V.shift (f z) = _; rw [hf.2 z hz]; rfl⟩, rfl, ⟨rfl, rfl, fun z hz => by
      show V.shift (g z) = _
      rw [hg.2 z hz, hg1]; rfl⟩, trivial⟩ ?_
    have hlen : (lsOf cEnt k f).length = k := lsOf_len k f
    generalize lsOf cEnt k f = D at hlen ⊢
    generalize cEnt.dec (g 0) = x
    subst hlen
    by_cases ha : a < D.length
    · exact ins_sem hij hn ha
    · obtain rfl : a = D.length := by omega
      refine fw58 (fun _ => false) [] rfl hct rfl (by simp) ?_ ?_ ?_
      · simp [hlIn, Blk.menIn, V.menInL, V.menIn, lsF, cEnt, V.flat, idsIn]
      · simp [V.menIn, idsIn]
      have hb1 : (i + 9000 = j + 9000) = False := eq_false (by omega)
      have hb2 : (j + 9000 = i + 9000) = False := eq_false (by omega)
      have hb3 : (i = j) = False := eq_false hij
      have hb4 : (j = i) = False := eq_false (Ne.symm hij)
      push_cast (config := { maxSteps := 10000000 }) [hb1, hb2, hb3, hb4]
      refine ⟨Nat.le_refl _, ⟨by omega, by omega⟩, fun z hz => ?_⟩
      have e : stK D x D.length = D ++ [x] := by unfold stK; rw [List.take_length, List.drop_length]
      rw [e]
      exact (LsI.app (c := cEnt) (k := D.length + 1) (LsI.ls D) (LsI.ls [x]) rfl).2 z hz
  · cases h
@[push_cast] theorem insert_ids (i n j m : Nat) (a : V) : ckInsert.ids [.vec i n, a, .vec j m] = [i, j] := rfl
@[push_cast] theorem insert_k {i n j k : Nat} {a : Int} {f g : Nat → V} : ckInsert.k [.vec i n, .int .i64 a, .vec j 1] [.vec 3 k f, .vec 3 1 g] = some (i ≠ j ∧ k = n ∧ isLs cEnt n f ∧ isLs cEnt 1 g ∧ n ≤ 1000000 ∧ 0 ≤ a ∧ a ≤ n, .vec i (n + 1), [.vec 3 (n + 1) (lsF cEnt (stK (lsOf cEnt n f) (cEnt.dec (g 0)) a.toNat)), .vec 3 1 (lsF cEnt [cEnt.dec (g 0)])]) := rfl

theorem conNewer4 : Con pg 21 ckNewer := by
  have hct := (ctA_ok conCM4 (ctA_ok conWithin (ctF_ok conInsert (ctN_ok _))))
  intro args q r h hq
  unfold ckNewer at h
  split at h
  · cases h
    rename_i b n f s
    obtain ⟨h0, hn⟩ := hq
    rw [← lsOf_len (c := cEnt) n f] at hn
    refine pcall_args (args' := [.agg [.bool b, .sl (lsOf cEnt n f).length (lsF cEnt (lsOf cEnt n f))], .int .i64 s]) ⟨VLe.agg ⟨VLe.refl _, h0.vle, trivial⟩, VLe.refl _, trivial⟩ ?_
    generalize lsOf cEnt n f = l at hn ⊢
    refine w21 (fun d => decide (d = 58)) [.frz 8001] rfl hct rfl rfl ?_
    push_cast (config := { maxSteps := 10000000 })
    refine ⟨hn, fun h => ?_, fun h1 => ⟨fun h => ?_, fun h2 => ?_⟩⟩
    · have e : newE ⟨b, l⟩ s = chkM ⟨b, l⟩ := by unfold newE; rw [if_pos h]
      unfold newL; rw [e, if_neg h]; exact ⟨rfl, rfl⟩
    · have e : newE ⟨b, l⟩ s = 1 := by unfold newE; rw [if_neg (fun x => x h1), if_pos (by omega)]
      unfold newL; rw [e]; exact ⟨rfl, rfl⟩
    have e0 : newE ⟨b, l⟩ s = 0 := by unfold newE; rw [if_neg (fun x => x h1), if_neg (by omega)]
    have eF : newL ⟨b, l⟩ s = (srtE (l.filter (newB s))).map Ent.loc := by unfold newL; rw [if_pos e0]
    have hl1 : l.length ≤ 1000 := by
      unfold chkM at h1
      split at h1
      · cases h1
      · rename_i z; exact Nat.le_of_not_lt z
    rw [e0, eF]
    refine LoopW.adj ⟨hct, fol⟩ (by kernel_rfl) [.nv 7 8000 3 (lsF cEnt [])] (fun t : Nat × List Ent => [(1, .int .i64 s), (7, .vec 8000 t.2.length), (23, .sl l.length (lsF cEnt l)), (24, .int .i64 l.length), (25, .int .i64 t.1)]) (fun t => [(8000, .vec 3 t.2.length (lsF cEnt t.2))]) (fun t => t.1 ≤ l.length ∧ t.2 = srtE ((l.take t.1).filter (newB s))) (fun t => l.length - t.1) (0, []) ?_ fun t ht => ?_
    · push_cast (config := { maxSteps := 10000000 })
      exact ⟨Nat.zero_le _, rfl⟩
    · obtain ⟨i, o⟩ := t
      obtain ⟨i1, i2⟩ : i ≤ l.length ∧ o = srtE ((l.take i).filter (newB s)) := ht
      push_cast (config := { maxSteps := 10000000 })
      have hol : o.length ≤ i := by
        rw [i2]
        have e : (srtE ((l.take i).filter (newB s))).length = ((l.take i).filter (newB s)).length := srtL_len ltE noEnt _
        rw [e]
        have := List.length_filter_le (newB s) (l.take i)
        rw [List.length_take] at this; omega
      have hfs : ∀ h : i < l.length, srtE ((l.take (i + 1)).filter (newB s)) = if newB s (l.getD i noEnt) = true then stK o (l.getD i noEnt) (posK ltE noEnt o (l.getD i noEnt) o.length) else o := fun h => by
        have ht : l.take (i + 1) = l.take i ++ [l.getD i noEnt] := by
          rw [List.getD_eq_getElem?_getD, List.getElem?_eq_getElem h, List.take_succ_eq_append_getElem h]; rfl
        rw [ht, List.filter_append]
        by_cases g : newB s (l.getD i noEnt) = true
        · rw [if_pos g, List.filter_cons_of_pos g]
          rw [i2]
          unfold srtE srtL
          rw [List.foldl_append]; rfl
        · rw [if_neg g, List.filter_cons_of_neg g, List.filter_nil, List.append_nil, i2]
      have hnb : newB s (l.getD i noEnt) = true ↔ ((l.getD i noEnt).day = 0 ∨ s ≤ (l.getD i noEnt).day) := by unfold newB; rw [decide_eq_true_eq]
      refine ⟨fun h => ⟨h, fun g => ⟨⟨by omega, by omega⟩, (i + 1, o), ⟨by show i + 1 ≤ _; omega, ?_⟩, by show l.length - (i + 1) < _; omega, ⟨rfl, by show (i : Int) + 1 = ((i + 1 : Nat) : Int); omega⟩, rfl, fun _ _ => rfl⟩, fun g => ?_⟩, fun h => ?_⟩
      · show o = _
        rw [hfs h, if_neg (fun x => by have := hnb.1 x; omega)]
      · have hb : newB s (l.getD i noEnt) = true := hnb.2 (by omega)
        have hF := hfs h
        rw [if_pos hb] at hF
        generalize hc : l.getD i noEnt = c at *
        refine LoopW.adj ⟨hct, fol⟩ (by kernel_rfl) [] (fun k : Nat => [(1, .int .i64 s), (7, .vec 8000 o.length), (9, .ptr 9 0), (10, .int .i64 k), (23, .sl l.length (lsF cEnt l)), (24, .int .i64 l.length), (25, .int .i64 i)]) (fun _ => [(8000, .vec 3 o.length (lsF cEnt o)), (9, .cells (cEnt.enc c).flat)]) (fun k => k ≤ o.length ∧ posK ltE noEnt o c k = posK ltE noEnt o c o.length) (fun k => k) o.length ?_ fun k hk => ?_
        · push_cast (config := { maxSteps := 10000000 })
          exact Nat.le_refl _
        · obtain ⟨k1, k2⟩ := hk
          push_cast (config := { maxSteps := 10000000 })
          have hlam : (fun i => V.agg [V.str (o.getD i noEnt).loc, V.int IntKind.i64 (o.getD i noEnt).day, V.int IntKind.i64 (o.getD i noEnt).wt]) = lsF cEnt o := rfl
          rw [hlam, lsOf_ls]
          refine ⟨fun h => ⟨h, by omega, by omega⟩, fun h => ⟨h, by omega, by omega⟩, fun h => ⟨h, by omega⟩, fun h => ?_, fun h => ?_⟩
          · obtain ⟨m, rfl⟩ : ∃ m, k = m + 1 := ⟨k - 1, by omega⟩
            have em : (((m + 1 : Nat) : Int) - 1).toNat = m := by omega
            rw [em] at h
            rw [posK, if_pos (ltE_iff.2 h.2)] at k2
            exact ⟨⟨by omega, by omega⟩, m, ⟨by omega, k2⟩, by omega, by omega⟩
          · have hk : posK ltE noEnt o c k = k := by
              cases k with
              | zero => rfl
              | succ m =>
                have em : (((m + 1 : Nat) : Int) - 1).toNat = m := by omega
                rw [em] at h
                rw [posK, if_neg (fun x => h (by omega) (ltE_iff.1 x))]
            rw [← k2, hk] at hF
            have hlen : (stK o c k).length = o.length + 1 := by unfold stK; rw [List.length_append, List.length_take, List.length_cons, List.length_drop]; omega
            exact ⟨⟨isLs_ls o, ⟨rfl, fun z hz => by obtain rfl : z = 0 := by omega
                                                    rfl⟩, by omega, k1⟩, ⟨by omega, by omega⟩, (i + 1, stK o c k), ⟨by show i + 1 ≤ _; omega, hF.symm⟩, by show l.length - (i + 1) < _; omega, ⟨hlen.symm, by show (i : Int) + 1 = ((i + 1 : Nat) : Int); omega⟩, hlen.symm, fun _ _ => rfl⟩
      have e2 : o = srtE (l.filter (newB s)) := by rw [i2, List.take_of_length_le (by omega)]
      rw [← e2]
      clear hfs hnb i2 e2
      generalize o = S at *
      refine LoopW.adj ⟨hct, fol⟩ (by kernel_rfl) [.frz 8000, .nv 11 8001 1 (lsF cStr [])] (fun i : Nat => [(11, .vec 8001 i), (61, .sl S.length (lsF cEnt S)), (62, .int .i64 S.length), (63, .int .i64 i)]) (fun i => [(8001, .vec 1 i (lsF cStr (S.map Ent.loc)))]) (fun i => i ≤ S.length) (fun i => S.length - i) 0 ?_ fun i hi => ?_
      · push_cast (config := { maxSteps := 10000000 })
        exact Nat.zero_le _
      · push_cast (config := { maxSteps := 10000000 })
        refine ⟨fun hlt => ⟨hlt, ⟨by omega, by omega⟩, ⟨by omega, by omega⟩, i + 1, by omega, by omega, ⟨rfl, by omega⟩, rfl, fun j hj => ?_⟩, fun hge => by rw [List.length_map]; omega⟩
        unfold appF
        by_cases e : j < i
        · rw [decide_eq_true e]; rfl
        · rw [decide_eq_false e]
          obtain rfl : j = i := by omega
          rw [Nat.sub_self, cond_false, List.getD_eq_getElem?_getD (l := List.map Ent.loc S), List.getElem?_map, List.getElem?_eq_getElem hlt]
          show V.str _ = V.str (S[j]).loc
          rw [List.getD_eq_getElem?_getD, List.getElem?_eq_getElem hlt]; rfl
  · cases h

end Go.Abs
