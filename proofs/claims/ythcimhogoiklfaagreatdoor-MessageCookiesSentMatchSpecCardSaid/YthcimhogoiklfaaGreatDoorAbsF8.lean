/- what functions of this program compute: contracts, each a function's own -/
import Derived.Test.YthcimhogoiklfaaGreatDoorAbsK2
import Derived.Test.YthcimhogoiklfaaGreatDoorAbsFacts
import Derived.Test.YthcimhogoiklfaaGreatDoorAbsF7
import Derived.Test.YthcimhogoiklfaaGreatDoorAbsShelf
import Derived.Lib.SplitLaws
import Derived.Lib.SlTrimSet
import Derived.Lib.IndexMore
import Derived.Lib.Atoi
import Derived.Lib.Itoa
import Derived.Lib.ItoaNum
import Derived.Lib.AtoiErrMem
import Derived.Lib.Join
import Derived.Lib.Repeat
import Derived.Lib.ItoaLen
import Derived.Lib.Walk
import Derived.Deep.RegionLaw
import Derived.Lib.SliceRun
import Derived.Shelf.RegionOpenPlain
namespace Go.Abs
open Go Go.Proofs
set_option maxHeartbeats 4000000
set_option maxRecDepth 100000
set_option linter.unusedVariables false
set_option linter.unusedSimpArgs false
theorem conSymB : FCon pg 134 (ckSym 2000000) := conSym 2000000
def ckStbK : List V → List Blk → Option (Prop × V × List Blk)
  | [.vec _ n, .int .i64 m, .fn (.func 26) [] []], [.vec 8 k f] => some (k = n ∧ m = n ∧ isLs cCoo n f ∧ n ≤ 1000, .tup [], [.vec 8 n (lsF cCoo (srtC (lsOf cCoo n f)))])
  | _, _ => none
def ckStb : Cf := ⟨fun | .vec i _ :: _ => [i] | _ => [], ckStbK⟩
theorem conStb : FCon pg 79 ckStb := by
  have hct := (ctF_ok conSymB (ctF_ok conIns (ctN_ok _)))
  intro args bs q r bs' h hq
  replace h : ckStbK args bs = some (q, r, bs') := h
  unfold ckStbK at h
  split at h
  · cases h
    rename_i i n m k f
    refine ⟨rfl, by first | exact Nat.le_refl _ | exact Nat.zero_le _, ?_⟩
    obtain ⟨rfl, rfl, hf, hn⟩ := hq
    have hk : k = (lsOf cCoo k f).length := (lsOf_len k f).symm
    refine fcall_blk (hm := [(i + 9000, .vec 8 (lsOf cCoo k f).length (lsF cCoo (lsOf cCoo k f)))]) ⟨rfl, ⟨rfl, hk, fun j hj => by show V.shift (f j) = _; rw [hf.2 j hj]; rfl⟩, trivial⟩ ?_
    have hlen : (lsOf cCoo k f).length = k := lsOf_len k f
    generalize lsOf cCoo k f = D at hlen ⊢
    subst hlen
    have e1 : ∀ E : List Coo, E.length = D.length → lsOf cCoo D.length (lsF cCoo E) = E := fun E hE => by rw [← hE]; exact lsOf_ls E
    have e2 : ∀ E : List Coo, E.length = D.length → isLs cCoo D.length (lsF cCoo E) := fun E hE => by rw [← hE]; exact isLs_ls E
    show FCall pg 79 [.vec (i + 9000) D.length, .int .i64 D.length, .fn (.func 26) [] []] [(i + 9000, .vec 8 D.length (lsF cCoo D))] (.tup []) [(i + 9000, .vec 8 D.length (lsF cCoo (srtC D)))]
    refine fw79 (fun _ => false) [] rfl hct rfl (by simp) ?_ rfl ?_
    · simp [hlIn, Blk.menIn, men_coo, idsIn]
    push_cast (config := { maxSteps := 10000000 })
    (repeat (refine ⟨by omega, ?_⟩))
    refine LoopW.adj ⟨hct, fol⟩ (by kernel_rfl) [] (fun t : Nat × List Coo => [(0, .vec (i + 9000) D.length), (1, .int .i64 D.length), (2, .fn (.func 26) [] []), (6, .int .i64 20), (7, .int .i64 t.1), (8, .int .i64 ((t.1 : Int) + 20))]) (fun t => [(i + 9000, .vec 8 D.length (lsF cCoo t.2))]) (fun t => 20 ∣ t.1 ∧ t.1 ≤ D.length ∧ t.2.length = D.length ∧ FiK ltC D t.2 ∧ BlkS t.2 20 0 t.1) (fun t => D.length - t.1) (0, D) ?_ fun t ht => ?_
    · push_cast (config := { maxSteps := 10000000 })
      exact ⟨Nat.zero_le _, FiK.refl _ _, fun x _ _ h => absurd h (by omega)⟩
    · obtain ⟨a, E⟩ := t
      obtain ⟨i1, i2, i3, i4, i5⟩ : 20 ∣ a ∧ a ≤ D.length ∧ E.length = D.length ∧ FiK ltC D E ∧ BlkS E 20 0 a := ht
      push_cast (config := { maxSteps := 10000000 })
      refine ⟨fun hlt => ?_, fun hge => ?_⟩
      · rw [e1 E i3]
        have hs := i5.step (b := a + 20) i1 (by omega) (by omega) (by omega)
        have hf := insD_fi (D := E) (a := a) (b := a + 20) (by omega) (by omega)
        have hl := insD_len (D := E) (a := a) (b := a + 20) (by omega) (by omega)
        refine ⟨⟨e2 E i3, by omega⟩, by omega, (a + 20, insD ltC noCoo E a (a + 20)), ⟨by show 20 ∣ a + 20; omega, by show a + 20 ≤ D.length; omega, hl.trans i3, i4.trans hf, hs⟩, by show D.length - (a + 20) < D.length - a; omega, ⟨by show (a : Int) + 20 = ((a + 20 : Nat) : Int); omega, by show (a : Int) + 20 + 20 = ((a + 20 : Nat) : Int) + 20; omega⟩, fun i hi => rfl⟩
      · rw [e1 E i3]
        refine ⟨⟨e2 E i3, by omega⟩, ?_⟩
        have hs := i5.step (b := D.length) i1 i2 (by omega) (by omega)
        have hf := insD_fi (D := E) (a := a) (b := D.length) i2 (by omega)
        have hl := insD_len (D := E) (a := a) (b := D.length) i2 (by omega)
        generalize insD ltC noCoo E a D.length = E1 at *
        refine LoopW.adj ⟨hct, fol⟩ (by kernel_rfl) [] (fun t : Nat × List Coo => [(0, .vec (i + 9000) D.length), (1, .int .i64 D.length), (2, .fn (.func 26) [] []), (6, .int .i64 t.1)]) (fun t => [(i + 9000, .vec 8 D.length (lsF cCoo t.2))]) (fun t => 0 < t.1 ∧ t.1 ≤ 2000 ∧ t.2.length = D.length ∧ FiK ltC D t.2 ∧ BlkS t.2 t.1 0 D.length) (fun t => D.length - t.1) (20, E1) ?_ fun t ht => ?_
        · push_cast (config := { maxSteps := 10000000 })
          exact ⟨hl.trans i3, i4.trans hf, hs.all (by omega) _⟩
        · obtain ⟨s, F⟩ := t
          obtain ⟨j1, j2, j3, j4, j5⟩ : 0 < s ∧ s ≤ 2000 ∧ F.length = D.length ∧ FiK ltC D F ∧ BlkS F s 0 D.length := ht
          push_cast (config := { maxSteps := 10000000 })
          refine ⟨fun hlt => ?_, fun hge => ?_⟩
          · (repeat (refine ⟨by omega, ?_⟩))
            refine LoopW.adj ⟨hct, fol⟩ (by kernel_rfl) [] (fun t : Nat × List Coo => [(0, .vec (i + 9000) D.length), (1, .int .i64 D.length), (2, .fn (.func 26) [] []), (6, .int .i64 s), (7, .int .i64 t.1), (8, .int .i64 ((t.1 : Int) + 2 * s))]) (fun t => [(i + 9000, .vec 8 D.length (lsF cCoo t.2))]) (fun t => (2 * s) ∣ t.1 ∧ t.1 ≤ D.length ∧ t.2.length = D.length ∧ FiK ltC D t.2 ∧ BlkS t.2 (2 * s) 0 t.1 ∧ BlkS t.2 s t.1 D.length) (fun t => D.length - t.1) (0, F) ?_ fun t ht => ?_
            · push_cast (config := { maxSteps := 10000000 })
              exact ⟨⟨Nat.dvd_zero _, Nat.zero_le _, j3, j4, fun x _ _ h => absurd h (by omega), j5⟩, by omega⟩
            · obtain ⟨a, G⟩ := t
              obtain ⟨k1, k2, k3, k4, k5, k6⟩ : (2 * s) ∣ a ∧ a ≤ D.length ∧ G.length = D.length ∧ FiK ltC D G ∧ BlkS G (2 * s) 0 a ∧ BlkS G s a D.length := ht
              push_cast (config := { maxSteps := 10000000 })
              rw [e1 G k3]
              have ds : s ∣ a := Nat.dvd_trans (Nat.dvd_mul_left s 2) k1
              have ea : ((a : Int) + s).toNat = a + s := by omega
              have eb : ((a : Int) + 2 * s).toNat = a + 2 * s := by omega
              simp only [ea, eb]
              have q1 : a < D.length → SrtK ltC (sgL G a (min (a + s) D.length)) := fun h => by
                have := k6 a ds (Nat.le_refl _) h
                rwa [k3] at this
              have q2 : a + s < D.length → SrtK ltC (sgL G (a + s) (min (a + s + s) D.length)) := fun h => by
                have := k6 (a + s) (Nat.dvd_add ds (Nat.dvd_refl s)) (by omega) h
                rwa [k3] at this
              have k6' : BlkS G s a G.length := by rw [k3]; exact k6
              refine ⟨fun hb => ?_, fun hb => ⟨by omega, fun hc => ?_, fun hc => ?_⟩⟩
              · have q1 := q1 (by omega)
                have q2 := q2 (by omega)
                rw [Nat.min_eq_left (by omega)] at q1 q2
                rw [show a + s + s = a + 2 * s by omega] at q2
                have hs := k5.step (b := a + 2 * s) k1 (by omega) (by omega) (by omega)
                have hh := k6'.hi (b := a + 2 * s) (by omega) (by omega)
                have hf := insD_fi (D := G) (a := a) (b := a + 2 * s) (by omega) (by omega)
                have hl := insD_len (D := G) (a := a) (b := a + 2 * s) (by omega) (by omega)
                refine ⟨by omega, ⟨e2 G k3, by omega, by omega, by omega, by omega, by omega, q1, q2⟩, by omega, by omega, (a + 2 * s, insD ltC noCoo G a (a + 2 * s)), ⟨Nat.dvd_add k1 (Nat.dvd_refl _), by show a + 2 * s ≤ D.length; omega, hl.trans k3, k4.trans hf, hs, by rw [← k3]; exact hh⟩, by show D.length - (a + 2 * s) < D.length - a; omega, ⟨by show (a : Int) + 2 * s = ((a + 2 * s : Nat) : Int); omega, by show (a : Int) + 2 * s + 2 * s = ((a + 2 * s : Nat) : Int) + 2 * s; omega⟩, fun i hi => rfl⟩
              · have q1 := q1 (by omega)
                have q2 := q2 (by omega)
                rw [Nat.min_eq_left (by omega)] at q1
                rw [Nat.min_eq_right (by omega)] at q2
                have hs := k5.step (b := D.length) k1 (by omega) (by omega) (by omega)
                have hf := insD_fi (D := G) (a := a) (b := D.length) (by omega) (by omega)
                have hl := insD_len (D := G) (a := a) (b := D.length) (by omega) (by omega)
                refine ⟨⟨e2 G k3, by omega, by omega, by omega, Nat.le_refl _, by omega, q1, q2⟩, by omega, (2 * s, insD ltC noCoo G a D.length), ⟨by show 0 < 2 * s; omega, by show 2 * s ≤ 2000; omega, hl.trans k3, k4.trans hf, hs.all (by omega) _⟩, by show D.length - 2 * s < D.length - s; omega, by show (s : Int) * 2 = ((2 * s : Nat) : Int); omega, fun i hi => rfl⟩
              · refine ⟨by omega, (2 * s, G), ⟨by show 0 < 2 * s; omega, by show 2 * s ≤ 2000; omega, k3, k4, ?_⟩, by show D.length - 2 * s < D.length - s; omega, by show (s : Int) * 2 = ((2 * s : Nat) : Int); omega, fun i hi => rfl⟩
                intro x hx h0 hx2
                by_cases e : x < a
                · exact k5 x hx h0 e
                · by_cases e2 : x = a
                  · subst e2
                    have q1 := q1 hx2
                    rw [Nat.min_eq_right (by omega)] at q1
                    rw [k3, Nat.min_eq_right (by omega)]
                    exact q1
                  · have := dv_lt k1 hx (by omega)
                    omega
          · have hS : SrtK ltC F := by
              by_cases h0 : D.length = 0
              · rw [List.length_eq_zero_iff.1 (j3.trans h0)]; exact SrtK.nil _
              · have := j5 0 (Nat.dvd_zero _) (Nat.le_refl _) (by omega)
                rw [Nat.min_eq_right (by omega), sgL_all F (Nat.le_refl _)] at this
                exact this
            have hE : srtC D = F := srtL_eq keyC noCoo hS j4
            rw [hE]
            exact fun i hi => rfl
  · cases h
attribute [push_cast] ckStbK
@[push_cast] theorem stb_ids (i n : Nat) (l : List V) : ckStb.ids (.vec i n :: l) = [i] := rfl
@[push_cast] theorem stb_k {i n k : Nat} {m : Int} {f : Nat → V} : ckStb.k [.vec i n, .int .i64 m, .fn (.func 26) [] []] [.vec 8 k f] = some (k = n ∧ m = n ∧ isLs cCoo n f ∧ n ≤ 1000, .tup [], [.vec 8 n (lsF cCoo (srtC (lsOf cCoo n f)))]) := rfl
def ckSSF : Cf := ⟨fun | .vec i _ :: _ => [i] | _ => [], fun
  | [.vec _ n, .fn (.func 26) [] []], [.vec 8 k f] => some (k = n ∧ isLs cCoo n f ∧ n ≤ 1000, .tup [], [.vec 8 n (lsF cCoo (srtC (lsOf cCoo n f)))])
  | _, _ => none⟩
theorem conSSF : FCon pg 25 ckSSF := by
  have hct := ctF_ok conStb (ctN_ok pg)
  intro args bs q r bs' h hq
  unfold ckSSF at h
  dsimp only at h
  split at h
  · cases h
    rename_i i n k f
    refine ⟨rfl, by first | exact Nat.le_refl _ | exact Nat.zero_le _, ?_⟩
    obtain ⟨rfl, hf, hn⟩ := hq
    have hk : k = (lsOf cCoo k f).length := (lsOf_len k f).symm
    refine fcall_blk (hm := [(i + 9000, .vec 8 (lsOf cCoo k f).length (lsF cCoo (lsOf cCoo k f)))]) ⟨rfl, ⟨rfl, hk, fun j hj => by show V.shift (f j) = _; rw [hf.2 j hj]; rfl⟩, trivial⟩ ?_
    have hlen : (lsOf cCoo k f).length = k := lsOf_len k f
    generalize lsOf cCoo k f = D at hlen ⊢
    subst hlen
    show FCall pg 25 [.vec (i + 9000) D.length, .fn (.func 26) [] []] [(i + 9000, .vec 8 D.length (lsF cCoo D))] (.tup []) [(i + 9000, .vec 8 D.length (lsF cCoo (srtC D)))]
    refine fw25 (fun _ => false) [] rfl hct rfl (by simp) ?_ rfl ?_
    · simp [hlIn, Blk.menIn, men_coo, idsIn]
    push_cast (config := { maxSteps := 10000000 })
    exact hn
  · cases h
@[push_cast] theorem ssf_ids (i n : Nat) (l : List V) : ckSSF.ids (.vec i n :: l) = [i] := rfl
@[push_cast] theorem ssf_k {i n k : Nat} {f : Nat → V} : ckSSF.k [.vec i n, .fn (.func 26) [] []] [.vec 8 k f] = some (k = n ∧ isLs cCoo n f ∧ n ≤ 1000, .tup [], [.vec 8 n (lsF cCoo (srtC (lsOf cCoo n f)))]) := rfl

def sentL (c : Coo) : List UInt8 := c.na ++ [61] ++ c.va
def cfE (l : List Coo) (a : Adr) (m : Int) : Int := if ¬ checkCoosL l = 0 then checkCoosL l else if ¬ checkAdrL a = 0 then checkAdrL a else if ¬ (0 ≤ m ∧ m ≤ 253402300799) then 1 else 0
def cfS (l : List Coo) (a : Adr) (m : Int) : List UInt8 := if cfE l a m = 0 then Lib.join ((srtC (l.filter fun c => goesL c a m)).map sentL) [59, 32] else []
theorem join_nilL (c : List UInt8) : Lib.join [] c = [] := rfl
theorem join_oneL (x c : List UInt8) : Lib.join [x] c = x := by simp [Lib.join, List.intercalate]
theorem join_len {k : Nat} : ∀ {L : List (List UInt8)}, (∀ x ∈ L, x.length ≤ k) → ∀ c : List UInt8, (Lib.join L c).length ≤ L.length * (k + c.length)
  | [], _, c => Nat.zero_le _
  | [x], h, c => by
    have := h x List.mem_cons_self
    have e : Lib.join [x] c = x := by simp [Lib.join, List.intercalate]
    rw [e, List.length_singleton]; omega
  | x :: y :: t, h, c => by
    have h1 := h x List.mem_cons_self
    have h2 := join_len (L := y :: t) (fun z hz => h z (List.mem_cons_of_mem _ hz)) c
    have e : Lib.join (x :: y :: t) c = x ++ (c ++ Lib.join (y :: t) c) := by simp [Lib.join, List.intercalate]
    rw [e, List.length_append, List.length_append, List.length_cons, Nat.succ_mul]
    omega
theorem coo_sz {c : Coo} (h : checkCooL c = 0) : c.na.length ≤ 40 ∧ c.va.length ≤ 1000 := by
  unfold checkCooL at h
  split at h
  · rename_i h1
    split at h
    · rename_i h2
      simp only [tokL, bakedL, Bool.and_eq_true, decide_eq_true_eq] at h1 h2
      exact ⟨h1.1.2, h2.2⟩
    · cases h
  · cases h
def ckCookiesFor : Ck
  | [.sl n f, .agg [.str sc, .str ho, .str po, .str pa, .str qu, .bool hq, .str fr, .bool hf], .int .i64 m] => some (isLs cCoo n f ∧ coosOk (lsOf cCoo n f) ∧ adrOk ⟨sc, ho, po, pa, qu, hq, fr, hf⟩ ∧ I64 m, .tup [.str (cfS (lsOf cCoo n f) ⟨sc, ho, po, pa, qu, hq, fr, hf⟩ m), .int .i64 (cfE (lsOf cCoo n f) ⟨sc, ho, po, pa, qu, hq, fr, hf⟩ m)])
  | _ => none
theorem conCookiesFor : Con pg 8 ckCookiesFor := by
  have hct := (ctA_ok conCheckCoos (ctA_ok conCheckAdr (ctA_ok conIsMoment (ctA_ok conGoes (ctA_ok conJoin (ctF_ok conSSF (ctN_ok _)))))))
  intro args q r h hq
  unfold ckCookiesFor at h
  split at h
  · cases h
    rename_i n f sc ho po pa qu hq1 fr hf m
    refine pcall_args (args' := [.sl (lsOf cCoo n f).length (lsF cCoo (lsOf cCoo n f)), .agg [.str sc, .str ho, .str po, .str pa, .str qu, .bool hq1, .str fr, .bool hf], .int .i64 m]) ⟨isLs.vle hq.1, VLe.refl _, VLe.refl _, trivial⟩ ?_
    obtain ⟨-, hl, ha, hm⟩ := hq
    generalize lsOf cCoo n f = l at hl ⊢
    generalize ea : (⟨sc, ho, po, pa, qu, hq1, fr, hf⟩ : Adr) = b at *
    obtain ⟨rfl, rfl, rfl, rfl, rfl, rfl, rfl, rfl⟩ : sc = b.sc ∧ ho = b.ho ∧ po = b.po ∧ pa = b.pa ∧ qu = b.qu ∧ hq1 = b.hq ∧ fr = b.fr ∧ hf = b.hf := by subst ea; exact ⟨rfl, rfl, rfl, rfl, rfl, rfl, rfl, rfl⟩
    refine w8 (fun _ => false) [.frz 8001] rfl hct rfl rfl ?_
    push_cast (config := { maxSteps := 10000000 })
    rw [show (⟨b.sc, b.ho, b.po, b.pa, b.qu, b.hq, b.fr, b.hf⟩ : Adr) = b from rfl]
    refine ⟨hl, fun h => ?_, fun h1 => ⟨ha, fun h => ?_, fun h2 => ⟨fun h => ?_, fun h3 => ?_⟩⟩⟩
    · have e : cfE l b m = checkCoosL l := by unfold cfE; rw [if_pos h]
      unfold cfS; rw [e, if_neg h]; exact ⟨rfl, rfl⟩
    · have e : cfE l b m = checkAdrL b := by unfold cfE; rw [if_neg (fun x => x h1), if_pos h]
      unfold cfS; rw [e, if_neg h]; exact ⟨rfl, rfl⟩
    · have e : cfE l b m = 1 := by unfold cfE; rw [if_neg (fun x => x h1), if_neg (fun x => x h2), if_pos (fun x => h x.1 x.2)]
      unfold cfS; rw [e]; exact ⟨rfl, rfl⟩
    refine LoopW.adj ⟨hct, fol⟩ (by kernel_rfl) [.nv 10 8000 8 (lsF cCoo [])] (fun t : Nat × List Coo => [(2, .int .i64 m), (4, .ptr 4 0), (10, .vec 8000 t.2.length), (29, .sl l.length (lsF cCoo l)), (30, .int .i64 l.length), (31, .int .i64 t.1)]) (fun t => [(8000, .vec 8 t.2.length (lsF cCoo t.2)), (4, .cells (cAdr.enc b).flat)]) (fun t => t.1 ≤ l.length ∧ t.2 = (l.take t.1).filter fun c => goesL c b m) (fun t => l.length - t.1) (0, []) ?_ fun t ht => ?_
    · push_cast (config := { maxSteps := 10000000 })
      exact ⟨Nat.zero_le _, rfl⟩
    · obtain ⟨i, o⟩ := t
      obtain ⟨i1, i2⟩ : i ≤ l.length ∧ o = (l.take i).filter fun c => goesL c b m := ht
      push_cast (config := { maxSteps := 10000000 })
      rw [show (⟨b.sc, b.ho, b.po, b.pa, b.qu, b.hq, b.fr, b.hf⟩ : Adr) = b from rfl]
      refine ⟨fun hlt => ?_, fun hge => ?_⟩
      · have hc := hl _ (mem_at' (d := noCoo) hlt)
        have ht : l.take (i + 1) = l.take i ++ [l.getD i noCoo] := by
          rw [List.getD_eq_getElem?_getD, List.getElem?_eq_getElem hlt, List.take_succ_eq_append_getElem hlt]; rfl
        have h200 := coos_200 h1
        have hol : o.length ≤ i := by
          rw [i2]
          have := List.length_filter_le (fun c => goesL c b m) (l.take i)
          rw [List.length_take] at this; omega
        refine ⟨hlt, ⟨hc, ha⟩, fun g => ⟨by omega, by omega, (i + 1, o ++ [l.getD i noCoo]), ⟨by show i + 1 ≤ l.length; omega, ?_⟩, by show l.length - (i + 1) < l.length - i; omega, ⟨by simp, by show (i : Int) + 1 = ((i + 1 : Nat) : Int); omega⟩, by simp, ?_⟩, fun g => ⟨by omega, (i + 1, o), ⟨by show i + 1 ≤ l.length; omega, ?_⟩, by show l.length - (i + 1) < l.length - i; omega, ⟨rfl, by show (i : Int) + 1 = ((i + 1 : Nat) : Int); omega⟩, rfl, fun _ _ => rfl⟩⟩
        · show o ++ [l.getD i noCoo] = _
          rw [ht, List.filter_append, ← i2]; simp only [List.filter_cons, List.filter_nil, g, Bool.false_eq_true, if_true, if_false, List.append_nil]
        · exact (LsI.app (c := cCoo) (f := lsF cCoo o) (g := litF [cCoo.enc (l.getD i noCoo)]) (LsI.ls o) (LsI.one (c := cCoo) (a := l.getD i noCoo) rfl) rfl).2
        · show o = _
          rw [ht, List.filter_append, ← i2]; simp only [List.filter_cons, List.filter_nil, g, Bool.false_eq_true, if_true, if_false, List.append_nil]
      · rw [List.take_of_length_le (by omega)] at i2
        have h200 := coos_200 h1
        have hol : o.length ≤ 200 := by
          rw [i2]
          have := List.length_filter_le (fun c => goesL c b m) l
          omega
        refine ⟨by omega, ?_⟩
        have eS : (srtC o).length = o.length := srtL_len ltC noCoo o
        have hm : ∀ x ∈ srtC o, checkCooL x = 0 := fun x hx => by
          have hx := (srtL_st keyC noCoo o).2.symm.mem keyC hx
          rw [i2] at hx
          exact (coos_ok h1).2 x (List.mem_filter.1 hx).1
        have e0 : cfE l b m = 0 := by unfold cfE; rw [if_neg (fun x => x h1), if_neg (fun x => x h2), if_neg (fun x => x h3)]
        have eF : cfS l b m = Lib.join ((srtC o).map sentL) [59, 32] := by unfold cfS; rw [if_pos e0, ← i2]
        rw [eF, e0]
        clear i2
        generalize hS : srtC o = S at *
        rw [← eS] at hol ⊢
        have hz : ∀ x ∈ S.map sentL, x.length ≤ 1041 := fun x hx => by
          obtain ⟨c, hc, rfl⟩ := List.mem_map.1 hx
          obtain ⟨z1, z2⟩ := coo_sz (hm c hc)
          unfold sentL
          rw [List.length_append, List.length_append, List.length_cons, List.length_nil]; omega
        have hJ := join_len hz [59, 32]
        rw [List.length_map] at hJ
        refine LoopW.adj ⟨hct, fol⟩ (by kernel_rfl) [.frz 8000, .nv 13 8001 1 (lsF cStr [])] (fun i : Nat => [(13, .vec 8001 i), (46, .sl S.length (lsF cCoo S)), (47, .int .i64 S.length), (48, .int .i64 i)]) (fun i => [(8001, .vec 1 i (lsF cStr (S.map sentL)))]) (fun i => i ≤ S.length) (fun i => S.length - i) 0 ?_ fun i hi => ?_
        · push_cast (config := { maxSteps := 10000000 })
          exact Nat.zero_le _
        · push_cast (config := { maxSteps := 10000000 })
          refine ⟨fun hlt => ?_, fun hge => ?_⟩
          · obtain ⟨z1, z2⟩ := coo_sz (hm _ (mem_at' (d := noCoo) hlt))
            refine ⟨hlt, by omega, by omega, by omega, by omega, i + 1, by omega, by omega, ⟨rfl, by omega⟩, rfl, fun j hj => ?_⟩
            unfold appF
            by_cases e : j < i
            · rw [decide_eq_true e]; rfl
            · rw [decide_eq_false e]
              obtain rfl : j = i := by omega
              rw [Nat.sub_self, cond_false, List.getD_eq_getElem?_getD (l := List.map sentL S), List.getElem?_map, List.getElem?_eq_getElem hlt]
              show V.str _ = V.str (sentL S[j])
              rw [List.getD_eq_getElem?_getD, List.getElem?_eq_getElem hlt]; rfl
          · have eI : i = (S.map sentL).length := by rw [List.length_map]; omega
            rw [eI, lsOf_ls]
            exact ⟨⟨isLs_ls _, by rw [List.length_map]; omega, by
              have := Nat.mul_le_mul hol (Nat.le_refl (1041 + ([59, 32] : List UInt8).length))
              simp only [List.length_cons, List.length_nil] at this hJ
              omega⟩, rfl⟩
  · cases h
attribute [push_cast] ckCookiesFor

def ckKeep : Ck
  | [.sl n f, x, .int .i64 m] => some (isLs cCoo n f ∧ isC cCoo x ∧ coosOk (lsOf cCoo n f) ∧ cooOk (cCoo.dec x), .tup [.sl (keepL (lsOf cCoo n f) (cCoo.dec x) m).1.length (lsF cCoo (keepL (lsOf cCoo n f) (cCoo.dec x) m).1), .int .i64 (keepL (lsOf cCoo n f) (cCoo.dec x) m).2])
  | _ => none
theorem conKeep : Con pg 12 ckKeep := by
  have hct := (ctA_ok conCheckCoos (ctA_ok conCheckCoo (ctA_ok conIsMoment (ctA_ok conEnded (ctA_ok conSame (ctF_ok conDel (ctN_ok _)))))))
  intro args q r h hq
  unfold ckKeep at h
  split at h
  · cases h
    rename_i n f x m
    refine pcall_args (args' := [.sl (lsOf cCoo n f).length (lsF cCoo (lsOf cCoo n f)), cCoo.enc (cCoo.dec x), .int .i64 m]) ⟨isLs.vle hq.1, hq.2.1, VLe.refl _, trivial⟩ ?_
    obtain ⟨-, -, hl, hc⟩ := hq
    generalize lsOf cCoo n f = l at hl ⊢
    generalize cCoo.dec x = c at hc ⊢
    refine w12 (fun _ => false) [.frz 8000] rfl hct rfl rfl ?_
    push_cast (config := { maxSteps := 10000000 })
    refine ⟨hl, fun h => by unfold keepL; rw [if_pos h]; exact ⟨rfl, rfl⟩, fun h1 => ⟨hc, fun h => by unfold keepL; rw [if_neg (fun x => x h1), if_pos h]; exact ⟨rfl, rfl⟩, fun h2 => ⟨fun h => by unfold keepL; rw [if_neg (fun x => x h1), if_neg (fun x => x h2), if_pos (fun x => h x.1 x.2)]; exact ⟨rfl, rfl⟩, fun h3 => ?_⟩⟩⟩
    have hK : keepL l c m = (finL (finO (kA c m (endedC c m) l [] (endedC c m)).1 (kA c m (endedC c m) l [] (endedC c m)).2 c), 0) := by
      unfold keepL; rw [if_neg (fun x => x h1), if_neg (fun x => x h2), if_neg (fun x => x h3)]
    rw [hK]
    have hl200 := coos_200 h1
    have hOl := kA_len c m (endedC c m) l [] (endedC c m)
    simp only [List.length_nil, Nat.zero_add] at hOl
    generalize hR : kA c m (endedC c m) l [] (endedC c m) = R at hOl ⊢
    refine LoopW.adj ⟨hct, fol⟩ (by kernel_rfl) [.nv 12 8000 8 (lsF cCoo [])] (fun t : Nat × List Coo × Bool => [(2, .int .i64 m), (4, .ptr 4 0), (10, .bool (endedC c m)), (11, .bool t.2.2), (12, .vec 8000 t.2.1.length), (35, .sl l.length (lsF cCoo l)), (36, .int .i64 l.length), (37, .int .i64 t.1)]) (fun t => [(8000, .vec 8 t.2.1.length (lsF cCoo t.2.1)), (4, .cells [.str c.na, .str c.va, .str c.ho, .bool c.wi, .str c.pa, .bool c.se, .int .i64 c.un, .int .i64 c.si])]) (fun t => t.1 ≤ l.length ∧ t.2.1.length ≤ t.1 ∧ kA c m (endedC c m) (l.drop t.1) t.2.1 t.2.2 = R) (fun t => l.length - t.1) (0, [], endedC c m) ?_ fun t ht => ?_
    · push_cast (config := { maxSteps := 10000000 })
      exact ⟨⟨Nat.zero_le _, hR⟩, rfl⟩
    · obtain ⟨i, o, p⟩ := t
      obtain ⟨i1, i2, i3⟩ : i ≤ l.length ∧ o.length ≤ i ∧ kA c m (endedC c m) (l.drop i) o p = R := ht
      push_cast (config := { maxSteps := 10000000 })
      refine ⟨fun h => ?_, fun h => ?_⟩
      · rw [dropG (d := noCoo) h, kA] at i3
        generalize l.getD i noCoo = d at *
        have hEd : endedC d m = true ↔ ¬ d.un = -1 ∧ d.un ≤ m := by simp only [endedC, Bool.and_eq_true, decide_eq_true_eq, ne_eq]
        have hSm : sameC c d = true ↔ (c.na = d.na ∧ c.ho = d.ho) ∧ c.pa = d.pa := by simp only [sameC, Bool.and_eq_true, beq_iff_eq]
        refine ⟨h, fun a => ⟨a, fun b => ⟨a, b⟩⟩, fun a => ?_, fun a => ⟨fun b => ?_, fun b => ?_⟩⟩
        · rw [if_pos (a.imp hEd.2 fun x => ⟨hSm.2 x.1, x.2⟩)] at i3
          exact ⟨⟨by omega, by omega⟩, ((i + 1, o, p) : Nat × List Coo × Bool), ⟨by show i + 1 ≤ _; omega, by show o.length ≤ i + 1; omega, i3⟩, by show l.length - (i + 1) < l.length - i; omega, ⟨rfl, rfl, by show (i : Int) + 1 = ((i + 1 : Nat) : Int); omega⟩, rfl, fun _ _ => rfl⟩
        · have hn : ¬ (endedC d m = true ∨ (sameC c d = true ∧ endedC c m = true)) := by
            rintro (x | x)
            · have := hEd.1 x; exact a.1 this.1 this.2
            · rw [a.2 (hSm.1 x.1)] at x; exact absurd x.2 (by simp)
          rw [if_neg hn, if_pos (hSm.2 b)] at i3
          have app := LsI.app (c := cCoo) (f := lsF cCoo o) (g := litF [cCoo.enc (setS c d)]) (LsI.ls o) (LsI.one (c := cCoo) (a := setS c d) rfl) rfl
          exact ⟨⟨by omega, by omega⟩, ⟨by omega, by omega⟩, ((i + 1, o ++ [setS c d], true) : Nat × List Coo × Bool), ⟨by show i + 1 ≤ _; omega, by show (o ++ [setS c d]).length ≤ i + 1; simp; omega, i3⟩, by show l.length - (i + 1) < l.length - i; omega, ⟨rfl, by simp, by show (i : Int) + 1 = ((i + 1 : Nat) : Int); omega⟩, by simp, app.2⟩
        · have hn : ¬ (endedC d m = true ∨ (sameC c d = true ∧ endedC c m = true)) := by
            rintro (x | x)
            · have := hEd.1 x; exact a.1 this.1 this.2
            · have := hSm.1 x.1; exact b this.1 this.2
          rw [if_neg hn, if_neg (fun x => by have := hSm.1 x; exact b this.1 this.2)] at i3
          have app := LsI.app (c := cCoo) (f := lsF cCoo o) (g := litF [cCoo.enc d]) (LsI.ls o) (LsI.one (c := cCoo) (a := d) rfl) rfl
          exact ⟨⟨by omega, by omega⟩, ⟨by omega, by omega⟩, ((i + 1, o ++ [d], p) : Nat × List Coo × Bool), ⟨by show i + 1 ≤ _; omega, by show (o ++ [d]).length ≤ i + 1; simp; omega, i3⟩, by show l.length - (i + 1) < l.length - i; omega, ⟨rfl, by simp, by show (i : Int) + 1 = ((i + 1 : Nat) : Int); omega⟩, by simp, app.2⟩
      · rw [List.drop_eq_nil_of_le (by omega), kA] at i3
        subst i3
        simp only at hOl ⊢
        refine ⟨fun hp => ⟨⟨by omega, by omega⟩, fun hb => ?_, fun hb => ?_⟩, fun hp => ⟨fun hb => absurd hb (by omega), fun hb => ?_⟩⟩
        · subst hp
          have eO : finO o false c = o ++ [c] := rfl
          rw [eO]
          have hO : (o ++ [c]).length = o.length + 1 := by simp
          have app := LsI.app (c := cCoo) (f := lsF cCoo o) (g := litF [cCoo.enc c]) (LsI.ls o) (LsI.one (c := cCoo) (a := c) rfl) rfl
          have eF : finL (o ++ [c]) = (o ++ [c]).eraseIdx (leastL (o ++ [c])) := by unfold finL; rw [if_pos (by omega)]
          rw [eF]
          have hd : ∀ i, i < o.length + 1 → appF o.length (lsF cCoo o) (litF [cCoo.enc c]) i = lsF cCoo (o ++ [c]) i := app.2
          generalize o ++ [c] = O at *
          refine LoopW.adj ⟨hct, fol⟩ (by kernel_rfl) [] (fun t : Nat × Nat => [(12, .vec 8000 O.length), (16, .int .i64 t.2), (75, .int .i64 O.length), (76, .int .i64 t.1)]) (fun _ => [(8000, .vec 8 O.length (lsF cCoo O))]) (fun t => t.1 ≤ O.length ∧ t.2 < O.length ∧ leastGo O (O.length - t.1) t.1 t.2 = leastL O) (fun t => O.length - t.1) (0, 0) ?_ fun t ht => ?_
          · push_cast (config := { maxSteps := 10000000 })
            exact ⟨⟨Nat.zero_le _, by omega, rfl⟩, ⟨hO.symm, by omega⟩, hO.symm, hd⟩
          · obtain ⟨i, b⟩ := t
            obtain ⟨j1, j2, j3⟩ : i ≤ O.length ∧ b < O.length ∧ leastGo O (O.length - i) i b = leastL O := ht
            push_cast (config := { maxSteps := 10000000 })
            refine ⟨fun h => ?_, fun h => ?_⟩
            · have e : O.length - i = (O.length - (i + 1)) + 1 := by omega
              rw [e, leastGo] at j3
              refine ⟨h, h, j2, j2, fun g => ?_, fun g => ?_⟩
              · rw [if_pos g] at j3
                exact ⟨⟨by omega, by omega⟩, ((i + 1, i) : Nat × Nat), ⟨by show i + 1 ≤ _; omega, by show i < _; omega, j3⟩, by show O.length - (i + 1) < O.length - i; omega, rfl, by show (i : Int) + 1 = ((i + 1 : Nat) : Int); omega⟩
              · rw [if_neg g] at j3
                exact ⟨⟨by omega, by omega⟩, ((i + 1, b) : Nat × Nat), ⟨by show i + 1 ≤ _; omega, by show b < _; omega, j3⟩, by show O.length - (i + 1) < O.length - i; omega, rfl, by show (i : Int) + 1 = ((i + 1 : Nat) : Int); omega⟩
            · have e : O.length - i = 0 := by omega
              rw [e, leastGo] at j3
              subst j3
              have eL : (O.eraseIdx (leastL O)).length = O.length - 1 := by rw [List.length_eraseIdx, if_pos j2]
              exact ⟨by omega, j2, eL.symm, fun _ _ => rfl⟩
        · subst hp
          have eO : finO o false c = o ++ [c] := rfl
          rw [eO]
          have hO : (o ++ [c]).length = o.length + 1 := by simp
          have app := LsI.app (c := cCoo) (f := lsF cCoo o) (g := litF [cCoo.enc c]) (LsI.ls o) (LsI.one (c := cCoo) (a := c) rfl) rfl
          have eF : finL (o ++ [c]) = o ++ [c] := by unfold finL; rw [if_neg (by omega)]
          rw [eF]
          exact ⟨app.pure (fun _ => rfl), hO.symm, app.2⟩
        · subst hp
          have eF : finL (finO o true c) = o := by show finL o = o; unfold finL; rw [if_neg (by omega)]
          rw [eF]
          exact ⟨rfl, fun _ _ => rfl⟩
  · cases h
attribute [push_cast] ckKeep

/- lists of things as arguments, cell by cell -/
theorem VLe.slV {n : Nat} {f g : Nat → V} (h : ∀ i, i < n → (g i).flat.length = (f i).flat.length ∧ ∀ j, j < (f i).flat.length → VLe ((f i).flat.getD j .any) ((g i).flat.getD j .any) ∧ ((g i).flat.getD j .any).isPure = true) : VLe (.sl n f) (.sl n g) := by
  intro γ imm w v hr
  cases inv_sl (S := ⟨γ, imm, fun _ => none, w⟩) hr with
  | sl0 _ a c => exact .pure (.sl0 _ a c)
  | sl _ _ b off c sz u hb hnc hs hf hc ho hp =>
    refine .pure (.sl n g b off c sz u hb hnc hs (fun i hi => (h i hi).1.trans (hf i hi)) hc ho (fun i j hi hj => ?_))
    have hj' : j < (f i).flat.length := by rw [hf i hi]; exact hj
    obtain ⟨h1, h2⟩ := (h i hi).2 j hj'
    exact isPure_rep (S := ⟨γ, imm, fun _ => none, w⟩) (h1 _ _ _ _ (.pure (hp i j hi hj))) h2
def isLv {α : Type} (c : Cod α) (n : Nat) (f : Nat → V) : Prop := VLe (.sl n f) (.sl (lsOf c n f).length (lsF c (lsOf c n f)))
/-- a thing's cells say what its code says -/
def isE {α : Type} (c : Cod α) (v : V) : Prop := (c.enc (c.dec v)).flat.length = v.flat.length ∧ ∀ j, j < v.flat.length → VLe (v.flat.getD j .any) ((c.enc (c.dec v)).flat.getD j .any) ∧ ((c.enc (c.dec v)).flat.getD j .any).isPure = true
theorem shListE {α : Type} {c : Cod α} {s : Sh} {p : α → Prop} (hs : ∀ m v, s.has m v → isE c v ∧ p (c.dec v)) {m : Nat} {v : V} (h : Sh.has (.list s) m v) : ∃ (n : Nat) (f : Nat → V), v = .sl n f ∧ isLv c n f ∧ n ≤ 140737488355328 ∧ ∀ a ∈ lsOf c n f, p a := by
  obtain ⟨l, ms, rfl, h1, h2, h3, h4⟩ := h
  have := reach_le
  refine ⟨_, _, rfl, ?_, by omega, fun a ha => ?_⟩
  · unfold isLv
    rw [lsOf_len]
    refine VLe.slV fun i hi => ?_
    have hE := (hs _ _ (h4 i hi)).1
    have e2 : lsF c (lsOf c l.length (litF l)) i = c.enc (c.dec (litF l i)) := by
      unfold lsF lsOf
      rw [List.getD_eq_getElem?_getD, List.getElem?_map, List.getElem?_range hi]; rfl
    rw [e2]
    exact hE
  · simp only [lsOf, List.mem_map, List.mem_range] at ha
    obtain ⟨i, hi, rfl⟩ := ha
    exact (hs _ _ (h4 i hi)).2

/- what sites permit -/
structure Rul where
  al : Bool
  pa : List UInt8
deriving DecidableEq
def noRul : Rul := ⟨false, []⟩
def decRul : V → Rul
  | .agg [.bool a, .str p] => ⟨a, p⟩
  | _ => noRul
def cRul : Cod Rul := ⟨fun r => .agg [.bool r.al, .str r.pa], decRul, noRul, fun _ => rfl⟩
@[push_cast] theorem enc_rul (r : Rul) : cRul.enc r = .agg [.bool r.al, .str r.pa] := rfl
@[push_cast] theorem dec_rul (a : Bool) (p : List UInt8) : cRul.dec (.agg [.bool a, .str p]) = ⟨a, p⟩ := rfl
@[push_cast] theorem lsF_rul (l : List Rul) (i : Nat) : lsF cRul l i = .agg [.bool (l.getD i noRul).al, .str (l.getD i noRul).pa] := rfl
structure Grp where
  ag : List (List UInt8)
  ru : List Rul
  de : Int
deriving DecidableEq
def noGrp : Grp := ⟨[], [], 0⟩
def decGrp : V → Grp
  | .agg [.sl n f, .sl m g, .int _ d] => ⟨lsOf cStr n f, lsOf cRul m g, d⟩
  | _ => noGrp
def cGrp : Cod Grp := ⟨fun g => .agg [.sl g.ag.length (lsF cStr g.ag), .sl g.ru.length (lsF cRul g.ru), .int .i64 g.de], decGrp, noGrp, fun g => by simp [decGrp, lsOf_ls]⟩
@[push_cast] theorem enc_grp (g : Grp) : cGrp.enc g = .agg [.sl g.ag.length (lsF cStr g.ag), .sl g.ru.length (lsF cRul g.ru), .int .i64 g.de] := rfl
@[push_cast] theorem dec_grp (n m : Nat) (f g : Nat → V) (k : IntKind) (d : Int) : cGrp.dec (.agg [.sl n f, .sl m g, .int k d]) = ⟨lsOf cStr n f, lsOf cRul m g, d⟩ := rfl
@[push_cast] theorem lsF_grp (l : List Grp) (i : Nat) : lsF cGrp l i = .agg [.sl (l.getD i noGrp).ag.length (lsF cStr (l.getD i noGrp).ag), .sl (l.getD i noGrp).ru.length (lsF cRul (l.getD i noGrp).ru), .int .i64 (l.getD i noGrp).de] := rfl
structure Rob where
  gr : List Grp
  ma : List (List UInt8)
deriving DecidableEq
def noRob : Rob := ⟨[], []⟩
def decRob : V → Rob
  | .agg [.sl n f, .sl m g] => ⟨lsOf cGrp n f, lsOf cStr m g⟩
  | _ => noRob
def cRob : Cod Rob := ⟨fun r => .agg [.sl r.gr.length (lsF cGrp r.gr), .sl r.ma.length (lsF cStr r.ma)], decRob, noRob, fun r => by simp [decRob, lsOf_ls]⟩
@[push_cast] theorem enc_rob (r : Rob) : cRob.enc r = .agg [.sl r.gr.length (lsF cGrp r.gr), .sl r.ma.length (lsF cStr r.ma)] := rfl
@[push_cast] theorem dec_rob (n m : Nat) (f g : Nat → V) : cRob.dec (.agg [.sl n f, .sl m g]) = ⟨lsOf cGrp n f, lsOf cStr m g⟩ := rfl
@[push_cast] theorem isC_robT (r : Rob) : isC cRob (.agg [.sl r.gr.length (lsF cGrp r.gr), .sl r.ma.length (lsF cStr r.ma)]) = True := eq_true (isC_enc cRob r)
@[push_cast] theorem isC_grpT (g : Grp) : isC cGrp (.agg [.sl g.ag.length (lsF cStr g.ag), .sl g.ru.length (lsF cRul g.ru), .int .i64 g.de]) = True := eq_true (isC_enc cGrp g)
@[push_cast] theorem rob_eta (r : Rob) : (⟨r.gr, r.ma⟩ : Rob) = r := rfl
@[push_cast] theorem grp_eta (g : Grp) : (⟨g.ag, g.ru, g.de⟩ : Grp) = g := rfl
structure Rdg where
  at' : Int
  st : Int
  ro : Rob
deriving DecidableEq
def noRdg : Rdg := ⟨0, 0, noRob⟩
def decRdg : V → Rdg
  | .agg [.int _ a, .int _ s, .sl n f, .sl m g] => ⟨a, s, ⟨lsOf cGrp n f, lsOf cStr m g⟩⟩
  | _ => noRdg
def cRdg : Cod Rdg := ⟨fun r => .agg [.int .i64 r.at', .int .i64 r.st, .sl r.ro.gr.length (lsF cGrp r.ro.gr), .sl r.ro.ma.length (lsF cStr r.ro.ma)], decRdg, noRdg, fun r => by simp [decRdg, lsOf_ls]⟩
@[push_cast] theorem lsF_rdg (l : List Rdg) (i : Nat) : lsF cRdg l i = .agg [.int .i64 (l.getD i noRdg).at', .int .i64 (l.getD i noRdg).st, .sl (l.getD i noRdg).ro.gr.length (lsF cGrp (l.getD i noRdg).ro.gr), .sl (l.getD i noRdg).ro.ma.length (lsF cStr (l.getD i noRdg).ro.ma)] := rfl
/- what arguments are -/
def rulOk (r : Rul) : Prop := r.pa.length ≤ 140737488355328
def grpOk (g : Grp) : Prop := g.ag.length ≤ 140737488355328 ∧ (∀ s ∈ g.ag, s.length ≤ 140737488355328) ∧ g.ru.length ≤ 140737488355328 ∧ (∀ r ∈ g.ru, rulOk r) ∧ -9223372036854775808 ≤ g.de ∧ g.de ≤ 9223372036854775807
def robOk (r : Rob) : Prop := r.gr.length ≤ 140737488355328 ∧ (∀ g ∈ r.gr, grpOk g) ∧ r.ma.length ≤ 140737488355328 ∧ ∀ s ∈ r.ma, s.length ≤ 140737488355328
def rdgOk (r : Rdg) : Prop := -9223372036854775808 ≤ r.at' ∧ r.at' ≤ 9223372036854775807 ∧ -9223372036854775808 ≤ r.st ∧ r.st ≤ 9223372036854775807 ∧ robOk r.ro
abbrev sRul : Sh := .tup [.bool, .str]
abbrev sGrp : Sh := .tup [.list .str, .list sRul, .int .i64]
abbrev sRob : Sh := .tup [.list sGrp, .list .str]
abbrev sRdg : Sh := .tup [.int .i64, .int .i64, sRob]
theorem shBoolE {m : Nat} {v : V} (h : Sh.has .bool m v) : ∃ b, v = .bool b := by
  obtain ⟨b, e, _⟩ := h
  exact ⟨b, e⟩
theorem shRul {m : Nat} {v : V} (h : Sh.has sRul m v) : ∃ a, v = cRul.enc a ∧ rulOk a := by
  obtain ⟨l, ms, rfl, -, hl⟩ := h
  obtain ⟨m1, v1, ms, l, rfl, h1, hl⟩ := hasL_cons hl
  obtain ⟨m2, v2, ms, l, rfl, h2, hl⟩ := hasL_cons hl
  obtain rfl := hasL_nil hl
  obtain ⟨b, rfl⟩ := shBoolE h1
  obtain ⟨p, rfl, b2⟩ := shStr h2
  exact ⟨⟨b, p⟩, rfl, b2⟩
theorem shGrp {m : Nat} {v : V} (h : Sh.has sGrp m v) : isE cGrp v ∧ grpOk (cGrp.dec v) := by
  obtain ⟨l, ms, rfl, -, hl⟩ := h
  obtain ⟨m1, v1, ms, l, rfl, h1, hl⟩ := hasL_cons hl
  obtain ⟨m2, v2, ms, l, rfl, h2, hl⟩ := hasL_cons hl
  obtain ⟨m3, v3, ms, l, rfl, h3, hl⟩ := hasL_cons hl
  obtain rfl := hasL_nil hl
  obtain ⟨n, f, rfl, i1, b1, k1⟩ := shList (c := cStr) (fun m v h => shStr h) h1
  obtain ⟨k, g, rfl, i2, b2, k2⟩ := shList (c := cRul) (fun m v h => shRul h) h2
  obtain ⟨d, rfl, c3⟩ := shInt h3
  simp only [Lit.wf, Bool.and_eq_true, decide_eq_true_eq] at c3
  refine ⟨⟨rfl, fun j hj => ?_⟩, by show (lsOf cStr n f).length ≤ _; rw [lsOf_len]; exact b1, k1, by show (lsOf cRul k g).length ≤ _; rw [lsOf_len]; exact b2, k2, c3.1, c3.2⟩
  match j, hj with
  | 0, _ => exact ⟨isLs.vle i1, rfl⟩
  | 1, _ => exact ⟨isLs.vle i2, rfl⟩
  | 2, _ => exact ⟨VLe.refl _, rfl⟩
theorem shRobX {m : Nat} {v : V} (h : Sh.has sRob m v) : ∃ n f k g, v = .agg [.sl n f, .sl k g] ∧ isLv cGrp n f ∧ isLs cStr k g ∧ robOk ⟨lsOf cGrp n f, lsOf cStr k g⟩ := by
  obtain ⟨l, ms, rfl, -, hl⟩ := h
  obtain ⟨m1, v1, ms, l, rfl, h1, hl⟩ := hasL_cons hl
  obtain ⟨m2, v2, ms, l, rfl, h2, hl⟩ := hasL_cons hl
  obtain rfl := hasL_nil hl
  obtain ⟨n, f, rfl, i1, b1, k1⟩ := shListE (c := cGrp) (p := grpOk) (fun m v h => shGrp h) h1
  obtain ⟨k, g, rfl, i2, b2, k2⟩ := shList (c := cStr) (fun m v h => shStr h) h2
  exact ⟨n, f, k, g, rfl, i1, i2, by show (lsOf cGrp n f).length ≤ _; rw [lsOf_len]; exact b1, k1, by show (lsOf cStr k g).length ≤ _; rw [lsOf_len]; exact b2, k2⟩
theorem shRob {m : Nat} {v : V} (h : Sh.has sRob m v) : VLe v (cRob.enc (cRob.dec v)) ∧ robOk (cRob.dec v) := by
  obtain ⟨n, f, k, g, rfl, i1, i2, ok⟩ := shRobX h
  exact ⟨VLe.agg ⟨i1, isLs.vle i2, trivial⟩, ok⟩
theorem shRdg {m : Nat} {v : V} (h : Sh.has sRdg m v) : isE cRdg v ∧ rdgOk (cRdg.dec v) := by
  obtain ⟨l, ms, rfl, -, hl⟩ := h
  obtain ⟨m1, v1, ms, l, rfl, h1, hl⟩ := hasL_cons hl
  obtain ⟨m2, v2, ms, l, rfl, h2, hl⟩ := hasL_cons hl
  obtain ⟨m3, v3, ms, l, rfl, h3, hl⟩ := hasL_cons hl
  obtain rfl := hasL_nil hl
  obtain ⟨a, rfl, c1⟩ := shInt h1
  obtain ⟨s, rfl, c2⟩ := shInt h2
  obtain ⟨n, f, k, g, rfl, i1, i2, ok⟩ := shRobX h3
  simp only [Lit.wf, Bool.and_eq_true, decide_eq_true_eq] at c1 c2
  refine ⟨⟨rfl, fun j hj => ?_⟩, c1.1, c1.2, c2.1, c2.2, ok⟩
  match j, hj with
  | 0, _ => exact ⟨VLe.refl _, rfl⟩
  | 1, _ => exact ⟨VLe.refl _, rfl⟩
  | 2, _ => exact ⟨i1, rfl⟩
  | 3, _ => exact ⟨isLs.vle i2, rfl⟩
theorem shAdr {m : Nat} {v : V} (h : Sh.has (.tup [.str, .str, .str, .str, .str, .bool, .str, .bool]) m v) : ∃ a, v = cAdr.enc a ∧ a.sc.length ≤ 140737488355328 ∧ a.ho.length ≤ 140737488355328 ∧ a.po.length ≤ 140737488355328 ∧ a.pa.length ≤ 140737488355328 ∧ a.qu.length ≤ 140737488355328 ∧ a.fr.length ≤ 140737488355328 := by
  obtain ⟨l, ms, rfl, -, hl⟩ := h
  obtain ⟨m1, v1, ms, l, rfl, h1, hl⟩ := hasL_cons hl
  obtain ⟨m2, v2, ms, l, rfl, h2, hl⟩ := hasL_cons hl
  obtain ⟨m3, v3, ms, l, rfl, h3, hl⟩ := hasL_cons hl
  obtain ⟨m4, v4, ms, l, rfl, h4, hl⟩ := hasL_cons hl
  obtain ⟨m5, v5, ms, l, rfl, h5, hl⟩ := hasL_cons hl
  obtain ⟨m6, v6, ms, l, rfl, h6, hl⟩ := hasL_cons hl
  obtain ⟨m7, v7, ms, l, rfl, h7, hl⟩ := hasL_cons hl
  obtain ⟨m8, v8, ms, l, rfl, h8, hl⟩ := hasL_cons hl
  obtain rfl := hasL_nil hl
  obtain ⟨a1, rfl, b1⟩ := shStr h1
  obtain ⟨a2, rfl, b2⟩ := shStr h2
  obtain ⟨a3, rfl, b3⟩ := shStr h3
  obtain ⟨a4, rfl, b4⟩ := shStr h4
  obtain ⟨a5, rfl, b5⟩ := shStr h5
  obtain ⟨a6, rfl⟩ := shBoolE h6
  obtain ⟨a7, rfl, b7⟩ := shStr h7
  obtain ⟨a8, rfl⟩ := shBoolE h8
  exact ⟨⟨a1, a2, a3, a4, a5, a6, a7, a8⟩, rfl, b1, b2, b3, b4, b5, b7⟩
/- the errors -/
def agB (c : UInt8) : Bool := decide (97 ≤ c.toNat ∧ c.toNat ≤ 122) || decide (48 ≤ c.toNat ∧ c.toNat ≤ 57) || decide (c.toNat = 45) || decide (c.toNat = 95)
def agentL (s : List UInt8) : Bool := s == [42] || (decide (1 ≤ s.length) && decide (s.length ≤ 40) && s.all agB)
def checkGrpL (g : Grp) : Int :=
  if g.ag.length = 0 then 9 else if 50 < g.ag.length then 16 else if g.ag.all agentL = false then 5 else if 200 < g.ru.length then 16 else if (g.ru.all fun r => patOk r.pa) = false then 3 else if g.de < -1 ∨ 99999 < g.de then 1 else 0
def grpsE : List Grp → Int
  | [] => 0
  | g :: t => if checkGrpL g = 0 then grpsE t else checkGrpL g
def adrB (s : List UInt8) : Bool := decide ((readA s).2.2 = 0)
def checkRobL (r : Rob) : Int := if 100 < r.gr.length then 16 else if grpsE r.gr = 0 then (if 100 < r.ma.length then 16 else if r.ma.all adrB = true then 0 else 3) else grpsE r.gr
def isRulS (n : Int) : Bool := decide (200 ≤ n) && decide (n ≤ 299)
def isAllS (n : Int) : Bool := decide (400 ≤ n) && decide (n ≤ 499)
def rdgE (x : Rdg) : Int :=
  if ¬ (0 ≤ x.at' ∧ x.at' ≤ 253402300799) ∨ (x.st ≠ 0 ∧ (x.st < 100 ∨ 599 < x.st)) then 1
  else if isRulS x.st = false ∧ 0 < x.ro.gr.length + x.ro.ma.length then 3
  else checkRobL x.ro
def rdgsGo : Int → List Rdg → Int
  | _, [] => 0
  | p, x :: t => if rdgE x = 0 then (if x.at' < p then 8 else rdgsGo x.at' t) else rdgE x
def checkRdgs (l : List Rdg) : Int := if 500 < l.length then 2 else rdgsGo (-1) l
def askE (l : List Rdg) (age at' : Int) : Int := if checkRdgs l = 0 then (if 1 ≤ age ∧ age ≤ 100000000 ∧ 0 ≤ at' ∧ at' ≤ 253402300799 then 0 else 1) else checkRdgs l
/- what holds -/
def saysB (x : Rdg) : Bool := isRulS x.st || isAllS x.st
def lastN (l : List Rdg) (at' : Int) : Nat := (l.takeWhile fun x => decide (x.at' ≤ at')).length
/-- the last one that says something -/
def goodI : List Rdg → Nat → Int
  | _, 0 => -1
  | l, n + 1 => if saysB (l.getD n noRdg) = true then (n : Int) else goodI l n
def standL (l : List Rdg) (age at' : Int) : Int × Int :=
  if lastN l at' = 0 then (1, -1)
  else if goodI l (lastN l at') < 0 ∨ (goodI l (lastN l at') < (lastN l at' : Int) - 1 ∧ (l.getD (goodI l (lastN l at')).toNat noRdg).at' + age ≤ at') then (4, (lastN l at' : Int) - 1)
  else if isRulS (l.getD (goodI l (lastN l at')).toNat noRdg).st = true then (2, goodI l (lastN l at')) else (3, goodI l (lastN l at'))

theorem bak_z {t : List UInt8} {b : Adr} {m : Int} (h : ¬ bakE t b m = 0 ∨ bakI t b m = false) : bakV t b m = noCoo := by
  unfold bakV
  by_cases e : bakE t b m = 0
  · rcases h with h | h
    · exact absurd e h
    · unfold bakI at h
      rw [e, decide_eq_true rfl, Bool.true_and] at h
      rw [if_pos e]
      cases hC : bakC t b m with
      | none => rfl
      | some c => rw [hC] at h; cases h
  · rw [if_neg e]
theorem keep_one {c : Coo} {m : Int} (h : checkCooL c = 0) (hm : 0 ≤ m ∧ m ≤ 253402300799) : keepL [] c m = (if endedC c m = true then [] else [c], 0) := by
  have h0 : checkCoosL [] = 0 := by decide
  unfold keepL
  rw [if_neg (fun x => x h0), if_neg (fun x => x h), if_neg (fun x => x hm)]
  cases hE : endedC c m <;> rfl
theorem coos_one {c : Coo} (h : checkCooL c = 0) : checkCoosL [c] = 0 := by
  unfold checkCoosL
  rw [if_neg (by simp), ccGo, if_pos h]; rfl
theorem goes_one {c : Coo} {b : Adr} {k : Int} (hh : lowL b.ho = c.ho ∨ (c.wi = true ∧ withinL (lowL b.ho) c.ho = true)) (hs : c.se = true → lowL b.sc = wS) (hp : c.pa = [47]) (hb : b.pa = [] ∨ (b.pa.getD 0 0).toNat = 47) : goesL c b k = !endedC c k := by
  unfold goesL
  have e1 : (decide (lowL b.ho = c.ho) || (c.wi && withinL (lowL b.ho) c.ho)) = true := by
    rcases hh with h | h
    · rw [decide_eq_true h]; rfl
    · rw [h.1, h.2]; simp
  have e2 : (!c.se || decide (lowL b.sc = wS)) = true := by
    cases hc : c.se with
    | false => rfl
    | true => rw [decide_eq_true (hs hc)]; rfl
  have e3 : fitsL c.pa (if b.pa = [] then [47] else b.pa) = true := by
    rw [hp]
    by_cases e : b.pa = []
    · rw [if_pos e]; decide
    · rw [if_neg e]
      have h47 := hb.resolve_left e
      cases hq : b.pa with
      | nil => exact absurd hq e
      | cons x y =>
        rw [hq, List.getD_cons_zero] at h47
        have hx : x = 47 := UInt8.toNat_inj.1 h47
        subst hx
        unfold fitsL
        have h1 : hasPre (47 :: y) [47] = true := hasPre_iff.2 ⟨y, rfl⟩
        have h2 : hasSuf [47] [47] = true := by decide
        rw [h1, h2]; simp
  rw [e1, e2, e3, Bool.and_true, Bool.and_true, Bool.and_true]
def ckKeepN : Ck
  | [.nilsl, x, .int .i64 m] => some (isC cCoo x ∧ cooOk (cCoo.dec x), .tup [.sl (keepL [] (cCoo.dec x) m).1.length (lsF cCoo (keepL [] (cCoo.dec x) m).1), .int .i64 (keepL [] (cCoo.dec x) m).2])
  | _ => none
theorem conKeepN : Con pg 12 ckKeepN := by
  intro args q r h hq
  unfold ckKeepN at h
  split at h
  · cases h
    rename_i x m
    refine pcall_args (args' := [.sl 0 (lsF cCoo []), x, .int .i64 m]) ⟨VLe.nilsl _, VLe.refl _, VLe.refl _, trivial⟩ (conKeep _ _ _ rfl ⟨isLs_ls [], hq.1, (by rw [show lsOf cCoo 0 (lsF cCoo []) = [] from rfl]; intro x hx; cases hx), hq.2⟩)
  · cases h
attribute [push_cast] ckKeepN
def ckLawKS : Ck
  | [.str t, .agg [.str sc, .str ho, .str po, .str pa, .str qu, .bool hq, .str fr, .bool hf], .int .i64 m, .int .i64 k] => some (t.length ≤ 140737488355328 ∧ adrOk ⟨sc, ho, po, pa, qu, hq, fr, hf⟩ ∧ I64 m ∧ I64 k, .bool true)
  | _ => none
theorem conLawKS : Con pg 4 ckLawKS := by
  have hct := (ctA_ok conBakedF (ctA_ok conKeepN (ctA_ok conCookiesFor (ctA_ok conAwake2 (ctN_ok _)))))
  intro args q r h hq
  unfold ckLawKS at h
  split at h
  · cases h
    rename_i t sc ho po pa qu hq1 fr hf m k
    obtain ⟨ht, ha, hm, hk⟩ := hq
    generalize ea : (⟨sc, ho, po, pa, qu, hq1, fr, hf⟩ : Adr) = b at *
    obtain ⟨rfl, rfl, rfl, rfl, rfl, rfl, rfl, rfl⟩ : sc = b.sc ∧ ho = b.ho ∧ po = b.po ∧ pa = b.pa ∧ qu = b.qu ∧ hq1 = b.hq ∧ fr = b.fr ∧ hf = b.hf := by subst ea; exact ⟨rfl, rfl, rfl, rfl, rfl, rfl, rfl, rfl⟩
    refine w4 (fun _ => false) [] rfl hct rfl rfl ?_
    push_cast (config := { maxSteps := 10000000 })
    rw [show (⟨b.sc, b.ho, b.po, b.pa, b.qu, b.hq, b.fr, b.hf⟩ : Adr) = b from rfl]
    refine ⟨⟨ht, ha, hm⟩, fun h => by rw [bak_z h]; exact ⟨rfl, rfl, rfl, rfl, rfl, rfl, rfl, rfl⟩, fun h => ?_⟩
    obtain ⟨hE, hI⟩ := h
    obtain ⟨c, hC⟩ : ∃ c, bakC t b m = some c := by
      unfold bakI at hI
      cases hC : bakC t b m with
      | none => rw [hC] at hI; simp at hI
      | some c => exact ⟨c, rfl⟩
    have hV : bakV t b m = c := by unfold bakV; rw [if_pos hE, hC]; rfl
    obtain ⟨k1, k2, k3, k4, k5⟩ := bak_ok hE hC
    have hA : checkAdrL b = 0 ∧ 0 ≤ m ∧ m ≤ 253402300799 := by
      unfold bakE at hE
      by_cases x1 : 1000 < t.length
      · rw [if_pos x1] at hE; cases hE
      · rw [if_neg x1] at hE
        by_cases x2 : checkAdrL b = 0
        · rw [if_neg (fun z => z x2)] at hE
          by_cases x3 : 0 ≤ m ∧ m ≤ 253402300799
          · exact ⟨x2, x3⟩
          · rw [if_pos x3] at hE; cases hE
        · rw [if_pos x2] at hE; exact absurd hE x2
    have hbp : b.pa = [] ∨ (b.pa.getD 0 0).toNat = 47 := by
      have := (check_sz hA.1).1
      simp only [synA, Bool.and_eq_true, Bool.or_eq_true, beq_iff_eq, decide_eq_true_eq] at this
      exact this.1.1.1.2
    rw [hV]
    rw [show cCoo.dec (V.agg [V.str c.na, V.str c.va, V.str c.ho, V.bool c.wi, V.str c.pa, V.bool c.se, V.int IntKind.i64 c.un, V.int IntKind.i64 c.si]) = c from rfl, keep_one k1 hA.2]
    obtain ⟨z1, z2⟩ := coo_sz k1
    refine ⟨⟨isC_enc (c := cCoo) c, k2⟩, fun _ => rfl, fun h => ?_⟩
    obtain ⟨⟨⟨-, g1⟩, g2⟩, g3⟩ := h
    have hc0 : checkCoosL (if endedC c m = true then [] else [c]) = 0 := by
      split
      · decide
      · exact coos_one k1
    have hF : cfE (if endedC c m = true then [] else [c]) b k = 0 := by
      unfold cfE
      rw [if_neg (fun x => x hc0), if_neg (fun x => x hA.1), if_neg (fun x => x ⟨by omega, by omega⟩)]
    have hG := goes_one (k := k) k3 k4 g3 hbp
    refine ⟨⟨?_, ha, hk⟩, fun h => h hF, fun _ => ⟨fun h => ⟨by omega, by omega, ?_⟩, fun h => ?_⟩⟩
    · split
      · intro x hx; cases hx
      · intro x hx
        obtain rfl : x = c := by simpa using hx
        exact k2
    · have e1 : endedC c m = false := by
        unfold endedC
        rw [Bool.and_eq_false_iff, decide_eq_false_iff_not, decide_eq_false_iff_not]; omega
      have e2 : endedC c k = false := by
        unfold endedC
        rw [Bool.and_eq_false_iff, decide_eq_false_iff_not, decide_eq_false_iff_not]; omega
      rw [e1] at hF
      rw [e1]
      show cfS (if false = true then [] else [c]) b k = _
      unfold cfS
      rw [if_pos hF]
      have e3 : ([c].filter fun c => goesL c b k) = [c] := by
        rw [List.filter_cons, if_pos (by rw [hG, e2]; rfl)]; rfl
      show Lib.join ((srtC ([c].filter fun c => goesL c b k)).map sentL) [59, 32] = _
      rw [e3, show srtC [c] = [c] from srtL_one keyC noCoo (Nat.le_refl _)]
      exact join_oneL _ _
    · have e2 : endedC c k = true := by
        unfold endedC
        rw [decide_eq_true (show c.un ≠ -1 from h.1), decide_eq_true (by omega)]; rfl
      show cfS (if endedC c m = true then [] else [c]) b k = _
      unfold cfS
      rw [if_pos hF]
      have e3 : ((if endedC c m = true then [] else [c]).filter fun c => goesL c b k) = [] := by
        split
        · rfl
        · rw [List.filter_cons, if_neg (by rw [hG, e2]; simp)]; rfl
      rw [e3, show srtC [] = [] from rfl]
      rfl
  · cases h
attribute [push_cast] ckLawKS
theorem allLawKS {H : Type} (ds : List (DataW H)) (hh : hasD [.str, .tup [.str, .str, .str, .str, .str, .bool, .str, .bool], .int .i64, .int .i64] ds) : PCall pg 4 (ds.map toV) (.bool true) := by
  obtain ⟨d1, d2, d3, d4, rfl, x, y, z, u⟩ := hasD4 hh
  obtain ⟨s, e1, l1⟩ := shStr x
  obtain ⟨a, e2, b2⟩ := shAdr y
  obtain ⟨m, e3, b3⟩ := shInt z
  obtain ⟨k, e4, b4⟩ := shInt u
  simp only [List.map_cons, List.map_nil, e1, e2, e3, e4]
  simp only [Lit.wf, Bool.and_eq_true, decide_eq_true_eq] at b3 b4
  exact conLawKS _ _ _ rfl ⟨by omega, b2, b3, b4⟩


end Go.Abs
