/- what functions of this program compute: contracts, each a function's own -/
import Derived.Test.YtejiajdjgnnpdaaGreatDoorAbsK3
import Derived.Test.YtejiajdjgnnpdaaGreatDoorAbsFacts
import Derived.Test.YtejiajdjgnnpdaaGreatDoorAbsF4
import Derived.Test.YtejiajdjgnnpdaaGreatDoorAbsShelf
import Derived.Lib.SplitLaws
import Derived.Lib.SlTrimSet
import Derived.Lib.Atoi
import Derived.Lib.Itoa
import Derived.Lib.ItoaNum
import Derived.Lib.AtoiErrMem
import Derived.Lib.Join
import Derived.Lib.Repeat
import Derived.Lib.IndexMore
import Derived.Lib.AsciiSet
import Derived.Lib.IndexAny
import Derived.Sort.Walk0
import Derived.Lib.ItoaLen
import Derived.Shelf.Spec.SlicesInsert
import Derived.Shelf.Spec.SlicesInsertGrow
import Derived.Lib.Overlaps
import Derived.Lib.AppendZerosOnto
import Derived.Laws.NewBlocks
import Derived.WalkKit
import Derived.Lib.Walk
namespace Go.Abs
open Go Go.Proofs
set_option maxHeartbeats 4000000
set_option maxRecDepth 100000
set_option linter.unusedVariables false
set_option linter.unusedSimpArgs false
theorem conSymBE : FCon pg 91 (ckSymE 2000000) := conSymE 2000000
def ckStbEK : List V → List Blk → Option (Prop × V × List Blk)
  | [.vec _ n, .int .i64 m, .fn (.func 16) [] []], [.vec 3 k f] => some (k = n ∧ m = n ∧ isLs cEnt n f ∧ n ≤ 1000, .tup [], [.vec 3 n (lsF cEnt (srtE (lsOf cEnt n f)))])
  | _, _ => none
def ckStbE : Cf := ⟨fun | .vec i _ :: _ => [i] | _ => [], ckStbEK⟩
theorem conStbE : FCon pg 41 ckStbE := by
  have hct := (ctF_ok conSymBE (ctF_ok conInsE (ctN_ok _)))
  intro args bs q r bs' h hq
  replace h : ckStbEK args bs = some (q, r, bs') := h
  unfold ckStbEK at h
  split at h
  · cases h
    rename_i i n m k f
    refine ⟨rfl, by first | exact Nat.le_refl _ | exact Nat.zero_le _, ?_⟩
    obtain ⟨rfl, rfl, hf, hn⟩ := hq
    have hk : k = (lsOf cEnt k f).length := (lsOf_len k f).symm
    refine fcall_blk (hm := [(i + 9000, .vec 3 (lsOf cEnt k f).length (lsF cEnt (lsOf cEnt k f)))]) ⟨rfl, ⟨rfl, hk, fun j hj => by show V.shift (f j) = _; rw [hf.2 j hj]; rfl⟩, trivial⟩ ?_
    have hlen : (lsOf cEnt k f).length = k := lsOf_len k f
    generalize lsOf cEnt k f = D at hlen ⊢
    subst hlen
    have e1 : ∀ E : List Ent, E.length = D.length → lsOf cEnt D.length (lsF cEnt E) = E := fun E hE => by rw [← hE]; exact lsOf_ls E
    have e2 : ∀ E : List Ent, E.length = D.length → isLs cEnt D.length (lsF cEnt E) := fun E hE => by rw [← hE]; exact isLs_ls E
    show FCall pg 41 [.vec (i + 9000) D.length, .int .i64 D.length, .fn (.func 16) [] []] [(i + 9000, .vec 3 D.length (lsF cEnt D))] (.tup []) [(i + 9000, .vec 3 D.length (lsF cEnt (srtE D)))]
    refine fw41 (fun _ => false) [] rfl hct rfl (by simp) ?_ rfl ?_
    · simp [hlIn, Blk.menIn, men_cooE, idsIn]
    push_cast (config := { maxSteps := 10000000 })
    (repeat (refine ⟨by omega, ?_⟩))
    refine LoopW.adj ⟨hct, fol⟩ (by kernel_rfl) [] (fun t : Nat × List Ent => [(0, .vec (i + 9000) D.length), (1, .int .i64 D.length), (2, .fn (.func 16) [] []), (6, .int .i64 20), (7, .int .i64 t.1), (8, .int .i64 ((t.1 : Int) + 20))]) (fun t => [(i + 9000, .vec 3 D.length (lsF cEnt t.2))]) (fun t => 20 ∣ t.1 ∧ t.1 ≤ D.length ∧ t.2.length = D.length ∧ FiK ltE D t.2 ∧ BlkSE t.2 20 0 t.1) (fun t => D.length - t.1) (0, D) ?_ fun t ht => ?_
    · push_cast (config := { maxSteps := 10000000 })
      exact ⟨Nat.zero_le _, FiK.refl _ _, fun x _ _ h => absurd h (by omega)⟩
    · obtain ⟨a, E⟩ := t
      obtain ⟨i1, i2, i3, i4, i5⟩ : 20 ∣ a ∧ a ≤ D.length ∧ E.length = D.length ∧ FiK ltE D E ∧ BlkSE E 20 0 a := ht
      push_cast (config := { maxSteps := 10000000 })
      refine ⟨fun hlt => ?_, fun hge => ?_⟩
      · rw [e1 E i3]
        have hs := i5.step (b := a + 20) i1 (by omega) (by omega) (by omega)
        have hf := insD_fiE (D := E) (a := a) (b := a + 20) (by omega) (by omega)
        have hl := insD_lenE (D := E) (a := a) (b := a + 20) (by omega) (by omega)
        refine ⟨⟨e2 E i3, by omega⟩, by omega, (a + 20, insD ltE noEnt E a (a + 20)), ⟨by show 20 ∣ a + 20; omega, by show a + 20 ≤ D.length; omega, hl.trans i3, i4.trans hf, hs⟩, by show D.length - (a + 20) < D.length - a; omega, ⟨by show (a : Int) + 20 = ((a + 20 : Nat) : Int); omega, by show (a : Int) + 20 + 20 = ((a + 20 : Nat) : Int) + 20; omega⟩, fun i hi => rfl⟩
      · rw [e1 E i3]
        refine ⟨⟨e2 E i3, by omega⟩, ?_⟩
        have hs := i5.step (b := D.length) i1 i2 (by omega) (by omega)
        have hf := insD_fiE (D := E) (a := a) (b := D.length) i2 (by omega)
        have hl := insD_lenE (D := E) (a := a) (b := D.length) i2 (by omega)
        generalize insD ltE noEnt E a D.length = E1 at *
        refine LoopW.adj ⟨hct, fol⟩ (by kernel_rfl) [] (fun t : Nat × List Ent => [(0, .vec (i + 9000) D.length), (1, .int .i64 D.length), (2, .fn (.func 16) [] []), (6, .int .i64 t.1)]) (fun t => [(i + 9000, .vec 3 D.length (lsF cEnt t.2))]) (fun t => 0 < t.1 ∧ t.1 ≤ 2000 ∧ t.2.length = D.length ∧ FiK ltE D t.2 ∧ BlkSE t.2 t.1 0 D.length) (fun t => D.length - t.1) (20, E1) ?_ fun t ht => ?_
        · push_cast (config := { maxSteps := 10000000 })
          exact ⟨hl.trans i3, i4.trans hf, hs.all (by omega) _⟩
        · obtain ⟨s, F⟩ := t
          obtain ⟨j1, j2, j3, j4, j5⟩ : 0 < s ∧ s ≤ 2000 ∧ F.length = D.length ∧ FiK ltE D F ∧ BlkSE F s 0 D.length := ht
          push_cast (config := { maxSteps := 10000000 })
          refine ⟨fun hlt => ?_, fun hge => ?_⟩
          · (repeat (refine ⟨by omega, ?_⟩))
            refine LoopW.adj ⟨hct, fol⟩ (by kernel_rfl) [] (fun t : Nat × List Ent => [(0, .vec (i + 9000) D.length), (1, .int .i64 D.length), (2, .fn (.func 16) [] []), (6, .int .i64 s), (7, .int .i64 t.1), (8, .int .i64 ((t.1 : Int) + 2 * s))]) (fun t => [(i + 9000, .vec 3 D.length (lsF cEnt t.2))]) (fun t => (2 * s) ∣ t.1 ∧ t.1 ≤ D.length ∧ t.2.length = D.length ∧ FiK ltE D t.2 ∧ BlkSE t.2 (2 * s) 0 t.1 ∧ BlkSE t.2 s t.1 D.length) (fun t => D.length - t.1) (0, F) ?_ fun t ht => ?_
            · push_cast (config := { maxSteps := 10000000 })
              exact ⟨⟨Nat.dvd_zero _, Nat.zero_le _, j3, j4, fun x _ _ h => absurd h (by omega), j5⟩, by omega⟩
            · obtain ⟨a, G⟩ := t
              obtain ⟨k1, k2, k3, k4, k5, k6⟩ : (2 * s) ∣ a ∧ a ≤ D.length ∧ G.length = D.length ∧ FiK ltE D G ∧ BlkSE G (2 * s) 0 a ∧ BlkSE G s a D.length := ht
              push_cast (config := { maxSteps := 10000000 })
              rw [e1 G k3]
              have ds : s ∣ a := Nat.dvd_trans (Nat.dvd_mul_left s 2) k1
              have ea : ((a : Int) + s).toNat = a + s := by omega
              have eb : ((a : Int) + 2 * s).toNat = a + 2 * s := by omega
              simp only [ea, eb]
              have q1 : a < D.length → SrtK ltE (sgL G a (min (a + s) D.length)) := fun h => by
                have := k6 a ds (Nat.le_refl _) h
                rwa [k3] at this
              have q2 : a + s < D.length → SrtK ltE (sgL G (a + s) (min (a + s + s) D.length)) := fun h => by
                have := k6 (a + s) (Nat.dvd_add ds (Nat.dvd_refl s)) (by omega) h
                rwa [k3] at this
              have k6' : BlkSE G s a G.length := by rw [k3]; exact k6
              refine ⟨fun hb => ?_, fun hb => ⟨by omega, fun hc => ?_, fun hc => ?_⟩⟩
              · have q1 := q1 (by omega)
                have q2 := q2 (by omega)
                rw [Nat.min_eq_left (by omega)] at q1 q2
                rw [show a + s + s = a + 2 * s by omega] at q2
                have hs := k5.step (b := a + 2 * s) k1 (by omega) (by omega) (by omega)
                have hh := k6'.hi (b := a + 2 * s) (by omega) (by omega)
                have hf := insD_fiE (D := G) (a := a) (b := a + 2 * s) (by omega) (by omega)
                have hl := insD_lenE (D := G) (a := a) (b := a + 2 * s) (by omega) (by omega)
                refine ⟨by omega, ⟨e2 G k3, by omega, by omega, by omega, by omega, by omega, q1, q2⟩, by omega, by omega, (a + 2 * s, insD ltE noEnt G a (a + 2 * s)), ⟨Nat.dvd_add k1 (Nat.dvd_refl _), by show a + 2 * s ≤ D.length; omega, hl.trans k3, k4.trans hf, hs, by rw [← k3]; exact hh⟩, by show D.length - (a + 2 * s) < D.length - a; omega, ⟨by show (a : Int) + 2 * s = ((a + 2 * s : Nat) : Int); omega, by show (a : Int) + 2 * s + 2 * s = ((a + 2 * s : Nat) : Int) + 2 * s; omega⟩, fun i hi => rfl⟩
              · have q1 := q1 (by omega)
                have q2 := q2 (by omega)
                rw [Nat.min_eq_left (by omega)] at q1
                rw [Nat.min_eq_right (by omega)] at q2
                have hs := k5.step (b := D.length) k1 (by omega) (by omega) (by omega)
                have hf := insD_fiE (D := G) (a := a) (b := D.length) (by omega) (by omega)
                have hl := insD_lenE (D := G) (a := a) (b := D.length) (by omega) (by omega)
                refine ⟨⟨e2 G k3, by omega, by omega, by omega, Nat.le_refl _, by omega, q1, q2⟩, by omega, (2 * s, insD ltE noEnt G a D.length), ⟨by show 0 < 2 * s; omega, by show 2 * s ≤ 2000; omega, hl.trans k3, k4.trans hf, hs.all (by omega) _⟩, by show D.length - 2 * s < D.length - s; omega, by show (s : Int) * 2 = ((2 * s : Nat) : Int); omega, fun i hi => rfl⟩
              · refine ⟨by omega, (2 * s, G), ⟨by show 0 < 2 * s; omega, by show 2 * s ≤ 2000; omega, k3, k4, ?_⟩, by show D.length - 2 * s < D.length - s; omega, by show (s : Int) * 2 = ((2 * s : Nat) : Int); omega, fun i hi => rfl⟩
                intro x hx h0 hx2
                by_cases e : x < a
                · exact k5 x hx h0 e
                · by_cases e2 : x = a
                  · subst e2
                    have q1 := q1 hx2
                    rw [Nat.min_eq_right (by omega)] at q1
                    rw [k3, Nat.min_eq_right (by omega)]
                    exact q1
                  · have := dv_lt k1 hx (by omega)
                    omega
          · have hS : SrtK ltE F := by
              by_cases h0 : D.length = 0
              · rw [List.length_eq_zero_iff.1 (j3.trans h0)]; exact SrtK.nil _
              · have := j5 0 (Nat.dvd_zero _) (Nat.le_refl _) (by omega)
                rw [Nat.min_eq_right (by omega), sgL_allE F (Nat.le_refl _)] at this
                exact this
            have hE : srtE D = F := srtL_eq keyE noEnt hS j4
            rw [hE]
            exact fun i hi => rfl
  · cases h
attribute [push_cast] ckStbEK
@[push_cast] theorem stb_idsE (i n : Nat) (l : List V) : ckStbE.ids (.vec i n :: l) = [i] := rfl
@[push_cast] theorem stb_kE {i n k : Nat} {m : Int} {f : Nat → V} : ckStbE.k [.vec i n, .int .i64 m, .fn (.func 16) [] []] [.vec 3 k f] = some (k = n ∧ m = n ∧ isLs cEnt n f ∧ n ≤ 1000, .tup [], [.vec 3 n (lsF cEnt (srtE (lsOf cEnt n f)))]) := rfl
def ckSSFE : Cf := ⟨fun | .vec i _ :: _ => [i] | _ => [], fun
  | [.vec _ n, .fn (.func 16) [] []], [.vec 3 k f] => some (k = n ∧ isLs cEnt n f ∧ n ≤ 1000, .tup [], [.vec 3 n (lsF cEnt (srtE (lsOf cEnt n f)))])
  | _, _ => none⟩
theorem conSSFE : FCon pg 15 ckSSFE := by
  have hct := ctF_ok conStbE (ctN_ok pg)
  intro args bs q r bs' h hq
  unfold ckSSFE at h
  dsimp only at h
  split at h
  · cases h
    rename_i i n k f
    refine ⟨rfl, by first | exact Nat.le_refl _ | exact Nat.zero_le _, ?_⟩
    obtain ⟨rfl, hf, hn⟩ := hq
    have hk : k = (lsOf cEnt k f).length := (lsOf_len k f).symm
    refine fcall_blk (hm := [(i + 9000, .vec 3 (lsOf cEnt k f).length (lsF cEnt (lsOf cEnt k f)))]) ⟨rfl, ⟨rfl, hk, fun j hj => by show V.shift (f j) = _; rw [hf.2 j hj]; rfl⟩, trivial⟩ ?_
    have hlen : (lsOf cEnt k f).length = k := lsOf_len k f
    generalize lsOf cEnt k f = D at hlen ⊢
    subst hlen
    show FCall pg 15 [.vec (i + 9000) D.length, .fn (.func 16) [] []] [(i + 9000, .vec 3 D.length (lsF cEnt D))] (.tup []) [(i + 9000, .vec 3 D.length (lsF cEnt (srtE D)))]
    refine fw15 (fun _ => false) [] rfl hct rfl (by simp) ?_ rfl ?_
    · simp [hlIn, Blk.menIn, men_cooE, idsIn]
    push_cast (config := { maxSteps := 10000000 })
    exact hn
  · cases h
@[push_cast] theorem ssf_idsE (i n : Nat) (l : List V) : ckSSFE.ids (.vec i n :: l) = [i] := rfl
@[push_cast] theorem ssf_kE {i n k : Nat} {f : Nat → V} : ckSSFE.k [.vec i n, .fn (.func 16) [] []] [.vec 3 k f] = some (k = n ∧ isLs cEnt n f ∧ n ≤ 1000, .tup [], [.vec 3 n (lsF cEnt (srtE (lsOf cEnt n f)))]) := rfl

/- lists of things as arguments, cell by cell -/
theorem VLe.slV {n : Nat} {f g : Nat → V} (h : ∀ i, i < n → (g i).flat.length = (f i).flat.length ∧ ∀ j, j < (f i).flat.length → VLe ((f i).flat.getD j .any) ((g i).flat.getD j .any) ∧ ((g i).flat.getD j .any).isPure = true) : VLe (.sl n f) (.sl n g) := by
  intro γ imm w v hr
  cases inv_sl (S := ⟨γ, imm, fun _ => none, w⟩) hr with
  | sl0 _ a c => exact .pure (.sl0 _ a c)
  | sl _ _ b off c sz u hb hnc hs hf hc ho hp =>
    refine .pure (.sl n g b off c sz u hb hnc hs (fun i hi => (h i hi).1.trans (hf i hi)) hc ho (fun i j hi hj => ?_))
    have hj' : j < (f i).flat.length := by rw [hf i hi]; exact hj
    obtain ⟨h1, h2⟩ := (h i hi).2 j hj'
    exact isPure_rep (S := ⟨γ, imm, fun _ => none, w⟩) (h1 _ _ _ _ (.pure (hp i j hi hj))) h2
def isLv {α : Type} (c : Cod α) (n : Nat) (f : Nat → V) : Prop := VLe (.sl n f) (.sl (lsOf c n f).length (lsF c (lsOf c n f)))
/-- a thing's cells say what its code says -/
def isE {α : Type} (c : Cod α) (v : V) : Prop := (c.enc (c.dec v)).flat.length = v.flat.length ∧ ∀ j, j < v.flat.length → VLe (v.flat.getD j .any) ((c.enc (c.dec v)).flat.getD j .any) ∧ ((c.enc (c.dec v)).flat.getD j .any).isPure = true
theorem shListE {α : Type} {c : Cod α} {s : Sh} {p : α → Prop} (hs : ∀ m v, s.has m v → isE c v ∧ p (c.dec v)) {m : Nat} {v : V} (h : Sh.has (.list s) m v) : ∃ (n : Nat) (f : Nat → V), v = .sl n f ∧ isLv c n f ∧ n ≤ 140737488355328 ∧ ∀ a ∈ lsOf c n f, p a := by
  obtain ⟨l, ms, rfl, h1, h2, h3, h4⟩ := h
  have := reach_le
  refine ⟨_, _, rfl, ?_, by omega, fun a ha => ?_⟩
  · unfold isLv
    rw [lsOf_len]
    refine VLe.slV fun i hi => ?_
    have hE := (hs _ _ (h4 i hi)).1
    have e2 : lsF c (lsOf c l.length (litF l)) i = c.enc (c.dec (litF l i)) := by
      unfold lsF lsOf
      rw [List.getD_eq_getElem?_getD, List.getElem?_map, List.getElem?_range hi]; rfl
    rw [e2]
    exact hE
  · simp only [lsOf, List.mem_map, List.mem_range] at ha
    obtain ⟨i, hi, rfl⟩ := ha
    exact (hs _ _ (h4 i hi)).2

/- what sites permit -/
structure Rul where
  al : Bool
  pa : List UInt8
deriving DecidableEq
def noRul : Rul := ⟨false, []⟩
def decRul : V → Rul
  | .agg [.bool a, .str p] => ⟨a, p⟩
  | _ => noRul
def cRul : Cod Rul := ⟨fun r => .agg [.bool r.al, .str r.pa], decRul, noRul, fun _ => rfl⟩
@[push_cast] theorem enc_rul (r : Rul) : cRul.enc r = .agg [.bool r.al, .str r.pa] := rfl
@[push_cast] theorem dec_rul (a : Bool) (p : List UInt8) : cRul.dec (.agg [.bool a, .str p]) = ⟨a, p⟩ := rfl
@[push_cast] theorem lsF_rul (l : List Rul) (i : Nat) : lsF cRul l i = .agg [.bool (l.getD i noRul).al, .str (l.getD i noRul).pa] := rfl
structure Grp where
  ag : List (List UInt8)
  ru : List Rul
  de : Int
deriving DecidableEq
def noGrp : Grp := ⟨[], [], 0⟩
def decGrp : V → Grp
  | .agg [.sl n f, .sl m g, .int _ d] => ⟨lsOf cStr n f, lsOf cRul m g, d⟩
  | _ => noGrp
def cGrp : Cod Grp := ⟨fun g => .agg [.sl g.ag.length (lsF cStr g.ag), .sl g.ru.length (lsF cRul g.ru), .int .i64 g.de], decGrp, noGrp, fun g => by simp [decGrp, lsOf_ls]⟩
@[push_cast] theorem enc_grp (g : Grp) : cGrp.enc g = .agg [.sl g.ag.length (lsF cStr g.ag), .sl g.ru.length (lsF cRul g.ru), .int .i64 g.de] := rfl
@[push_cast] theorem dec_grp (n m : Nat) (f g : Nat → V) (k : IntKind) (d : Int) : cGrp.dec (.agg [.sl n f, .sl m g, .int k d]) = ⟨lsOf cStr n f, lsOf cRul m g, d⟩ := rfl
@[push_cast] theorem lsF_grp (l : List Grp) (i : Nat) : lsF cGrp l i = .agg [.sl (l.getD i noGrp).ag.length (lsF cStr (l.getD i noGrp).ag), .sl (l.getD i noGrp).ru.length (lsF cRul (l.getD i noGrp).ru), .int .i64 (l.getD i noGrp).de] := rfl
structure Rob where
  gr : List Grp
  ma : List (List UInt8)
deriving DecidableEq
def noRob : Rob := ⟨[], []⟩
def decRob : V → Rob
  | .agg [.sl n f, .sl m g] => ⟨lsOf cGrp n f, lsOf cStr m g⟩
  | _ => noRob
def cRob : Cod Rob := ⟨fun r => .agg [.sl r.gr.length (lsF cGrp r.gr), .sl r.ma.length (lsF cStr r.ma)], decRob, noRob, fun r => by simp [decRob, lsOf_ls]⟩
@[push_cast] theorem enc_rob (r : Rob) : cRob.enc r = .agg [.sl r.gr.length (lsF cGrp r.gr), .sl r.ma.length (lsF cStr r.ma)] := rfl
@[push_cast] theorem dec_rob (n m : Nat) (f g : Nat → V) : cRob.dec (.agg [.sl n f, .sl m g]) = ⟨lsOf cGrp n f, lsOf cStr m g⟩ := rfl
@[push_cast] theorem isC_robT (r : Rob) : isC cRob (.agg [.sl r.gr.length (lsF cGrp r.gr), .sl r.ma.length (lsF cStr r.ma)]) = True := eq_true (isC_enc cRob r)
@[push_cast] theorem isC_grpT (g : Grp) : isC cGrp (.agg [.sl g.ag.length (lsF cStr g.ag), .sl g.ru.length (lsF cRul g.ru), .int .i64 g.de]) = True := eq_true (isC_enc cGrp g)
@[push_cast] theorem rob_eta (r : Rob) : (⟨r.gr, r.ma⟩ : Rob) = r := rfl
@[push_cast] theorem grp_eta (g : Grp) : (⟨g.ag, g.ru, g.de⟩ : Grp) = g := rfl
structure Rdg where
  at' : Int
  st : Int
  ro : Rob
deriving DecidableEq
def noRdg : Rdg := ⟨0, 0, noRob⟩
def decRdg : V → Rdg
  | .agg [.int _ a, .int _ s, .sl n f, .sl m g] => ⟨a, s, ⟨lsOf cGrp n f, lsOf cStr m g⟩⟩
  | _ => noRdg
def cRdg : Cod Rdg := ⟨fun r => .agg [.int .i64 r.at', .int .i64 r.st, .sl r.ro.gr.length (lsF cGrp r.ro.gr), .sl r.ro.ma.length (lsF cStr r.ro.ma)], decRdg, noRdg, fun r => by simp [decRdg, lsOf_ls]⟩
@[push_cast] theorem lsF_rdg (l : List Rdg) (i : Nat) : lsF cRdg l i = .agg [.int .i64 (l.getD i noRdg).at', .int .i64 (l.getD i noRdg).st, .sl (l.getD i noRdg).ro.gr.length (lsF cGrp (l.getD i noRdg).ro.gr), .sl (l.getD i noRdg).ro.ma.length (lsF cStr (l.getD i noRdg).ro.ma)] := rfl
/- what arguments are -/
def rulOk (r : Rul) : Prop := r.pa.length ≤ 140737488355328
def grpOk (g : Grp) : Prop := g.ag.length ≤ 140737488355328 ∧ (∀ s ∈ g.ag, s.length ≤ 140737488355328) ∧ g.ru.length ≤ 140737488355328 ∧ (∀ r ∈ g.ru, rulOk r) ∧ -9223372036854775808 ≤ g.de ∧ g.de ≤ 9223372036854775807
def robOk (r : Rob) : Prop := r.gr.length ≤ 140737488355328 ∧ (∀ g ∈ r.gr, grpOk g) ∧ r.ma.length ≤ 140737488355328 ∧ ∀ s ∈ r.ma, s.length ≤ 140737488355328
def rdgOk (r : Rdg) : Prop := -9223372036854775808 ≤ r.at' ∧ r.at' ≤ 9223372036854775807 ∧ -9223372036854775808 ≤ r.st ∧ r.st ≤ 9223372036854775807 ∧ robOk r.ro
abbrev sRul : Sh := .tup [.bool, .str]
abbrev sGrp : Sh := .tup [.list .str, .list sRul, .int .i64]
abbrev sRob : Sh := .tup [.list sGrp, .list .str]
abbrev sRdg : Sh := .tup [.int .i64, .int .i64, sRob]
theorem shBoolE {m : Nat} {v : V} (h : Sh.has .bool m v) : ∃ b, v = .bool b := by
  obtain ⟨b, e, _⟩ := h
  exact ⟨b, e⟩
theorem shRul {m : Nat} {v : V} (h : Sh.has sRul m v) : ∃ a, v = cRul.enc a ∧ rulOk a := by
  obtain ⟨l, ms, rfl, -, hl⟩ := h
  obtain ⟨m1, v1, ms, l, rfl, h1, hl⟩ := hasL_cons hl
  obtain ⟨m2, v2, ms, l, rfl, h2, hl⟩ := hasL_cons hl
  obtain rfl := hasL_nil hl
  obtain ⟨b, rfl⟩ := shBoolE h1
  obtain ⟨p, rfl, b2⟩ := shStr h2
  exact ⟨⟨b, p⟩, rfl, b2⟩
theorem shGrp {m : Nat} {v : V} (h : Sh.has sGrp m v) : isE cGrp v ∧ grpOk (cGrp.dec v) := by
  obtain ⟨l, ms, rfl, -, hl⟩ := h
  obtain ⟨m1, v1, ms, l, rfl, h1, hl⟩ := hasL_cons hl
  obtain ⟨m2, v2, ms, l, rfl, h2, hl⟩ := hasL_cons hl
  obtain ⟨m3, v3, ms, l, rfl, h3, hl⟩ := hasL_cons hl
  obtain rfl := hasL_nil hl
  obtain ⟨n, f, rfl, i1, b1, k1⟩ := shList (c := cStr) (fun m v h => shStr h) h1
  obtain ⟨k, g, rfl, i2, b2, k2⟩ := shList (c := cRul) (fun m v h => shRul h) h2
  obtain ⟨d, rfl, c3⟩ := shInt h3
  simp only [Lit.wf, Bool.and_eq_true, decide_eq_true_eq] at c3
  refine ⟨⟨rfl, fun j hj => ?_⟩, by show (lsOf cStr n f).length ≤ _; rw [lsOf_len]; exact b1, k1, by show (lsOf cRul k g).length ≤ _; rw [lsOf_len]; exact b2, k2, c3.1, c3.2⟩
  match j, hj with
  | 0, _ => exact ⟨isLs.vle i1, rfl⟩
  | 1, _ => exact ⟨isLs.vle i2, rfl⟩
  | 2, _ => exact ⟨VLe.refl _, rfl⟩
theorem shRobX {m : Nat} {v : V} (h : Sh.has sRob m v) : ∃ n f k g, v = .agg [.sl n f, .sl k g] ∧ isLv cGrp n f ∧ isLs cStr k g ∧ robOk ⟨lsOf cGrp n f, lsOf cStr k g⟩ := by
  obtain ⟨l, ms, rfl, -, hl⟩ := h
  obtain ⟨m1, v1, ms, l, rfl, h1, hl⟩ := hasL_cons hl
  obtain ⟨m2, v2, ms, l, rfl, h2, hl⟩ := hasL_cons hl
  obtain rfl := hasL_nil hl
  obtain ⟨n, f, rfl, i1, b1, k1⟩ := shListE (c := cGrp) (p := grpOk) (fun m v h => shGrp h) h1
  obtain ⟨k, g, rfl, i2, b2, k2⟩ := shList (c := cStr) (fun m v h => shStr h) h2
  exact ⟨n, f, k, g, rfl, i1, i2, by show (lsOf cGrp n f).length ≤ _; rw [lsOf_len]; exact b1, k1, by show (lsOf cStr k g).length ≤ _; rw [lsOf_len]; exact b2, k2⟩
theorem shRob {m : Nat} {v : V} (h : Sh.has sRob m v) : VLe v (cRob.enc (cRob.dec v)) ∧ robOk (cRob.dec v) := by
  obtain ⟨n, f, k, g, rfl, i1, i2, ok⟩ := shRobX h
  exact ⟨VLe.agg ⟨i1, isLs.vle i2, trivial⟩, ok⟩
theorem shRdg {m : Nat} {v : V} (h : Sh.has sRdg m v) : isE cRdg v ∧ rdgOk (cRdg.dec v) := by
  obtain ⟨l, ms, rfl, -, hl⟩ := h
  obtain ⟨m1, v1, ms, l, rfl, h1, hl⟩ := hasL_cons hl
  obtain ⟨m2, v2, ms, l, rfl, h2, hl⟩ := hasL_cons hl
  obtain ⟨m3, v3, ms, l, rfl, h3, hl⟩ := hasL_cons hl
  obtain rfl := hasL_nil hl
  obtain ⟨a, rfl, c1⟩ := shInt h1
  obtain ⟨s, rfl, c2⟩ := shInt h2
  obtain ⟨n, f, k, g, rfl, i1, i2, ok⟩ := shRobX h3
  simp only [Lit.wf, Bool.and_eq_true, decide_eq_true_eq] at c1 c2
  refine ⟨⟨rfl, fun j hj => ?_⟩, c1.1, c1.2, c2.1, c2.2, ok⟩
  match j, hj with
  | 0, _ => exact ⟨VLe.refl _, rfl⟩
  | 1, _ => exact ⟨VLe.refl _, rfl⟩
  | 2, _ => exact ⟨i1, rfl⟩
  | 3, _ => exact ⟨isLs.vle i2, rfl⟩
theorem shAdr {m : Nat} {v : V} (h : Sh.has (.tup [.str, .str, .str, .str, .str, .bool, .str, .bool]) m v) : ∃ a, v = cAdr.enc a ∧ a.sc.length ≤ 140737488355328 ∧ a.ho.length ≤ 140737488355328 ∧ a.po.length ≤ 140737488355328 ∧ a.pa.length ≤ 140737488355328 ∧ a.qu.length ≤ 140737488355328 ∧ a.fr.length ≤ 140737488355328 := by
  obtain ⟨l, ms, rfl, -, hl⟩ := h
  obtain ⟨m1, v1, ms, l, rfl, h1, hl⟩ := hasL_cons hl
  obtain ⟨m2, v2, ms, l, rfl, h2, hl⟩ := hasL_cons hl
  obtain ⟨m3, v3, ms, l, rfl, h3, hl⟩ := hasL_cons hl
  obtain ⟨m4, v4, ms, l, rfl, h4, hl⟩ := hasL_cons hl
  obtain ⟨m5, v5, ms, l, rfl, h5, hl⟩ := hasL_cons hl
  obtain ⟨m6, v6, ms, l, rfl, h6, hl⟩ := hasL_cons hl
  obtain ⟨m7, v7, ms, l, rfl, h7, hl⟩ := hasL_cons hl
  obtain ⟨m8, v8, ms, l, rfl, h8, hl⟩ := hasL_cons hl
  obtain rfl := hasL_nil hl
  obtain ⟨a1, rfl, b1⟩ := shStr h1
  obtain ⟨a2, rfl, b2⟩ := shStr h2
  obtain ⟨a3, rfl, b3⟩ := shStr h3
  obtain ⟨a4, rfl, b4⟩ := shStr h4
  obtain ⟨a5, rfl, b5⟩ := shStr h5
  obtain ⟨a6, rfl⟩ := shBoolE h6
  obtain ⟨a7, rfl, b7⟩ := shStr h7
  obtain ⟨a8, rfl⟩ := shBoolE h8
  exact ⟨⟨a1, a2, a3, a4, a5, a6, a7, a8⟩, rfl, b1, b2, b3, b4, b5, b7⟩
/- the errors -/
def agB (c : UInt8) : Bool := decide (97 ≤ c.toNat ∧ c.toNat ≤ 122) || decide (48 ≤ c.toNat ∧ c.toNat ≤ 57) || decide (c.toNat = 45) || decide (c.toNat = 95)
def agentL (s : List UInt8) : Bool := s == [42] || (decide (1 ≤ s.length) && decide (s.length ≤ 40) && s.all agB)
def checkGrpL (g : Grp) : Int :=
  if g.ag.length = 0 then 9 else if 50 < g.ag.length then 16 else if g.ag.all agentL = false then 5 else if 200 < g.ru.length then 16 else if (g.ru.all fun r => patOk r.pa) = false then 3 else if g.de < -1 ∨ 99999 < g.de then 1 else 0
def grpsE : List Grp → Int
  | [] => 0
  | g :: t => if checkGrpL g = 0 then grpsE t else checkGrpL g
def adrB (s : List UInt8) : Bool := decide ((readA s).2.2 = 0)
def checkRobL (r : Rob) : Int := if 100 < r.gr.length then 16 else if grpsE r.gr = 0 then (if 100 < r.ma.length then 16 else if r.ma.all adrB = true then 0 else 3) else grpsE r.gr
def isRulS (n : Int) : Bool := decide (200 ≤ n) && decide (n ≤ 299)
def isAllS (n : Int) : Bool := decide (400 ≤ n) && decide (n ≤ 499)
def rdgE (x : Rdg) : Int :=
  if ¬ (0 ≤ x.at' ∧ x.at' ≤ 253402300799) ∨ (x.st ≠ 0 ∧ (x.st < 100 ∨ 599 < x.st)) then 1
  else if isRulS x.st = false ∧ 0 < x.ro.gr.length + x.ro.ma.length then 3
  else checkRobL x.ro
def rdgsGo : Int → List Rdg → Int
  | _, [] => 0
  | p, x :: t => if rdgE x = 0 then (if x.at' < p then 8 else rdgsGo x.at' t) else rdgE x
def checkRdgs (l : List Rdg) : Int := if 500 < l.length then 2 else rdgsGo (-1) l
def askE (l : List Rdg) (age at' : Int) : Int := if checkRdgs l = 0 then (if 1 ≤ age ∧ age ≤ 100000000 ∧ 0 ≤ at' ∧ at' ≤ 253402300799 then 0 else 1) else checkRdgs l
/- what holds -/
def saysB (x : Rdg) : Bool := isRulS x.st || isAllS x.st
def lastN (l : List Rdg) (at' : Int) : Nat := (l.takeWhile fun x => decide (x.at' ≤ at')).length
/-- the last one that says something -/
def goodI : List Rdg → Nat → Int
  | _, 0 => -1
  | l, n + 1 => if saysB (l.getD n noRdg) = true then (n : Int) else goodI l n
def standL (l : List Rdg) (age at' : Int) : Int × Int :=
  if lastN l at' = 0 then (1, -1)
  else if goodI l (lastN l at') < 0 ∨ (goodI l (lastN l at') < (lastN l at' : Int) - 1 ∧ (l.getD (goodI l (lastN l at')).toNat noRdg).at' + age ≤ at') then (4, (lastN l at' : Int) - 1)
  else if isRulS (l.getD (goodI l (lastN l at')).toNat noRdg).st = true then (2, goodI l (lastN l at')) else (3, goodI l (lastN l at'))

/- paths without dots -/
def joinSl (L : List (List UInt8)) : List UInt8 := L.flatMap fun x => 47 :: x
def dotGo : List (List UInt8) → List (List UInt8) → List (List UInt8)
  | [], o => o
  | p :: t, o => if p = [46, 46] then dotGo t (if t = [] then o.dropLast ++ [[]] else o.dropLast) else if p = [46] then dotGo t (if t = [] then o ++ [[]] else o) else dotGo t (o ++ [p])
def undotL (s : List UInt8) : List UInt8 := if s = [] then [] else joinSl (dotGo (splitL (s.drop 1) 47) [])
theorem joinSl_app (a b : List (List UInt8)) : joinSl (a ++ b) = joinSl a ++ joinSl b := by simp [joinSl]
theorem joinSl_one (x : List UInt8) : joinSl [x] = 47 :: x := by simp [joinSl]
theorem joinSl_spl : ∀ t : List UInt8, joinSl (spl 47 t) = 47 :: t
  | [] => rfl
  | x :: t => by
    have ih := joinSl_spl t
    have hne := spl_ne 47 t
    rw [spl]
    cases hs : spl 47 t with
    | nil => exact absurd hs hne
    | cons a r =>
      rw [hs] at ih
      have ih : 47 :: (a ++ joinSl r) = 47 :: t := by simpa [joinSl] using ih
      have ih := (List.cons.inj ih).2
      split
      · rename_i h; subst h
        show 47 :: ([] ++ joinSl (a :: r)) = _
        rw [show joinSl (a :: r) = 47 :: (a ++ joinSl r) by simp [joinSl], ih]; rfl
      · show 47 :: ((x :: a) ++ joinSl r) = _
        rw [List.cons_append, ih]
/- rows, byte by byte -/
def hex2 : List UInt8 → Bool
  | a :: b :: _ => isHex (a.toNat : Int) && isHex (b.toNat : Int)
  | _ => false
def rowR : List UInt8 → Bool
  | [] => true
  | c :: t => rowB c && (decide (c.toNat ≠ 37) || hex2 t) && rowR t
def rowQ (s : List UInt8) : Bool := (List.range s.length).all (cell0 s)
theorem hex2_pct (c : UInt8) (t : List UInt8) : hex2 t = pctB (c :: t) 0 := by
  unfold pctB
  match t with
  | [] => rfl
  | [a] => simp [hex2]
  | a :: b :: r => simp [hex2]
theorem cell0_succ (c : UInt8) (t : List UInt8) (j : Nat) : cell0 (c :: t) (j + 1) = cell0 t j := by
  have e : decide (j + 1 + 2 < (c :: t).length) = decide (j + 2 < t.length) := decide_eq_decide.2 (by simp only [List.length_cons]; omega)
  unfold cell0 pctB
  rw [e]
  rw [List.getD_cons_succ, show j + 1 + 1 = (j + 1) + 1 from rfl, List.getD_cons_succ, show j + 1 + 2 = (j + 2) + 1 from rfl, List.getD_cons_succ]
theorem rowQ_rowR : ∀ s, rowQ s = rowR s
  | [] => rfl
  | c :: t => by
    rw [rowR, ← rowQ_rowR t]
    unfold rowQ
    rw [List.length_cons, List.range_succ_eq_map, List.all_cons, List.all_map]
    congr 1
    · unfold cell0; rw [List.getD_cons_zero, hex2_pct c t]
    · congr 1
      funext j
      exact cell0_succ c t j
theorem rowP_rowR (s : List UInt8) : rowP s = (rowR s && s.all fun c => decide (c.toNat ≠ 63)) := by
  rw [← rowQ_rowR, Bool.eq_iff_iff, Bool.and_eq_true]
  unfold rowP rowQ
  rw [List.all_eq_true, List.all_eq_true, List.all_eq_true]
  constructor
  · intro h
    refine ⟨fun j hj => ?_, fun c hc => ?_⟩
    · have := h j hj
      simp only [cellP, Bool.and_eq_true] at this
      unfold cell0; rw [this.1.1, this.2]; rfl
    · obtain ⟨j, hj, rfl⟩ := List.getElem_of_mem hc
      have := h j (List.mem_range.2 hj)
      simp only [cellP, Bool.and_eq_true] at this
      have h2 := this.1.2
      rwa [List.getD_eq_getElem?_getD, List.getElem?_eq_getElem hj] at h2
  · rintro ⟨h1, h2⟩ j hj
    have := h1 j hj
    have hj' := List.mem_range.1 hj
    have h3 := h2 (s.getD j 0) (by rw [List.getD_eq_getElem?_getD, List.getElem?_eq_getElem hj']; exact List.getElem_mem hj')
    simp only [cell0, Bool.and_eq_true] at this
    unfold cellP; rw [this.1, this.2, h3]; rfl
theorem hex2_app {a : List UInt8} (b : List UInt8) (h : hex2 a = true) : hex2 (a ++ b) = true := by
  match a, h with
  | x :: y :: r, h => exact h
theorem rowR_app : ∀ {a b : List UInt8}, rowR a = true → rowR b = true → rowR (a ++ b) = true
  | [], b, _, h => h
  | c :: t, b, h1, h2 => by
    rw [List.cons_append, rowR]
    rw [rowR] at h1
    simp only [Bool.and_eq_true, Bool.or_eq_true] at h1 ⊢
    exact ⟨⟨h1.1.1, h1.1.2.imp id (hex2_app b)⟩, rowR_app h1.2 h2⟩
theorem rowR_tail : ∀ (a : List UInt8) {b : List UInt8}, rowR (a ++ b) = true → rowR b = true
  | [], _, h => h
  | c :: t, b, h => by
    rw [List.cons_append, rowR] at h
    simp only [Bool.and_eq_true] at h
    exact rowR_tail t h.2
theorem rowR_left : ∀ {a b : List UInt8}, rowR (a ++ 47 :: b) = true → rowR a = true
  | [], b, _ => rfl
  | c :: t, b, h => by
    rw [List.cons_append, rowR] at h
    rw [rowR]
    simp only [Bool.and_eq_true, Bool.or_eq_true] at h ⊢
    refine ⟨⟨h.1.1, h.1.2.imp id fun x => ?_⟩, rowR_left h.2⟩
    have n47 : isHex ((47 : UInt8).toNat : Int) = false := by decide
    match t, x with
    | [], x =>
      cases b with
      | nil => simp [hex2] at x
      | cons y r => simp only [List.nil_append, hex2, n47] at x; cases x
    | [y], x => simp only [List.cons_append, List.nil_append, hex2, n47] at x; simp at x
    | y :: z :: r, x => exact x
theorem rowR_join {L : List (List UInt8)} (h : rowR (joinSl L) = true) : ∀ x ∈ L, rowR x = true := by
  induction L with
  | nil => intro x hx; cases hx
  | cons a t ih =>
    have e : joinSl (a :: t) = 47 :: (a ++ joinSl t) := by simp [joinSl]
    rw [e, rowR] at h
    simp only [Bool.and_eq_true] at h
    intro x hx
    rcases List.mem_cons.1 hx with rfl | hx
    · cases t with
      | nil => simpa [joinSl] using h.2
      | cons b r =>
        rw [show joinSl (b :: r) = 47 :: (b ++ joinSl r) by simp [joinSl]] at h
        exact rowR_left h.2
    · exact ih (rowR_tail a h.2) x hx
theorem rowR_47 {s : List UInt8} (h : rowR s = true) : rowR (47 :: s) = true := by
  rw [rowR, h]
  have e1 : rowB 47 = true := by decide
  have e2 : decide ((47 : UInt8).toNat ≠ 37) = true := by decide
  rw [e1, e2]; rfl
theorem join_rowR {L : List (List UInt8)} (h : ∀ x ∈ L, rowR x = true) : rowR (joinSl L) = true := by
  induction L with
  | nil => rfl
  | cons a t ih =>
    rw [show joinSl (a :: t) = 47 :: (a ++ joinSl t) by simp [joinSl]]
    exact rowR_47 (rowR_app (h a (by simp)) (ih fun x hx => h x (List.mem_cons_of_mem _ hx)))
theorem dotGo_sub : ∀ (t o : List (List UInt8)) (x : List UInt8), x ∈ dotGo t o → x ∈ o ∨ x ∈ t ∨ x = []
  | [], o, x, h => .inl h
  | p :: t, o, x, h => by
    have dl : ∀ y, y ∈ o.dropLast → y ∈ o := fun y hy => List.dropLast_subset _ hy
    rw [dotGo] at h
    split at h
    · rcases dotGo_sub t _ x h with h | h | h
      · split at h
        · rcases List.mem_append.1 h with h | h
          · exact .inl (dl x h)
          · exact .inr (.inr (List.mem_singleton.1 h))
        · exact .inl (dl x h)
      · exact .inr (.inl (List.mem_cons_of_mem _ h))
      · exact .inr (.inr h)
    · split at h
      · rcases dotGo_sub t _ x h with h | h | h
        · split at h
          · rcases List.mem_append.1 h with h | h
            · exact .inl h
            · exact .inr (.inr (List.mem_singleton.1 h))
          · exact .inl h
        · exact .inr (.inl (List.mem_cons_of_mem _ h))
        · exact .inr (.inr h)
      · rcases dotGo_sub t _ x h with h | h | h
        · rcases List.mem_append.1 h with h | h
          · exact .inl h
          · exact .inr (.inl (by rw [List.mem_singleton.1 h]; simp))
        · exact .inr (.inl (List.mem_cons_of_mem _ h))
        · exact .inr (.inr h)
theorem joinSl_len_drop (o : List (List UInt8)) : (joinSl o.dropLast).length ≤ (joinSl o).length := by
  cases o with
  | nil => simp
  | cons a t =>
    have := List.dropLast_concat_getLast (l := a :: t) (by simp)
    conv => rhs; rw [← this, joinSl_app]
    rw [List.length_append]; omega
theorem dotGo_len : ∀ (t o : List (List UInt8)), (joinSl (dotGo t o)).length ≤ (joinSl o).length + (joinSl t).length
  | [], o => by simp [dotGo]
  | p :: t, o => by
    have e : (joinSl (p :: t)).length = p.length + 1 + (joinSl t).length := by simp [joinSl]; omega
    have hd := joinSl_len_drop o
    have h1 : ∀ q : List (List UInt8), (joinSl (q ++ [[]])).length = (joinSl q).length + 1 := fun q => by rw [joinSl_app, List.length_append, joinSl_one]; rfl
    rw [dotGo]
    split
    · rename_i hp
      split
      · have := dotGo_len t (o.dropLast ++ [[]]); rw [h1] at this; omega
      · have := dotGo_len t o.dropLast; omega
    · split
      · split
        · have := dotGo_len t (o ++ [[]]); rw [h1] at this; omega
        · have := dotGo_len t o; omega
      · have := dotGo_len t (o ++ [p])
        rw [joinSl_app, List.length_append, joinSl_one, List.length_cons] at this
        omega
theorem dotGo_ne : ∀ (t o : List (List UInt8)), t ≠ [] → dotGo t o ≠ []
  | [p], o, _ => by
    rw [dotGo]
    split
    · simp [dotGo]
    · split <;> simp [dotGo]
  | p :: q :: t, o, _ => by
    rw [dotGo]
    split
    · exact dotGo_ne (q :: t) _ (by simp)
    · split <;> exact dotGo_ne (q :: t) _ (by simp)
/-- a path without dots is a path, and none too long -/
theorem undot_ok {s : List UInt8} (h : rowP s = true) (h0 : s = [] ∨ s.getD 0 0 = 47) : rowP (undotL s) = true ∧ (undotL s).length ≤ s.length ∧ (s ≠ [] → (undotL s).getD 0 0 = 47 ∧ undotL s ≠ []) ∧ (s = [] → undotL s = []) := by
  cases s with
  | nil => exact ⟨rfl, Nat.le_refl _, fun h => absurd rfl h, fun _ => rfl⟩
  | cons c t =>
    obtain rfl : c = 47 := by simpa using h0
    have eu : undotL (47 :: t) = joinSl (dotGo (spl 47 t) []) := by
      unfold undotL
      rw [if_neg (by simp), List.drop_one, List.tail_cons, splitL_eq]
    rw [eu]
    rw [rowP_rowR, Bool.and_eq_true] at h
    have hj := joinSl_spl t
    have hp := rowR_join (L := spl 47 t) (by rw [hj]; exact h.1)
    have hs := dotGo_sub (spl 47 t) []
    have hl := dotGo_len (spl 47 t) []
    have hn := dotGo_ne (spl 47 t) [] (spl_ne 47 t)
    have hall : ∀ x ∈ spl 47 t, ∀ c ∈ x, c.toNat ≠ 63 := fun x hx c hc => by
      have h2 := List.all_eq_true.1 h.2 c (by rw [← hj]; exact List.mem_flatMap.2 ⟨x, hx, List.mem_cons_of_mem _ hc⟩)
      simpa using h2
    generalize dotGo (spl 47 t) [] = Q at hs hl hn ⊢
    refine ⟨?_, by rw [hj] at hl; simpa [joinSl] using hl, fun _ => ?_, fun x => by cases x⟩
    · rw [rowP_rowR, Bool.and_eq_true]
      refine ⟨join_rowR fun x hx => ?_, ?_⟩
      · rcases hs x hx with h | h | h
        · cases h
        · exact hp x h
        · rw [h]; rfl
      · rw [List.all_eq_true]
        intro c hc
        obtain ⟨x, hx, hc⟩ := List.mem_flatMap.1 hc
        rcases List.mem_cons.1 hc with rfl | hc
        · decide
        · rcases hs x hx with h | h | h
          · cases h
          · exact decide_eq_true (hall x h c hc)
          · rw [h] at hc; cases hc
    · cases Q with
      | nil => exact absurd rfl hn
      | cons a r => rw [show joinSl (a :: r) = 47 :: (a ++ joinSl r) by simp [joinSl]]; exact ⟨rfl, by simp⟩
/- the normal form of a row is a row -/
theorem enc_row (v : Nat) (h : v < 256) : rowR (encB v) = true ∧ (encB v).all (fun c => decide (c.toNat ≠ 63)) = true := by
  revert v
  decide +kernel
theorem norm_rowR (s : List UInt8) (h : rowR s = true) : rowR (normL s) = true := by
  refine normL.induct (motive := fun s => rowR s = true → rowR (normL s) = true) ?_ ?_ ?_ s h
  · intro c a b r hc ih hr
    rw [normL, if_pos hc]
    have hb : 16 * hexN a + hexN b < 256 := by have := hexN_lt hc.2.1; have := hexN_lt hc.2.2; omega
    refine rowR_app (enc_row _ hb).1 (ih ?_)
    exact rowR_tail [c, a, b] hr
  · intro c a b r hc ih hr
    rw [normL, if_neg hc]
    have hr' := rowR_tail [c] hr
    rw [rowR, ih hr']
    rw [rowR] at hr
    simp only [Bool.and_eq_true, Bool.or_eq_true, decide_eq_true_eq] at hr ⊢
    refine ⟨⟨hr.1.1, .inl fun e => ?_⟩, trivial⟩
    rcases hr.1.2 with h | h
    · exact h e
    · simp only [hex2, Bool.and_eq_true] at h
      exact hc ⟨UInt8.toNat_inj.1 e, h.1, h.2⟩
  · intro l hn hr
    match l with
    | [] => rfl
    | [a] => simpa [normL] using hr
    | [a, b] => simpa [normL] using hr
    | c :: a :: b :: r => exact (hn c a b r rfl).elim
theorem norm_63 (s : List UInt8) (h : s.all (fun c => decide (c.toNat ≠ 63)) = true) : (normL s).all (fun c => decide (c.toNat ≠ 63)) = true := by
  refine normL.induct (motive := fun s => s.all (fun c => decide (c.toNat ≠ 63)) = true → (normL s).all (fun c => decide (c.toNat ≠ 63)) = true) ?_ ?_ ?_ s h
  · intro c a b r hc ih hr
    rw [normL, if_pos hc, List.all_append]
    have hb : 16 * hexN a + hexN b < 256 := by have := hexN_lt hc.2.1; have := hexN_lt hc.2.2; omega
    rw [(enc_row _ hb).2, Bool.true_and]
    simp only [List.all_cons, Bool.and_eq_true] at hr
    exact ih hr.2.2.2
  · intro c a b r hc ih hr
    rw [normL, if_neg hc]
    rw [List.all_cons, Bool.and_eq_true] at hr
    rw [List.all_cons, hr.1, Bool.true_and]
    exact ih hr.2
  · intro l hn hr
    match l with
    | [] => rfl
    | [a] => simpa [normL] using hr
    | [a, b] => simpa [normL] using hr
    | c :: a :: b :: r => exact (hn c a b r rfl).elim
theorem norm_rowP {s : List UInt8} (h : rowP s = true) : rowP (normL s) = true := by
  rw [rowP_rowR, Bool.and_eq_true] at h ⊢
  exact ⟨norm_rowR s h.1, norm_63 s h.2⟩
theorem norm_head {s : List UInt8} (h : s = [] ∨ s.getD 0 0 = 47) : (s = [] ∧ normL s = []) ∨ (s ≠ [] ∧ normL s ≠ [] ∧ (normL s).getD 0 0 = 47) := by
  match s, h with
  | [], _ => exact .inl ⟨rfl, rfl⟩
  | [a], h => exact .inr ⟨by simp, by simp [normL], by simpa [normL] using h⟩
  | [a, b], h => exact .inr ⟨by simp, by simp [normL], by simpa [normL] using h⟩
  | c :: a :: b :: r, h =>
    have hc : c = 47 := by simpa using h
    subst hc
    rw [normL, if_neg (fun x => by have := x.1; revert this; decide)]
    exact .inr ⟨by simp, by simp, rfl⟩
theorem rb0_iff (s : List UInt8) : decide (rb0 s < 0) = rowR s := by
  rw [← rowQ_rowR, Bool.eq_iff_iff, decide_eq_true_eq]
  unfold rowQ
  rw [List.all_eq_true]
  constructor
  · intro h j hj
    refine Classical.byContradiction fun hc => ?_
    have hc : cell0 s j = false := by simpa using hc
    have := List.mem_range.1 hj
    obtain ⟨k, hk, h1, h2⟩ : ∃ k, k < s.length ∧ (∀ j, j < k → cell0 s j = true) ∧ cell0 s k = false := by
      have : ∀ n, n < s.length → cell0 s n = false → ∃ k, k < s.length ∧ (∀ j, j < k → cell0 s j = true) ∧ cell0 s k = false := by
        intro n
        induction n using Nat.strongRecOn with
        | _ n ih =>
          intro hn hf
          by_cases ha : ∀ j, j < n → cell0 s j = true
          · exact ⟨n, hn, ha, hf⟩
          · obtain ⟨j, hj⟩ := Classical.not_forall.1 ha
            obtain ⟨hj1, hj2⟩ := Classical.not_imp.1 hj
            exact ih j hj1 (by omega) (by simpa using hj2)
      exact this j (by omega) hc
    rw [rb0_at hk h1 h2] at h
    omega
  · intro h
    rw [rb0_no fun j hj => h j (List.mem_range.2 hj)]
    omega
/- addresses -/
def schOk (s : List UInt8) : Bool := lowL s == wHttp || lowL s == wHttps
def behL (a : Adr) : List UInt8 := a.pa ++ (if a.hq = true then 63 :: a.qu else []) ++ (if a.hf = true then 35 :: a.fr else [])
def wrL (a : Adr) : List UInt8 := a.sc ++ wSep ++ a.ho ++ (if a.po = [] then [] else 58 :: a.po) ++ behL a
def synA (a : Adr) : Bool := schOk a.sc && hostL a.ho && (a.po == [] || decide (portN a.po ≠ 0)) && (a.pa == [] || decide ((a.pa.getD 0 0).toNat = 47)) && rowP a.pa && rowR a.qu && rowR a.fr
def checkAdrL (a : Adr) : Int := if synA a = false then 10 else if (a.qu ≠ [] ∧ a.hq = false) ∨ (a.fr ≠ [] ∧ a.hf = false) then 3 else if 2000 < (wrL a).length then 2 else 0
def trimZ (s : List UInt8) : List UInt8 := s.dropWhile fun c => c == 48
def portA (a : Adr) : List UInt8 := if (lowL a.sc = wHttp ∧ trimZ a.po = [56, 48]) ∨ (lowL a.sc = wHttps ∧ trimZ a.po = [52, 52, 51]) then [] else trimZ a.po
def npL (a : Adr) : List UInt8 := if undotL (normL a.pa) = [] then [47] else undotL (normL a.pa)
def normA (a : Adr) : Adr := ⟨lowL a.sc, lowL a.ho, portA a, npL a, normL a.qu, a.hq, [], false⟩
/-- the path of an address -/
def pathL (a : Adr) : List UInt8 := npL a ++ (if a.hq = true then 63 :: normL a.qu else [])
theorem lowB_idem (c : UInt8) : lowB (lowB c) = lowB c := by
  have key : ∀ n, n < 256 → lowB (lowB (UInt8.ofNat n)) = lowB (UInt8.ofNat n) := by decide +kernel
  have := key c.toNat (UInt8.toNat_lt c)
  simpa using this
theorem lowL_len (s : List UInt8) : (lowL s).length = s.length := by simp [lowL]
theorem lowL_idem (s : List UInt8) : lowL (lowL s) = lowL s := by
  unfold lowL
  rw [List.map_map]
  congr 1
  funext c
  exact lowB_idem c
theorem low_lab (c : UInt8) : labB (lowB c) = labB c ∧ ((lowB c).toNat = 45 ↔ c.toNat = 45) ∧ (lowB c = 46 ↔ c = 46) := by
  have key : ∀ n, n < 256 → labB (lowB (UInt8.ofNat n)) = labB (UInt8.ofNat n) ∧ ((lowB (UInt8.ofNat n)).toNat = 45 ↔ (UInt8.ofNat n).toNat = 45) ∧ (lowB (UInt8.ofNat n) = 46 ↔ UInt8.ofNat n = 46) := by decide +kernel
  have := key c.toNat (UInt8.toNat_lt c)
  simpa using this
theorem spl_low : ∀ s : List UInt8, spl 46 (lowL s) = (spl 46 s).map lowL
  | [] => rfl
  | x :: t => by
    show spl 46 (lowB x :: lowL t) = _
    rw [spl, spl, spl_low t]
    by_cases h : x = 46
    · rw [if_pos ((low_lab x).2.2.2 h), if_pos h]; rfl
    · rw [if_neg (fun e => h ((low_lab x).2.2.1 e)), if_neg h, List.map_cons, List.map_tail]
      cases spl 46 t <;> rfl
theorem getD_low (s : List UInt8) (i : Nat) (h : i < s.length) : (lowL s).getD i 0 = lowB (s.getD i 0) := by
  unfold lowL
  rw [List.getD_eq_getElem?_getD, List.getElem?_map, List.getD_eq_getElem?_getD, List.getElem?_eq_getElem h]; rfl
theorem label_low (s : List UInt8) : labelL (lowL s) = labelL s := by
  unfold labelL
  rw [lowL_len]
  by_cases h : 1 ≤ s.length
  · rw [getD_low s 0 (by omega), getD_low s (s.length - 1) (by omega)]
    have e1 : decide ((lowB (s.getD 0 0)).toNat ≠ 45) = decide ((s.getD 0 0).toNat ≠ 45) := decide_eq_decide.2 (not_congr (low_lab _).2.1)
    have e2 : decide ((lowB (s.getD (s.length - 1) 0)).toNat ≠ 45) = decide ((s.getD (s.length - 1) 0).toNat ≠ 45) := decide_eq_decide.2 (not_congr (low_lab _).2.1)
    have e3 : (lowL s).all labB = s.all labB := by
      unfold lowL
      rw [List.all_map]
      congr 1
      funext c
      exact (low_lab c).1
    rw [e1, e2, e3]
  · rw [decide_eq_false h]; rfl
theorem host_low (s : List UInt8) : hostL (lowL s) = hostL s := by
  unfold hostL
  rw [lowL_len, splitL_eq, splitL_eq, spl_low, List.all_map]
  congr 2
  funext x
  exact label_low x
theorem portV_z (t : List UInt8) : portV (48 :: t) = portV t := rfl
theorem trimZ_len (s : List UInt8) : (trimZ s).length ≤ s.length := by
  induction s with
  | nil => simp [trimZ]
  | cons c t ih =>
    unfold trimZ at *
    rw [List.dropWhile_cons]
    split
    · simp only [List.length_cons]; omega
    · exact Nat.le_refl _
theorem trimZ_port {s : List UInt8} (h : portN s ≠ 0) : portN (trimZ s) ≠ 0 := by
  induction s with
  | nil => exact h
  | cons c t ih =>
    by_cases hc : c = 48
    · subst hc
      have e : trimZ (48 :: t) = trimZ t := by unfold trimZ; rw [List.dropWhile_cons, if_pos (by decide)]
      rw [e]
      refine ih ?_
      unfold portN at h ⊢
      rw [portV_z] at h
      split at h
      · rename_i hx
        have ht : t ≠ [] := fun e => by subst e; exact h rfl
        have := List.length_pos_iff.2 ht
        simp only [List.length_cons, List.all_cons, Bool.and_eq_true] at hx
        rw [if_pos ⟨by omega, by omega, hx.2.2.1.2, hx.2.2.2⟩]; exact h
      · exact absurd rfl h
    · have e : trimZ (c :: t) = c :: t := by unfold trimZ; rw [List.dropWhile_cons, if_neg (by simpa using hc)]
      rw [e]; exact h
/-- the normal form of a right address is right, or too long by the / of its empty path -/
theorem norm_right {a : Adr} (h : checkAdrL a = 0) : checkAdrL (normA a) = 0 ∨ (a.pa = [] ∧ checkAdrL (normA a) ≠ 0) := by
  by_cases hp : a.pa = []
  · by_cases h0 : checkAdrL (normA a) = 0
    · exact .inl h0
    · exact .inr ⟨hp, h0⟩
  left
  unfold checkAdrL at h
  split at h
  · cases h
  rename_i h1
  split at h
  · cases h
  rename_i h2
  split at h
  · cases h
  rename_i h3
  have h1 : synA a = true := by simpa using h1
  unfold synA at h1
  simp only [Bool.and_eq_true, Bool.or_eq_true, beq_iff_eq, decide_eq_true_eq] at h1
  obtain ⟨⟨⟨⟨⟨⟨s1, s2⟩, s3⟩, s4⟩, s5⟩, s6⟩, s7⟩ := h1
  have p47 : a.pa = [] ∨ a.pa.getD 0 0 = 47 := s4.imp id fun e => UInt8.toNat_inj.1 e
  obtain ⟨e, _⟩ | ⟨n1, n2, n3⟩ := norm_head p47
  · exact absurd e hp
  obtain ⟨u1, u2, u3, u4⟩ := undot_ok (norm_rowP s5) (.inr n3)
  obtain ⟨u5, u6⟩ := u3 n2
  have eN : npL a = undotL (normL a.pa) := by unfold npL; rw [if_neg u6]
  have lq := normL_len a.qu
  have lp := normL_len a.pa
  have lz := trimZ_len a.po
  have zz : (portA a).length ≤ (trimZ a.po).length := by unfold portA; split <;> simp
  have syn : synA (normA a) = true := by
    unfold synA normA
    simp only [Bool.and_eq_true, Bool.or_eq_true, beq_iff_eq, decide_eq_true_eq]
    refine ⟨⟨⟨⟨⟨⟨?_, by rw [host_low]; exact s2⟩, ?_⟩, .inr (by rw [eN, u5]; rfl)⟩, by rw [eN]; exact u1⟩, norm_rowR _ s6⟩, rfl⟩
    · unfold schOk at s1 ⊢
      rw [lowL_idem]; exact s1
    · unfold portA
      split
      · exact .inl rfl
      · rcases s3 with s3 | s3
        · left; rw [s3]; rfl
        · exact .inr (trimZ_port s3)
  have hq : ¬ ((normA a).qu ≠ [] ∧ (normA a).hq = false ∨ (normA a).fr ≠ [] ∧ (normA a).hf = false) := by
    rintro (x | x)
    · refine h2 (.inl ⟨fun e => x.1 ?_, x.2⟩)
      show normL a.qu = []
      rw [e]; rfl
    · exact x.1 rfl
  unfold checkAdrL
  rw [if_neg (by rw [syn]; simp), if_neg hq, if_neg]
  have w1 : (wrL (normA a)).length ≤ (wrL a).length := by
    unfold wrL behL normA
    simp only [List.length_append, lowL_len, eN]
    have q : (if a.hq = true then 63 :: normL a.qu else []).length ≤ (if a.hq = true then 63 :: a.qu else []).length := by split <;> simp <;> omega
    have p : (if portA a = [] then [] else 58 :: portA a).length ≤ (if a.po = [] then [] else 58 :: a.po).length := by
      by_cases e : a.po = []
      · have : portA a = [] := List.length_eq_zero_iff.1 (by have h0 : (trimZ a.po).length = 0 := (by rw [e]; rfl); omega)
        rw [if_pos this]; simp
      · rw [if_neg e]
        split
        · simp
        · simp only [List.length_cons] at zz lz ⊢; omega
    simp only [Bool.false_eq_true, if_false, List.length_nil]
    omega
  omega
/-- what the program makes of it -/
theorem path_same {a : Adr} (h : checkAdrL a = 0) (n : Adr) (hn : n = if checkAdrL (normA a) = 0 then normA a else ⟨[], [], [], [47], normL a.qu, a.hq, [], false⟩) : n.pa ++ (if n.hq = true then 63 :: n.qu else []) = pathL a := by
  rcases norm_right h with e | ⟨e1, e2⟩
  · rw [hn, if_pos e]; rfl
  · rw [hn, if_neg e2]
    show [47] ++ _ = npL a ++ _
    have : npL a = [47] := by unfold npL; rw [e1]; rfl
    rw [this]

def ckAtoi : Ck
  | [.str s] => some (1 ≤ s.length ∧ s.length ≤ 18 ∧ s.all isDg = true, .tup [.int .i64 (natOf s), .any])
  | _ => none
attribute [push_cast] ckAtoi

def ckRowBad0 : Ck
  | [.str s, .int .u8 c] => some (c = 0 ∧ s.length ≤ 4611686018427387900, .int .i64 (rb0 s))
  | _ => none
theorem row_not0 (c : UInt8) (h : rowB c = true) : ¬ (c.toNat : Int) = 0 := by
  intro e
  have : c = 0 := UInt8.toNat_inj.1 (show c.toNat = 0 by omega)
  rw [this] at h
  revert h; decide
attribute [push_cast] ckRowBad0
def ckIsRow1 : Ck
  | [.str s] => some (s.length ≤ 4611686018427387900, .bool (rowR s))
  | _ => none
attribute [push_cast] ckIsRow1
def ckPassed : Ck
  | [.str s, .str w, .int .i64 a] => some (s.length ≤ 2000 ∧ 0 ≤ a ∧ a ≤ 1000 ∧ w.length ≤ 100, .int .i64 (pasL s w a.toNat))
  | _ => none
attribute [push_cast] ckPassed
def stB (p z : Int) : Int := if z < 0 then p else z
def ckStop1K : List V → List Blk → Option (Prop × V × List Blk)
  | [.ptr _ 0, .int .i64 p], [.cells [.str s, .int .i64 a, .int .i64 z]] => some (True, .tup [], [.cells [.str s, .int .i64 a, .int .i64 (stB p z)]])
  | _, _ => none
def ckStop1 : Cf := ⟨fun | [.ptr i _, _] => [i] | _ => [], ckStop1K⟩
@[push_cast] theorem stop1_ids (i o : Nat) (x : V) : ckStop1.ids [.ptr i o, x] = [i] := rfl
@[push_cast] theorem stop1_k (i : Nat) (s : List UInt8) (p a z : Int) : ckStop1.k [.ptr i 0, .int .i64 p] [.cells [.str s, .int .i64 a, .int .i64 z]] = some (True, .tup [], [.cells [.str s, .int .i64 a, .int .i64 (stB p z)]]) := rfl
def ckUntilK : List V → List Blk → Option (Prop × V × List Blk)
  | [.ptr _ 0, .str w], [.cells [.str s, .int .i64 a, .int .i64 z]] => some (s.length ≤ 2000 ∧ 0 ≤ a ∧ a ≤ s.length, .str (cutS s a.toNat (utN s a.toNat w)), [.cells [.str s, .int .i64 (a + utN s a.toNat w), .int .i64 z]])
  | _, _ => none
def ckUntil : Cf := ⟨fun | [.ptr i _, _] => [i] | _ => [], ckUntilK⟩
@[push_cast] theorem until_ids (i o : Nat) (x : V) : ckUntil.ids [.ptr i o, x] = [i] := rfl
@[push_cast] theorem until_k (i : Nat) (s w : List UInt8) (a z : Int) : ckUntil.k [.ptr i 0, .str w] [.cells [.str s, .int .i64 a, .int .i64 z]] = some (s.length ≤ 2000 ∧ 0 ≤ a ∧ a ≤ s.length, .str (cutS s a.toNat (utN s a.toNat w)), [.cells [.str s, .int .i64 (a + utN s a.toNat w), .int .i64 z]]) := rfl
def rwZ (s : List UInt8) (a : Nat) (w : List UInt8) (z : Int) : Int := if 0 ≤ rb0 (cutS s a (utN s a w)) ∧ z < 0 then a + rb0 (cutS s a (utN s a w)) else z
def ckRow1K : List V → List Blk → Option (Prop × V × List Blk)
  | [.ptr _ 0, .str w], [.cells [.str s, .int .i64 a, .int .i64 z]] => some (s.length ≤ 2000 ∧ 0 ≤ a ∧ a ≤ s.length, .str (cutS s a.toNat (utN s a.toNat w)), [.cells [.str s, .int .i64 (a + utN s a.toNat w), .int .i64 (rwZ s a.toNat w z)]])
  | _, _ => none
def ckRow1 : Cf := ⟨fun | [.ptr i _, _] => [i] | _ => [], ckRow1K⟩
@[push_cast] theorem row1_ids (i o : Nat) (x : V) : ckRow1.ids [.ptr i o, x] = [i] := rfl
@[push_cast] theorem row1_k (i : Nat) (s w : List UInt8) (a z : Int) : ckRow1.k [.ptr i 0, .str w] [.cells [.str s, .int .i64 a, .int .i64 z]] = some (s.length ≤ 2000 ∧ 0 ≤ a ∧ a ≤ s.length, .str (cutS s a.toNat (utN s a.toNat w)), [.cells [.str s, .int .i64 (a + utN s a.toNat w), .int .i64 (rwZ s a.toNat w z)]]) := rfl
def whN (s : List UInt8) (a : Nat) (p : Bool) : Nat := bif p then poN s a else hoN s a
def ckWholeK : List V → List Blk → Option (Prop × V × List Blk)
  | [.ptr _ 0, .bool p], [.cells [.str s, .int .i64 a, .int .i64 z]] => some (s.length ≤ 2000 ∧ 0 ≤ a ∧ a ≤ s.length, .str (cutS s a.toNat (whN s a.toNat p)), [.cells [.str s, .int .i64 (a + whN s a.toNat p), .int .i64 z]])
  | _, _ => none
def ckWhole : Cf := ⟨fun | [.ptr i _, _] => [i] | _ => [], ckWholeK⟩
@[push_cast] theorem whole_ids (i o : Nat) (x : V) : ckWhole.ids [.ptr i o, x] = [i] := rfl
@[push_cast] theorem whole_k (i : Nat) (s : List UInt8) (p : Bool) (a z : Int) : ckWhole.k [.ptr i 0, .bool p] [.cells [.str s, .int .i64 a, .int .i64 z]] = some (s.length ≤ 2000 ∧ 0 ≤ a ∧ a ≤ s.length, .str (cutS s a.toNat (whN s a.toNat p)), [.cells [.str s, .int .i64 (a + whN s a.toNat p), .int .i64 z]]) := rfl
def ckSch1K : List V → List Blk → Option (Prop × V × List Blk)
  | [.ptr _ 0], [.cells [.str s, .int .i64 0, .int .i64 (-1)]] => some (s.length ≤ 2000, .str (if sch2K s < 0 then s.take (sch2N s) else []), [.cells [.str s, .int .i64 (if sch2K s < 0 then ((sch2N s : Int) + 3) else 0), .int .i64 (if sch2K s < 0 then -1 else sch2K s)]])
  | _, _ => none
def ckSch1 : Cf := ⟨fun | [.ptr i _] => [i] | _ => [], ckSch1K⟩
@[push_cast] theorem sch1_ids (i o : Nat) : ckSch1.ids [.ptr i o] = [i] := rfl
@[push_cast] theorem sch1_k (i : Nat) (s : List UInt8) : ckSch1.k [.ptr i 0] [.cells [.str s, .int .i64 0, .int .i64 (-1)]] = some (s.length ≤ 2000, .str (if sch2K s < 0 then s.take (sch2N s) else []), [.cells [.str s, .int .i64 (if sch2K s < 0 then ((sch2N s : Int) + 3) else 0), .int .i64 (if sch2K s < 0 then -1 else sch2K s)]]) := rfl
def ckIsPort1 : Ck
  | [.str s] => some (s.length ≤ 4611686018427387900, .bool (decide (portN s ≠ 0)))
  | _ => none
attribute [push_cast] ckIsPort1
/-- where a row of the reference's ends -/
theorem row_ref {s w : List UInt8} (hw : okStop w) (a : Nat) : (0 ≤ rb0 (cutS s a (utN s a w)) → rdRow s a w = ((rb0 (cutS s a (utN s a w))).toNat, false)) ∧ (rb0 (cutS s a (utN s a w)) < 0 → rdRow s a w = (utN s a w, true)) := by
  rw [row_same hw]
  exact ⟨fun h => by rw [if_neg (by omega)], fun h => by rw [if_pos h]⟩
def ckRead01 : Ck
  | [.str s] => some (s.length ≤ 2000, .tup [cAdr.enc (readA s).1, .int .i64 (if (readA s).2.2 = 0 then -1 else (readA s).2.1)])
  | _ => none
theorem ut_stop {s w : List UInt8} {a : Nat} (h : a + utN s a w < s.length) : 0 ≤ Lib.indexByte w (s.getD (a + utN s a w) 0) := by
  have := runN_out (p := stopB w) (s := s.drop a) (by rw [List.length_drop]; unfold utN at h; omega)
  have e : (s.drop a).getD (runN (stopB w) (s.drop a)) 0 = s.getD (a + utN s a w) 0 := by rw [List.getD_eq_getElem?_getD, List.getD_eq_getElem?_getD, List.getElem?_drop]; rfl
  rw [e] at this
  unfold stopB at this
  rw [decide_eq_false_iff_not] at this
  omega
theorem idx_two (d e c : UInt8) : 0 ≤ Lib.indexByte [d, e] c → c = d ∨ c = e := by
  intro h
  by_cases h1 : c = d
  · exact .inl h1
  · refine .inr ?_
    have e1 : Lib.indexByte [d, e] c = if d == c then 0 else (if Lib.indexByte [e] c == -1 then -1 else Lib.indexByte [e] c + 1) := by
      simp only [Lib.indexByte]
    rw [e1, if_neg (by simpa using fun x => h1 x.symm)] at h
    have := idx_one e c
    split at h
    · omega
    · rename_i hx
      have hb : Lib.indexByte [e] c = if e == c then 0 else -1 := rfl
      by_cases h2 : e = c
      · exact h2.symm
      · rw [hb, if_neg (by simpa using h2)] at hx
        exact absurd hx (by decide)
attribute [push_cast] ckRead01
theorem readA_cases {s : List UInt8} (h : s.length ≤ 2000) : ((readA s).2.1 = 0 ∧ (readA s).2.2 = 0) ∨ ((readA s).1 = noAdr ∧ (readA s).2.2 = 10 ∧ 0 ≤ (readA s).2.1) := by
  unfold readA
  rw [if_neg (by omega)]
  split
  · exact .inr ⟨rfl, rfl, Int.natCast_nonneg _⟩
  · split
    · exact .inr ⟨rfl, rfl, Int.natCast_nonneg _⟩
    · split
      · exact .inr ⟨rfl, rfl, Int.natCast_nonneg _⟩
      · exact .inl ⟨rfl, rfl⟩
end Go.Abs
