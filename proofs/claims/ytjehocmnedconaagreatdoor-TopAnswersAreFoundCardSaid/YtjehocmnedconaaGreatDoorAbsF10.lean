/- what functions of this program compute: contracts, each a function's own -/
import Derived.Test.YtjehocmnedconaaGreatDoorAbsK3
import Derived.Test.YtjehocmnedconaaGreatDoorAbsFacts
import Derived.Test.YtjehocmnedconaaGreatDoorAbsF9
import Derived.Test.YtjehocmnedconaaGreatDoorAbsShelf
import Derived.Lib.SlTrimSet
import Derived.Lib.Atoi
import Derived.Lib.Itoa
import Derived.Lib.ItoaNum
import Derived.Lib.AtoiErrMem
import Derived.Lib.Repeat
import Derived.Lib.ItoaLen
import Derived.Lib.SplitLaws
import Derived.Lib.Join
import Derived.Lib.Index
import Derived.Lib.IndexBytes
import Derived.Lib.Fold
import Derived.Lib.Walk
import Derived.WalkKit
import Derived.ScopeJumps
import Derived.Deep.LoopGhost
import Derived.Laws.RangeAny
import Derived.Lib.BitFns
import Derived.Lib.TrailingZeros
import Derived.Sort.Walk0
namespace Go.Abs
open Go Go.Proofs
set_option maxHeartbeats 4000000
set_option maxRecDepth 100000
set_option linter.unusedVariables false
set_option linter.unusedSimpArgs false
def marksL : Nat → List Rcd → List Mk
  | _, [] => []
  | a, r :: t => ⟨r.id, a, ((a + (recB r).length : Nat) : Int)⟩ :: marksL (a + (recB r).length) t
theorem recB_pos (r : Rcd) : 4 ≤ (recB r).length := by
  unfold recB
  simp only [List.length_append, List.length_cons, List.length_nil]
  omega
theorem rf_back {B : List UInt8} : ∀ (k a : Nat) (l t : List Rcd) (m : List Mk), a ≤ B.length → B.drop a = fileB t → (∀ r ∈ t, checkRecL r = 0) → checkFileL (l ++ t) = 0 → t.length < k → rfGo B k a l m = (l ++ t, m ++ marksL a t, 0, 0)
  | k + 1, a, l, [], m, ha, hd, hc, hf, hk => by
    have : B.length ≤ a := by simpa [fileB] using hd
    rw [List.append_nil] at hf
    rw [rfGo, if_neg (by omega), if_pos hf]
    simp [marksL]
  | k + 1, a, l, r :: t, m, ha, hd, hc, hf, hk => by
    have h1 := hc r (by simp)
    have hb := rd_back h1 ha (q := fileB t) (by rw [hd, fileB])
    have hl := congrArg List.length hd
    simp only [fileB, List.length_append, List.length_drop] at hl
    have hp := recB_pos r
    rw [rfGo, if_pos (by omega), hb]
    dsimp only
    rw [if_pos rfl, Int.toNat_natCast]
    have hd2 : B.drop (a + (recB r).length) = fileB t := by rw [← List.drop_drop, hd, fileB, List.drop_left]
    rw [rf_back k (a + (recB r).length) (l ++ [r]) t _ (by omega) hd2 (fun x hx => hc x (by simp [hx])) (by simpa using hf) (by simp at hk; omega)]
    simp [marksL]
theorem fileB_ge : ∀ (l : List Rcd), l.length ≤ (fileB l).length
  | [] => Nat.le_refl _
  | r :: t => by
    have := fileB_ge t
    have := recB_pos r
    simp only [fileB, List.length_append, List.length_cons]
    omega
theorem file_back {l : List Rcd} (h : checkFileL l = 0) : readFileL (fileB l) = (l, marksL 0 l, 0, 0) := by
  obtain ⟨a1, a2, a3⟩ := file_ok h
  have := fileB_ge l
  unfold readFileL
  rw [if_neg (by omega), rf_back ((fileB l).length + 1) 0 [] l [] (Nat.zero_le _) rfl a1 (by simpa using h) (by omega)]
  simp
def slOf : V → List UInt8
  | .sl n f => bytesOf n f
  | _ => []
def cBy : Cod (List UInt8) := ⟨fun s => .sl s.length (byF s), slOf, [], fun s => bytesOf_by s⟩
@[push_cast] theorem lsF_by (l : List (List UInt8)) (i : Nat) : lsF cBy l i = .sl (l.getD i []).length (byF (l.getD i [])) := rfl
def ckFold : Ck
  | [.str s, .str t] => some (s.length < 4294967281 ∧ asciiC s = true ∧ asciiC t = true, .bool (Lib.equalFold s t))
  | _ => none
theorem conFold : Con pg 19 ckFold := by
  intro args q r h hq
  unfold ckFold at h
  split at h
  · cases h
    rename_i s t
    exact pcall_shelf (by kernel_rfl) rfl fun w hw => (Tryz.strings_EqualFold ⟨s.toArray⟩ ⟨t.toArray⟩ w (by show s.toArray.size < _; simpa using hq.1) (asciiC_at hq.2.1) (asciiC_at hq.2.2)).mono fun e w' h => shelf_bool h.1 (grow_eq h.2)
  · cases h
attribute [push_cast] ckFold
theorem fold_low : ∀ (s t : List UInt8), lowL t = t → (Lib.equalFold s t = (lowL s == t))
  | [], [], _ => rfl
  | [], _ :: _, _ => rfl
  | x :: s, [], _ => rfl
  | x :: s, y :: t, h => by
    have h1 : lowB y = y := (List.cons.inj h).1
    have h2 : lowL t = t := (List.cons.inj h).2
    have ih := fold_low s t h2
    have e : Lib.foldEq x y = (lowB x == y) := by
      have key : ∀ a, a < 256 → ∀ b, b < 256 → lowB (UInt8.ofNat b) = UInt8.ofNat b → Lib.foldEq (UInt8.ofNat a) (UInt8.ofNat b) = (lowB (UInt8.ofNat a) == UInt8.ofNat b) := by
        intro a ha b hb hl
        rw [Bool.eq_iff_iff, beq_iff_eq]
        unfold Lib.foldEq
        rw [decide_eq_true_eq]
        have ea : (UInt8.ofNat a).toNat = a := by rw [UInt8.toNat_ofNat']; omega
        have eb : (UInt8.ofNat b).toNat = b := by rw [UInt8.toNat_ofNat']; omega
        have hb2 : ¬ (65 ≤ b ∧ b ≤ 90) := by
          intro hh
          unfold lowB at hl
          rw [eb, if_pos (by omega)] at hl
          have := congrArg UInt8.toNat hl
          rw [eb, UInt8.toNat_ofNat'] at this
          omega
        rw [ea, eb]
        unfold lowB
        rw [ea]
        constructor
        · intro hh
          by_cases hc : 65 ≤ a ∧ a ≤ 90
          · rw [if_pos hc]
            congr 1
            omega
          · rw [if_neg hc]
            congr 1
            omega
        · intro hh
          have := congrArg UInt8.toNat hh
          by_cases hc : 65 ≤ a ∧ a ≤ 90
          · rw [if_pos hc, eb, UInt8.toNat_ofNat'] at this; omega
          · rw [if_neg hc, ea, eb] at this; omega
      have := key x.toNat (UInt8.toNat_lt x) y.toNat (UInt8.toNat_lt y) (by simpa using h1)
      simpa using this
    show (Lib.foldEq x y && Lib.equalFold s t) = (lowB x :: lowL s == y :: t)
    rw [ih, e]; rfl
def namesA (l : List Hd) : Prop := ∀ h ∈ l, asciiC h.name = true ∧ h.name.length ≤ 1000000
def recsA (l : List Rcd) : Prop := ∀ r ∈ l, namesA r.hd ∧ r.hd.length ≤ 1000000
theorem hdGo_mem : ∀ {l : List Hd}, headsGo l = 0 → ∀ h ∈ l, tokL h.name = true ∧ valueL h.value = true
  | [], _, h, hh => by cases hh
  | x :: t, e, h, hh => by
    simp only [headsGo] at e
    split at e
    · rename_i h1
      split at e
      · rename_i h2
        rcases List.mem_cons.1 hh with rfl | hh
        · exact ⟨h1, h2⟩
        · exact hdGo_mem e h hh
      · omega
    · omega
theorem hd_mem {l : List Hd} (e : checkHeadsL l = 0) : ∀ h ∈ l, tokL h.name = true ∧ valueL h.value = true := by
  unfold checkHeadsL at e
  split at e
  · omega
  · exact hdGo_mem e
theorem tokB_ascii {c : UInt8} (h : tokB c = true) : c.toNat < 128 := by
  have key : ∀ n, n < 256 → tokB (UInt8.ofNat n) = true → n < 128 := by decide +kernel
  exact key c.toNat (UInt8.toNat_lt c) (by simpa using h)
theorem recs_a {l : List Rcd} (h : ∀ r ∈ l, checkRecL r = 0) : recsA l := by
  intro r hr
  obtain ⟨-, -, -, -, -, -, -, h30, hh, -⟩ := rec_ok (h r hr)
  refine ⟨fun x hx => ?_, by omega⟩
  have ht := (hd_mem hh x hx).1
  unfold tokL at ht
  simp only [Bool.and_eq_true, decide_eq_true_eq, List.all_eq_true] at ht
  refine ⟨?_, by omega⟩
  unfold asciiC
  rw [List.all_eq_true]
  intro c hc
  exact decide_eq_true (tokB_ascii (ht.2 c hc))
def pieBA : ByteArray := ⟨wPieces.toArray⟩
theorem pie_low : LowT pieBA := by
  refine ⟨by decide, fun j hj => ?_⟩
  have hj : j < 6 := hj
  match j, hj with
  | 0, _ => exact (by decide : (112 : UInt8) ∈ ([112, 105, 101, 99, 115] : List UInt8))
  | 1, _ => exact (by decide : (105 : UInt8) ∈ ([112, 105, 101, 99, 115] : List UInt8))
  | 2, _ => exact (by decide : (101 : UInt8) ∈ ([112, 105, 101, 99, 115] : List UInt8))
  | 3, _ => exact (by decide : (99 : UInt8) ∈ ([112, 105, 101, 99, 115] : List UInt8))
  | 4, _ => exact (by decide : (101 : UInt8) ∈ ([112, 105, 101, 99, 115] : List UInt8))
  | 5, _ => exact (by decide : (115 : UInt8) ∈ ([112, 105, 101, 99, 115] : List UInt8))
theorem fold_cell {w : World} (hw : pg.ok w) (i : Nat) (v : Int) (hi : i < foldZ.length) (h : foldZ.getD i 0 = v) : w.cell? ⟨0, i, none⟩ = some (.int .u16 v) := by
  subst h
  exact (tabFold hw).cell (g := 0) (by kernel_rfl) i hi
def foldP (s : List UInt8) : Bool := efB ⟨s.toArray⟩ pieBA (min (ByteArray.mk s.toArray).size pieBA.size) 0
theorem ef_calls (s : List UInt8) (w : World) (hw : pg.ok w) : Calls Tryz.prog 19 #[.string ⟨s.toArray⟩, .string pieBA] w fun e w' => e = .returned (.bool (foldP s)) ∧ World.grow w w' := by
  obtain ⟨b, off, cap, o1, o2, o3, o4⟩ := orbAt hw
  refine ef_any ⟨s.toArray⟩ pieBA w pie_low (fun x hx => ?_) (fold_cell hw 115 383 (by decide +kernel) (by decide +kernel)) (fold_cell hw 83 115 (by decide +kernel) (by decide +kernel)) fun S p => ?_
  · simp only [List.mem_cons, List.not_mem_nil, or_false] at hx
    rcases hx with rfl | rfl | rfl | rfl
    · exact ⟨80, by decide, by decide, fold_cell hw 112 80 (by decide +kernel) (by decide +kernel), fold_cell hw 80 112 (by decide +kernel) (by decide +kernel)⟩
    · exact ⟨73, by decide, by decide, fold_cell hw 105 73 (by decide +kernel) (by decide +kernel), fold_cell hw 73 105 (by decide +kernel) (by decide +kernel)⟩
    · exact ⟨69, by decide, by decide, fold_cell hw 101 69 (by decide +kernel) (by decide +kernel), fold_cell hw 69 101 (by decide +kernel) (by decide +kernel)⟩
    · exact ⟨67, by decide, by decide, fold_cell hw 99 67 (by decide +kernel) (by decide +kernel), fold_cell hw 67 99 (by decide +kernel) (by decide +kernel)⟩
  · refine sf_orb (fun i => orbN i 0) b off cap (w.iter S p) (iter_cell o1) o2 (fun i hi => iter_cell (o4 i 0 hi (by decide))) (iter_cell ?_) (by decide +kernel) (by decide +kernel)
    have := o4 10 1 (by decide) (by decide)
    rw [show orbN 10 1 = 83 by decide +kernel] at this
    exact this
def foldG (s : List UInt8) : Bool := if s.length < 4294967281 ∧ asciiC s = true then (lowL s == wPieces) else foldP s
def ckFoldG : Ck
  | [.str s, .str t] => some (t = wPieces, .bool (foldG s))
  | _ => none
theorem conFoldG : Con pg 19 ckFoldG := by
  intro args q r h hq
  unfold ckFoldG at h
  split at h
  · cases h
    rename_i s t
    obtain rfl := hq
    by_cases hs : s.length < 4294967281 ∧ asciiC s = true
    · have e : foldG s = Lib.equalFold s wPieces := by unfold foldG; rw [if_pos hs, fold_low _ wPieces rfl]
      rw [e]
      exact conFold _ _ _ rfl ⟨hs.1, hs.2, by decide⟩
    · have e : foldG s = foldP s := by unfold foldG; rw [if_neg hs]
      rw [e]
      exact pcall_shelf (by kernel_rfl) rfl fun w hw => (ef_calls s w hw).mono fun e w' h => shelf_bool h.1 h.2
  · cases h
attribute [push_cast] ckFoldG
def ckHasPieG : Ck
  | [.agg [.int .i64 ki, .str id, .str ow, .int .i64 ti, .str ke, .sl n f, .sl m g]] => some (isLs cHd n f ∧ n ≤ 140737488355328, .bool ((lsOf cHd n f).any fun h => foldG h.name))
  | _ => none
theorem conHasPieG : Con pg 6 ckHasPieG := by
  have hct := (ctA_ok conFoldG (ctN_ok _))
  intro args q r h hq
  unfold ckHasPieG at h
  split at h
  · cases h
    rename_i ki id ow ti ke n f m g
    refine pcall_args (args' := [.agg [.int .i64 ki, .str id, .str ow, .int .i64 ti, .str ke, .sl (lsOf cHd n f).length (lsF cHd (lsOf cHd n f)), .sl m g]]) ⟨VLe.agg ⟨VLe.refl _, VLe.refl _, VLe.refl _, VLe.refl _, VLe.refl _, isLs.vle hq.1, VLe.refl _, trivial⟩, trivial⟩ ?_
    obtain ⟨-, hn⟩ := hq
    rw [← lsOf_len (c := cHd) n f] at hn
    generalize lsOf cHd n f = l at hn ⊢
    refine w6 (fun _ => false) [] rfl hct rfl rfl ?_
    push_cast (config := { maxSteps := 10000000 })
    refine LoopW.adj ⟨hct, fol⟩ (by kernel_rfl) [] (fun i : Nat => [(6, .sl l.length (lsF cHd l)), (7, .int .i64 l.length), (8, .int .i64 i)]) (fun _ => []) (fun i => i ≤ l.length ∧ (l.any fun h => foldG h.name) = ((l.drop i).any fun h => foldG h.name)) (fun i => l.length - i) 0 ?_ fun i hi => ?_
    · push_cast (config := { maxSteps := 10000000 })
      exact Nat.zero_le _
    · obtain ⟨i1, i2⟩ := hi
      push_cast (config := { maxSteps := 10000000 })
      rw [show ([112, 105, 101, 99, 101, 115] : List UInt8) = wPieces from rfl]
      refine ⟨fun h => ?_, fun h => ?_⟩
      · rw [dropG (d := ⟨[], []⟩) h, List.any_cons] at i2
        refine ⟨h, rfl, fun g => ?_, fun g => ⟨by omega, i + 1, ⟨by omega, ?_⟩, by omega, by omega⟩⟩
        · rw [i2, g]; rfl
        · rw [g, Bool.false_or] at i2
          exact i2
      · rw [i2, List.drop_eq_nil_of_le (by omega)]; rfl
  · cases h
attribute [push_cast] ckHasPieG
theorem noPie {l : List Hd} (ha : namesA l) (h : (l.any fun h => foldG h.name) = false) : fstH l wPieces < 0 := by
  refine Classical.byContradiction fun hn => ?_
  have hp := (fstH_any l wPieces).1 (by omega)
  obtain ⟨x, hx, he⟩ := List.any_eq_true.1 hp
  have := List.any_eq_false.1 h x hx
  refine this ?_
  obtain ⟨h1, h2⟩ := ha x hx
  unfold foldG
  rw [if_pos ⟨by omega, h1⟩]
  exact he
def checkAnsL (a : Ans) (fr ch : Int) : Int := if checkTopL a.st a.re a.hd = 0 then (if 200000 < a.bd.length then 2 else if fr < 1 ∨ 4 < fr then 4 else if fr = 3 ∧ (ch < 1 ∨ 65536 < ch) ∨ ¬ fr = 3 ∧ ¬ ch = 0 then 1 else if (¬ fr = frameL a.st a.hd ∨ fr = 1 ∧ ¬ a.bd.length = 0) ∨ fr = 2 ∧ ¬ valuesL a.hd wLen = [Lib.itoa a.bd.length] then 12 else 0) else checkTopL a.st a.re a.hd
theorem frame_2 {st : Int} {l : List Hd} (h : frameL st l = 2) : (lengthL l).2 = true := by
  unfold frameL at h
  repeat' split at h
  all_goals first | omega | assumption
theorem caT {a : Ans} {fr ch : Int} (h : ¬ checkTopL a.st a.re a.hd = 0) : checkAnsL a fr ch = checkTopL a.st a.re a.hd := by unfold checkAnsL; rw [if_neg h]
theorem caL {a : Ans} {fr ch : Int} (h0 : checkTopL a.st a.re a.hd = 0) (h : 200000 < a.bd.length) : checkAnsL a fr ch = 2 := by unfold checkAnsL; rw [if_pos h0, if_pos h]
theorem caK {a : Ans} {fr ch : Int} (h0 : checkTopL a.st a.re a.hd = 0) (h1 : ¬ 200000 < a.bd.length) (h : fr < 1 ∨ 4 < fr) : checkAnsL a fr ch = 4 := by unfold checkAnsL; rw [if_pos h0, if_neg h1, if_pos h]
theorem caR {a : Ans} {fr ch : Int} (h0 : checkTopL a.st a.re a.hd = 0) (h1 : ¬ 200000 < a.bd.length) (h2 : ¬ (fr < 1 ∨ 4 < fr)) (h : fr = 3 ∧ (ch < 1 ∨ 65536 < ch) ∨ ¬ fr = 3 ∧ ¬ ch = 0) : checkAnsL a fr ch = 1 := by unfold checkAnsL; rw [if_pos h0, if_neg h1, if_neg h2, if_pos h]
theorem caC {a : Ans} {fr ch : Int} (h0 : checkTopL a.st a.re a.hd = 0) (h1 : ¬ 200000 < a.bd.length) (h2 : ¬ (fr < 1 ∨ 4 < fr)) (h3 : ¬ (fr = 3 ∧ (ch < 1 ∨ 65536 < ch) ∨ ¬ fr = 3 ∧ ¬ ch = 0)) (h : (¬ fr = frameL a.st a.hd ∨ fr = 1 ∧ ¬ a.bd.length = 0) ∨ fr = 2 ∧ ¬ valuesL a.hd wLen = [Lib.itoa a.bd.length]) : checkAnsL a fr ch = 12 := by unfold checkAnsL; rw [if_pos h0, if_neg h1, if_neg h2, if_neg h3, if_pos h]
theorem caO {a : Ans} {fr ch : Int} (h0 : checkTopL a.st a.re a.hd = 0) (h1 : ¬ 200000 < a.bd.length) (h2 : ¬ (fr < 1 ∨ 4 < fr)) (h3 : ¬ (fr = 3 ∧ (ch < 1 ∨ 65536 < ch) ∨ ¬ fr = 3 ∧ ¬ ch = 0)) (h : ¬ ((¬ fr = frameL a.st a.hd ∨ fr = 1 ∧ ¬ a.bd.length = 0) ∨ fr = 2 ∧ ¬ valuesL a.hd wLen = [Lib.itoa a.bd.length])) : checkAnsL a fr ch = 0 := by unfold checkAnsL; rw [if_pos h0, if_neg h1, if_neg h2, if_neg h3, if_neg h]
theorem top_heads {a : Ans} (h : checkTopL a.st a.re a.hd = 0) : checkHeadsL a.hd = 0 ∧ a.re.length ≤ 1000 ∧ 100 ≤ a.st ∧ a.st ≤ 599 ∧ valueL a.re = true := by
  unfold checkTopL at h
  split at h
  · omega
  · split at h
    · rename_i h2
      exact ⟨h, value_1000 h2, by omega, by omega, h2⟩
    · omega
def ckCheckAns : Ck
  | [x, .int .i64 fr, .int .i64 ch] => some (isC cAns x ∧ ansOk (cAns.dec x), .int .i64 (checkAnsL (cAns.dec x) fr ch))
  | _ => none
theorem conCheckAns : Con pg 13 ckCheckAns := by
  have hct := (ctA_ok conCheckTop (ctA_ok conFrame (ctA_ok conLength (ctN_ok _))))
  intro args q r h hq
  unfold ckCheckAns at h
  split at h
  · cases h
    rename_i x fr ch
    refine pcall_args (args' := [cAns.enc (cAns.dec x), .int .i64 fr, .int .i64 ch]) ⟨hq.1, VLe.refl _, VLe.refl _, trivial⟩ ?_
    obtain ⟨-, ha⟩ := hq
    generalize cAns.dec x = a at ha ⊢
    refine w13 (fun _ => false) [] rfl hct rfl rfl ?_
    push_cast (config := { maxSteps := 10000000 })
    refine ⟨⟨ha.1, ha.2.1⟩, fun h => (caT h).symm, fun h0 => ?_⟩
    have hn := heads_100 (top_heads h0).1
    have H : hdsOk a.hd ∧ a.hd.length ≤ 1000000 := ⟨ha.1, by omega⟩
    refine ⟨fun h => (caL h0 (by omega)).symm, fun h1 => ⟨fun h => (caK h0 (by omega) h).symm, fun h2 => ⟨fun h => ⟨h, fun h' => ⟨h, h'⟩⟩, fun h => ⟨h, fun h' => ⟨h, h'⟩⟩, fun h => (caR h0 (by omega) (by omega) h).symm, fun h3 => ?_⟩⟩⟩
    have e := lenV_eq (l := valuesL a.hd wLen) (n := a.bd.length) (by omega)
    have h3' : ¬ (fr = 3 ∧ (ch < 1 ∨ 65536 < ch) ∨ ¬ fr = 3 ∧ ¬ ch = 0) := by
      rintro (⟨a1, a2⟩ | ⟨a1, a2⟩)
      · have := h3.1 a1; omega
      · exact a2 (h3.2 a1)
    have hlen : fr = frameL a.st a.hd → fr = 2 → ((lengthL a.hd).1 = a.bd.length ↔ valuesL a.hd wLen = [Lib.itoa a.bd.length]) := fun h h2 => by
      have h5 : (lengthL a.hd).2 = true := frame_2 (h ▸ h2)
      rw [← e]; exact ⟨fun x => ⟨h5, x⟩, fun x => x.2⟩
    refine ⟨H, fun h => ⟨fun _ => (caC h0 (by omega) (by omega) h3' (.inl (.inl h))).symm, fun h' => absurd h' h⟩, fun h => ⟨fun h' => (caC h0 (by omega) (by omega) h3' (.inl (.inr ⟨h'.1, by omega⟩))).symm, fun h' => ⟨H, fun h4 => (caC h0 (by omega) (by omega) h3' (.inr ⟨h4.1, fun x => h4.2 ((hlen h h4.1).2 x)⟩)).symm, fun h4 => (caO h0 (by omega) (by omega) h3' ?_).symm⟩⟩⟩
    rintro ((x | ⟨x, y⟩) | ⟨x, y⟩)
    · exact x h
    · exact h' x (by omega)
    · exact y ((hlen h x).1 (h4 x))
  · cases h
attribute [push_cast] ckCheckAns
def ansP (a : Ans) : List UInt8 := [87, 69, 66, 47, 49, 32] ++ Lib.itoa a.st ++ [32] ++ a.re ++ [13, 10]
def ansBody (a : Ans) (fr ch : Int) : List UInt8 := if fr = 3 then chunksL ch.toNat a.bd else a.bd
def ansB (a : Ans) (fr ch : Int) : List UInt8 := ansP a ++ headsB a.hd ++ [13, 10] ++ ansBody a fr ch
def ansR (a : Ans) (fr ch : Int) : List UInt8 := if checkAnsL a fr ch = 0 then ansB a fr ch else []
theorem ap3 {N : Nat} {P H b R : List UInt8} (hP : P.length = N) (hR : R = P ++ H ++ [13, 10] ++ b) : ByI (N + H.length + 2 + b.length) (appF (N + H.length + 2) (byF (P ++ H ++ [13, 10])) (byF b)) R := by
  have h := ByI.app (ByI.by (P ++ H ++ [13, 10])) (ByI.by b) rfl
  have hl : (P ++ H ++ [13, 10]).length = N + H.length + 2 := by simp [hP]; omega
  rw [hl] at h
  exact h.eq hR.symm
theorem ans_ok {a : Ans} {fr ch : Int} (h : checkAnsL a fr ch = 0) : (Lib.itoa a.st).length ≤ 6 ∧ 100 ≤ a.st ∧ a.st ≤ 599 ∧ a.re.length ≤ 1000 ∧ a.hd.length ≤ 100 ∧ (headsB a.hd).length ≤ 104400 ∧ a.bd.length ≤ 200000 ∧ (fr = 3 → 1 ≤ ch ∧ ch ≤ 65536) := by
  unfold checkAnsL at h
  split at h
  · rename_i h0
    split at h
    · omega
    · split at h
      · omega
      · split at h
        · omega
        · rename_i h1 h2 h3
          obtain ⟨t1, t2, t3, t4, _⟩ := top_heads h0
          refine ⟨?_, t3, t4, t2, heads_100 t1, heads_le t1, by omega, fun e => by omega⟩
          have := itoa_len (n := a.st.toNat) (by omega)
          rwa [show ((a.st.toNat : Nat) : Int) = a.st by omega] at this
  · omega
theorem body_le {a : Ans} {fr ch : Int} (h : checkAnsL a fr ch = 0) : (ansBody a fr ch).length ≤ 2200005 := by
  obtain ⟨_, _, _, _, _, _, h7, h8⟩ := ans_ok h
  unfold ansBody
  split
  · rename_i e
    have := chunksL_len (k := ch.toNat) (by have := h8 e; omega) (by have := h8 e; omega) a.bd.length a.bd (Nat.le_refl _)
    omega
  · omega
def ckAnsB : Ck
  | [x, .int .i64 fr, .int .i64 ch] => some (isC cAns x ∧ ansOk (cAns.dec x), .tup [.sl (ansR (cAns.dec x) fr ch).length (byF (ansR (cAns.dec x) fr ch)), .int .i64 (checkAnsL (cAns.dec x) fr ch)])
  | _ => none
theorem conAnsB : Con pg 4 ckAnsB := by
  have hct := (ctA_ok conCheckAns (ctA_ok conItoa (ctA_ok conChunks0 (ctF_ok conWriteHeads (ctN_ok _)))))
  intro args q r h hq
  unfold ckAnsB at h
  split at h
  · cases h
    rename_i x fr ch
    refine pcall_args (args' := [cAns.enc (cAns.dec x), .int .i64 fr, .int .i64 ch]) ⟨hq.1, VLe.refl _, VLe.refl _, trivial⟩ ?_
    obtain ⟨-, ha⟩ := hq
    generalize cAns.dec x = a at ha ⊢
    refine w4 (fun _ => false) [.frz 26] rfl hct rfl rfl ?_
    push_cast (config := { maxSteps := 10000000 })
    refine ⟨ha, fun h => by unfold ansR; rw [if_neg h]; rfl, fun h => ?_⟩
    obtain ⟨b1, b2, b3, b4, b5, b6, b7, b8⟩ := ans_ok h
    have hb := body_le h
    have hr : ansR a fr ch = ansB a fr ch := by unfold ansR; rw [if_pos h]
    have hp := ByI.by (87 :: 69 :: 66 :: 47 :: 49 :: 32 :: (Lib.itoa a.st ++ [32] ++ a.re ++ [13, 10]))
    have hpl : (87 :: 69 :: 66 :: 47 :: 49 :: 32 :: (Lib.itoa a.st ++ [32] ++ a.re ++ [13, 10]) : List UInt8).length = (Lib.itoa a.st).length + 1 + a.re.length + 2 + 1 + 1 + 1 + 1 + 1 + 1 := by simp; omega
    rw [hpl] at hp
    rw [hp.bytes]
    unfold ansB ansBody at hr
    unfold ansBody at hb
    refine ⟨⟨by omega, by omega⟩, by omega, by omega, by omega, by omega, ⟨hp.is, by omega, by omega, by omega⟩, fun h3 => ?_, fun h3 => ?_⟩
    · rw [if_pos h3] at hr hb
      have ap := ap3 (H := headsB a.hd) (b := chunksL ch.toNat a.bd) (R := ansR a fr ch) hpl (by rw [hr]; simp [ansP])
      exact ⟨⟨by omega, b8 h3⟩, ⟨by omega, by omega⟩, ap.pure, ⟨ap.1, ap.2⟩, h.symm⟩
    · rw [if_neg h3] at hr hb
      have ap := ap3 (H := headsB a.hd) (b := a.bd) (R := ansR a fr ch) hpl (by rw [hr]; simp [ansP])
      exact ⟨⟨by omega, by omega⟩, ap.pure, ⟨ap.1, ap.2⟩, h.symm⟩
  · cases h
attribute [push_cast] ckAnsB
theorem dig_plain (c : UInt8) : isDg c = true → c ≠ 13 ∧ c ≠ 10 ∧ c ≠ 32 := by
  refine u8_all (P := fun c => isDg c = true → c ≠ 13 ∧ c ≠ 10 ∧ c ≠ 32) ?_ c
  decide +kernel
theorem idx_sp : ∀ (n v : List UInt8), (∀ x ∈ n, x ≠ 32) → Lib.index (n ++ 32 :: v) [32] = n.length
  | [], v, _ => by
    show Lib.index (32 :: v) [32] = 0
    rw [Lib.index, if_pos (by simp [List.isPrefixOf])]
  | x :: t, v, h => by
    have ih := idx_sp t v fun y hy => h y (by simp [hy])
    have hx := h x (by simp)
    show Lib.index (x :: (t ++ 32 :: v)) [32] = _
    have hp : ([32] : List UInt8).isPrefixOf (x :: (t ++ 32 :: v)) = false := by simp [List.isPrefixOf, Ne.symm hx]
    rw [Lib.index, hp, ih]
    have h2 : ((t.length : Int) == -1) = false := by rw [beq_eq_false_iff_ne]; omega
    rw [h2]
    simp
theorem cut_sp {n v : List UInt8} (h : ∀ x ∈ n, x ≠ 32) : Lib.cut (n ++ 32 :: v) [32] = (n, v, true) := by
  unfold Lib.cut
  rw [idx_sp _ _ h, if_pos (by omega)]
  simp
theorem pre_app (p s : List UInt8) : Lib.hasPrefix (p ++ s) p = true ∧ Lib.trimPrefix (p ++ s) p = s := by
  have h : Lib.hasPrefix (p ++ s) p = true := by
    unfold Lib.hasPrefix
    exact List.isPrefixOf_iff_prefix.2 ⟨s, rfl⟩
  refine ⟨h, ?_⟩
  unfold Lib.trimPrefix
  rw [if_pos h, List.drop_left]
theorem st_dig {n : Int} (h0 : 100 ≤ n) (h1 : n ≤ 599) : digL (Lib.itoa n) 9 = true ∧ (natOf (Lib.itoa n) : Int) = n ∧ ∀ x ∈ Lib.itoa n, x ≠ 13 ∧ x ≠ 10 ∧ x ≠ 32 := by
  obtain ⟨k, rfl⟩ : ∃ k : Nat, n = k := ⟨n.toNat, by omega⟩
  rw [itoa_nat]
  have hd := dec_dig k
  have hl := dec_len 2 k (by omega)
  refine ⟨?_, by rw [hd.2.1], fun x hx => dig_plain x (List.all_eq_true.1 hd.1 x hx)⟩
  simp only [digL, Bool.and_eq_true, Bool.or_eq_true, decide_eq_true_eq, beq_iff_eq]
  exact ⟨⟨⟨hd.2.2.1, by omega⟩, hd.1⟩, .inl (hd.2.2.2.2 (by omega))⟩
theorem top_back {a : Ans} {r : List UInt8} (h : checkTopL a.st a.re a.hd = 0) : tpV (ansP a ++ headsB a.hd ++ [13, 10] ++ r) = (⟨a.st, a.re, a.hd, []⟩, (ansP a ++ headsB a.hd ++ [13, 10]).length, true) := by
  obtain ⟨t1, t2, t3, t4, t5⟩ := top_heads h
  obtain ⟨d1, d2, d3⟩ := st_dig t3 t4
  simp only [valueL, Bool.and_eq_true, decide_eq_true_eq] at t5
  have eP : ansP a = (wWebS ++ (Lib.itoa a.st ++ 32 :: a.re)) ++ [13, 10] := by simp [ansP, wWebS]
  have hb : bareL (wWebS ++ (Lib.itoa a.st ++ 32 :: a.re)) = true := by
    rw [bare_app, bare_app, show 32 :: a.re = [32] ++ a.re from rfl, bare_app]
    have b1 : bareL (Lib.itoa a.st) = true := by
      unfold bareL; rw [List.all_eq_true]
      intro x hx
      simp [(d3 x hx).1, (d3 x hx).2.1]
    have b2 : bareL a.re = true := all_imp t5.2 fun c hc => by have := val_plain c hc; simp [this.1, this.2]
    rw [b1, b2]; rfl
  obtain ⟨p1, p2⟩ := pre_app wWebS (Lib.itoa a.st ++ 32 :: a.re)
  have hc := cut_sp (v := a.re) fun x hx => (d3 x hx).2.2
  rw [eP]
  generalize wWebS ++ (Lib.itoa a.st ++ 32 :: a.re) = L at *
  have e : L ++ [13, 10] ++ headsB a.hd ++ [13, 10] ++ r = [] ++ (L ++ [13, 10] ++ (headsB a.hd ++ [13, 10] ++ r)) := by simp
  have hln := ln_app (p := []) (r := headsB a.hd ++ [13, 10] ++ r) hb
  rw [← e] at hln
  simp only [List.length_nil, List.nil_append] at hln
  have hr := rh_app a.hd (L ++ [13, 10]) [] ((L ++ [13, 10] ++ headsB a.hd ++ [13, 10] ++ r).length + 1) r (by have := headsB_ge a.hd; simp only [List.length_append]; omega) (heads_mem t1)
  have e2 : L ++ [13, 10] ++ headsB a.hd ++ [13, 10] ++ r = (L ++ [13, 10]) ++ (headsB a.hd ++ [13, 10] ++ r) := by simp
  rw [← e2] at hr
  generalize hB : L ++ [13, 10] ++ headsB a.hd ++ [13, 10] ++ r = B at *
  have hC : tpC B = (Lib.itoa a.st, a.re, true) := by unfold tpC; rw [hln.2.1, p2, hc]
  have hk : tpOk B = true := by unfold tpOk; rw [hC, hln.1, hln.2.1, p1]; simp only [d1]; rfl
  have hH : rqH B = (a.hd, (L ++ [13, 10] ++ headsB a.hd ++ [13, 10]).length, true) := by
    unfold rqH; rw [hln.2.2, hr]; simp
  unfold tpV
  rw [if_pos hk, hC, hH]
  simp only [d2]
theorem ans_frame {a : Ans} {fr ch : Int} (h : checkAnsL a fr ch = 0) : checkTopL a.st a.re a.hd = 0 ∧ a.bd.length ≤ 200000 ∧ 1 ≤ fr ∧ fr ≤ 4 ∧ fr = frameL a.st a.hd ∧ (fr = 1 → a.bd = []) ∧ (fr = 2 → valuesL a.hd wLen = [Lib.itoa a.bd.length]) ∧ (fr = 3 → 1 ≤ ch ∧ ch ≤ 65536) := by
  unfold checkAnsL at h
  split at h
  · rename_i h0
    split at h
    · omega
    split at h
    · omega
    split at h
    · omega
    split at h
    · omega
    · rename_i h1 h2 h3 h4
      rw [not_or, not_or] at h4
      obtain ⟨⟨h5, h6⟩, h7⟩ := h4
      refine ⟨h0, by omega, by omega, by omega, Classical.not_not.1 h5, fun e => ?_, fun e => ?_, fun e => by omega⟩
      · have : a.bd.length = 0 := Classical.not_not.1 fun x => h6 ⟨e, x⟩
        exact List.length_eq_zero_iff.1 this
      · exact Classical.not_not.1 fun x => h7 ⟨e, x⟩
  · rename_i h0; exact absurd h h0
theorem ans_back {a : Ans} {fr ch : Int} (h : checkAnsL a fr ch = 0) (hl : (ansB a fr ch).length ≤ 400000) : raL (ansB a fr ch) = (a, fr, 0, 0) := by
  obtain ⟨h0, hb, f1, f4, hf, k1, k2, k3⟩ := ans_frame h
  have ht := top_back (r := ansBody a fr ch) h0
  unfold raL
  rw [if_neg (by omega)]
  have hd : (ansB a fr ch).drop (ansP a ++ headsB a.hd ++ [13, 10]).length = ansBody a fr ch := by unfold ansB; exact List.drop_left
  change tpV (ansB a fr ch) = _ at ht
  generalize (ansP a ++ headsB a.hd ++ [13, 10]).length = p at *
  generalize ansB a fr ch = B at *
  rw [ht]
  simp only
  rw [if_neg (by simp), if_pos h0]
  unfold raB
  simp only
  rw [hd, ← hf, if_neg (by omega)]
  unfold ansBody
  by_cases e1 : fr = 1
  · have e3 : ¬ fr = 3 := by omega
    have e0 := k1 e1
    rw [if_pos e1, if_neg e3, e0, if_neg (by simp), e1, ← e0]
  rw [if_neg e1]
  by_cases e3 : fr = 3
  · rw [if_pos e3, if_pos e3]
    have hc := readC_all (k := ch.toNat) (by have := k3 e3; omega) (by have := k3 e3; omega) hb
    rw [hc]
    simp only
    rw [if_neg (by omega), if_neg (by omega), if_neg (by simp), e3]
  rw [if_neg e3, if_neg e3]
  by_cases e4 : fr = 4
  · rw [if_pos e4, if_neg (by omega), e4]
  rw [if_neg e4]
  have e2 : fr = 2 := by omega
  have hv := (lenV_eq (n := a.bd.length) (by omega)).2 (k2 e2)
  change (lengthL a.hd).2 = true ∧ (lengthL a.hd).1 = _ at hv
  rw [hv.2, if_neg (by omega), if_neg (by omega), if_neg (by omega), e2]
theorem medT_len (l : List Hd) : (medT l).2.1.length ≤ 100000 := by
  unfold medT
  split
  · rename_i hc
    split
    · rename_i h
      split
      · have hg : headsGo l = 0 := by
          unfold checkHeadsL at hc
          split at hc
          · cases hc
          · exact hc
        have hm : (valuesL l [116, 121, 112, 101]).getD 0 [] ∈ valuesL l [116, 121, 112, 101] := by
          rw [List.getD_eq_getElem?_getD, List.getElem?_eq_getElem h]; exact List.getElem_mem h
        unfold valuesL at hm
        obtain ⟨x, hx, he⟩ := List.mem_map.1 hm
        have h1 := value_1000 (headsGo_mem hg x (List.mem_filter.1 hx).1).2
        have e : (valuesL l [116, 121, 112, 101]).getD 0 [] = x.value := he.symm
        rw [e, splitL_eq]
        show (lowL _).length ≤ _
        unfold lowL
        rw [List.length_map]
        refine Nat.le_trans (trimS_sz' _ _) ?_
        by_cases hi : 0 < (spl 59 x.value).length
        · rw [List.getD_eq_getElem?_getD, List.getElem?_eq_getElem hi]
          exact Nat.le_trans (spl_len 59 x.value _ (List.getElem_mem hi)) (by omega)
        · rw [List.getD_eq_getElem?_getD, List.getElem?_eq_none (by omega)]; exact Nat.zero_le _
      · exact Nat.zero_le _
    · exact Nat.zero_le _
  · exact Nat.zero_le _
theorem dgC_hex (c : UInt8) (h : dgC c = true) : hexS.contains c = true := by
  have key : ∀ n, n < 256 → dgC (UInt8.ofNat n) = true → hexS.contains (UInt8.ofNat n) = true := by decide +kernel
  have := key c.toNat (UInt8.toNat_lt c)
  simpa using this (by simpa using h)
theorem dw_nil {p : UInt8 → Bool} : ∀ {l : List UInt8}, (∀ x ∈ l, p x = true) → l.dropWhile p = []
  | [], _ => rfl
  | x :: l, h => by
    rw [List.dropWhile_cons, if_pos (h x List.mem_cons_self)]
    exact dw_nil fun y hy => h y (List.mem_cons_of_mem _ hy)
theorem dg_trim (s : List UInt8) : (digestL s).length = 16 ∧ Lib.trimS (digestL s) hexS = [] := by
  have h := digest_dg s
  unfold dgB at h
  simp only [Bool.and_eq_true, decide_eq_true_eq, List.all_eq_true] at h
  refine ⟨h.1, ?_⟩
  have e : Lib.trimRightS (digestL s) hexS = [] := by
    unfold Lib.trimRightS
    rw [dw_nil fun x hx => dgC_hex x (h.2 x (List.mem_reverse.1 hx))]; rfl
  unfold Lib.trimS
  rw [e]; rfl
theorem one_file {r : Rcd} (hc : checkFileL [r] = 0) (ok : recOk r) (h3 : r.ki = 3) (hp : fstH r.hd wPieces < 0) : rOne (fileB [r]) = r ∧ oneB (fileB [r]) := by
  have hb := file_back hc
  have e : rOne (fileB [r]) = r := by unfold rOne; rw [hb]; rfl
  refine ⟨e, ?_, ?_, (file_ok hc).2.1⟩
  · rw [e, hb]
    simp [marksL, fileB]
  · rw [e]; exact ⟨ok, hc, h3, hp⟩
theorem told_at {a : Ans} {b : List UInt8} {fr : Int} (h : raL b = (a, fr, 0, 0)) : iTold b = (a.st, if (medT a.hd).1 = true ∧ isWordL (medT a.hd).2.1 40 = true then (medT a.hd).2.1 else []) := by
  unfold iTold
  rw [h, if_pos rfl]
  dsimp only
  split <;> rfl
theorem ent_ok {nm B : List UInt8} {a : Ans} {fr : Int} (hc : checkRecL (rOne B) = 0) (hn : nameL nm = true) (hB : B.length ≤ 500000) (h : raL (rOne B).bd = (a, fr, 0, 0)) (hst : 100 ≤ a.st ∧ a.st ≤ 599) : indOk (entOf nm B) ∧ indE (entOf nm B) = 0 := by
  obtain ⟨-, -, -, -, t0, t1, hk, -, -, -⟩ := rec_ok hc
  obtain ⟨d1, d2⟩ := dg_trim (rOne B).bd
  have hm := medT_len a.hd
  have hz := rec_sz hc
  have hnl := name_len hn
  unfold entOf
  rw [told_at h]
  dsimp only
  refine ⟨⟨?_, ?_, ?_, ?_⟩, ?_⟩
  · show (rOne B).ke.length ≤ _; omega
  · show (if _ then _ else _ : List UInt8).length ≤ _
    split
    · omega
    · exact Nat.zero_le _
  · show (digestL (rOne B).bd).length ≤ _; omega
  · show nm.length ≤ _; omega
  · unfold indE
    dsimp only
    rw [if_neg (by rw [hk]; decide), if_neg (by omega), if_neg, if_neg (by rw [d1, d2]; simp), if_neg (by rw [hn]; decide), if_neg (by omega)]
    rintro ⟨h1, h2⟩
    split at h1
    · rename_i g
      rw [if_pos g, g.2] at h2
      cases h2
    · exact h1 rfl
theorem iiC : IiK pg.prog 45 := by
  exact iiK_of (e := 3) (n := pg.prog.types.size - 1) (fs := match pg.prog.underlying 45 with
    | some (.struct x) => x
    | _ => #[]) (deep_law (m := 3) (by decide) (by kernel_rfl) (by kernel_rfl) (by kernel_rfl)) (by kernel_rfl) (by kernel_rfl) (by kernel_rfl) (by kernel_rfl) (by kernel_rfl) (by kernel_rfl) (by kernel_rfl) (by kernel_rfl)
def ckAClK : List V → List Blk → Option (Prop × V × List Blk)
  | [.agg [.int .i64 ki, .str id, .str ow, .int .i64 ti, .str ke, x, y], .ptr i 0], [.cells [.str s]] => some (True, .bool (id == s), [.cells [.str s]])
  | _, _ => none
def ckACl : Cf := ⟨fun | [_, .ptr i _] => [i] | _ => [], ckAClK⟩
theorem conACl : FCon pg 128 ckACl := by
  have hct := ctN_ok pg
  intro args bs q r bs' h hq
  replace h : ckAClK args bs = some (q, r, bs') := h
  unfold ckAClK at h
  split at h
  · cases h
    rename_i ki id ow ti ke x y i s
    refine ⟨rfl, by first | exact Nat.le_refl _ | exact Nat.zero_le _, ?_⟩
    show FCall pg 128 [.agg [.int .i64 ki, .str id, .str ow, .int .i64 ti, .str ke, x.shift, y.shift], .ptr (i + 9000) 0] [(i + 9000, .cells [.str s])] (.bool (id == s)) [(i + 9000, .cells [.str s])]
    refine fw128 (fun _ => false) [] rfl hct rfl (by simp) (by simp [hlIn, idsIn, Blk.menIn, V.menInL, V.menIn, V.flat, byF, lsF]) (by simp [V.menIn, V.menInL, idsIn]) ?_
    push_cast (config := { maxSteps := 10000000 })
  · cases h
attribute [push_cast] ckAClK
@[push_cast] theorem acl_ids (x : V) (i o : Nat) : ckACl.ids [x, .ptr i o] = [i] := rfl
@[push_cast] theorem acl_k {id ow ke s : List UInt8} {ki ti : Int} {x y : V} (i : Nat) : ckACl.k [.agg [.int .i64 ki, .str id, .str ow, .int .i64 ti, .str ke, x, y], .ptr i 0] [.cells [.str s]] = some (True, .bool (id == s), [.cells [.str s]]) := rfl
def ckIxAK : List V → List Blk → Option (Prop × V × List Blk)
  | [.sl 1 f, .fn (.func 128) [] [.ptr i 0]], [.cells [.str s]] => some (isLs cRec 1 f ∧ s = (cRec.dec (f 0)).id, .int .i64 0, [.cells [.str s]])
  | _, _ => none
def ckIxA : Cf := ⟨fun | [_, .fn _ _ [.ptr i _]] => [i] | _ => [], ckIxAK⟩
theorem conIxA : FCon pg 95 ckIxA := by
  have hct := (ctF_ok conACl (ctN_ok _))
  intro args bs q r bs' h hq
  replace h : ckIxAK args bs = some (q, r, bs') := h
  unfold ckIxAK at h
  split at h
  · cases h
    rename_i f i s
    refine ⟨rfl, by first | exact Nat.le_refl _ | exact Nat.zero_le _, ?_⟩
    obtain ⟨hf, rfl⟩ := hq
    refine fcall_args (args' := [.sl (lsOf cRec 1 f).length (lsF cRec (lsOf cRec 1 f)), .fn (.func 128) [] [.ptr (i + 9000) 0]]) ⟨isLs.vle hf, VLe.refl _, trivial⟩ ?_
    have hl : lsOf cRec 1 f = [cRec.dec (f 0)] := rfl
    rw [hl]
    generalize cRec.dec (f 0) = r
    show FCall pg 95 [.sl 1 (lsF cRec [r]), .fn (.func 128) [] [.ptr (i + 9000) 0]] [(i + 9000, .cells [.str r.id])] (.int .i64 0) [(i + 9000, .cells [.str r.id])]
    refine fw95 (fun _ => false) [] rfl hct rfl (by simp) (by simp [hlIn, idsIn, Blk.menIn, V.menInL, V.menIn, V.flat, byF, lsF]) (by simp [V.menIn, V.menInL, idsIn]) ?_
    push_cast (config := { maxSteps := 10000000 })
    refine LoopW.adj ⟨hct, fol⟩ (by kernel_rfl) [] (fun k : Nat => [(0, .sl 1 (lsF cRec [r])), (1, .fn (.func 128) [] [.ptr (i + 9000) 0]), (7, .int .i64 1), (8, .int .i64 k)]) (fun _ => [(i + 9000, .cells [.str r.id])]) (fun k => k = 0) (fun k => 1 - k) 0 ?_ fun k hk => ?_
    · push_cast (config := { maxSteps := 10000000 })
      done
    · subst hk
      push_cast (config := { maxSteps := 10000000 })
      done
  · cases h
attribute [push_cast] ckIxAK
@[push_cast] theorem ixA_ids (x : V) (f : Fn) (i o : Nat) : ckIxA.ids [x, .fn f [] [.ptr i o]] = [i] := rfl
@[push_cast] theorem ixA_k {f : Nat → V} {s : List UInt8} (i : Nat) : ckIxA.k [.sl 1 f, .fn (.func 128) [] [.ptr i 0]] [.cells [.str s]] = some (isLs cRec 1 f ∧ s = (cRec.dec (f 0)).id, .int .i64 0, [.cells [.str s]]) := rfl
def ckAt : Ck
  | [.agg [.sl 1 f, .fmp .ii dom g], .agg [.int .i64 a, .int .i64 b]] => some (isLs cRec 1 f ∧ a = 0 ∧ (0 ≤ b ∧ b ≤ 500000) ∧ dom = (fun l => (idsM (cRec.dec (f 0)).id b l).isSome) ∧ g = (fun l => (idsM (cRec.dec (f 0)).id b l).getD .any), .tup [cRec.enc (cRec.dec (f 0)), .bool true])
  | _ => none
theorem conAt : Con pg 70 ckAt := by
  have hct := (ctF_ok conIxA (ctN_ok _))
  intro args q r h hq
  unfold ckAt at h
  split at h
  · cases h
    rename_i f dom g a b
    obtain ⟨hf, rfl, hb, rfl, rfl⟩ := hq
    refine pcall_args (args' := [.agg [.sl (lsOf cRec 1 f).length (lsF cRec (lsOf cRec 1 f)), .fmp .ii (fun l => (idsM (cRec.dec (f 0)).id b l).isSome) (fun l => (idsM (cRec.dec (f 0)).id b l).getD .any)], .agg [.int .i64 0, .int .i64 b]]) ⟨VLe.agg ⟨isLs.vle hf, VLe.refl _, trivial⟩, VLe.refl _, trivial⟩ ?_
    have hl : lsOf cRec 1 f = [cRec.dec (f 0)] := rfl
    rw [hl]
    generalize cRec.dec (f 0) = r
    have hii := iiC
    refine w70 (fun _ => false) [] rfl hct rfl rfl ?_
    push_cast (config := { maxSteps := 10000000 })
    exact ⟨⟨hii, by omega, by omega⟩, isLs_ls [r]⟩
  · cases h
attribute [push_cast] ckAt
end Go.Abs
